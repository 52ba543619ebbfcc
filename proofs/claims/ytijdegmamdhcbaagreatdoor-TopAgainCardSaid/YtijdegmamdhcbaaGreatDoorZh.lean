/-
  The second engine: a contract over memory that is told anew. It holds of every program.
-/
import Derived.Test.YtijdegmamdhcbaaGreatDoorGh
import Derived.Test.YtijdegmamdhcbaaGreatDoorZg
namespace Go.Dm
open Go Go.Eng Go.RowKit

def kept (src:List Src):Nat→Heap→Bool
 | _,[]=>true
 | i,o :: h=>(!o.live || (match kp src 0 i with | some _=>true | none=>false)) && kept src (i+1) h
def sameTo (src:List Src):Nat→Nat→Bool
 | _,0=>true
 | i,b+1=>(match src[i]? with | some (.old j)=>Nat.beq j i | _=>false) && sameTo src (i+1) b
theorem kept_at {src:List Src}:∀ {h:Heap} {p:Nat},kept src p h=true→∀ (i:Nat) (o:Obj),h[i]?=some o→o.live=true→∃ q,kp src 0 (p+i)=some q
 | [],p,_,i,o,hi,_=>by simp at hi
 | a :: h,p,hk,i,o,hi,hl=>by
  simp only[kept,Bool.and_eq_true,Bool.or_eq_true,Bool.not_eq_true'] at hk
  cases i with
  | zero =>
   simp at hi
   subst hi
   rcases hk.1 with h1 | h1
   ·rw[hl] at h1;cases h1
   ·cases hq:kp src 0 p with
    | none=>rw[hq] at h1;cases h1
    | some q=>exact ⟨q,rfl⟩
  | succ i =>
   obtain ⟨q,hq⟩:=kept_at hk.2 i o (by simpa using hi) hl
   exact ⟨q,by rw[show p+(i+1)=p+1+i from by omega];exact hq⟩
theorem sameTo_at {src:List Src}:∀ {b p:Nat},sameTo src p b=true→∀ i,i < b→src[p+i]?=some (.old (p+i))
 | 0,p,_,i,hi=>absurd hi (Nat.not_lt_zero i)
 | b+1,p,hs,i,hi=>by
  simp only[sameTo,Bool.and_eq_true] at hs
  cases i with
  | zero =>
   have h1:=hs.1
   cases hp:src[p]? with
   | none=>rw[hp] at h1;cases h1
   | some s =>
    rw[hp] at h1
    cases s with
    | old j=>exact (by rw[Nat.eq_of_beq_eq_true h1]:some (Src.old j)=some (Src.old p))
    | nil e sz=>cases h1
    | many0=>cases h1
  | succ i =>
   have:=sameTo_at hs.2 i (by omega)
   rwa [show p+1+i=p+(i+1) from by omega] at this

theorem RelD.wider {w0:World} {own own' V0:Nat→Prop} {G:Gl} {h:Heap} {β:Nat→Value} {V:Nat→Prop} {w:World} (hr:RelD ⟨w0,own,V0,G⟩ h β V w) (ho:∀ k,own k→own' k):RelD ⟨w0,own',V0,G⟩ h β V w :=
 ⟨hr.obj,hr.sep,fun i o k h1 h2 h3=>(hr.mine i o k h1 h2 h3).imp id (ho k),hr.vout,hr.vlt,hr.vin,fun k hk=>(hr.vnew k hk).imp id (fun h=>h.imp id (ho k)),
  ⟨hr.fr.os,hr.fr.tape,hr.fr.output,hr.fr.size,fun k hk hn=>hr.fr.block k hk (fun hw=>hn (ho k hw))⟩,hr.gl⟩

theorem cth_turn {P:Program} {G:Gl} {g:FuncId} {b:Nat} {hin hin':Heap} {as1 as2:List D} {Q:Out→Prop} (src:List Src) (ht:TurnTo hin' src as2 hin as1) (hk:kept src 0 hin'=true) (hb:sameTo src 0 b=true) (h:CTH P G g b hin as1 Q):CTH P G g b hin' as2 Q:=by
 intro w β V vals hrel hargs
 obtain ⟨h1,h2⟩:=ht.use hrel hargs
 have hV:turnV hin' src β V=V:=by
  funext k
  apply propext
  constructor
  ·rintro (hv | ⟨i,o,hn,hi,hl,_⟩)
   ·exact hv
   ·obtain ⟨q,hq⟩:=kept_at hk i o hi hl
    rw[Nat.zero_add,hn] at hq
    cases hq
  ·exact .inl
 rw[hV] at h1 h2
 have hlike:likeH (newN src) (turnH hin' src) hin:=by
  rcases ht.hp with e | e
  ·rw[← e];exact likeH_refl _ _
  ·exact e
 have hown:∀ k,ownB hin (turnβ src β) k→ownB hin' β k:=by
  rintro k ⟨i,o,hi,hl,hbk⟩
  obtain ⟨o0,ho0,hlo⟩:=(likeH_at hlike).2 i o hi
  have hl0:=likeO_live hlo hl
  have hb0:=likeO_Bk hlo hl hbk
  unfold turnH at ho0
  rw[List.getElem?_map] at ho0
  cases hs:src[i]? with
  | none=>rw[hs] at ho0;cases ho0
  | some s =>
   rw[hs] at ho0
   simp only[Option.map_some,Option.some.injEq] at ho0
   subst ho0
   cases s with
   | nil e sz=>simp[turnO,Bk,turnβ,hs,bk] at hb0
   | many0=>simp[turnO,Bk] at hb0
   | old j =>
    have hβ:turnβ src β i=β j:=by simp[turnβ,hs]
    rw[hβ] at hb0
    cases hj:hin'[j]? with
    | none=>simp[turnO,hj,Obj.live] at hl0
    | some oj =>
     cases oj with
     | dead=>simp[turnO,hj,Obj.live] at hl0
     | blk cs t=>exact ⟨j,_,hj,rfl,by simpa only[turnO,hj,Bk] using hb0⟩
     | row xs e sz=>exact ⟨j,_,hj,rfl,by simpa only[turnO,hj,Bk] using hb0⟩
     | many l ts=>exact ⟨j,_,hj,rfl,by simpa only[turnO,hj,Bk] using hb0⟩
 have stays:∀ {h':Heap} {β':Nat→Value},(∀ i,i < b→Stays hin h' (turnβ src β) β' i)→∀ i,i < b→Stays hin' h' β β' i:=fun {h' β'} hs i hi=>by
  obtain ⟨⟨o,o',a1,a2,a3,a4⟩,a5⟩:=hs i hi
  have hsi:=sameTo_at hb i hi
  rw[Nat.zero_add] at hsi
  obtain ⟨o0,ho0,hlo⟩:=(likeH_at hlike).2 i o a1
  have hl0:=likeO_live hlo (OLe_live a3 a4)
  unfold turnH at ho0
  rw[List.getElem?_map,hsi] at ho0
  simp only[Option.map_some,Option.some.injEq] at ho0
  subst ho0
  cases hj:hin'[i]? with
  | none=>simp[turnO,hj,Obj.live] at hl0
  | some oj =>
   exact ⟨⟨oj,o',hj,a2,OLe_trans (OLe_turn (src:=src) hj) (OLe_trans (likeO_le hlo) a3 a4) a4,a4⟩,a5.trans (by simp[turnβ,hsi])⟩
 refine (h w (turnβ src β) V vals (own_start h1) h2).mono fun e w' he=>?_
 cases e with
 | returned v =>
  obtain ⟨d,h',β',V',q1,q2,q3,q4⟩:=he
  exact ⟨d,h',β',V',q1,q2.wider hown,q3,stays q4⟩
 | panicked ch =>
  obtain ⟨d,h',t,u,β',V',q0,q1,q2,q3,q4⟩:=he
  exact ⟨d,h',t,u,β',V',q0,q1,q2.wider hown,q3,stays q4⟩
 | outgrown=>exact he.elim
end Go.Dm
/-
  mach: the way back from a frame.
-/
namespace Barb
open Go Go.Dm Go.Eng
theorem Nt.g_fin (n:Nt) (v:Int):setL (setL n.g (0+5) [.bool true]) (0+6) [.int v]=(n.fin v).g:=rfl
theorem note_g {o:MO} {k:Nat} (hk:k < o.calls.length) (v:Int):((o.calls.map Nt.g).set k (setL o.calls[k].g (0+5) [.bool true])).set k (setL (setL o.calls[k].g (0+5) [.bool true]) (0+6) [.int v])=(noteS o (k:Int) v).calls.map Nt.g:=by
 rw[List.set_set,Nt.g_fin]
 unfold noteS
 rw[if_pos (by omega)]
 simp only[Int.toNat_natCast]
 rw[modify_at hk,List.map_set]
theorem noteS_no {o:MO} {k:Int} (hk:¬0≤k) (v:Int):noteS o k v=o:=by unfold noteS;rw[if_neg hk]
end Barb
namespace Go.Proofs.YtijdegmamdhcbaaGreatDoor
open Go Go.Dm Go.Eng Go.RowKit Barb
theorem callPushF {all:List D} {h:Heap} {K Qp:KD} {m:Image} {e val:Int} {o:MO} {pre:List Fr} {t:Fr} {N:Ns} {n:Int} (ht:t.ok) (hp:pre.length < 1000)
  (hh:h=MHf m e val o (pre++[t]) N []) (ha:all=[.ptr 0 0,.g (.int n)])
  (hno:t.f.ws.length=40→K (.g (.bool false)) (MHf m e val o (pre++[t]) N []))
  (hyes:∀ v',¬t.f.ws.length=40→K (.g (.bool true)) (MHf m e val o (pre++[t.ww (t.f.ws++[n]) v']) N [])) :
  fnOk Tryz.prog 68=true∧(OwnCall Tryz.prog gl 68 all h K Qp∨SemCall Tryz.prog gl 68 all h K Qp):=by
 subst hh;subst ha
 refine callO [0,1,2,3,4,6] push_fn rfl rfl ⟨rfl,.inl rfl,.inl rfl,rfl⟩ (push_any m e val o pre t N n ht hp) (fun d' h' hq=>?_) (fun d' h' hq=>?_)
 ·unfold pushQ at hq
  split at hq
  ·injection hq with e1 e2;subst e1;subst e2;exact hno (by assumption)
  ·obtain ⟨v',hq⟩:=hq
   injection hq with e1 e2;subst e1;subst e2;exact hyes v' (by assumption)
 ·unfold pushQ at hq
  split at hq
  ·cases hq
  ·obtain ⟨v',hq⟩:=hq;cases hq

set_option maxRecDepth 20000 in
set_option maxHeartbeats 1000000 in
theorem ret_nil (m:Image) (o:MO) (t:Fr) (N:Ns) (ht:t.ok)  (hn:t.f.noted < o.calls.length) :
  CTH Tryz.prog gl 70 1 (MH m 0 0 o (([]:List Fr)++[t]) N) [.ptr 0 0] (RQ m (Barb.retS o (([]:List Fr).map Fr.f) t.f)):=by
 have hw:=ht.2
 suffices H:∀ r:R,Barb.retS o (([]:List Fr).map Fr.f) t.f=r→CTH Tryz.prog gl 70 1 (MH m 0 0 o (([]:List Fr)++[t]) N) [.ptr 0 0] (RQ m r) from H _ rfl
 intro r hr
 have bad:∀ {c v:Int} {o':MO} {gs:List Fr} {N':Ns},Barb.retS o (([]:List Fr).map Fr.f) t.f=.stop c v o'→RQ m r (.ret (.g (.int c)) (MH m 0 v o' gs N')):=fun h1=>by
  rw[← hr,h1];exact ⟨_,_,rfl⟩
 refine enterH [] hT hF hM Tryz.func70 rfl 72 rfl (by kernel_rfl) [.tmp 2] rfl [.ptr 0 0] rfl (MH m 0 0 o (([]:List Fr)++[t]) N) [0] rfl rfl rfl 1 [] trivial _ ?_
 refine callPop (n:=1) (pre:=([]:List Fr)) [] ht (by decide) (by decide) rfl rfl (fun hl=>?_) (fun v' hl=>?_)
 ·refine ⟨rfl,.inl (endMH (.g (.int 4)) (olds 0 1 2 3 4 5) rfl rfl rfl (.inl rfl) rfl rfl rfl rfl rfl (List.Perm.refl _) trivial (bad ?_))⟩
  unfold Barb.retS;rw[if_pos hl]
 obtain ⟨q,hlen⟩:∃ q,t.f.ws.length=q+1:=⟨t.f.ws.length - 1,by omega⟩
 obtain ⟨x,hx,hws⟩:=off_one hlen
 have hoff:t.f.off 1=[x]:=by unfold PF.off;rw[hlen];exact hx
 have e0:Barb.retS o (([]:List Fr).map Fr.f) t.f=.stop 1 x (noteS o t.f.noted x):=by
  unfold Barb.retS;rw[if_neg (by omega),hoff];rfl
 rw[show t.f.ws.length - 1=q from by omega,hx]
 have lf:∀ y:Fr,((([]:List Fr)++[y]).map Fr.g).length=([]:List Fr).length+1:=fun y=>by simp
 have lf':∀ y:Fr,(((([]:List Fr)++[y]).map Fr.g).length:Int) - 1=(([]:List Fr).length:Int):=fun y=>by rw[lf];omega
 have hpl:([]:List Fr).length < 20:=by decide
 have ef:((([]:List Fr)++[(t.ww (t.f.ws.take q) v')]).map Fr.g).take ([]:List Fr).length=([]:List Fr).map Fr.g:=by rw[List.map_append,List.take_append_of_le_length (by simp),List.take_of_length_le (by simp)]
 have mem5:∀ (a b c d:Value × Nat) (t:Value × Nat),t∈[a,b,c,d]→t=a∨t=b∨t=c∨t=d:=fun a b c d t ht=>by simpa using ht
 refine ⟨top_fn,.inr (semRd (top_rd rfl rfl rfl (n:=([]:List Fr).length) (by simp) (by decide)) ?_)⟩
 refine ⟨_,snoc_at Fr.g ([]:List Fr) _,ldG_at rfl (Fr.g_noted (x:=(t.ww (t.f.ws.take q) v')) ht.1) ?_⟩
 refine ⟨fun hk=>?_,fun hk=>?_⟩
 ·obtain ⟨k,hkn⟩:∃ k:Nat,t.f.noted=(k:Int):=⟨t.f.noted.toNat,by have:(0:Int)≤t.f.noted:=hk;omega⟩
  have hkl:k < o.calls.length:=by omega
  have hklm:k < (o.calls.map Nt.g).length:=by rw[List.length_map];exact hkl
  have eno:noteS o t.f.noted x=noteS o (k:Int) x:=by rw[hkn]
  refine ⟨none,rfl,?_⟩
  refine ⟨0,[.int x],rfl,rfl,?_⟩
  refine ⟨k,dI hkn,hklm,?_⟩
  refine ⟨_,[.bool true],gm hkl,⟨rfl,trivial⟩,Nat.le_add_left 6 1,(fun h=>by cases h),?_⟩
  refine ⟨k,dI hkn,by rw[List.length_set];exact hklm,?_⟩
  refine ⟨_,[.int x],List.getElem?_set_self hklm,⟨rfl,trivial⟩,Nat.le_refl 7,(fun h=>by cases h),?_⟩
  refine ⟨some 9999,[14],rfl,?_⟩
  refine ⟨by unfold I64;rw[lf'];omega,?_⟩
  refine ⟨([]:List Fr).length,dI (lf' _),by rw[lf];omega,?_⟩
  refine .inr (ghCutB 0 6 5 ([]:List Fr).length rfl rfl rfl (by rw[lf];omega) (ghForget 1 (([]:List Fr).map fz) [] (fz (t.ww (t.f.ws.take q) v')) rfl (by rw[List.map_append];rfl) (ghNameN 1 6 (fun v=>[(N.d,2),(N.t,3),(N.c,4),(v,6)]) rfl rfl (fun v t ht=>?_) (fun f2=>ghEq (h2:=MHf m 0 0 (noteS o (k:Int) x) ([]:List Fr) (N.withF f2) []) ?_ (ghNo ?_)))))
  ·rcases mem5 _ _ _ _ _ ht with rfl | rfl | rfl | rfl<;>simp
  ·show [Obj.blk _ _,Obj.many (([]:List Fr).map fz++[]) _,_,_,Obj.row (((o.calls.map Nt.g).set k (setL o.calls[k].g (0+5) [.bool true])).set k (setL (setL o.calls[k].g (0+5) [.bool true]) (0+6) [.int x])) _ _,Obj.dead,Obj.row (((([]:List Fr)++[(t.ww (t.f.ws.take q) v')]).map Fr.g).take ([]:List Fr).length) _ _]=_
   rw[ef,List.append_nil,note_g hkl]
   rfl
  refine ⟨fun _=>?_,fun hz=>absurd rfl hz⟩
  refine ⟨0,[.int x],rfl,rfl,.inl ?_⟩
  refine ⟨rfl,.inl (endMH (o:=(noteS o (k:Int) x)) (val:=x) (fs:=[]) (N:=N.withF f2) (.g (.int 1)) (olds 0 1 2 3 4 6) rfl rfl rfl (.inl rfl) rfl rfl rfl rfl rfl (List.Perm.refl _) trivial (bad ?_))⟩
  rw[e0,eno]
 ·have eno:noteS o t.f.noted x=o:=noteS_no hk x
  refine ⟨some 9999,[14],rfl,?_⟩
  refine ⟨by unfold I64;rw[lf'];omega,?_⟩
  refine ⟨([]:List Fr).length,dI (lf' _),by rw[lf];omega,?_⟩
  refine .inr (ghCutB 0 6 5 ([]:List Fr).length rfl rfl rfl (by rw[lf];omega) (ghForget 1 (([]:List Fr).map fz) [] (fz (t.ww (t.f.ws.take q) v')) rfl (by rw[List.map_append];rfl) (ghNameN 1 6 (fun v=>[(N.d,2),(N.t,3),(N.c,4),(v,6)]) rfl rfl (fun v t ht=>?_) (fun f2=>ghEq (h2:=MHf m 0 0 o ([]:List Fr) (N.withF f2) []) ?_ (ghNo ?_)))))
  ·rcases mem5 _ _ _ _ _ ht with rfl | rfl | rfl | rfl<;>simp
  ·show [Obj.blk _ _,Obj.many (([]:List Fr).map fz++[]) _,_,_,Obj.row (o.calls.map Nt.g) _ _,Obj.dead,Obj.row (((([]:List Fr)++[(t.ww (t.f.ws.take q) v')]).map Fr.g).take ([]:List Fr).length) _ _]=_
   rw[ef,List.append_nil]
   rfl
  refine ⟨fun _=>?_,fun hz=>absurd rfl hz⟩
  refine ⟨0,[.int x],rfl,rfl,.inl ?_⟩
  refine ⟨rfl,.inl (endMH (o:=o) (val:=x) (fs:=[]) (N:=N.withF f2) (.g (.int 1)) (olds 0 1 2 3 4 6) rfl rfl rfl (.inl rfl) rfl rfl rfl rfl rfl (List.Perm.refl _) trivial (bad ?_))⟩
  rw[e0,eno]
set_option maxRecDepth 20000 in
set_option maxHeartbeats 1000000 in
theorem ret_cons (m:Image) (o:MO) (p':List Fr) (f t:Fr) (N:Ns) (ht:t.ok) (hpre:∀ g∈p'++[f],g.ok) (hp:(p'++[f]).length < 20) (hn:t.f.noted < o.calls.length) :
  CTH Tryz.prog gl 70 1 (MH m 0 0 o ((p'++[f])++[t]) N) [.ptr 0 0] (RQ m (Barb.retS o ((p'++[f]).map Fr.f) t.f)):=by
 have hw:=ht.2
 suffices H:∀ r:R,Barb.retS o ((p'++[f]).map Fr.f) t.f=r→CTH Tryz.prog gl 70 1 (MH m 0 0 o ((p'++[f])++[t]) N) [.ptr 0 0] (RQ m r) from H _ rfl
 intro r hr
 have bad:∀ {c v:Int} {o':MO} {gs:List Fr} {N':Ns},Barb.retS o ((p'++[f]).map Fr.f) t.f=.stop c v o'→RQ m r (.ret (.g (.int c)) (MH m 0 v o' gs N')):=fun h1=>by
  rw[← hr,h1];exact ⟨_,_,rfl⟩
 refine enterH [] hT hF hM Tryz.func70 rfl 72 rfl (by kernel_rfl) [.tmp 2] rfl [.ptr 0 0] rfl (MH m 0 0 o ((p'++[f])++[t]) N) [0] rfl rfl rfl 1 [] trivial _ ?_
 refine callPop (n:=1) (pre:=(p'++[f])) [] ht (by simp at hp ⊢;omega) (by decide) rfl rfl (fun hl=>?_) (fun v' hl=>?_)
 ·refine ⟨rfl,.inl (endMH (.g (.int 4)) (olds 0 1 2 3 4 5) rfl rfl rfl (.inl rfl) rfl rfl rfl rfl rfl (List.Perm.refl _) trivial (bad ?_))⟩
  unfold Barb.retS;rw[if_pos hl]
 obtain ⟨q,hlen⟩:∃ q,t.f.ws.length=q+1:=⟨t.f.ws.length - 1,by omega⟩
 obtain ⟨x,hx,hws⟩:=off_one hlen
 have hoff:t.f.off 1=[x]:=by unfold PF.off;rw[hlen];exact hx
 have e0:Barb.retS o ((p'++[f]).map Fr.f) t.f=pushS (noteS o t.f.noted x) (p'.map Fr.f) f.f x:=by
  unfold Barb.retS;rw[if_neg (by omega),hoff];simp
 rw[show t.f.ws.length - 1=q from by omega,hx]
 have lf:∀ y:Fr,(((p'++[f])++[y]).map Fr.g).length=(p'++[f]).length+1:=fun y=>by simp
 have lf':∀ y:Fr,((((p'++[f])++[y]).map Fr.g).length:Int) - 1=((p'++[f]).length:Int):=fun y=>by rw[lf];omega
 have hpl:(p'++[f]).length < 20:=hp
 have ef:(((p'++[f])++[(t.ww (t.f.ws.take q) v')]).map Fr.g).take (p'++[f]).length=(p'++[f]).map Fr.g:=by rw[List.map_append,List.take_append_of_le_length (by simp),List.take_of_length_le (by simp)]
 have mem5:∀ (a b c d:Value × Nat) (t:Value × Nat),t∈[a,b,c,d]→t=a∨t=b∨t=c∨t=d:=fun a b c d t ht=>by simpa using ht
 refine ⟨top_fn,.inr (semRd (top_rd rfl rfl rfl (n:=(p'++[f]).length) (by simp) (by simp at hp ⊢;omega)) ?_)⟩
 refine ⟨_,snoc_at Fr.g (p'++[f]) _,ldG_at rfl (Fr.g_noted (x:=(t.ww (t.f.ws.take q) v')) ht.1) ?_⟩
 refine ⟨fun hk=>?_,fun hk=>?_⟩
 ·obtain ⟨k,hkn⟩:∃ k:Nat,t.f.noted=(k:Int):=⟨t.f.noted.toNat,by have:(0:Int)≤t.f.noted:=hk;omega⟩
  have hkl:k < o.calls.length:=by omega
  have hklm:k < (o.calls.map Nt.g).length:=by rw[List.length_map];exact hkl
  have eno:noteS o t.f.noted x=noteS o (k:Int) x:=by rw[hkn]
  refine ⟨none,rfl,?_⟩
  refine ⟨0,[.int x],rfl,rfl,?_⟩
  refine ⟨k,dI hkn,hklm,?_⟩
  refine ⟨_,[.bool true],gm hkl,⟨rfl,trivial⟩,Nat.le_add_left 6 1,(fun h=>by cases h),?_⟩
  refine ⟨k,dI hkn,by rw[List.length_set];exact hklm,?_⟩
  refine ⟨_,[.int x],List.getElem?_set_self hklm,⟨rfl,trivial⟩,Nat.le_refl 7,(fun h=>by cases h),?_⟩
  refine ⟨some 9999,[14],rfl,?_⟩
  refine ⟨by unfold I64;rw[lf'];omega,?_⟩
  refine ⟨(p'++[f]).length,dI (lf' _),by rw[lf];omega,?_⟩
  refine .inr (ghCutB 0 6 5 (p'++[f]).length rfl rfl rfl (by rw[lf];omega) (ghForget 1 ((p'++[f]).map fz) [] (fz (t.ww (t.f.ws.take q) v')) rfl (by rw[List.map_append];rfl) (ghNameN 1 6 (fun v=>[(N.d,2),(N.t,3),(N.c,4),(v,6)]) rfl rfl (fun v t ht=>?_) (fun f2=>ghEq (h2:=MHf m 0 0 (noteS o (k:Int) x) (p'++[f]) (N.withF f2) []) ?_ (ghNo ?_)))))
  ·rcases mem5 _ _ _ _ _ ht with rfl | rfl | rfl | rfl<;>simp
  ·show [Obj.blk _ _,Obj.many ((p'++[f]).map fz++[]) _,_,_,Obj.row (((o.calls.map Nt.g).set k (setL o.calls[k].g (0+5) [.bool true])).set k (setL (setL o.calls[k].g (0+5) [.bool true]) (0+6) [.int x])) _ _,Obj.dead,Obj.row ((((p'++[f])++[(t.ww (t.f.ws.take q) v')]).map Fr.g).take (p'++[f]).length) _ _]=_
   rw[ef,List.append_nil,note_g hkl]
   rfl
  refine ⟨fun hz=>absurd hz (by simp;omega),fun _=>?_⟩
  refine ⟨0,[.int x],rfl,rfl,?_⟩
  refine callPushF (pre:=p') (t:=f) (hpre f (by simp)) (by simp at hp;omega) rfl rfl (fun h40=>?_) (fun v2 h40=>?_)
  ·refine ⟨rfl,.inl (endMH (o:=(noteS o (k:Int) x)) (N:=N.withF f2) (.g (.int 4)) (olds 0 1 2 3 4 6) rfl rfl rfl (.inl rfl) rfl rfl rfl rfl rfl (List.Perm.refl _) trivial (bad ?_))⟩
   rw[e0,eno];unfold pushS;rw[if_pos h40]
  ·refine ⟨rfl,.inl (endMH (o:=(noteS o (k:Int) x)) (N:=N.withF f2) (.g (.int 0)) (olds 0 1 2 3 4 6) rfl rfl rfl (.inl rfl) rfl rfl rfl rfl rfl (List.Perm.refl _) trivial ?_)⟩
   rw[← hr,e0,eno];unfold pushS;rw[if_neg h40]
   exact ⟨_,_,by rw[List.map_append];rfl,rfl⟩
 ·have eno:noteS o t.f.noted x=o:=noteS_no hk x
  refine ⟨some 9999,[14],rfl,?_⟩
  refine ⟨by unfold I64;rw[lf'];omega,?_⟩
  refine ⟨(p'++[f]).length,dI (lf' _),by rw[lf];omega,?_⟩
  refine .inr (ghCutB 0 6 5 (p'++[f]).length rfl rfl rfl (by rw[lf];omega) (ghForget 1 ((p'++[f]).map fz) [] (fz (t.ww (t.f.ws.take q) v')) rfl (by rw[List.map_append];rfl) (ghNameN 1 6 (fun v=>[(N.d,2),(N.t,3),(N.c,4),(v,6)]) rfl rfl (fun v t ht=>?_) (fun f2=>ghEq (h2:=MHf m 0 0 o (p'++[f]) (N.withF f2) []) ?_ (ghNo ?_)))))
  ·rcases mem5 _ _ _ _ _ ht with rfl | rfl | rfl | rfl<;>simp
  ·show [Obj.blk _ _,Obj.many ((p'++[f]).map fz++[]) _,_,_,Obj.row (o.calls.map Nt.g) _ _,Obj.dead,Obj.row ((((p'++[f])++[(t.ww (t.f.ws.take q) v')]).map Fr.g).take (p'++[f]).length) _ _]=_
   rw[ef,List.append_nil]
   rfl
  refine ⟨fun hz=>absurd hz (by simp;omega),fun _=>?_⟩
  refine ⟨0,[.int x],rfl,rfl,?_⟩
  refine callPushF (pre:=p') (t:=f) (hpre f (by simp)) (by simp at hp;omega) rfl rfl (fun h40=>?_) (fun v2 h40=>?_)
  ·refine ⟨rfl,.inl (endMH (o:=o) (N:=N.withF f2) (.g (.int 4)) (olds 0 1 2 3 4 6) rfl rfl rfl (.inl rfl) rfl rfl rfl rfl rfl (List.Perm.refl _) trivial (bad ?_))⟩
   rw[e0,eno];unfold pushS;rw[if_pos h40]
  ·refine ⟨rfl,.inl (endMH (o:=o) (N:=N.withF f2) (.g (.int 0)) (olds 0 1 2 3 4 6) rfl rfl rfl (.inl rfl) rfl rfl rfl rfl rfl (List.Perm.refl _) trivial ?_)⟩
   rw[← hr,e0,eno];unfold pushS;rw[if_neg h40]
   exact ⟨_,_,by rw[List.map_append];rfl,rfl⟩
theorem ret_any (m:Image) (o:MO) (pre:List Fr) (t:Fr) (N:Ns) (ht:t.ok) (hpre:∀ f∈pre,f.ok) (hp:pre.length < 20) (hn:t.f.noted < o.calls.length) :
  CTH Tryz.prog gl 70 1 (MH m 0 0 o (pre++[t]) N) [.ptr 0 0] (RQ m (Barb.retS o (pre.map Fr.f) t.f)):=by
 rcases List.eq_nil_or_concat pre with rfl | ⟨p',f,rfl⟩
 ·exact ret_nil m o t N ht hn
 ·rw[List.concat_eq_append] at hpre hp ⊢
  exact ret_cons m o p' f t N ht hpre hp hn
end Go.Proofs.YtijdegmamdhcbaaGreatDoor
/-
  mach: where it goes on; a step.
-/
namespace Go.Proofs.YtijdegmamdhcbaaGreatDoor
open Go Go.Dm Go.Eng Go.RowKit Barb
theorem gate_fn:fnOk Tryz.prog 69=true:=by kernel_rfl
theorem ret_fn:fnOk Tryz.prog 70=true:=by kernel_rfl
set_option maxRecDepth 20000 in
set_option maxHeartbeats 1000000 in
theorem control_any (m:Image) (o:MO) (pre:List Fr) (t:Fr) (N:Ns) (i:Instr) (hi:instrE i=0) (_hop:i.op=9∨i.op=10∨i.op=11∨i.op=12∨i.op=13∨i.op=15) (himg:imgE m=0) (hc:o.calls.length≤100) (ht:t.ok) (hpre:∀ f∈pre,f.ok) (hp:pre.length < 20) (hn:t.f.noted < o.calls.length) :
  CTH Tryz.prog gl 46 1 (MH m 0 0 o (pre++[t]) N) [.ptr 0 0,.agg i.d] (RQ m (ctlS m i o (pre.map Fr.f) t.f)):=by
 have hw:=ht.2
 obtain ⟨i1,i2,i3,i4,i5,i6,i7,i8,i9⟩:=instr_rng hi
 suffices H:∀ r:R,ctlS m i o (pre.map Fr.f) t.f=r→CTH Tryz.prog gl 46 1 (MH m 0 0 o (pre++[t]) N) [.ptr 0 0,.agg i.d] (RQ m r) from H _ rfl
 intro r hr
 have got:∀ {d:D} {gs:List Fr} {N':Ns} {o':MO} {fs:List PF},ctlS m i o (pre.map Fr.f) t.f=.go o' fs→gs.map Fr.f=fs→d=.g (.int 0)→RQ m r (.ret d (MH m 0 0 o' gs N')):=fun h1 h2 h3=>by
  subst h3;rw[← hr,h1];exact ⟨_,_,h2,rfl⟩
 have bad:∀ {c v:Int} {o':MO} {gs:List Fr} {N':Ns},ctlS m i o (pre.map Fr.f) t.f=.stop c v o'→RQ m r (.ret (.g (.int c)) (MH m 0 v o' gs N')):=fun h1=>by
  rw[← hr,h1];exact ⟨_,_,rfl⟩
 have mapz:∀ (x:Fr),(pre++[x]).map Fr.f=pre.map Fr.f++[x.f]:=fun x=>by rw[List.map_append];rfl
 refine enterH [] hT hF hM Tryz.func46 rfl 68 rfl (by kernel_rfl) [.tmp 4] rfl [.ptr 0 0,.agg i.d] rfl (MH m 0 0 o (pre++[t]) N) [0] rfl rfl rfl 1 [] trivial _ ?_
 refine ⟨top_fn,.inr (semRd (top_rd rfl rfl rfl (n:=pre.length) (by simp) (by omega)) ?_)⟩
 refine ⟨fun h9=>?_,fun h9=>?_⟩
 ·refine ⟨_,[.int i.a],snoc_at Fr.g pre t,⟨rfl,trivial⟩,by rw[Fr.g_len ht.1];exact (by decide:0+1+1≤12),(fun h=>by cases h),.inl ?_⟩
  refine ⟨rfl,.inl (endMH (fs:=pre++[Fr.mk { t.f with at_:=i.a } t.v]) (.g (.int 0)) (olds 0 1 2 3 4 5) rfl rfl rfl (.inl rfl) rfl rfl rfl rfl (snoc_set Fr.g pre t _ _ (Fr.g_set_at _).symm) ?_ trivial (got ?_ (mapz _) rfl))⟩
  ·rw[List.map_append,List.map_append];exact List.Perm.refl _
  ·unfold ctlS;rw[if_pos h9]
 refine ⟨fun h10=>?_,fun h10=>?_⟩
 ·have e0:ctlS m i o (pre.map Fr.f) t.f=if t.f.ws.length < 1 then .stop 4 0 o else .go o (pre.map Fr.f++[if (t.f.off 1).getD 0 0=0 then { t.f.on 1 with at_:=i.a } else t.f.on 1]):=by
   unfold ctlS;rw[if_neg h9,if_pos h10]
  refine callPop (n:=1) [.blk i.d 109] ht (by omega) (by decide) rfl rfl (fun hl=>?_) (fun v' hl=>?_)
  ·refine ⟨rfl,.inl (endMH (.g (.int 4)) (olds 0 1 2 3 4 5) rfl rfl rfl (.inl rfl) rfl rfl rfl rfl rfl (List.Perm.refl _) trivial (bad ?_))⟩
   rw[e0,if_pos hl]
  obtain ⟨q,hlen⟩:∃ q,t.f.ws.length=q+1:=⟨t.f.ws.length - 1,by omega⟩
  obtain ⟨x,hx,hws⟩:=off_one hlen
  have hoff:t.f.off 1=[x]:=by unfold PF.off;rw[hlen];exact hx
  have hon:t.f.on 1=t.f.ww (t.f.ws.take q):=by unfold PF.on;rw[show t.f.ws.length - 1=q from by omega]
  rw[if_neg (by omega),hoff,hon] at e0
  rw[show t.f.ws.length - 1=q from by omega,hx]
  refine ⟨0,[.int x],rfl,rfl,?_⟩
  refine ⟨fun hz=>?_,fun hz=>?_⟩
  ·refine ⟨_,[.int i.a],snoc_at Fr.g pre _,⟨rfl,trivial⟩,by rw[Fr.g_len (x:=t.ww (t.f.ws.take q) v') ht.1];exact (by decide:0+1+1≤12),(fun h=>by cases h),.inl ?_⟩
   refine ⟨rfl,.inl (endMH (fs:=pre++[Fr.mk { t.f.ww (t.f.ws.take q) with at_:=i.a } v']) (.g (.int 0)) (olds 0 1 2 3 4 5) rfl rfl rfl (.inl rfl) rfl rfl rfl rfl (snoc_set Fr.g pre _ _ _ (Fr.g_set_at (x:=t.ww (t.f.ws.take q) v') _).symm) ?_ trivial (got e0 ?_ rfl))⟩
   ·rw[List.map_append,List.map_append];exact List.Perm.refl _
   ·rw[mapz];show _=_++[if x=0 then _ else _];rw[if_pos hz]
  ·refine ⟨rfl,.inl (endMH (.g (.int 0)) (olds 0 1 2 3 4 5) rfl rfl rfl (.inl rfl) rfl rfl rfl rfl rfl (List.Perm.refl _) trivial (got e0 ?_ rfl))⟩
   rw[mapz];show _=_++[if x=0 then _ else _];rw[if_neg hz];rfl
 refine ⟨fun h11=>?_,fun h11=>?_⟩
 ·have hb11:bdB 11=4:=rfl
  rw[h11] at i6
  obtain ⟨b,hb⟩:∃ b:Nat,i.b=(b:Int):=⟨i.b.toNat,by omega⟩
  have e0:ctlS m i o (pre.map Fr.f) t.f=if t.f.ws.length < b then .stop 4 0 o else enterS o (pre.map Fr.f++[t.f.on b]) t.f.part i.a (-1) (t.f.off b):=by
   unfold ctlS;rw[if_neg h9,if_neg h10,if_pos h11,hb];rfl
  refine callPop (n:=b) [.blk i.d 109] ht (by omega) (by omega) rfl (congrArg (fun z=>[D.ptr 0 0,D.g (.int z)]) hb) (fun hl=>?_) (fun v' hl=>?_)
  ·refine ⟨rfl,.inl (endMH (.g (.int 4)) (olds 0 1 2 3 4 5) rfl rfl rfl (.inl rfl) rfl rfl rfl rfl rfl (List.Perm.refl _) trivial (bad ?_))⟩
   rw[e0,if_pos hl]
  rw[if_neg (by omega)] at e0
  refine ⟨some 9999,[8],rfl,?_⟩
  refine ⟨_,snoc_at Fr.g pre _,?_⟩
  refine callEnter (fs:=pre++[t.ww (t.f.ws.take (t.f.ws.length - b)) v']) (args:=t.f.ws.drop (t.f.ws.length - b)) [.blk i.d 109] (by simp;omega) rfl rfl (fun h20=>?_) (fun f2 h20=>?_)
  ·refine ⟨rfl,.inl (endMH (.g (.int 5)) (olds 0 1 2 3 4 7) rfl rfl rfl (.inl rfl) rfl rfl rfl rfl rfl (List.Perm.refl _) trivial (bad ?_))⟩
   have h20':pre.length+1=20:=by simpa using h20
   rw[e0];unfold enterS;rw[if_pos (by simp;omega)]
  ·refine ⟨rfl,.inl (endMH (N:=N.withF f2) (.g (.int 0)) (olds 0 1 2 3 4 7) rfl rfl rfl (.inl rfl) rfl rfl rfl rfl rfl (List.Perm.refl _) trivial ?_)⟩
   have h20':¬pre.length+1=20:=by simpa using h20
   rw[← hr,e0];unfold enterS;rw[if_neg (by simp;omega)]
   exact ⟨_,_,by rw[List.map_append,mapz];rfl,rfl⟩
 refine ⟨fun h12=>?_,fun h12=>?_⟩
 ·have e0:ctlS m i o (pre.map Fr.f) t.f=gateS m i o (pre.map Fr.f) t.f:=by
   unfold ctlS;rw[if_neg h9,if_neg h10,if_neg h11,if_pos h12]
  refine callMR gate_fn [.blk i.d 109] (gate_any m o pre t N i hi h12 himg hc ht hp) rfl rfl rfl rfl (fun c v o' gs N' hq=>?_)
  refine ⟨rfl,.inl (endMH (.g (.int c)) (olds 0 7 8 9 10 11) rfl rfl rfl (.inl rfl) rfl rfl rfl rfl rfl (List.Perm.refl _) trivial ?_)⟩
  rw[← hr,e0];exact hq
 refine ⟨fun h13=>?_,fun h13=>?_⟩
 ·have e0:ctlS m i o (pre.map Fr.f) t.f=Barb.retS o (pre.map Fr.f) t.f:=by
   unfold ctlS;rw[if_neg h9,if_neg h10,if_neg h11,if_neg h12,if_pos h13]
  refine callMR ret_fn [.blk i.d 109] (ret_any m o pre t N ht hpre hp hn) rfl rfl rfl rfl (fun c v o' gs N' hq=>?_)
  refine ⟨rfl,.inl (endMH (.g (.int c)) (olds 0 7 8 9 10 11) rfl rfl rfl (.inl rfl) rfl rfl rfl rfl rfl (List.Perm.refl _) trivial ?_)⟩
  rw[← hr,e0];exact hq
 ·refine ⟨rfl,.inl (endMH (.g (.int 2)) (olds 0 1 2 3 4 5) rfl rfl rfl (.inl rfl) rfl rfl rfl rfl rfl (List.Perm.refl _) trivial (bad ?_))⟩
  unfold ctlS;rw[if_neg h9,if_neg h10,if_neg h11,if_neg h12,if_neg h13]
theorem memory_fn:fnOk Tryz.prog 45=true:=by kernel_rfl
theorem control_fn:fnOk Tryz.prog 46=true:=by kernel_rfl
theorem words_fn:fnOk Tryz.prog 47=true:=by kernel_rfl
theorem Fr.ok_of {m:Image} {c:List Nt} {x:Fr} (h:x.f.ok m c):x.ok:=⟨h.locs,h.ws⟩
set_option maxRecDepth 20000 in
set_option maxHeartbeats 1000000 in
theorem step_any (m:Image) (o:MO) (pre:List Fr) (t:Fr) (N:Ns) (ok:SOk m o ((pre++[t]).map Fr.f)) :
  CTH Tryz.prog gl 25 1 (MH m 0 0 o (pre++[t]) N) [.ptr 0 0] (RQ m (Barb.stepS m o (pre.map Fr.f) t.f)):=by
 have tok:t.f.ok m o.calls:=ok.frs _ (by simp)
 have ht:t.ok:=Fr.ok_of tok
 have hpre:∀ f∈pre,f.ok:=fun f hf=>Fr.ok_of (ok.frs f.f (List.mem_map.2 ⟨f,by simp[hf],rfl⟩))
 have hdeep:=ok.deep
 rw[List.length_map,List.length_append,List.length_singleton] at hdeep
 have hcalls:=ok.calls
 obtain ⟨k,hk,hkl⟩:=tok.part
 have em:m.getD t.f.part.toNat noPart=m[k]:=by rw[hk];simp[hkl]
 obtain ⟨hc1,hc2,hc3,hc4⟩:=code_ok ok.img hkl
 have h0:=tok.at0
 have h1:=tok.at1
 obtain ⟨j,hj⟩:∃ j:Nat,t.f.at_=(j:Int):=⟨t.f.at_.toNat,by omega⟩
 suffices H:∀ r:R,Barb.stepS m o (pre.map Fr.f) t.f=r→CTH Tryz.prog gl 25 1 (MH m 0 0 o (pre++[t]) N) [.ptr 0 0] (RQ m r) from H _ rfl
 intro r hr
 have lc:(m[k].code.map Instr.g).length=m[k].code.length:=List.length_map _
 have mapz:∀ (x:Fr),(pre++[x]).map Fr.f=pre.map Fr.f++[x.f]:=fun x=>by rw[List.map_append];rfl
 refine enterH [] hT hF hM Tryz.func25 rfl 71 rfl (by kernel_rfl) [.tmp 2] rfl [.ptr 0 0] rfl (MH m 0 0 o (pre++[t]) N) [0] rfl rfl rfl 1 [] trivial _ ?_
 refine ⟨top_fn,.inr (semRd (top_rd rfl rfl rfl (n:=pre.length) (by simp) (by omega)) ?_)⟩
 refine ⟨none,rfl,?_⟩
 refine ⟨_,snoc_at Fr.g pre t,?_⟩
 refine ⟨_,snoc_at Fr.g pre t,?_⟩
 refine ⟨k,_,dI hk,gm hkl,?_⟩
 refine ⟨fun hge=>?_,fun hlt=>?_⟩
 ·refine ⟨rfl,.inl (endMH (.g (.int 4)) (olds 0 1 2 3 4 5) rfl rfl rfl (.inl rfl) rfl rfl rfl rfl rfl (List.Perm.refl _) trivial ?_)⟩
  rw[← hr];unfold Barb.stepS;simp only;rw[em,if_pos (by omega)];exact ⟨_,_,rfl⟩
 have hjl:j < m[k].code.length:=by omega
 have ei:m[k].code.getD t.f.at_.toNat noInstr=m[k].code[j]:=by rw[hj];simp[hjl]
 have hi:=hc3 _ (List.getElem_mem hjl)
 have e0:Barb.stepS m o (pre.map Fr.f) t.f=(if m[k].code[j].op=6∨m[k].code[j].op=7 then memS m[k] m[k].code[j] o (pre.map Fr.f) { t.f with at_:=t.f.at_+1 }
   else if m[k].code[j].op=9∨m[k].code[j].op=10∨m[k].code[j].op=11∨m[k].code[j].op=12∨m[k].code[j].op=13∨m[k].code[j].op=15 then ctlS m m[k].code[j] o (pre.map Fr.f) { t.f with at_:=t.f.at_+1 } else wrdS m[k].code[j] o (pre.map Fr.f) { t.f with at_:=t.f.at_+1 }):=by
  unfold Barb.stepS;simp only;rw[em,if_neg (by omega),ei]
 have ht1:(Fr.mk { t.f with at_:=t.f.at_+1 } t.v).ok:=ht
 refine ⟨none,rfl,?_⟩
 refine ⟨_,snoc_at Fr.g pre t,?_⟩
 refine ⟨k,_,dI hk,gm hkl,?_⟩
 refine ⟨_,snoc_at Fr.g pre t,?_⟩
 refine ⟨j,_,dI hj,gm hjl,?_⟩
 refine ⟨_,snoc_at Fr.g pre t,?_⟩
 refine ⟨_,I64.wrap (by unfold I64;omega),?_⟩
 refine ⟨_,[.int (t.f.at_+1)],snoc_at Fr.g pre t,⟨rfl,trivial⟩,by rw[Fr.g_len ht.1];exact (by decide:0+1+1≤12),(fun h=>by cases h),.inr (ghEq (h2:=MHr m 0 0 o (pre++[(Fr.mk { t.f with at_:=t.f.at_+1 } t.v)]) N [.blk m[k].code[j].d 109]) ?_ (ghNo ?_))⟩
 ·show [Obj.blk _ _,Obj.many ((pre++[t]).map fz) _,_,_,_,Obj.row (((pre++[t]).map Fr.g).set pre.length _) _ _,_]=_
  rw[snoc_set Fr.g pre t _ _ (Fr.g_set_at (t.f.at_+1)).symm,show (pre++[t]).map fz=(pre++[(Fr.mk { t.f with at_:=t.f.at_+1 } t.v)]).map fz from by rw[List.map_append,List.map_append];rfl]
 refine ⟨fun h6=>⟨fun _=>?_,fun h=>absurd h6 h⟩,fun h6=>?_⟩
 ·refine callMR memory_fn [.blk m[k].code[j].d 109] (memory_any m o pre (Fr.mk { t.f with at_:=t.f.at_+1 } t.v) N m[k].code[j] k hkl hk ok.img ok.data ht1 (by omega)) rfl rfl rfl rfl (fun c v o' gs N' hq=>?_)
  refine ⟨rfl,.inl (endMH (.g (.int c)) (olds 0 7 8 9 10 11) rfl rfl rfl (.inl rfl) rfl rfl rfl rfl rfl (List.Perm.refl _) trivial ?_)⟩
  rw[← hr,e0,if_pos (.inl h6)];exact hq
 refine ⟨fun h7=>?_,fun h7=>?_⟩
 ·refine callMR memory_fn [.blk m[k].code[j].d 109] (memory_any m o pre (Fr.mk { t.f with at_:=t.f.at_+1 } t.v) N m[k].code[j] k hkl hk ok.img ok.data ht1 (by omega)) rfl rfl rfl rfl (fun c v o' gs N' hq=>?_)
  refine ⟨rfl,.inl (endMH (.g (.int c)) (olds 0 7 8 9 10 11) rfl rfl rfl (.inl rfl) rfl rfl rfl rfl rfl (List.Perm.refl _) trivial ?_)⟩
  rw[← hr,e0,if_pos (.inr h7)];exact hq
 refine ⟨fun h9=>⟨fun _=>?_,fun h=>absurd h9 h⟩,fun h9=>?_⟩
 ·refine callMR control_fn [.blk m[k].code[j].d 109] (control_any m o pre (Fr.mk { t.f with at_:=t.f.at_+1 } t.v) N m[k].code[j] hi (by omega) ok.img hcalls ht1 hpre (by omega) tok.noted) rfl rfl rfl rfl (fun c v o' gs N' hq=>?_)
  refine ⟨rfl,.inl (endMH (.g (.int c)) (olds 0 7 8 9 10 11) rfl rfl rfl (.inl rfl) rfl rfl rfl rfl rfl (List.Perm.refl _) trivial ?_)⟩
  rw[← hr,e0,if_neg (by omega),if_pos (by omega)];exact hq
 refine ⟨fun h10=>⟨fun _=>?_,fun h=>absurd h10 h⟩,fun h10=>?_⟩
 ·refine callMR control_fn [.blk m[k].code[j].d 109] (control_any m o pre (Fr.mk { t.f with at_:=t.f.at_+1 } t.v) N m[k].code[j] hi (by omega) ok.img hcalls ht1 hpre (by omega) tok.noted) rfl rfl rfl rfl (fun c v o' gs N' hq=>?_)
  refine ⟨rfl,.inl (endMH (.g (.int c)) (olds 0 7 8 9 10 11) rfl rfl rfl (.inl rfl) rfl rfl rfl rfl rfl (List.Perm.refl _) trivial ?_)⟩
  rw[← hr,e0,if_neg (by omega),if_pos (by omega)];exact hq
 refine ⟨fun h11=>⟨fun _=>?_,fun h=>absurd h11 h⟩,fun h11=>?_⟩
 ·refine callMR control_fn [.blk m[k].code[j].d 109] (control_any m o pre (Fr.mk { t.f with at_:=t.f.at_+1 } t.v) N m[k].code[j] hi (by omega) ok.img hcalls ht1 hpre (by omega) tok.noted) rfl rfl rfl rfl (fun c v o' gs N' hq=>?_)
  refine ⟨rfl,.inl (endMH (.g (.int c)) (olds 0 7 8 9 10 11) rfl rfl rfl (.inl rfl) rfl rfl rfl rfl rfl (List.Perm.refl _) trivial ?_)⟩
  rw[← hr,e0,if_neg (by omega),if_pos (by omega)];exact hq
 refine ⟨fun h12=>⟨fun _=>?_,fun h=>absurd h12 h⟩,fun h12=>?_⟩
 ·refine callMR control_fn [.blk m[k].code[j].d 109] (control_any m o pre (Fr.mk { t.f with at_:=t.f.at_+1 } t.v) N m[k].code[j] hi (by omega) ok.img hcalls ht1 hpre (by omega) tok.noted) rfl rfl rfl rfl (fun c v o' gs N' hq=>?_)
  refine ⟨rfl,.inl (endMH (.g (.int c)) (olds 0 7 8 9 10 11) rfl rfl rfl (.inl rfl) rfl rfl rfl rfl rfl (List.Perm.refl _) trivial ?_)⟩
  rw[← hr,e0,if_neg (by omega),if_pos (by omega)];exact hq
 refine ⟨fun h13=>⟨fun _=>?_,fun h=>absurd h13 h⟩,fun h13=>?_⟩
 ·refine callMR control_fn [.blk m[k].code[j].d 109] (control_any m o pre (Fr.mk { t.f with at_:=t.f.at_+1 } t.v) N m[k].code[j] hi (by omega) ok.img hcalls ht1 hpre (by omega) tok.noted) rfl rfl rfl rfl (fun c v o' gs N' hq=>?_)
  refine ⟨rfl,.inl (endMH (.g (.int c)) (olds 0 7 8 9 10 11) rfl rfl rfl (.inl rfl) rfl rfl rfl rfl rfl (List.Perm.refl _) trivial ?_)⟩
  rw[← hr,e0,if_neg (by omega),if_pos (by omega)];exact hq
 refine ⟨fun h15=>?_,fun h15=>?_⟩
 ·refine callMR control_fn [.blk m[k].code[j].d 109] (control_any m o pre (Fr.mk { t.f with at_:=t.f.at_+1 } t.v) N m[k].code[j] hi (by omega) ok.img hcalls ht1 hpre (by omega) tok.noted) rfl rfl rfl rfl (fun c v o' gs N' hq=>?_)
  refine ⟨rfl,.inl (endMH (.g (.int c)) (olds 0 7 8 9 10 11) rfl rfl rfl (.inl rfl) rfl rfl rfl rfl rfl (List.Perm.refl _) trivial ?_)⟩
  rw[← hr,e0,if_neg (by omega),if_pos (by omega)];exact hq
 have hio:=instr_rng hi
 refine callMR words_fn [.blk m[k].code[j].d 109] (mwords_any m o pre (Fr.mk { t.f with at_:=t.f.at_+1 } t.v) N m[k].code[j] hi (by omega) ok.told ht1 (by omega)) rfl rfl rfl rfl (fun c v o' gs N' hq=>?_)
 refine ⟨rfl,.inl (endMH (.g (.int c)) (olds 0 7 8 9 10 11) rfl rfl rfl (.inl rfl) rfl rfl rfl rfl rfl (List.Perm.refl _) trivial ?_)⟩
 rw[← hr,e0,if_neg (by omega),if_neg (by omega)];exact hq
end Go.Proofs.YtijdegmamdhcbaaGreatDoor
/-
  mach.Run: the first frame; all steps.
-/
namespace Barb
open Go Go.Dm Go.Eng
def iterS (m:Image):Nat→MO→List PF→Int × Int × MO
 | 0,o,_=>(3,0,o)
 | n+1,o,fs=>match fs.getLast? with
  | none=>(0,0,o)
  | some t=>match Barb.stepS m o fs.dropLast t with
   | .go o' fs'=>iterS m n o' fs'
   | .stop c v o'=>(c,v,o')
theorem iterS_snoc (m:Image) (n:Nat) (o:MO) (fs:List PF) (t:PF):iterS m (n+1) o (fs++[t])=match Barb.stepS m o fs t with
   | .go o' fs'=>iterS m n o' fs'
   | .stop c v o'=>(c,v,o'):=by
 simp[iterS]
def entAt (m:Image) (part entry:Int):Entry:=(Barb.partAt m part).entries.getD entry.toNat noEntry
def runE (m:Image) (d:List Int) (part entry:Int) (args:List Int) (fuel:Int):Int :=
 if dataE m d≠0 then dataE m d
 else if part < 0∨part ≥ m.length∨entry < 0∨entry ≥ (Barb.partAt m part).entries.length then 5
 else if (args.length:Int)≠(entAt m part entry).params then 7
 else if fuel < 0∨fuel > 100000∨∃ n∈args,¬wordN n then 2 else 0
structure Outc where
 end_:Int
 value:Int
 told:List Int
 data:List Int
 calls:List Nt
abbrev Outc.d (o:Outc):List D:=[.g (.int o.end_),.g (.int o.value),.g (.sl 1 (o.told.map intG)),.g (.sl 1 (o.data.map intG)),.g (.sl 7 (o.calls.map Nt.g))]
def outOf (x:Int × Int × MO):Outc:=⟨x.1,x.2.1,x.2.2.told,x.2.2.data,x.2.2.calls⟩
def runV (m:Image) (d:List Int) (part entry:Int) (args:List Int) (fuel:Int):Outc :=
 if runE m d part entry args fuel=0 then outOf (iterS m fuel.toNat ⟨[],d,[]⟩ [⟨part,(entAt m part entry).at_,p8 args,[],-1⟩]) else ⟨0,0,[],[],[]⟩
theorem runV_bad {m:Image} {d:List Int} {part entry:Int} {args:List Int} {fuel e:Int} (h:runE m d part entry args fuel=e) (h0:e≠0):runV m d part entry args fuel=⟨0,0,[],[],[]⟩:=by
 unfold runV;rw[if_neg (by rw[h];exact h0)]
end Barb
namespace Go.Proofs.YtijdegmamdhcbaaGreatDoor
open Go Go.Dm Go.Eng Go.RowKit Barb
theorem enter0_any (m:Image) (d:List Int) (part at_ noted:Int) (args:List Int) :
  CTH Tryz.prog gl 24 1 [.blk [.g (.sl 4 (m.map Part.g)),.g (.int 0),.g (.int 0),.row 3,.row 2,.row 4,.row 5] 81,.many [] [],.row (d.map intG) 3 1,.row [] 3 1,.row [] 165 7,.row [] 115 12] [.ptr 0 0,.g (.int part),.g (.int at_),.g (.int noted),.g (.sl 1 (args.map intG))]
   (fun out=>∃ N,out=.ret (.g (.int 0)) (MH m 0 0 ⟨[],d,[]⟩ [newF part at_ noted args] N)):=by
 refine enterH [] hT hF hM Tryz.func24 rfl 36 rfl (by kernel_rfl) [.tmp 10] rfl [.ptr 0 0,.g (.int part),.g (.int at_),.g (.int noted),.g (.sl 1 (args.map intG))] rfl ([.blk [.g (.sl 4 (m.map Part.g)),.g (.int 0),.g (.int 0),.row 3,.row 2,.row 4,.row 5] 81,.many [] [],.row (d.map intG) 3 1,.row [] 3 1,.row [] 165 7,.row [] 115 12]) [0] rfl rfl rfl 1 [] trivial _ ?_
 refine ⟨fun h=>absurd h (by decide),fun _=>?_⟩
 refine .inr (ghRaw (ghNo ?_))
 refine .inl ?_
 refine .inl ?_
 refine ⟨_,(p8_set args _ _ _ _).symm,?_⟩
 refine ⟨some 9998,[10],rfl,?_⟩
 refine ⟨[(newF part at_ noted args).g],rfl,rfl,seesG _ (newF part at_ noted args).g,⟨_,rfl⟩,?_⟩
 refine ⟨⟨by simp[maxLen],by simp⟩,?_⟩
 refine .inr (ghNameN 1 8 (fun v=>[(v,8)]) rfl rfl (fun v t ht=>ht) (fun v4=>ghNameN 1 4 (fun v=>[(v,4),(v4,8)]) rfl rfl (fun v t ht=>ht) (fun v3=>ghNameN 1 3 (fun v=>[(v,3),(v3,4),(v4,8)]) rfl rfl (fun v t ht=>ht) (fun v2=>ghNameN 1 2 (fun v=>[(v,2),(v2,3),(v3,4),(v4,8)]) rfl rfl (fun v t ht=>ht) (fun v1=>ghNo ?_)))))
 exact ⟨rfl,.inr (ghNil 1 3 1 (by decide) rfl (ghNo (endMH (o:=⟨[],d,[]⟩) (fs:=[newF part at_ noted args]) (N:=⟨v1,v2,v3,v4⟩) (.g (.int 0)) (olds 0 1 2 3 4 8) rfl rfl rfl (.inl rfl) rfl rfl rfl rfl rfl (List.Perm.refl _) trivial ⟨_,rfl⟩)))⟩
theorem enter1_any (m:Image) (d:List Int) (part at_ noted:Int) (args:List Int) :
  CTH Tryz.prog gl 24 1 [.blk [.g (.sl 4 (m.map Part.g)),.g (.int 0),.g (.int 0),.nils,.row 1,.nils,.nils] 81,.row (d.map intG) 3 1] [.ptr 0 0,.g (.int part),.g (.int at_),.g (.int noted),.g (.sl 1 (args.map intG))]
   (fun out=>∃ N,out=.ret (.g (.int 0)) (MH m 0 0 ⟨[],d,[]⟩ [newF part at_ noted args] N)):=by
 have hT:turnH [.blk [.g (.sl 4 (m.map Part.g)),.g (.int 0),.g (.int 0),.nils,.row 1,.nils,.nils] 81,.row (d.map intG) 3 1] [.old 0,.many0,.old 1,.nil 3 1,.nil 165 7,.nil 115 12] =
  [.blk [.g (.sl 4 (m.map Part.g)),.g (.int 0),.g (.int 0),.nils,.row 2,.nils,.nils] 81,.many [] [],.row (d.map intG) 3 1,.row [] 3 1,.row [] 165 7,.row [] 115 12]:=rfl
 refine cth_turn (hin:=[.blk [.g (.sl 4 (m.map Part.g)),.g (.int 0),.g (.int 0),.row 3,.row 2,.row 4,.row 5] 81,.many [] [],.row (d.map intG) 3 1,.row [] 3 1,.row [] 165 7,.row [] 115 12]) [.old 0,.many0,.old 1,.nil 3 1,.nil 165 7,.nil 115 12] ⟨rfl,.inr ?_,.inl rfl,rfl⟩ rfl rfl (enter0_any m d part at_ noted args)
 rw[hT]
 exact ⟨⟨rfl,.inr ⟨lk rfl,lk rfl,lk rfl,.inr rfl,lk rfl,.inr rfl,.inr rfl,trivial⟩⟩,⟨List.Perm.refl _,rfl⟩,⟨rfl,rfl,rfl⟩,⟨rfl,rfl,rfl⟩,⟨rfl,rfl,rfl⟩,⟨rfl,rfl,rfl⟩,trivial⟩
theorem oddR_any (n:Int):CT Tryz.prog gl 22 [.g (.int n)] (Is (.pb (¬wordN n))):=by
 refine enter hT hF hM Tryz.func22 rfl 6 rfl (by kernel_rfl) [.tmp 2] rfl [.g (.int n)] rfl _ ?_
 exact callIs (.inl rfl) (Is_any n) ⟨rfl,retN Iff.rfl⟩
theorem idxR_any (l:List Int) (hl:l.length≤9223372036854775807):CT Tryz.prog gl 43 [.g (.sl 1 (l.map intG)),.fn 22 [] []] (Is (.g (.int (idx oddN l)))):=by
 have ll:(l.map intG).length=l.length:=by simp
 refine enter hT hF hM Tryz.func43 rfl 19 rfl (by kernel_rfl) [.tmp 4] rfl [.g (.sl 1 (l.map intG)),.fn 22 [] []] rfl _ ?_
 refine loopR (ι:=Nat) (fun i=>[(8,.g (.int (i:Int)))]) (fun _=>[]) (fun i=>i≤l.length∧∀ j (hj:j < l.length),j < i→¬oddN l[j]) (fun i=>l.length - i)
  ⟨0,[],⟨rfl,.inl rfl,.inr ⟨lk rfl,trivial⟩,rfl⟩,Nat.zero_le _,alln_0⟩ ?_
 intro Rd hRd i ⟨hi,ha⟩
 refine ⟨fun h=>?_,fun h=>?_⟩
 ·have h1:i < l.length:=by omega
  refine ⟨i,_,rfl,gm h1,?_⟩
  refine callIs (.inl rfl) (oddR_any l[i]) ?_
  refine ⟨fun h2=>⟨rfl,retI (idx_at h1 ha h2).symm⟩,fun h2=>⟨_,I64.wrap (by unfold I64;omega),?_⟩⟩
  exact hRd _ _ _ ⟨i+1,[],⟨rfl,.inl rfl,.inr ⟨lk rfl,trivial⟩,rfl⟩,⟨h1,alln_step h1 ha h2⟩,by omega⟩
 ·exact ⟨rfl,retI (idx_no (alln_end (by omega) ha)).symm⟩
theorem hasR_any (l:List Int) (hl:l.length≤9223372036854775807):CT Tryz.prog gl 21 [.g (.sl 1 (l.map intG)),.fn 22 [] []] (Is (.pb (∃ n∈l,¬wordN n))):=by
 refine enter hT hF hM Tryz.func21 rfl 9 rfl (by kernel_rfl) [.tmp 4] rfl [.g (.sl 1 (l.map intG)),.fn 22 [] []] rfl _ ?_
 refine callIs (.inl rfl) (idxR_any l hl) ⟨rfl,retP ?_⟩
 rcases idx_cases oddN l with ⟨h1,h2⟩ | ⟨i,hi,h1,h2,h3⟩
 ·rw[h1];exact ⟨fun h=>absurd h (by decide),fun ⟨c,hc,ho⟩=>absurd ho (h2 c hc)⟩
 ·rw[h1];exact ⟨fun _=>⟨l[i],List.getElem_mem _,h2⟩,fun _=>by omega⟩
theorem callR2 {g:FuncId} (hg:fnOk Tryz.prog g=true) {l all:List D} {h:Heap} {K Qp:KD} {m:Image} {e val:Int} {o:MO} {fs:List Fr} {N:Ns} {x:R} (r:Heap)
  (hct:CTH Tryz.prog gl g 1 (MH m e val o fs N) (.ptr 0 0 :: l) (RQ m x)) (hn:l.map (conv (MHr m e val o fs N r) (olds 0 1 2 3 4 5) 4)=l) (hl:closedσ (MHr m e val o fs N r) [0,1,2,3,4,5] (.ptr 0 0 :: l)=true)
  (hh:h=MHr m e val o fs N r) (ha:all=.ptr 0 0 :: l)
  (hgo:∀ o' gs N',x=.go o' (gs.map Fr.f)→K (.g (.int 0)) (MHt m 0 0 o' gs N' r)) (hstop:∀ c v o' gs N',x=.stop c v o'→K (.g (.int c)) (MHt m 0 v o' gs N' r)) :
  fnOk Tryz.prog g=true∧(OwnCall Tryz.prog gl g all h K Qp∨SemCall Tryz.prog gl g all h K Qp):=by
 subst hh;subst ha
 refine callO [0,1,2,3,4,5] hg hl rfl (turnM2 _ _ _ _ _ _ _ _ hn) hct (fun d' h' hq=>?_) (fun d' h' hq=>?_)
 ·cases x with
  | go o' fs' =>
   obtain ⟨gs,N',hm,he⟩:=hq
   injection he with e1 e2;subst e1;subst e2
   rw[putT]
   exact hgo o' gs N' (by rw[hm])
  | stop c v o' =>
   obtain ⟨gs,N',he⟩:=hq
   injection he with e1 e2;subst e1;subst e2
   rw[putT]
   exact hstop c v o' gs N' rfl
 ·obtain ⟨c,v,o',gs,N',he⟩:=RQ_ret hq
  cases he
structure LS where
 e:Int
 val:Int
 o:MO
 gs:List Fr
 N:Ns
 n:Nat
def LInv (m:Image) (F:Int × Int × MO) (i:LS):Prop:=i.n≤100000∧(i.e=0→i.val=0∧SOk m i.o (i.gs.map Fr.f)∧i.gs≠[]∧iterS m i.n i.o (i.gs.map Fr.f)=F)∧(i.e≠0→F=(i.e,i.val,i.o))
theorem step_fn:fnOk Tryz.prog 25=true:=by kernel_rfl
theorem retZ {h:Heap} {o:Outc} {e e':Int} (ho:o=⟨0,0,[],[],[]⟩) (he:e=e'):RetTo (Is (.tuple [.agg o.d,.g (.int e')])) h (.tuple [.agg [.g (.int 0),.g (.int 0),.nils,.nils,.nils],.g (.int e)]):=by
 subst ho;subst he
 exact retIs (.inr (.inr ⟨.inr ⟨lk rfl,lk rfl,lkNil,lkNil,lkNil,trivial⟩,lk rfl,trivial⟩))

set_option maxRecDepth 20000 in
set_option maxHeartbeats 1000000 in
theorem Run_any (m:Image) (hm:Image.I m) (d:List Int) (hd:d.length*8≤140737488351232) (part entry:Int) (args:List Int) (hargs:args.length*8≤140737488351232) (fuel:Int) :
  CT Tryz.prog gl 9 [.agg (imgD m),.g (.sl 1 (d.map intG)),.g (.int part),.g (.int entry),.g (.sl 1 (args.map intG)),.g (.int fuel)] (Is (.tuple [.agg (runV m d part entry args fuel).d,.g (.int (runE m d part entry args fuel))])):=by
 have lm:(m.map Part.g).length=m.length:=List.length_map _
 have la:(args.map intG).length=args.length:=List.length_map _
 have e:runE m d part entry args fuel=runE m d part entry args fuel:=rfl
 conv at e=>rhs;unfold runE
 refine enter hT hF hM Tryz.func9 rfl 115 rfl (by kernel_rfl) [.cell 12 41,.tmp 13] rfl [.agg (imgD m),.g (.sl 1 (d.map intG)),.g (.int part),.g (.int entry),.g (.sl 1 (args.map intG)),.g (.int fuel)] rfl _ ?_
 refine callIs (.inl rfl) (CheckData_any m hm d hd) ⟨fun h=>⟨rfl,retZ (runV_bad (e.trans (if_pos h)) h) (by rw[e,if_pos h])⟩,fun h=>?_⟩
 rw[if_neg (fun h'=>h' h)] at e
 have r5:(part < 0∨part ≥ m.length∨entry < 0∨entry ≥ (Barb.partAt m part).entries.length)→∀ h:Heap,RetTo (Is (.tuple [.agg (runV m d part entry args fuel).d,.g (.int (runE m d part entry args fuel))])) h (.tuple [.agg [.g (.int 0),.g (.int 0),.nils,.nils,.nils],.g (.int 5)]):=fun hb h=>by
  rw[if_pos hb] at e
  exact retZ (runV_bad e (by decide)) e.symm
 refine ⟨fun a1=>⟨rfl,r5 (.inl a1) _⟩,fun a1=>⟨fun a2=>⟨rfl,r5 (.inr (.inl (by omega))) _⟩,fun a2=>⟨fun a3=>⟨rfl,r5 (.inr (.inr (.inl a3))) _⟩,fun a3=>?_⟩⟩⟩
 obtain ⟨k,hk⟩:∃ k:Nat,part=(k:Int):=⟨part.toNat,by omega⟩
 have hkl:k < m.length:=by omega
 have hpk:Barb.partAt m part=m[k]:=by rw[hk];exact Barb.partAt_at hkl
 have le:(m[k].entries.map Entry.g).length=m[k].entries.length:=List.length_map _
 refine ⟨k,_,dI hk,gm hkl,?_⟩
 refine ⟨fun a4=>⟨rfl,r5 (.inr (.inr (.inr (by rw[hpk];omega)))) _⟩,fun a4=>?_⟩
 obtain ⟨q,hq⟩:∃ q:Nat,entry=(q:Int):=⟨entry.toNat,by omega⟩
 have hql:q < m[k].entries.length:=by omega
 have hent:entAt m part entry=m[k].entries[q]:=by unfold entAt;rw[hpk,hq];exact getD_of hql _
 rw[if_neg (by rw[hpk];omega),hent] at e
 clear r5
 refine ⟨k,_,dI hk,gm hkl,?_⟩
 refine ⟨q,_,dI hq,gm hql,?_⟩
 refine ⟨fun b1=>⟨rfl,?_⟩,fun b1=>?_⟩
 ·rw[if_pos (by rw[← la];exact b1)] at e
  exact retZ (runV_bad e (by decide)) e.symm
 rw[if_neg (by rw[← la];exact fun h'=>h' b1)] at e
 have r2:(fuel < 0∨fuel > 100000∨∃ n∈args,¬wordN n)→∀ h:Heap,RetTo (Is (.tuple [.agg (runV m d part entry args fuel).d,.g (.int (runE m d part entry args fuel))])) h (.tuple [.agg [.g (.int 0),.g (.int 0),.nils,.nils,.nils],.g (.int 2)]):=fun hb h=>by
  rw[if_pos hb] at e
  exact retZ (runV_bad e (by decide)) e.symm
 refine ⟨fun c1=>⟨rfl,r2 (.inl c1) _⟩,fun c1=>⟨fun c2=>⟨rfl,r2 (.inr (.inl c2)) _⟩,fun c2=>?_⟩⟩
 refine callIs (.inl rfl) (hasR_any args (by omega)) ⟨fun c3=>⟨rfl,r2 (.inr (.inr c3)) _⟩,fun c3=>?_⟩
 rw[if_neg (by intro hh;rcases hh with hh | hh | hh;exact c1 hh;exact c2 hh;exact c3 hh)] at e
 clear r2
 obtain ⟨n0,hn0⟩:∃ n0:Nat,fuel=(n0:Int):=⟨fuel.toNat,by omega⟩
 have hV:runV m d part entry args fuel=outOf (iterS m n0 ⟨[],d,[]⟩ [⟨part,m[k].entries[q].at_,p8 args,[],-1⟩]):=by
  unfold runV;rw[if_pos e,hent,hn0];rfl
 generalize hF:iterS m n0 ⟨[],d,[]⟩ [⟨part,m[k].entries[q].at_,p8 args,[],-1⟩]=R0 at hV
 obtain ⟨himg,hdw⟩:=dataE_ok h
 obtain ⟨hc1,hc2,hc3,hc4⟩:=code_ok himg hkl
 have hat:=hc4 _ (List.getElem_mem hql)
 refine ⟨some 1999,rfl,?_⟩
 refine ⟨_,_,_,.inl rfl,Clone_any (d.map intG) (by rw[List.length_map];exact hd),rfl,?_⟩
 refine callO [4,3] enter_fn rfl rfl ⟨rfl,.inl rfl,.inl rfl,rfl⟩ (enter1_any m d part m[k].entries[q].at_ (-1) args) (fun d' h' hq=>?_) (fun d' h' hq=>?_)
 rotate_left
 ·obtain ⟨N,hq⟩:=hq;cases hq
 obtain ⟨N,hq⟩:=hq
 injection hq with e1 e2;subst e1;subst e2
 refine .inl ?_
 have start:LInv m R0 ⟨0,0,⟨[],d,[]⟩,[newF part m[k].entries[q].at_ (-1) args],N,n0⟩:=by
  refine ⟨by show n0≤100000;omega,fun _=>⟨rfl,⟨himg,hdw,by simp,by simp,by simp,fun f hf=>?_⟩,by simp,hF⟩,fun hne=>absurd rfl hne⟩
  simp only[List.map_cons,List.map_nil,List.mem_cons,List.not_mem_nil,or_false] at hf
  subst hf
  exact ⟨⟨k,hk,hkl⟩,hat.1,by show m[k].entries[q].at_≤2000;omega,rfl,by simp[newF],by simp[newF]⟩
 refine loopR (ι:=LS) (fun i=>[(5,.g (.int (i.n:Int))),(16,.ptr 0 0),(12,.ptr 6 0)]) (fun i=>MHr m i.e i.val i.o i.gs i.N [.blk [.g (.int 0),.g (.int 0),.nils,.nils,.nils] 41]) (LInv m R0) (fun i=>i.n)
  ⟨⟨0,0,⟨[],d,[]⟩,[newF part m[k].entries[q].at_ (-1) args],N,n0⟩,[.old 4,.old 5,.old 6,.old 7,.old 8,.old 9,.old 1],⟨rfl,.inl rfl,.inr ⟨lkI hn0,lk rfl,lk rfl,trivial⟩,rfl⟩,start⟩ ?_
 rintro Rd hRd ⟨e1,val1,o1,gs1,N1,n1⟩ hinv
 have sub1:∀ {n:Nat},¬((n:Int)=0)→∃ n',n=n'+1:=fun {n} h=>⟨n - 1,by omega⟩
 have hn5:n1≤100000:=hinv.1
 by_cases h0:e1=0
 ·obtain ⟨hv,ok,hne,hit⟩:val1=0∧SOk m o1 (gs1.map Fr.f)∧gs1≠[]∧iterS m n1 o1 (gs1.map Fr.f)=R0:=hinv.2.1 h0
  obtain ⟨pre,t,hgs⟩:∃ pre t,gs1=pre++[t]:=by
   rcases List.eq_nil_or_concat gs1 with h | ⟨pre,t,h⟩
   ·exact absurd h hne
   ·exact ⟨pre,t,by rw[h,List.concat_eq_append]⟩
  subst h0;subst hv;subst hgs
  refine ⟨fun _=>?_,fun hx=>absurd rfl hx⟩
  refine ⟨fun hz=>?_,fun hz=>?_⟩
  ·refine .inl ?_
   refine .inl ?_
   refine ⟨rfl,retIs (.inl ?_)⟩
   show D.tuple [.agg [.g (.int 3),.g (.int 0),.g (.sl 1 (o1.told.map intG)),.g (.sl 1 (o1.data.map intG)),.g (.sl 7 (o1.calls.map Nt.g))],.g (.int 0)]=_
   have hz':(n1:Int)=0:=hz
   have hn1:n1=0:=by omega
   rw[e,hV,← hit,hn1]
   rfl
  ·obtain ⟨n2,hn2⟩:=sub1 hz
   subst hn2
   rw[List.map_append,List.map_cons,List.map_nil,iterS_snoc] at hit
   have hrok:=stepS_ok (m:=m) (o:=o1) (pre:=pre.map Fr.f) (t:=t.f) (by rw[List.map_append] at ok;exact ok)
   refine callR2 step_fn [.blk [.g (.int 0),.g (.int 0),.nils,.nils,.nils] 41] (step_any m o1 pre t N1 ok) rfl rfl rfl rfl (fun o2 gs2 N2 hx=>?_) (fun c v o2 gs2 N2 hx=>?_)
   ·rw[hx] at hit hrok
    refine .inl ?_
    refine ⟨(by unfold I64;omega:I64 (((n2+1:Nat):Int) - 1)),?_⟩
    exact hRd _ _ _ ⟨⟨0,0,o2,gs2,N2,n2⟩,[.old 0,.old 7,.old 8,.old 9,.old 10,.old 11,.old 6],⟨rfl,.inl rfl,.inr ⟨lkI (by push_cast;omega),lk rfl,lk rfl,trivial⟩,rfl⟩,⟨by show n2≤100000;omega,fun _=>⟨rfl,hrok.1,fun hq=>hrok.2 (by rw[show gs2=[] from hq];rfl),hit⟩,fun hq=>absurd rfl hq⟩,Nat.lt_succ_self n2⟩
   ·rw[hx] at hit hrok
    refine .inl ?_
    refine ⟨(by unfold I64;omega:I64 (((n2+1:Nat):Int) - 1)),?_⟩
    exact hRd _ _ _ ⟨⟨c,v,o2,gs2,N2,n2⟩,[.old 0,.old 7,.old 8,.old 9,.old 10,.old 11,.old 6],⟨rfl,.inl rfl,.inr ⟨lkI (by push_cast;omega),lk rfl,lk rfl,trivial⟩,rfl⟩,⟨by show n2≤100000;omega,fun hq=>absurd hq hrok,fun _=>hit.symm⟩,Nat.lt_succ_self n2⟩
 ·have hR:R0=(e1,val1,o1):=hinv.2.2 h0
  refine ⟨fun hx=>absurd hx h0,fun _=>?_⟩
  refine .inl ?_
  refine ⟨rfl,retIs (.inl ?_)⟩
  show D.tuple [.agg [.g (.int e1),.g (.int val1),.g (.sl 1 (o1.told.map intG)),.g (.sl 1 (o1.data.map intG)),.g (.sl 7 (o1.calls.map Nt.g))],.g (.int 0)]=_
  rw[e,hV,hR]
  rfl
end Go.Proofs.YtijdegmamdhcbaaGreatDoor
namespace Barb
open Go Go.Dm Go.Eng Go.Proofs.YtijdegmamdhcbaaGreatDoor
structure NoteOk (m:Image) (n:Nt):Prop where
 part:0≤n.part∧n.part < m.length
 entry:0≤n.entry∧n.entry < (m.getD n.part.toNat noPart).entries.length
 args:((m.getD n.part.toNat noPart).entries.getD n.entry.toNat noEntry).params=n.args.length
 deep:1≤n.deep∧n.deep≤20
 val:n.done=false→n.value=0
def R.all (P:MO→Prop):R→Prop
 | .go o fs=>P o∧fs≠[]
 | .stop c _ o=>P o∧1≤c∧c≤6∧c≠3
theorem pushS_all {P:MO→Prop} {o:MO} (h:P o) (pre:List PF) (t:PF) (n:Int):(pushS o pre t n).all P:=by
 unfold pushS
 split
 ·exact ⟨h,by decide,by decide,by decide⟩
 ·exact ⟨h,by simp⟩
theorem enterS_all {P:MO→Prop} {o:MO} (h:P o) (fs:List PF) (part at_ noted:Int) (args:List Int):(enterS o fs part at_ noted args).all P:=by
 unfold enterS
 split
 ·exact ⟨h,by decide,by decide,by decide⟩
 ·exact ⟨h,by simp⟩
structure KeepAt (P:MO→Prop) (o:MO):Prop where
 told:∀ x,P { o with told:=o.told++[x] }
 data:∀ i v,P { o with data:=o.data.set i v }
 note:∀ k v,P (noteS o k v)
def Keep (P:MO→Prop):Prop:=∀ o,P o→KeepAt P o
theorem memS_all {P:MO→Prop} {o:MO} (hk:KeepAt P o) (h:P o) (p:Part) (i:Instr) (pre:List PF) (t:PF):(memS p i o pre t).all P:=by
 unfold memS
 (repeat' split)
 ·exact ⟨h,by decide,by decide,by decide⟩
 ·exact ⟨h,by simp⟩
 ·exact ⟨h,by decide,by decide,by decide⟩
 ·exact ⟨h,by decide,by decide,by decide⟩
 ·exact ⟨hk.data _ _,by simp⟩
 ·exact ⟨h,by decide,by decide,by decide⟩
theorem retS_all {P:MO→Prop} {o:MO} (hk:KeepAt P o) (h:P o) (pre:List PF) (t:PF):(retS o pre t).all P:=by
 unfold retS
 split
 ·exact ⟨h,by decide,by decide,by decide⟩
 ·dsimp only
  split
  ·exact ⟨hk.note _ _,by decide,by decide,by decide⟩
  ·exact pushS_all (hk.note _ _) _ _ _
theorem wrdS_all {P:MO→Prop} {o:MO} (hk:KeepAt P o) (h:P o) (i:Instr) (pre:List PF) (t:PF):(wrdS i o pre t).all P:=by
 unfold wrdS
 dsimp only
 (repeat' split)
 all_goals first
  | exact pushS_all h _ _ _
  | exact ⟨h,by decide,by decide,by decide⟩
  | exact ⟨h,by simp⟩
  | exact ⟨hk.told _,by simp⟩
theorem gateS_all {m:Image} {P:MO→Prop} {o:MO} (h:P o) (i:Instr) (pre:List PF) (t:PF) (ha:0≤i.a∧0≤i.b∧0≤i.c) (hd:pre.length+1≤20)
  (hc:∀ n:Nt,NoteOk m n→P { o with calls:=o.calls++[n] }):(gateS m i o pre t).all P:=by
 unfold gateS
 split
 ·exact ⟨h,by decide,by decide,by decide⟩
 ·rename_i hw
  split
  ·exact ⟨h,by decide,by decide,by decide⟩
  ·rename_i hb
   dsimp only
   split
   ·refine enterS_all (hc _ ?_) _ _ _ _ _
    unfold gateBad at hb
    have hp:i.a < m.length:=by omega
    have he:i.b < ((m.getD i.a.toNat noPart).entries.length:Nat):=by omega
    have hq:((m.getD i.a.toNat noPart).entries.getD i.b.toNat noEntry).params=i.c:=Classical.byContradiction fun hh=>hb (.inr (.inr hh))
    refine ⟨⟨ha.1,hp⟩,⟨ha.2.1,he⟩,?_,⟨by show (1:Int)≤((pre.length+1:Nat):Int);omega,by show ((pre.length+1:Nat):Int)≤20;omega⟩,fun _=>rfl⟩
    show ((m.getD i.a.toNat noPart).entries.getD i.b.toNat noEntry).params=((t.off i.c.toNat).length:Int)
    rw[hq]
    unfold PF.off
    rw[List.length_drop]
    omega
   ·exact enterS_all h _ _ _ _ _
theorem ctlS_all {m:Image} {P:MO→Prop} {o:MO} (hk:KeepAt P o) (h:P o) (i:Instr) (pre:List PF) (t:PF) (ha:0≤i.a∧0≤i.b∧0≤i.c) (hd:pre.length+1≤20)
  (hc:∀ n:Nt,NoteOk m n→P { o with calls:=o.calls++[n] }):(ctlS m i o pre t).all P:=by
 unfold ctlS
 (repeat' split)
 all_goals first
  | exact gateS_all h i pre t ha hd hc
  | exact retS_all hk h pre t
  | exact enterS_all h _ _ _ _ _
  | exact ⟨h,by decide,by decide,by decide⟩
  | exact ⟨h,by simp⟩
theorem getD_instr {m:Image} (hi:imgE m=0) (k at_:Nat) (hk:k < m.length):0≤((m.getD k noPart).code.getD at_ noInstr).a∧0≤((m.getD k noPart).code.getD at_ noInstr).b∧0≤((m.getD k noPart).code.getD at_ noInstr).c:=by
 obtain ⟨_,_,h2,_⟩:=code_ok hi hk
 rw[show m.getD k noPart=m[k] by simp[hk]]
 by_cases ha:at_ < m[k].code.length
 ·rw[show m[k].code.getD at_ noInstr=m[k].code[at_] by simp[ha]]
  have:=h2 _ (List.getElem_mem ha)
  unfold instrE at this
  by_cases h1:¬(1≤m[k].code[at_].op∧m[k].code[at_].op≤15)
  ·rw[if_pos h1] at this;omega
  rw[if_neg h1] at this
  by_cases h3:instrBad m[k].code[at_]
  ·rw[if_pos h3] at this;omega
  unfold instrBad at h3
  omega
 ·rw[show m[k].code.getD at_ noInstr=noInstr by rw[List.getD_eq_getElem?_getD,List.getElem?_eq_none (by omega)];rfl]
  decide
theorem stepS_all {m:Image} {P:MO→Prop} {o:MO} (hk:KeepAt P o) {pre:List PF} {t:PF} (ok:SOk m o (pre++[t])) (h:P o) (hc:∀ n,NoteOk m n→P { o with calls:=o.calls++[n] }):(Barb.stepS m o pre t).all P:=by
 have hd:=ok.deep
 rw[List.length_append,List.length_singleton] at hd
 obtain ⟨⟨k,hpk,hkl⟩,_,_,_,_,_⟩:=ok.frs t (by simp)
 unfold Barb.stepS
 dsimp only
 split
 ·exact ⟨h,by decide,by decide,by decide⟩
 ·have hz:=getD_instr ok.img k t.at_.toNat hkl
  rw[hpk,Int.toNat_natCast]
  split
  ·exact memS_all hk h _ _ _ _
  ·split
   ·exact ctlS_all hk h _ _ _ hz hd hc
   ·exact wrdS_all hk h _ _ _
theorem last_split {α:Type} (l:List α) (h:l≠[]):∃ pre t,l=pre++[t]:=⟨l.dropLast,l.getLast h,(List.dropLast_concat_getLast h).symm⟩
theorem iterS_all {m:Image} {P:MO→Prop} (hk:Keep P) (hc:∀ o n,P o→NoteOk m n→P { o with calls:=o.calls++[n] }):∀ (n:Nat) (o:MO) (fs:List PF),SOk m o fs→fs≠[]→P o→P (iterS m n o fs).2.2∧1≤(iterS m n o fs).1
 | 0,o,fs,_,_,h=>⟨h,(by decide:(1:Int)≤3)⟩
 | n+1,o,fs,ok,hne,h=>by
  obtain ⟨pre,t,rfl⟩:=last_split fs hne
  rw[iterS_snoc]
  have hs:=stepS_all (hk o h) ok h (fun n hn=>hc o n h hn)
  have ho:=stepS_ok ok
  cases hx:Barb.stepS m o pre t with
  | go o' fs' =>
   rw[hx] at hs ho
   exact iterS_all hk hc n o' fs' ho.1 hs.2 hs.1
  | stop c v o' =>
   rw[hx] at hs
   exact ⟨hs.1,hs.2.1⟩
structure Hid (n:Nat) (d1 d2:List Int) (a b:MO):Prop where
 told:a.told=b.told
 one:a.data.take n=d1
 two:b.data.take n=d2
 own:a.data.drop n=b.data.drop n
def RH (n:Nat) (d1 d2:List Int) (K:Int):R→R→Prop
 | .go a fs,.go b gs=>Hid n d1 d2 a b∧fs=gs∧∀ f∈fs,f.part=K
 | .stop c v a,.stop c' v' b=>c=c'∧v=v'∧Hid n d1 d2 a b
 | _,_=>False
section
variable {n:Nat} {d1 d2:List Int} {K:Int} {a b:MO}
theorem Hid.set (h:Hid n d1 d2 a b) {i:Nat} (hi:n≤i) (v:Int):Hid n d1 d2 { a with data:=a.data.set i v } { b with data:=b.data.set i v }:=by
 have e1:∀ l:List Int,(l.set i v).take n=l.take n:=fun l=>by
  apply List.ext_getElem?
  intro j
  rw[List.getElem?_take,List.getElem?_take]
  split
  ·rw[List.getElem?_set_ne (by omega)]
  ·rfl
 have e2:∀ l:List Int,(l.set i v).drop n=(l.drop n).set (i - n) v:=fun l=>by rw[List.drop_set,if_neg (by omega)]
 exact ⟨h.told,(e1 _).trans h.one,(e1 _).trans h.two,by rw[e2,e2,h.own]⟩
end
theorem iterS_lens {m:Image}:∀ (n:Nat) {o:MO} {fs:List PF},SOk m o fs→(iterS m n o fs).2.2.told.length≤501∧(iterS m n o fs).2.2.data.length=o.data.length
 | 0,o,fs,ok=>⟨by have:=ok.told;show o.told.length≤501;omega,rfl⟩
 | n+1,o,fs,ok=>by
  by_cases hne:fs=[]
  ·subst hne
   exact ⟨by have:=ok.told;show o.told.length≤501;omega,rfl⟩
  obtain ⟨pre,t,rfl⟩:=last_split fs hne
  rw[iterS_snoc]
  have hs:=stepS_all (P:=fun o'=>o'.data.length=o.data.length∧o'.told.length≤501) (m:=m) ⟨fun x=>⟨rfl,by have:=ok.told;simp;omega⟩,fun _ _=>⟨by simp,by have:=ok.told;show o.told.length≤501;omega⟩,fun k v=>by have:=ok.told;unfold noteS;split<;>exact ⟨rfl,by show o.told.length≤501;omega⟩⟩ ok ⟨rfl,by have:=ok.told;omega⟩ (fun _ _=>⟨rfl,by have:=ok.told;show o.told.length≤501;omega⟩)
  have ho:=stepS_ok ok
  cases hx:Barb.stepS m o pre t with
  | go o' fs' =>
   rw[hx] at hs ho
   obtain ⟨h1,h2⟩:=iterS_lens n ho.1
   exact ⟨h1,h2.trans hs.1.1⟩
  | stop c v o' =>
   rw[hx] at hs
   exact ⟨hs.1.2,hs.1.1⟩
end Barb
