/-
  mem.Load and what the document says of it: the contracts.
-/
import Derived.Test.YtijdegmamdhcbaaGreatDoorZf
import Derived.Test.YtijdegmamdhcbaaGreatDoorGh
import Derived.Test.YtijdegmamdhcbaaGreatDoorZa
import Derived.WalkKit
import Derived.BigCall
import Derived.RegionTactic
namespace Barb
open Go Go.Dm Go.Eng
theorem img_ok {m:List Part} (h:imgE m=0):∀ i (hi:i < m.length),m[i].lo=fromAt m i∧m[i].lo≤m[i].hi∧m[i].hi≤250:=by
 intro i hi
 unfold imgE at h
 by_cases h5:5 < m.length
 ·rw[if_pos h5] at h;omega
 ·rw[if_neg h5] at h
  have hF:=firstN_zero h i hi
  rw[imgF_at hi] at hF
  unfold partE at hF
  by_cases h1:1200 < m[i].code.length∨8 < m[i].entries.length
  ·rw[if_pos h1] at hF;omega
  ·rw[if_neg h1] at hF
   by_cases h2:firstE instrE m[i].code≠0
   ·rw[if_pos h2] at hF;exact absurd hF h2
   ·rw[if_neg h2] at hF
    by_cases h3:firstE (entE m[i].code.length) m[i].entries≠0
    ·rw[if_pos h3] at hF;exact absurd hF h3
    ·rw[if_neg h3] at hF
     by_cases h4:¬m[i].lo=fromAt m i∨m[i].hi < m[i].lo∨250 < m[i].hi
     ·rw[if_pos h4] at hF;omega
     ·omega
theorem from_mono {m:List Part} (h:imgE m=0):∀ (k i:Nat),i+k≤m.length→fromAt m i≤fromAt m (i+k)
 | 0,i,_=>Int.le_refl _
 | k+1,i,hk=>by
  have h1:=from_mono h k i (by omega)
  have hl:i+k < m.length:=by omega
  have h2:=img_ok h (i+k) hl
  have h3:=fromAt_succ hl
  rw[show i+(k+1)=i+k+1 from by omega]
  omega
theorem img_in {m:List Part} (h:imgE m=0) {i:Nat} (hi:i < m.length):0≤m[i].lo∧m[i].lo≤m[i].hi∧m[i].hi≤imgWords m∧m[i].hi≤250:=by
 have h1:=img_ok h i hi
 have h2:=from_mono h i 0 (by omega)
 have h3:=from_mono h (m.length - (i+1)) (i+1) (by omega)
 rw[show i+1+(m.length - (i+1))=m.length from by omega,fromAt_succ hi] at h3
 have h4:fromAt m 0=0:=rfl
 rw[Nat.zero_add] at h2
 unfold imgWords
 omega
def partAt (m:List Part) (p:Int):Part:=m.getD p.toNat ⟨[],[],0,0⟩
theorem partAt_at {m:List Part} {k:Nat} (h:k < m.length):partAt m (k:Int)=m[k]:=by simp[partAt,h]
theorem dataE_ok {m:List Part} {d:List Int} (h:dataE m d=0):imgE m=0∧(d.length:Int)=imgWords m:=by
 unfold dataE at h
 by_cases h1:imgE m≠0
 ·rw[if_pos h1] at h;exact absurd h h1
 ·rw[if_neg h1] at h
  by_cases h2:¬((d.length:Int)=imgWords m)
  ·rw[if_pos h2] at h;omega
  ·exact ⟨Classical.not_not.1 h1,Classical.not_not.1 h2⟩
end Barb
namespace Go.Proofs.YtijdegmamdhcbaaGreatDoor
open Go Go.Dm Go.Eng Barb

end Go.Proofs.YtijdegmamdhcbaaGreatDoor
namespace Go.Dm
open Go Go.Eng Go.RowKit
theorem keep_fr {C:Ctx} {h:Heap} {β:Nat→Value} {V:Nat→Prop} {w w':World} (hr:RelD C h β V w) (hf:Fr (fun _=>False) w w'):RelD C h β V w'∧Moved V w V w':=by
 have hm:Moved V w V w':=fun k hk=>⟨hk,hf.block k (hr.vlt k hk) (fun h=>h)⟩
 refine ⟨⟨fun i o hi=>?_,hr.sep,hr.mine,hr.vout,fun k hk=>Nat.lt_of_lt_of_le (hr.vlt k hk) hf.size,hr.vin,hr.vnew,?_,hr.gl.move hm⟩,hm⟩
 ·cases hlv:o.live with
  | false=>cases o<;>simp_all [Obj.live,ObjOk]
  | true=>exact (hr.obj i o hi).keep (LeH.refl h β) hm rfl (fun k hk=>hf.block k (hr.lt hi hlv hk) (fun h=>h))
 ·refine ⟨hf.os.trans hr.fr.os,hf.tape.trans hr.fr.tape,hf.output.trans hr.fr.output,Nat.le_trans hr.fr.size hf.size,fun k hk hn=>?_⟩
  rw[hf.block k (Nat.lt_of_lt_of_le hk hr.fr.size) (fun h=>h)]
  exact hr.fr.block k hk hn
end Go.Dm
namespace Go.Proofs.YtijdegmamdhcbaaGreatDoor
open Go Go.Dm Go.Eng Go.RowKit

theorem top_raw (w:World) (g g2 n cap:Nat) (hn:n < 1000000) (hc:w.cell? ⟨g,6,none⟩=some (.slice (some ⟨g2,0,none⟩) (n+1) cap)) :
  Calls Tryz.prog 44 #[.pointer (some ⟨g,0,none⟩)] w fun e w'=>e=.returned (.pointer (some ⟨g2,n*12,none⟩))∧Fr (fun _=>False) w w':=by
 go_enter Tryz.func44,Tryz.ntmps44
 go_wp2
 go_region
 go_wp2
 go_ret
 exact ⟨rfl,rfl,rfl,rfl,Nat.le_refl _,fun _ _ _=>rfl⟩
theorem top_rd {h:Heap} {j k n:Nat} {cs:List D} {t e:TypeId} {xs:List (List GV)} (hj:h[j]?=some (.blk cs t)) (hc:cs[6]?=some (.row k)) (hk:h[k]?=some (.row xs e 12)) (hx:xs.length=n+1) (hn:n < 1000000) :
  CTR Tryz.prog gl 44 [.ptr j 0] h (.el k n 0):=by
 intro C w β V vals _ hr hd
 simp only[RepDL] at hd
 obtain ⟨v,us,rfl,h1,rfl⟩:=hd
 simp only[RepD,hj] at h1
 obtain ⟨g,hb,rfl⟩:=h1
 obtain ⟨g',vs,hb',hg,hcs⟩:=hr.obj j _ hj
 have eg:g'=g:=by rw[hb] at hb';injection hb' with hb';injection hb' with hb';injection hb' with hb';exact hb'.symm
 subst eg
 obtain ⟨v6,hv6,hr6⟩:=hcs.get hc
 simp only[RepD,hk] at hr6
 obtain ⟨us,hown,_⟩:=hr.obj k _ hk
 rcases hown.2 with ⟨_,h0⟩ | ⟨g2,cap,cur,hbk,_⟩
 ·omega
 have hcell:w.cell? ⟨g',6,none⟩=some (.slice (some ⟨g2,0,none⟩) (n+1) cap):=by
  rw[cell_of_row w _ _ _ _ _ hg,← hx,← hbk,← hr6]
  simpa using hv6
 refine (top_raw w g' g2 n cap hn hcell).mono fun e w' he=>?_
 obtain ⟨rfl,hf⟩:=he
 obtain ⟨q1,q2⟩:=keep_fr hr hf
 refine ⟨q1,?_,q2⟩
 simp only[RepD,hk]
 exact ⟨by omega,g2,_,_,hbk,rfl⟩
end Go.Proofs.YtijdegmamdhcbaaGreatDoor
/-
  mach: a machine's state, plain; and how it lies in memory.
-/
namespace Barb
open Go Go.Dm Go.Eng
structure Nt where
 by_:Int
 part:Int
 entry:Int
 args:List Int
 deep:Int
 done:Bool
 value:Int
def Nt.g (n:Nt):List GV:=[.int n.by_,.int n.part,.int n.entry,.sl 1 (n.args.map intG),.int n.deep,.bool n.done,.int n.value]
structure PF where
 part:Int
 at_:Int
 locs:List Int
 ws:List Int
 noted:Int
structure Fr where
 f:PF
 v:Value
structure MO where
 told:List Int
 data:List Int
 calls:List Nt
def Fr.g (x:Fr):List GV:=.int x.f.part :: .int x.f.at_ :: (x.f.locs.map .int++[.raw x.v,.int x.f.noted])
def Fr.z (t:Nat) (x:Fr):Value × Ob0:=(x.v,.row (x.f.ws.map intG) t 1)
def Fr.ww (x:Fr) (ws:List Int) (v:Value):Fr:=⟨{ x.f with ws:=ws },v⟩
def Fr.ok (x:Fr):Prop:=x.f.locs.length=8∧x.f.ws.length≤40
theorem Fr.g_at {x:Fr} (_hx:x.f.locs.length=8) {i:Nat} {n:Int} (hi:x.f.locs[i]?=some n):x.g[2+i]?=some (.int n):=by
 have hl:i < x.f.locs.length:=(List.getElem?_eq_some_iff.1 hi).1
 unfold Fr.g
 rw[show 2+i=i+1+1 from by omega,List.getElem?_cons_succ,List.getElem?_cons_succ,List.getElem?_append_left (by simpa using hl)]
 simp[hi]
theorem Fr.g_words {x:Fr} (hx:x.f.locs.length=8):x.g[10]?=some (.raw x.v):=by
 unfold Fr.g
 rw[List.getElem?_cons_succ,List.getElem?_cons_succ,List.getElem?_append_right (by simp[hx])]
 simp[hx]
theorem Fr.g_noted {x:Fr} (hx:x.f.locs.length=8):x.g[11]?=some (.int x.f.noted):=by
 unfold Fr.g
 rw[List.getElem?_cons_succ,List.getElem?_cons_succ,List.getElem?_append_right (by simp[hx])]
 simp[hx]
theorem Fr.g_len {x:Fr} (hx:x.f.locs.length=8):x.g.length=12:=by simp[Fr.g,hx]
theorem Fr.g_set_words {x:Fr} (hx:x.f.locs.length=8) (ws:List Int) (v:Value):setL x.g 10 [.raw v]=(x.ww ws v).g:=by
 simp only[setL,Fr.ww,Fr.g,List.set_cons_succ]
 rw[List.set_append_right _ _ (by simp[hx])]
 simp[hx]
theorem Fr.g_set_at {x:Fr} (n:Int):setL x.g 1 [.int n]=(Fr.mk { x.f with at_:=n } x.v).g:=rfl
theorem Fr.g_set_loc {x:Fr} (hx:x.f.locs.length=8) {i:Nat} (hi:i < 8) (n:Int):setL x.g (2+i) [.int n]=(Fr.mk { x.f with locs:=x.f.locs.set i n } x.v).g:=by
 simp only[setL,Fr.g]
 rw[show 2+i=i+1+1 from by omega,List.set_cons_succ,List.set_cons_succ,List.set_append_left _ _ (by simp[hx];exact hi),List.map_set]
theorem snoc_set {α β:Type} (f:α→β) (pre:List α) (t:α) (y:β) (t':α) (h:f t'=y):((pre++[t]).map f).set pre.length y=(pre++[t']).map f:=by
 subst h
 simp
theorem snoc_at {α β:Type} (f:α→β) (pre:List α) (t:α):((pre++[t]).map f)[pre.length]?=some (f t):=by simp
structure Ns where
 d:Value
 t:Value
 c:Value
 f:Value
abbrev Ns.withF (N:Ns) (f:Value):Ns:=⟨N.d,N.t,N.c,f⟩
end Barb
namespace Go.Proofs.YtijdegmamdhcbaaGreatDoor
open Go Go.Dm Go.Eng Go.RowKit Barb
abbrev fz:Fr→Value × Ob0:=Fr.z 3
abbrev MT (N:Ns):List (Value × Nat):=[(N.d,2),(N.t,3),(N.c,4),(N.f,5)]
abbrev MH (m:Image) (e val:Int) (o:MO) (fs:List Fr) (N:Ns):Heap :=
 [.blk [.g (.sl 4 (m.map Part.g)),.g (.int e),.g (.int val),.row 3,.row 2,.row 4,.row 5] 81,.many (fs.map fz) (MT N),.row (o.data.map intG) 3 1,.row (o.told.map intG) 3 1,.row (o.calls.map Nt.g) 165 7,
  .row (fs.map Fr.g) 115 12]
abbrev ns5 (N:Ns):List (Option Value):=[none,some N.d,some N.t,some N.c,some N.f]
theorem tg5 (m:Image) (e val:Int) (o:MO) (fs:List Fr) (N:Ns):tagsN (MH m e val o fs N) 1 1 (ns5 N) :=
 ⟨trivial,List.mem_cons_self,List.mem_cons_of_mem _ List.mem_cons_self,List.mem_cons_of_mem _ (List.mem_cons_of_mem _ List.mem_cons_self),List.mem_cons_of_mem _ (List.mem_cons_of_mem _ (List.mem_cons_of_mem _ List.mem_cons_self)),trivial⟩
theorem st5 {m:Image} {e val e' val':Int} {o o':MO} {fs fs':List Fr} {N:Ns} (h1:o.data.length=o'.data.length) (h2:o.told.length=o'.told.length) (h3:o.calls.length=o'.calls.length) (h4:fs.length=fs'.length):stayN (MH m e val o fs N) (MH m e' val' o' fs' N) 1 1 (ns5 N) :=
 ⟨trivial,List.mem_cons_self,⟨⟨by simpa using h1,rfl⟩,rfl⟩,List.mem_cons_of_mem _ List.mem_cons_self,⟨⟨by simpa using h2,rfl⟩,rfl⟩,List.mem_cons_of_mem _ (List.mem_cons_of_mem _ List.mem_cons_self),⟨⟨by simpa using h3,rfl⟩,rfl⟩,
  List.mem_cons_of_mem _ (List.mem_cons_of_mem _ (List.mem_cons_of_mem _ List.mem_cons_self)),⟨⟨by simpa using h4,rfl⟩,rfl⟩,trivial⟩
abbrev ns4 (N:Ns):List (Option Value):=[none,some N.d,some N.t,some N.c]
theorem tg4 (m:Image) (e val:Int) (o:MO) (fs:List Fr) (N:Ns):tagsN (MH m e val o fs N) 1 1 (ns4 N) :=
 ⟨trivial,List.mem_cons_self,List.mem_cons_of_mem _ List.mem_cons_self,List.mem_cons_of_mem _ (List.mem_cons_of_mem _ List.mem_cons_self),trivial⟩
theorem st4 {m:Image} {e val e' val':Int} {o o':MO} {fs fs':List Fr} {N:Ns} {f:Value} (h1:o.data.length=o'.data.length) (h2:o.told.length=o'.told.length) (h3:o.calls.length=o'.calls.length):stayN (MH m e val o fs N) (MH m e' val' o' fs' (N.withF f)) 1 1 (ns4 N) :=
 ⟨trivial,List.mem_cons_self,⟨⟨by simpa using h1,rfl⟩,rfl⟩,List.mem_cons_of_mem _ List.mem_cons_self,⟨⟨by simpa using h2,rfl⟩,rfl⟩,List.mem_cons_of_mem _ (List.mem_cons_of_mem _ List.mem_cons_self),⟨⟨by simpa using h3,rfl⟩,rfl⟩,trivial⟩
theorem endMH {R:D→Heap→Prop} {env:Dm.Env} {m:Image} {e val:Int} {o:MO} {fs:List Fr} {N:Ns} {h hin:Heap} {ns:List (Option Value)} {xs:List (List GV)} {l:List (Value × Ob0)} {told data calls:List (List GV)} {d0:D} (d:D) (src:List Src) (hok:srcOk src=true) (hlen:nrOk src (MH m e val o fs N)=true)
  (h0:conv h src 4 (env 0)=.ptr 0 0) (hd:conv h src 4 d0=d∨Like (newN src) 4 (conv h src 4 d0) d)
  (hT:turnH h src=[.blk [.g (.sl 4 (m.map Part.g)),.g (.int e),.g (.int val),.row 3,.row 2,.row 4,.row 5] 81,.many l (MT N),.row data 3 1,.row told 3 1,.row calls 165 7,.row xs 115 12])
  (e1:data=o.data.map intG) (e2:told=o.told.map intG) (e3:calls=o.calls.map Nt.g) (e4:xs=fs.map Fr.g) (e5:l.Perm (fs.map fz)) (hst:stayN hin (MH m e val o fs N) 1 1 ns) (q:R d (MH m e val o fs N)):ToH [0] hin 1 ns R h env d0:=by
 subst e1;subst e2;subst e3;subst e4
 refine ⟨src,d,MH m e val o fs N,⟨hok,.inr ?_,.inr ?_,hlen⟩,rfl,hst,q⟩
 ·rw[hT]
  exact ⟨⟨rfl,.inl rfl⟩,⟨e5,rfl⟩,⟨rfl,rfl,rfl⟩,⟨rfl,rfl,rfl⟩,⟨rfl,rfl,rfl⟩,⟨rfl,rfl,rfl⟩,trivial⟩
 ·rw[List.map_cons,List.map_cons,List.map_cons,h0]
  exact ⟨by rcases hd with hd | hd;exact lk hd;exact hd,lk rfl,trivial⟩
abbrev olds (a b c d e f:Nat):List Src:=[.old a,.old b,.old c,.old d,.old e,.old f]
end Go.Proofs.YtijdegmamdhcbaaGreatDoor
/-
  mach: words are put on and taken off the top frame.
-/
namespace Go.Proofs.YtijdegmamdhcbaaGreatDoor
open Go Go.Dm Go.Eng Go.RowKit Barb

theorem top_fn:fnOk Tryz.prog 44=true:=by kernel_rfl
theorem snoc_len {α:Type} (l:List α) (x y:α):(l++[x]).length=(l++[y]).length:=by simp
def pushQ (m:Image) (e val:Int) (o:MO) (pre:List Fr) (t:Fr) (N:Ns) (n:Int):Out→Prop:=fun out=>if t.f.ws.length=40 then out=.ret (.g (.bool false)) (MH m e val o (pre++[t]) N) else
 ∃ v',out=.ret (.g (.bool true)) (MH m e val o (pre++[t.ww (t.f.ws++[n]) v']) N)
theorem push_any (m:Image) (e val:Int) (o:MO) (pre:List Fr) (t:Fr) (N:Ns) (n:Int) (ht:t.ok) (hp:pre.length < 1000) :
  CTH Tryz.prog gl 68 6 (MH m e val o (pre++[t]) N) [.ptr 0 0,.g (.int n)] (pushQ m e val o pre t N n):=by
 refine enterH [] hT hF hM Tryz.func68 rfl 24 rfl (by kernel_rfl) [.tmp 4] rfl [.ptr 0 0,.g (.int n)] rfl (MH m e val o (pre++[t]) N) [0] rfl rfl rfl 1 (ns5 N) (tg5 _ _ _ _ _ _) _ ?_
 refine ⟨top_fn,.inr (semRd (top_rd rfl rfl rfl (n:=pre.length) (by simp) (by omega)) ?_)⟩
 refine ⟨_,snoc_at Fr.g pre t,ldG_at rfl (Fr.g_words ht.1) ?_⟩
 refine .inr (ghLend 1 (pre.map fz) [] (.row (t.f.ws.map intG) 3 1) rfl (by rw[List.map_append];rfl) (ghNo ?_))
 have hw:=ht.2
 have hwl:(t.f.ws.map intG).length=t.f.ws.length:=List.length_map _
 refine ⟨fun h=>?_,fun h=>?_⟩
 ·refine ⟨rfl,.inr (ghHide 1 6 t.v (.row (t.f.ws.map intG) 3 1) rfl (.head _) rfl ⟨rfl,rfl,rfl⟩ (ghNo (endMH (.g (.bool false)) (olds 0 1 2 3 4 5) rfl rfl rfl (.inl rfl) rfl rfl rfl rfl rfl ?_ (st5 rfl rfl rfl rfl) ?_)))⟩
  ·simp[fz,Fr.z]
  ·unfold pushQ;rw[if_pos (by omega)]
 ·refine ⟨_,snoc_at Fr.g pre t,ldG_at rfl (Fr.g_words ht.1) (.inr (ghTag 1 6 rfl (.head _) rfl (ghNo ?_)))⟩
  refine ⟨[[.int n]],rfl,rfl,⟨rfl,trivial⟩,?_⟩
  refine ⟨⟨by simp[maxLen];omega,by simp;omega⟩,?_⟩
  refine .inr (ghName 1 8 rfl rfl (fun v'=>ghNo ?_))
  refine ⟨_,[.raw v'],snoc_at Fr.g pre t,⟨rfl,trivial⟩,by rw[Fr.g_len ht.1];decide,(fun h=>by cases h),.inl ?_⟩
  refine ⟨rfl,.inr (ghHide 1 8 v' (.row ((t.f.ws++[n]).map intG) 3 1) rfl (.head _) rfl ⟨by simp[intG],rfl,rfl⟩ (ghNo (endMH (fs:=pre++[t.ww (t.f.ws++[n]) v']) (.g (.bool true)) (olds 0 1 2 3 4 5) rfl rfl rfl (.inl rfl) rfl rfl rfl rfl (snoc_set Fr.g pre t _ _ (Fr.g_set_words ht.1 _ _).symm) ?_ (st5 rfl rfl rfl (snoc_len _ _ _)) ?_)))⟩
  ·simp[fz,Fr.z,Fr.ww]
  ·unfold pushQ;rw[if_neg (by omega)]
   exact ⟨v',rfl⟩

def popQ (m:Image) (e val:Int) (o:MO) (pre:List Fr) (t:Fr) (N:Ns) (n:Nat):Out→Prop:=fun out =>
 if t.f.ws.length < n then out=.ret (.tuple [.nils,.g (.bool false)]) (MH m e val o (pre++[t]) N) else
  ∃ v',out=.ret (.tuple [.g (.sl 1 ((t.f.ws.drop (t.f.ws.length - n)).map intG)),.g (.bool true)]) (MH m e val o (pre++[t.ww (t.f.ws.take (t.f.ws.length - n)) v']) N)
theorem pop_any (m:Image) (e val:Int) (o:MO) (pre:List Fr) (t:Fr) (N:Ns) (n:Nat) (ht:t.ok) (hp:pre.length < 1000) (hn:n < 1000) :
  CTH Tryz.prog gl 66 6 (MH m e val o (pre++[t]) N) [.ptr 0 0,.g (.int (n:Int))] (popQ m e val o pre t N n):=by
 refine enterH [] hT hF hM Tryz.func66 rfl 37 rfl (by kernel_rfl) [.tmp 4,.tmp 5] rfl [.ptr 0 0,.g (.int (n:Int))] rfl (MH m e val o (pre++[t]) N) [0] rfl rfl rfl 1 (ns5 N) (tg5 _ _ _ _ _ _) _ ?_
 have hw:=ht.2
 have hwl:(t.f.ws.map intG).length=t.f.ws.length:=List.length_map _
 refine ⟨top_fn,.inr (semRd (top_rd rfl rfl rfl (n:=pre.length) (by simp) (by omega)) ?_)⟩
 refine ⟨_,snoc_at Fr.g pre t,ldG_at rfl (Fr.g_words ht.1) ?_⟩
 refine .inr (ghLend 1 (pre.map fz) [] (.row (t.f.ws.map intG) 3 1) rfl (by rw[List.map_append];rfl) (ghNo ?_))
 refine ⟨by unfold I64;omega,?_⟩
 refine ⟨fun h=>?_,fun h=>?_⟩
 ·refine ⟨rfl,.inr (ghHide 1 6 t.v (.row (t.f.ws.map intG) 3 1) rfl (.head _) rfl ⟨rfl,rfl,rfl⟩ (ghNo (endMH (.tuple [.nils,.g (.bool false)]) (olds 0 1 2 3 4 5) rfl rfl rfl (.inl rfl) rfl rfl rfl rfl rfl ?_ (st5 rfl rfl rfl rfl) ?_)))⟩
  ·simp[fz,Fr.z]
  ·unfold popQ
   rw[if_pos (by omega)]
 ·obtain ⟨k,hk⟩:∃ k:Nat,t.f.ws.length=k+n:=⟨t.f.ws.length - n,by omega⟩
  have hsub:D.g (.int (((t.f.ws.map intG).length:Int) - (n:Int)))=D.g (.int (k:Int)):=by rw[hwl,hk];congr 2;omega
  refine ⟨_,snoc_at Fr.g pre t,ldG_at rfl (Fr.g_words ht.1) (.inr (ghTag 1 6 rfl (.head _) rfl (ghNo ?_)))⟩
  refine ⟨k,hsub,by omega,.inl ?_⟩
  refine .inr (semRow (.inl rfl) (Clone_any _ ?_) ?_ ?_)
  ·simp;omega
  ·intro r hr g hg
   obtain ⟨x,_,rfl⟩:=List.mem_map.1 (List.mem_of_mem_drop (List.mem_of_mem_take hr))
   rcases List.mem_singleton.1 hg with rfl
   trivial
  refine ⟨_,snoc_at Fr.g pre t,ldG_at rfl (Fr.g_words ht.1) (.inr (ghTag 1 6 rfl (.head _) rfl (ghNo ?_)))⟩
  refine ⟨k,hsub,by omega,.inr (ghCut rfl (by omega) (ghName 1 8 rfl rfl (fun v'=>ghNo ?_)))⟩
  refine ⟨_,[.raw v'],snoc_at Fr.g pre t,⟨rfl,trivial⟩,by rw[Fr.g_len ht.1];decide,(fun h=>by cases h),.inl ?_⟩
  refine ⟨rfl,.inr (ghHide 1 8 v' (.row ((t.f.ws.take k).map intG) 3 1) rfl (.head _) rfl ⟨by rw[List.map_take],rfl,rfl⟩ (ghNo (endMH (fs:=pre++[t.ww (t.f.ws.take k) v']) (.tuple [.g (.sl 1 ((t.f.ws.drop k).map intG)),.g (.bool true)]) (olds 0 1 2 3 4 5) rfl rfl rfl (.inl ?_) rfl rfl rfl rfl (snoc_set Fr.g pre t _ _ (Fr.g_set_words ht.1 _ _).symm) ?_ (st5 rfl rfl rfl (snoc_len _ _ _)) ?_)))⟩
  ·show D.tuple [.g (.sl 1 (((t.f.ws.map intG).drop k).take _)),_]=_
   rw[List.take_of_length_le (by simp),List.map_drop]
   rfl
  ·simp[fz,Fr.z,Fr.ww]
  ·unfold popQ
   rw[if_neg (by omega),show t.f.ws.length - n=k from by omega]
   exact ⟨v',rfl⟩
end Go.Proofs.YtijdegmamdhcbaaGreatDoor
/-
  mach: a frame is entered; whose a word is.
-/
namespace Barb
open Go Go.Dm Go.Eng
def p8 (l:List Int):List Int:=[l.getD 0 0,l.getD 1 0,l.getD 2 0,l.getD 3 0,l.getD 4 0,l.getD 5 0,l.getD 6 0,l.getD 7 0]
theorem p8_set (l:List Int) (a b c d:D):setL [a,b,.g (.int 0),.g (.int 0),.g (.int 0),.g (.int 0),.g (.int 0),.g (.int 0),.g (.int 0),.g (.int 0),c,d] 2 ((((l.map intG).take 8).flatten).map .g) =
  [a,b,.g (.int (l.getD 0 0)),.g (.int (l.getD 1 0)),.g (.int (l.getD 2 0)),.g (.int (l.getD 3 0)),.g (.int (l.getD 4 0)),.g (.int (l.getD 5 0)),.g (.int (l.getD 6 0)),.g (.int (l.getD 7 0)),c,d]:=by
 match l with
 | []=>rfl
 | [_]=>rfl
 | [_,_]=>rfl
 | [_,_,_]=>rfl
 | [_,_,_,_]=>rfl
 | [_,_,_,_,_]=>rfl
 | [_,_,_,_,_,_]=>rfl
 | [_,_,_,_,_,_,_]=>rfl
 | _ :: _ :: _ :: _ :: _ :: _ :: _ :: _ :: _=>rfl
theorem seesG (h:Heap):∀ gs:List GV,SeesL h (gs.map .g) gs
 | []=>trivial
 | _ :: gs=>⟨rfl,seesG h gs⟩
def isOwn (p:Part) (at_:Int):Prop:=p.lo≤at_∧at_ < p.hi
instance (p:Part) (at_:Int):Decidable (isOwn p at_):=by unfold isOwn;infer_instance
def newF (part at_ noted:Int) (args:List Int):Fr:=⟨⟨part,at_,p8 args,[],noted⟩,.slice none 0 0⟩
end Barb
namespace Go.Proofs.YtijdegmamdhcbaaGreatDoor
open Go Go.Dm Go.Eng Go.RowKit Barb

def enterQ (m:Image) (e val:Int) (o:MO) (fs:List Fr) (N:Ns) (part at_ noted:Int) (args:List Int):Out→Prop:=fun out =>
 if fs.length=20 then out=.ret (.g (.int 5)) (MH m e val o fs N) else ∃ f,out=.ret (.g (.int 0)) (MH m e val o (fs++[newF part at_ noted args]) (N.withF f))
theorem enter_any (m:Image) (e val:Int) (o:MO) (fs:List Fr) (N:Ns) (part at_ noted:Int) (args:List Int) (hf:fs.length≤20) :
  CTH Tryz.prog gl 24 5 (MH m e val o fs N) [.ptr 0 0,.g (.int part),.g (.int at_),.g (.int noted),.g (.sl 1 (args.map intG))] (enterQ m e val o fs N part at_ noted args):=by
 refine enterH [] hT hF hM Tryz.func24 rfl 36 rfl (by kernel_rfl) [.tmp 10] rfl [.ptr 0 0,.g (.int part),.g (.int at_),.g (.int noted),.g (.sl 1 (args.map intG))] rfl (MH m e val o fs N) [0] rfl rfl rfl 1 (ns4 N) (tg4 _ _ _ _ _ _) _ ?_
 have hl:(fs.map Fr.g).length=fs.length:=List.length_map _
 refine ⟨fun h=>?_,fun h=>?_⟩
 ·refine ⟨rfl,.inl (endMH (.g (.int 5)) (olds 0 1 2 3 4 5) rfl rfl rfl (.inl rfl) rfl rfl rfl rfl rfl (List.Perm.refl _) (st4 rfl rfl rfl) ?_)⟩
  unfold enterQ
  rw[if_pos (by omega)]
 ·refine .inr (ghRaw (ghNo ?_))
  refine .inl ?_
  refine .inl ?_
  refine ⟨_,(p8_set args _ _ _ _).symm,?_⟩
  refine ⟨some 9998,[10],rfl,?_⟩
  refine ⟨[(newF part at_ noted args).g],rfl,rfl,seesG _ (newF part at_ noted args).g,⟨_,rfl⟩,?_⟩
  refine ⟨⟨by simp[maxLen];omega,by simp;omega⟩,?_⟩
  refine .inr (ghNameN 1 8 (fun v=>[(N.d,2),(N.t,3),(N.c,4),(v,8)]) rfl rfl (fun v t ht=>?_) (fun v'=>ghNo ?_))
  ·simp only[List.mem_cons,List.not_mem_nil,or_false] at ht ⊢
   rcases ht with rfl | rfl | rfl | rfl<;>simp
  refine ⟨rfl,.inr (ghNil 1 3 1 (by decide) rfl (ghNo (endMH (fs:=fs++[newF part at_ noted args]) (N:=N.withF v') (.g (.int 0)) (olds 0 1 2 3 4 8) rfl rfl rfl (.inl rfl) rfl rfl rfl rfl ?_ ?_ (st4 rfl rfl rfl) ?_)))⟩
  ·simp
  ·simp[fz,Fr.z,newF]
  ·unfold enterQ
   rw[if_neg (by omega)]
   exact ⟨v',rfl⟩

theorem own_fn:fnOk Tryz.prog 67=true:=by kernel_rfl
theorem ownM_any (m:Image) (e val:Int) (o:MO) (pre:List Fr) (t:Fr) (N:Ns) (k:Nat) (hk:k < m.length) (htk:t.f.part=(k:Int)) (at_:Int) (hp:pre.length < 1000) :
  CTH Tryz.prog gl 67 6 (MH m e val o (pre++[t]) N) [.ptr 0 0,.g (.int at_)] (fun out=>out=.ret (.pb (isOwn m[k] at_)) (MH m e val o (pre++[t]) N)):=by
 refine enterH [] hT hF hM Tryz.func67 rfl 28 rfl (by kernel_rfl) [.tmp 4] rfl [.ptr 0 0,.g (.int at_)] rfl (MH m e val o (pre++[t]) N) [0] rfl rfl rfl 1 (ns5 N) (tg5 _ _ _ _ _ _) _ ?_
 refine ⟨none,rfl,?_⟩
 refine ⟨top_fn,_,fun h' hx=>top_rd (hx _ _ rfl) rfl (hx _ _ rfl) (n:=pre.length) (by simp) (by omega),?_⟩
 refine ⟨_,snoc_at Fr.g pre t,?_⟩
 refine ⟨k,_,(show D.g (.int t.f.part)=D.g (.int (k:Int)) by rw[htk]),gm hk,?_⟩
 refine ⟨fun h=>?_,fun h=>?_⟩
 ·exact ⟨rfl,.inl (endMH _ (olds 0 1 2 3 4 5) rfl rfl rfl (.inr (lkP ⟨fun h2=>⟨h,h2⟩,fun h2=>h2.2⟩)) rfl rfl rfl rfl rfl (List.Perm.refl _) (st5 rfl rfl rfl rfl) rfl)⟩
 ·exact ⟨rfl,.inl (endMH _ (olds 0 1 2 3 4 5) rfl rfl rfl (.inr (lkBP ⟨fun h2=>(by cases h2),fun h2=>absurd h2.1 h⟩)) rfl rfl rfl rfl rfl (List.Perm.refl _) (st5 rfl rfl rfl rfl) rfl)⟩
end Go.Proofs.YtijdegmamdhcbaaGreatDoor
/-
  mach: what a step does, plain.
-/
namespace Barb
open Go Go.Dm Go.Eng Go.Proofs.YtijdegmamdhcbaaGreatDoor
inductive R where
 | go (o:MO) (fs:List PF)
 | stop (c v:Int) (o:MO)
def PF.ww (t:PF) (ws:List Int):PF:={ t with ws:=ws }
def pushS (o:MO) (pre:List PF) (t:PF) (n:Int):R:=if t.ws.length=40 then .stop 4 0 o else .go o (pre++[t.ww (t.ws++[n])])
def PF.off (t:PF) (n:Nat):List Int:=t.ws.drop (t.ws.length - n)
def PF.on (t:PF) (n:Nat):PF:=t.ww (t.ws.take (t.ws.length - n))
def enterS (o:MO) (fs:List PF) (part at_ noted:Int) (args:List Int):R:=if fs.length=20 then .stop 5 0 o else .go o (fs++[⟨part,at_,p8 args,[],noted⟩])
def memS (p:Part) (i:Instr) (o:MO) (pre:List PF) (t:PF):R :=
 if i.op=6 then
  if t.ws.length < 1 then .stop 4 0 o else
  if isOwn p ((t.off 1).getD 0 0) then .go o (pre++[t.ww ((t.on 1).ws++[o.data.getD ((t.off 1).getD 0 0).toNat 0])]) else .stop 4 0 o
 else
  if t.ws.length < 2 then .stop 4 0 o else
  if isOwn p ((t.off 2).getD 0 0) then .go { o with data:=o.data.set ((t.off 2).getD 0 0).toNat ((t.off 2).getD 1 0) } (pre++[t.on 2]) else .stop 4 0 o
def noPart:Part:=⟨[],[],0,0⟩
def noEntry:Entry:=⟨0,0⟩
def noInstr:Instr:=⟨0,0,0,0⟩
def gateBad (m:Image) (i:Instr):Prop:=i.a ≥ m.length∨i.b ≥ (m.getD i.a.toNat noPart).entries.length∨((m.getD i.a.toNat noPart).entries.getD i.b.toNat noEntry).params≠i.c
instance (m:Image) (i:Instr):Decidable (gateBad m i):=by unfold gateBad;infer_instance
def gateS (m:Image) (i:Instr) (o:MO) (pre:List PF) (t:PF):R :=
 if t.ws.length < i.c.toNat then .stop 4 0 o else if gateBad m i then .stop 4 0 o else
 let e:=(m.getD i.a.toNat noPart).entries.getD i.b.toNat noEntry
 let l:=t.off i.c.toNat
 if o.calls.length < 100 then enterS { o with calls:=o.calls++[⟨t.part,i.a,i.b,l,(pre.length+1:Nat),false,0⟩] } (pre++[t.on i.c.toNat]) i.a e.at_ o.calls.length l
 else enterS o (pre++[t.on i.c.toNat]) i.a e.at_ (-1) l
def Nt.fin (n:Nt) (v:Int):Nt:={ n with done:=true,value:=v }
def noteS (o:MO) (k:Int) (v:Int):MO:=if 0≤k then { o with calls:=o.calls.modify k.toNat (·.fin v) } else o
def retS (o:MO) (pre:List PF) (t:PF):R :=
 if t.ws.length < 1 then .stop 4 0 o else
 let v:=(t.off 1).getD 0 0
 match pre.getLast? with
 | none=>.stop 1 v (noteS o t.noted v)
 | some f=>pushS (noteS o t.noted v) pre.dropLast f v
def ctlS (m:Image) (i:Instr) (o:MO) (pre:List PF) (t:PF):R :=
 if i.op=9 then .go o (pre++[{ t with at_:=i.a }])
 else if i.op=10 then if t.ws.length < 1 then .stop 4 0 o else .go o (pre++[if (t.off 1).getD 0 0=0 then { t.on 1 with at_:=i.a } else t.on 1])
 else if i.op=11 then if t.ws.length < i.b.toNat then .stop 4 0 o else enterS o (pre++[t.on i.b.toNat]) t.part i.a (-1) (t.off i.b.toNat)
 else if i.op=12 then gateS m i o pre t
 else if i.op=13 then retS o pre t
 else .stop 2 0 o
def wrdS (i:Instr) (o:MO) (pre:List PF) (t:PF):R :=
 if i.op=1 then pushS o pre t i.a
 else if i.op=4 then pushS o pre t (t.locs.getD i.a.toNat 0)
 else
  let n:Nat:=if i.op=8 then 2 else 1
  if t.ws.length < n then .stop 4 0 o else
  let x:=(t.off n).getD 0 0
  if i.op=3 then if t.ws.length=40 then .stop 4 0 o else .go o (pre++[t.ww (t.ws++[x])])
  else if i.op=5 then .go o (pre++[{ t.on 1 with locs:=t.locs.set i.a.toNat x }])
  else if i.op=14 then if o.told.length=500 then .stop 6 0 o else .go { o with told:=o.told++[x] } (pre++[t.on 1])
  else if i.op=8 then .go o (pre++[t.ww ((t.on 2).ws++[doI i.a x ((t.off 2).getD 1 0)])])
  else .go o (pre++[t.on 1])
def stepS (m:Image) (o:MO) (pre:List PF) (t:PF):R :=
 let p:=m.getD t.part.toNat noPart
 if t.at_ ≥ p.code.length then .stop 4 0 o else
 let i:=p.code.getD t.at_.toNat noInstr
 let t:={ t with at_:=t.at_+1 }
 if i.op=6∨i.op=7 then memS p i o pre t
 else if i.op=9∨i.op=10∨i.op=11∨i.op=12∨i.op=13∨i.op=15 then ctlS m i o pre t
 else wrdS i o pre t

structure PF.ok (m:Image) (calls:List Nt) (t:PF):Prop where
 part:∃ k:Nat,t.part=(k:Int)∧k < m.length
 at0:0≤t.at_
 at1:t.at_≤2000
 locs:t.locs.length=8
 ws:t.ws.length≤40
 noted:t.noted < calls.length
structure SOk (m:Image) (o:MO) (fs:List PF):Prop where
 img:imgE m=0
 data:(o.data.length:Int)=imgWords m
 told:o.told.length≤500
 calls:o.calls.length≤100
 deep:fs.length≤20
 frs:∀ f∈fs,f.ok m o.calls
end Barb
namespace Barb
open Go Go.Dm Go.Eng
theorem isOwn_at {m:List Part} {d:List Int} (hi:imgE m=0) (hd:(d.length:Int)=imgWords m) {k:Nat} (hk:k < m.length) {a:Int} (ho:isOwn m[k] a):∃ n:Nat,a=(n:Int)∧n < d.length:=by
 obtain ⟨h1,h2,h3,h4⟩:=img_in hi hk
 obtain ⟨h5,h6⟩:=ho
 exact ⟨a.toNat,by omega,by omega⟩
theorem off_one {ws:List Int} {k:Nat} (h:ws.length=k+1):∃ x,ws.drop k=[x]∧ws=ws.take k++[x]:=by
 have h1:(ws.drop k).length=1:=by simp[h]
 match hd:ws.drop k,h1 with
 | [x],_=>exact ⟨x,rfl,by rw[← hd,List.take_append_drop]⟩
theorem off_two {ws:List Int} {k:Nat} (h:ws.length=k+2):∃ x y,ws.drop k=[x,y]∧ws=ws.take k++[x,y]:=by
 have h1:(ws.drop k).length=2:=by simp[h]
 match hd:ws.drop k,h1 with
 | [x,y],_=>exact ⟨x,y,rfl,by rw[← hd,List.take_append_drop]⟩
end Barb
namespace Go.Proofs.YtijdegmamdhcbaaGreatDoor
open Go Go.Dm Go.Eng Go.RowKit Barb

theorem pop_fn:fnOk Tryz.prog 66=true:=by kernel_rfl
theorem push_fn:fnOk Tryz.prog 68=true:=by kernel_rfl
theorem enter_fn:fnOk Tryz.prog 24=true:=by kernel_rfl
def RQ (m:Image):R→Out→Prop
 | .go o fs,out=>∃ (gs:List Fr) (N:Ns),gs.map Fr.f=fs∧out=.ret (.g (.int 0)) (MH m 0 0 o gs N)
 | .stop c v o,out=>∃ (gs:List Fr) (N:Ns),out=.ret (.g (.int c)) (MH m 0 v o gs N)
theorem popQ_ret {m:Image} {e val:Int} {o:MO} {pre:List Fr} {t:Fr} {N:Ns} {n:Nat} {out:Out} (h:popQ m e val o pre t N n out):(t.f.ws.length < n∧out=.ret (.tuple [.nils,.g (.bool false)]) (MH m e val o (pre++[t]) N)) ∨
  (n≤t.f.ws.length∧∃ v',out=.ret (.tuple [.g (.sl 1 ((t.f.ws.drop (t.f.ws.length - n)).map intG)),.g (.bool true)]) (MH m e val o (pre++[t.ww (t.f.ws.take (t.f.ws.length - n)) v']) N)):=by
 unfold popQ at h
 split at h
 ·exact .inl ⟨by assumption,h⟩
 ·exact .inr ⟨by omega,h⟩
abbrev MHr (m:Image) (e val:Int) (o:MO) (fs:List Fr) (N:Ns) (r:Heap):Heap :=
 .blk [.g (.sl 4 (m.map Part.g)),.g (.int e),.g (.int val),.row 3,.row 2,.row 4,.row 5] 81 :: .many (fs.map fz) (MT N) :: .row (o.data.map intG) 3 1 :: .row (o.told.map intG) 3 1 :: .row (o.calls.map Nt.g) 165 7 ::
  .row (fs.map Fr.g) 115 12 :: r
theorem putO_rest (b:Nat) (f:Nat→Nat) (h':Heap):∀ (r:Heap) (p:Nat),putO [.old 0,.old 1,.old 2,.old 3,.old 4,.old 5] b f h' (p+6) r=r
 | [],_=>rfl
 | x :: r,p=>by
  simp only[putO]
  rw[show p+6+1=p+1+6 from by omega,putO_rest b f h' r (p+1)]
  congr 1
theorem putM (m m':Image) (e e' val val':Int) (o o':MO) (fs fs':List Fr) (N N':Ns) (r:Heap):putH (MHr m e val o fs N r) [0,1,2,3,4,5] 6 (MH m' e' val' o' fs' N')=MHr m' e' val' o' fs' N' r:=by
 unfold putH
 simp only[List.map_cons,List.map_nil,putO]
 rw[show (0+1+1+1+1+1+1:Nat)=0+6 from rfl,putO_rest]
 show _++[]=_
 rw[List.append_nil]
 rfl
theorem turnM (m:Image) (e val:Int) (o:MO) (fs:List Fr) (N:Ns) (r:Heap) (n:D) (hn:conv (MHr m e val o fs N r) (olds 0 1 2 3 4 5) 4 n=n):TurnTo (MHr m e val o fs N r) (olds 0 1 2 3 4 5) [.ptr 0 0,n] (MH m e val o fs N) [.ptr 0 0,n] :=
 ⟨rfl,.inl rfl,.inl (by rw[List.map_cons,List.map_cons,List.map_nil,hn];rfl),rfl⟩
theorem callPop {all:List D} {h:Heap} {K Qp:KD} {m:Image} {e val:Int} {o:MO} {pre:List Fr} {t:Fr} {N:Ns} {n:Nat} (r:Heap) (ht:t.ok) (hp:pre.length < 1000) (hn:n < 1000)
  (hh:h=MHr m e val o (pre++[t]) N r) (ha:all=[.ptr 0 0,.g (.int (n:Int))])
  (hno:t.f.ws.length < n→K (.tuple [.nils,.g (.bool false)]) (MHr m e val o (pre++[t]) N r))
  (hyes:∀ v',n≤t.f.ws.length→K (.tuple [.g (.sl 1 ((t.f.ws.drop (t.f.ws.length - n)).map intG)),.g (.bool true)]) (MHr m e val o (pre++[t.ww (t.f.ws.take (t.f.ws.length - n)) v']) N r)) :
  fnOk Tryz.prog 66=true∧(OwnCall Tryz.prog gl 66 all h K Qp∨SemCall Tryz.prog gl 66 all h K Qp):=by
 subst hh;subst ha
 refine callO [0,1,2,3,4,5] pop_fn rfl rfl (turnM _ _ _ _ _ _ _ _ rfl) (pop_any m e val o pre t N n ht hp hn) (fun d' h' hq=>?_) (fun d' h' hq=>?_)
 ·rcases popQ_ret hq with ⟨h1,h2⟩ | ⟨h1,v',h2⟩
  ·injection h2 with e1 e2;subst e1;subst e2;rw[putM];exact hno h1
  ·injection h2 with e1 e2;subst e1;subst e2;rw[putM];exact hyes v' h1
 ·rcases popQ_ret hq with ⟨_,h2⟩ | ⟨_,v',h2⟩<;>cases h2
theorem callPush {all:List D} {h:Heap} {K Qp:KD} {m:Image} {e val:Int} {o:MO} {pre:List Fr} {t:Fr} {N:Ns} {n:Int} (r:Heap) (ht:t.ok) (hp:pre.length < 1000)
  (hh:h=MHr m e val o (pre++[t]) N r) (ha:all=[.ptr 0 0,.g (.int n)])
  (hno:t.f.ws.length=40→K (.g (.bool false)) (MHr m e val o (pre++[t]) N r))
  (hyes:∀ v',¬t.f.ws.length=40→K (.g (.bool true)) (MHr m e val o (pre++[t.ww (t.f.ws++[n]) v']) N r)) :
  fnOk Tryz.prog 68=true∧(OwnCall Tryz.prog gl 68 all h K Qp∨SemCall Tryz.prog gl 68 all h K Qp):=by
 subst hh;subst ha
 refine callO [0,1,2,3,4,5] push_fn rfl rfl (turnM _ _ _ _ _ _ _ _ rfl) (push_any m e val o pre t N n ht hp) (fun d' h' hq=>?_) (fun d' h' hq=>?_)
 ·unfold pushQ at hq
  split at hq
  ·injection hq with e1 e2;subst e1;subst e2;rw[putM];exact hno (by assumption)
  ·obtain ⟨v',hq⟩:=hq
   injection hq with e1 e2;subst e1;subst e2;rw[putM];exact hyes v' (by assumption)
 ·unfold pushQ at hq
  split at hq
  ·cases hq
  ·obtain ⟨v',hq⟩:=hq;cases hq
theorem callOwn {all:List D} {h:Heap} {K Qp:KD} {m:Image} {e val:Int} {o:MO} {pre:List Fr} {t:Fr} {N:Ns} {k:Nat} (r:Heap) (hk:k < m.length) (htk:t.f.part=(k:Int)) {at_:Int} (hp:pre.length < 1000)
  (hh:h=MHr m e val o (pre++[t]) N r) (ha:all=[.ptr 0 0,.g (.int at_)])
  (hyes:K (.pb (isOwn m[k] at_)) (MHr m e val o (pre++[t]) N r)) :
  fnOk Tryz.prog 67=true∧(OwnCall Tryz.prog gl 67 all h K Qp∨SemCall Tryz.prog gl 67 all h K Qp):=by
 subst hh;subst ha
 refine callO [0,1,2,3,4,5] own_fn rfl rfl (turnM _ _ _ _ _ _ _ _ rfl) (ownM_any m e val o pre t N k hk htk at_ hp) (fun d' h' hq=>?_) (fun d' h' hq=>by cases hq)
 injection hq with e1 e2;subst e1;subst e2;rw[putM];exact hyes

theorem memory_any (m:Image) (o:MO) (pre:List Fr) (t:Fr) (N:Ns) (i:Instr) (k:Nat) (hk:k < m.length) (htk:t.f.part=(k:Int)) (himg:imgE m=0) (hd:(o.data.length:Int)=imgWords m) (ht:t.ok) (hp:pre.length < 1000) :
  CTH Tryz.prog gl 45 1 (MH m 0 0 o (pre++[t]) N) [.ptr 0 0,.agg i.d] (RQ m (memS m[k] i o (pre.map Fr.f) t.f)):=by
 have hw:=ht.2
 suffices H:∀ r:R,memS m[k] i o (pre.map Fr.f) t.f=r→CTH Tryz.prog gl 45 1 (MH m 0 0 o (pre++[t]) N) [.ptr 0 0,.agg i.d] (RQ m r) from H _ rfl
 intro r hr
 have ok':∀ (ws:List Int) (v:Value),ws.length≤40→(t.ww ws v).ok:=fun ws v h=>⟨ht.1,h⟩
 refine enterH [] hT hF hM Tryz.func45 rfl 69 rfl (by kernel_rfl) [.tmp 4] rfl [.ptr 0 0,.agg i.d] rfl (MH m 0 0 o (pre++[t]) N) [0] rfl rfl rfl 1 [] trivial _ ?_
 refine ⟨fun h6=>?_,fun h6=>?_⟩
 ·refine callPop (n:=1) [.blk i.d 109] ht hp (by decide) rfl rfl (fun hl=>?_) (fun v' hl=>?_)
  ·refine ⟨some 9999,[7,14],rfl,?_⟩
   refine ⟨rfl,.inl (endMH (.g (.int 4)) (olds 0 1 2 3 4 5) rfl rfl rfl (.inl rfl) rfl rfl rfl rfl rfl (List.Perm.refl _) trivial ?_)⟩
   rw[← hr]
   unfold memS
   rw[if_pos h6,if_pos hl]
   exact ⟨_,_,rfl⟩
  ·obtain ⟨q,hlen⟩:∃ q,t.f.ws.length=q+1:=⟨t.f.ws.length - 1,by omega⟩
   obtain ⟨x,hx,hws⟩:=off_one hlen
   have hoff:t.f.off 1=[x]:=by unfold PF.off;rw[hlen];exact hx
   rw[show t.f.ws.length - 1=q from by omega,hx]
   have hmem:memS m[k] i o (pre.map Fr.f) t.f=if isOwn m[k] x then .go o (pre.map Fr.f++[t.f.ww ((t.f.on 1).ws++[o.data.getD x.toNat 0])]) else .stop 4 0 o:=by
    unfold memS
    rw[if_pos h6,if_neg (by omega),hoff]
    rfl
   rw[hmem] at hr
   refine ⟨some 9999,[7,14],rfl,?_⟩
   refine ⟨0,[.int x],rfl,rfl,?_⟩
   refine callOwn (t:=t.ww (t.f.ws.take q) v') [.blk i.d 109] hk htk hp rfl rfl ?_
   refine ⟨fun ho=>?_,fun ho=>?_⟩
   ·refine ⟨rfl,.inl (endMH (.g (.int 4)) (olds 0 1 2 3 4 5) rfl rfl rfl (.inl rfl) rfl rfl rfl rfl rfl (List.Perm.refl _) trivial ?_)⟩
    rw[← hr,if_neg ho]
    exact ⟨_,_,rfl⟩
   ·obtain ⟨n,hxn,hn⟩:=isOwn_at himg hd hk ho
    have dx:D.g (.int x)=D.g (.int (n:Int)):=by rw[hxn]
    rw[if_pos ho] at hr
    have hln:(o.data.map intG).length=o.data.length:=List.length_map _
    refine ⟨0,[.int x],rfl,rfl,?_⟩
    refine ⟨n,dx,by omega,?_⟩
    refine ⟨_,gm hn,?_⟩
    refine callPush (t:=t.ww (t.f.ws.take q) v') [.blk i.d 109] (ok' _ _ (by simp;omega)) hp rfl rfl (fun h40=>?_) (fun v2 h40=>?_)
    ·exfalso
     simp[Fr.ww] at h40;omega
    refine ⟨rfl,.inl (endMH (.g (.int 0)) (olds 0 1 2 3 4 5) rfl rfl rfl (.inl rfl) rfl rfl rfl rfl rfl (List.Perm.refl _) trivial ?_)⟩
    rw[← hr]
    refine ⟨_,_,?_,rfl⟩
    rw[List.map_append]
    show _++[t.f.ww (t.f.ws.take q++[o.data[n]])]=_++[t.f.ww (t.f.ws.take (t.f.ws.length - 1)++[_])]
    rw[show t.f.ws.length - 1=q from by omega]
    simp[hn,hxn]
 ·refine callPop (n:=2) [.blk i.d 109] ht hp (by decide) rfl rfl (fun hl=>?_) (fun v' hl=>?_)
  ·refine ⟨rfl,.inl (endMH (.g (.int 4)) (olds 0 1 2 3 4 5) rfl rfl rfl (.inl rfl) rfl rfl rfl rfl rfl (List.Perm.refl _) trivial ?_)⟩
   rw[← hr]
   unfold memS
   rw[if_neg h6,if_pos hl]
   exact ⟨_,_,rfl⟩
  ·obtain ⟨q,hlen⟩:∃ q,t.f.ws.length=q+2:=⟨t.f.ws.length - 2,by omega⟩
   obtain ⟨x,y,hx,hws⟩:=off_two hlen
   have hoff:t.f.off 2=[x,y]:=by unfold PF.off;rw[hlen];exact hx
   rw[show t.f.ws.length - 2=q from by omega,hx]
   have hmem:memS m[k] i o (pre.map Fr.f) t.f=if isOwn m[k] x then .go { o with data:=o.data.set x.toNat y } (pre.map Fr.f++[t.f.on 2]) else .stop 4 0 o:=by
    unfold memS
    rw[if_neg h6,if_neg (by omega),hoff]
    rfl
   rw[hmem] at hr
   refine ⟨0,[.int x],rfl,rfl,?_⟩
   refine callOwn (t:=t.ww (t.f.ws.take q) v') [.blk i.d 109] hk htk hp rfl rfl ?_
   refine ⟨fun ho=>?_,fun ho=>?_⟩
   ·refine ⟨rfl,.inl (endMH (.g (.int 4)) (olds 0 1 2 3 4 5) rfl rfl rfl (.inl rfl) rfl rfl rfl rfl rfl (List.Perm.refl _) trivial ?_)⟩
    rw[← hr,if_neg ho]
    exact ⟨_,_,rfl⟩
   ·obtain ⟨n,hxn,hn⟩:=isOwn_at himg hd hk ho
    have dx:D.g (.int x)=D.g (.int (n:Int)):=by rw[hxn]
    rw[if_pos ho] at hr
    have hln:(o.data.map intG).length=o.data.length:=List.length_map _
    refine ⟨none,rfl,?_⟩
    refine ⟨0,[.int x],rfl,rfl,?_⟩
    refine ⟨1,[.int y],rfl,rfl,?_⟩
    refine ⟨n,dx,by omega,?_⟩
    refine ⟨_,[.int y],gm hn,⟨rfl,trivial⟩,Nat.le_refl 1,(fun h=>by cases h),?_⟩
    refine ⟨rfl,.inl (endMH (o:={ o with data:=o.data.set n y }) (.g (.int 0)) (olds 0 1 2 3 4 5) rfl rfl rfl (.inl rfl) rfl ?_ rfl rfl rfl (List.Perm.refl _) trivial ?_)⟩
    ·rw[List.map_set];rfl
    rw[← hr,hxn]
    refine ⟨_,_,?_,rfl⟩
    rw[List.map_append]
    show _++[t.f.ww (t.f.ws.take q)]=_++[t.f.ww (t.f.ws.take (t.f.ws.length - 2))]
    rw[show t.f.ws.length - 2=q from by omega]
end Go.Proofs.YtijdegmamdhcbaaGreatDoor
/-
  mach: a state that may be stays one.
-/
namespace Barb
open Go Go.Dm Go.Eng Go.Proofs.YtijdegmamdhcbaaGreatDoor
theorem instr_rng {x:Instr} (h:instrE x=0):1≤x.op∧x.op≤15∧0≤x.a∧x.a≤bdA x.op∧0≤x.b∧x.b≤bdB x.op∧0≤x.c∧x.c≤bdC x.op∧(x.op=8→1≤x.a):=by
 unfold instrE at h
 by_cases h1:¬(1≤x.op∧x.op≤15)
 ·rw[if_pos h1] at h;omega
 ·rw[if_neg h1] at h
  by_cases h2:instrBad x
  ·rw[if_pos h2] at h;omega
  ·unfold instrBad at h2
   omega
theorem code_ok {m:List Part} (h:imgE m=0) {k:Nat} (hk:k < m.length):m[k].code.length≤1200∧m[k].entries.length≤8∧(∀ x∈m[k].code,instrE x=0)∧(∀ x∈m[k].entries,0≤x.at_∧x.at_ < m[k].code.length∧0≤x.params∧x.params≤4):=by
 unfold imgE at h
 by_cases h5:5 < m.length
 ·rw[if_pos h5] at h;omega
 ·rw[if_neg h5] at h
  have hF:=firstN_zero h k hk
  rw[imgF_at hk] at hF
  unfold partE at hF
  by_cases h1:1200 < m[k].code.length∨8 < m[k].entries.length
  ·rw[if_pos h1] at hF;omega
  ·rw[if_neg h1] at hF
   by_cases h2:firstE instrE m[k].code≠0
   ·rw[if_pos h2] at hF;exact absurd hF h2
   ·rw[if_neg h2] at hF
    by_cases h3:firstE (entE m[k].code.length) m[k].entries≠0
    ·rw[if_pos h3] at hF;exact absurd hF h3
    ·refine ⟨by omega,by omega,firstE_all (Classical.not_not.1 h2),fun x hx=>?_⟩
     have he:=firstE_all (Classical.not_not.1 h3) x hx
     unfold entE at he
     by_cases h4:entBad m[k].code.length x
     ·rw[if_pos h4] at he;omega
     ·unfold entBad at h4
      omega
theorem PF.ok.more {m:Image} {c c':List Nt} {t:PF} (h:t.ok m c) (hc:c.length≤c'.length):t.ok m c':=⟨h.part,h.at0,h.at1,h.locs,h.ws,by have:=h.noted;omega⟩
theorem SOk.init {m:Image} {o:MO} {fs:List PF} {t:PF} (h:SOk m o (fs++[t])):t.ok m o.calls:=h.frs t (by simp)
theorem SOk.rest {m:Image} {o:MO} {fs:List PF} {t:PF} (h:SOk m o (fs++[t])):SOk m o fs:=⟨h.img,h.data,h.told,h.calls,by have:=h.deep;simp at this;omega,fun f hf=>h.frs f (by simp[hf])⟩
theorem SOk.snoc {m:Image} {o o':MO} {fs:List PF} {t:PF} (h:SOk m o fs) (hd:o'.data.length=o.data.length) (ht:o'.told.length≤500) (hc:o.calls.length≤o'.calls.length) (hc':o'.calls.length≤100) (hf:fs.length < 20) (ok:t.ok m o'.calls):SOk m o' (fs++[t]) :=
 ⟨h.img,by rw[hd];exact h.data,ht,hc',by simp;omega,fun f hf=>by
  rcases List.mem_append.1 hf with hf | hf
  ·exact (h.frs f hf).more hc
  ·rcases List.mem_singleton.1 hf with rfl;exact ok⟩
def ROk (m:Image):R→Prop
 | .go o fs=>SOk m o fs∧fs≠[]
 | .stop c _ _=>c≠0
theorem pushS_ok {m:Image} {o:MO} {pre:List PF} {t:PF} (h:SOk m o (pre++[t])) (n:Int):ROk m (pushS o pre t n):=by
 unfold pushS
 have ht:=h.init
 have hw:=ht.ws
 have hl:=h.deep
 simp only[List.length_append,List.length_singleton] at hl
 split
 ·simp[ROk]
 ·refine ⟨h.rest.snoc rfl h.told (Nat.le_refl _) h.calls (by omega) ⟨ht.part,ht.at0,ht.at1,ht.locs,?_,ht.noted⟩,by simp⟩
  show (t.ws++[n]).length≤40
  simp;omega
theorem enterS_ok {m:Image} {o:MO} {fs:List PF} (h:SOk m o fs) {part at_ noted:Int} {args:List Int} (hp:∃ k:Nat,part=(k:Int)∧k < m.length) (ha:0≤at_∧at_≤2000) (hn:noted < o.calls.length):ROk m (enterS o fs part at_ noted args):=by
 unfold enterS
 split
 ·simp[ROk]
 ·exact ⟨h.snoc rfl h.told (Nat.le_refl _) h.calls (by have:=h.deep;omega) ⟨hp,ha.1,ha.2,rfl,Nat.zero_le _,hn⟩,by simp⟩
theorem PF.ok.on {m:Image} {c:List Nt} {t:PF} (h:t.ok m c) (n:Nat):(t.on n).ok m c:=⟨h.part,h.at0,h.at1,h.locs,by have:=h.ws;simp[PF.on,PF.ww];omega,h.noted⟩
theorem PF.ok.at_ {m:Image} {c:List Nt} {t:PF} (h:t.ok m c) {n:Int} (h0:0≤n) (h1:n≤2000):PF.ok m c { t with at_:=n }:=⟨h.part,h0,h1,h.locs,h.ws,h.noted⟩
theorem SOk.top {m:Image} {o:MO} {fs:List PF} {t t':PF} (h:SOk m o (fs++[t])) (ok:t'.ok m o.calls):SOk m o (fs++[t']):=by
 have hl:=h.deep
 simp only[List.length_append,List.length_singleton] at hl
 exact h.rest.snoc rfl h.told (Nat.le_refl _) h.calls (by omega) ok
theorem snoc_ne {α:Type} {l:List α} {x:α}:l++[x]≠[]:=by simp
theorem gateS_ok {m:Image} {i:Instr} {o:MO} {pre:List PF} {t:PF} (h:SOk m o (pre++[t])) (hi:instrE i=0):ROk m (gateS m i o pre t):=by
 unfold gateS
 obtain ⟨_,_,ha,_,hb,_,hc,_⟩:=instr_rng hi
 have hct:=h.calls
 have hl:=h.deep
 simp only[List.length_append,List.length_singleton] at hl
 split
 ·simp[ROk]
 ·split
  ·simp[ROk]
  ·rename_i hg
   unfold gateBad at hg
   obtain ⟨a,hae⟩:∃ a:Nat,i.a=(a:Int):=⟨i.a.toNat,by omega⟩
   obtain ⟨b,hbe⟩:∃ b:Nat,i.b=(b:Int):=⟨i.b.toNat,by omega⟩
   rw[hae,hbe] at hg ⊢
   simp only[Int.toNat_natCast] at hg ⊢
   have hal:a < m.length:=by omega
   have em:m.getD a noPart=m[a]:=by simp[hal]
   rw[em] at hg ⊢
   have hbl:b < m[a].entries.length:=by omega
   have ee:m[a].entries.getD b noEntry=m[a].entries[b]:=by simp[hbl]
   rw[ee]
   obtain ⟨hc1,_,_,hc4⟩:=code_ok h.img hal
   have:=hc4 _ (List.getElem_mem hbl)
   split
   ·refine enterS_ok ?_ ⟨a,rfl,hal⟩ ⟨by omega,by omega⟩ (by simp;omega)
    refine h.rest.snoc rfl h.told (by simp) (by simp;omega) (by omega) ((h.init.on _).more (by simp))
   ·exact enterS_ok (h.top (h.init.on _)) ⟨a,rfl,hal⟩ ⟨by omega,by omega⟩ (by omega)
theorem noteS_len (o:MO) (k v:Int):(noteS o k v).calls.length=o.calls.length∧(noteS o k v).told=o.told∧(noteS o k v).data=o.data:=by
 unfold noteS
 split
 ·exact ⟨List.length_modify _ _ _,rfl,rfl⟩
 ·exact ⟨rfl,rfl,rfl⟩
theorem retS_ok {m:Image} {o:MO} {pre:List PF} {t:PF} (h:SOk m o (pre++[t])):ROk m (retS o pre t):=by
 unfold retS
 split
 ·simp[ROk]
 ·split
  ·simp[ROk]
  ·rename_i f hf
   obtain ⟨n1,n2,n3⟩:=noteS_len o t.noted ((t.off 1).getD 0 0)
   refine pushS_ok ?_ _
   rcases List.eq_nil_or_concat pre with rfl | ⟨l,x,rfl⟩
   ·simp at hf
   ·rw[List.concat_eq_append,List.getLast?_append,List.getLast?_singleton] at hf
    simp at hf
    subst hf
    rw[List.concat_eq_append] at h
    have h2:=h.rest
    rw[List.concat_eq_append,List.dropLast_concat]
    have hl:=h2.deep
    simp only[List.length_append,List.length_singleton] at hl
    exact h2.rest.snoc (by rw[n3]) (by rw[n2];exact h.told) (by omega) (by rw[n1];exact h.calls) (by omega) (h2.init.more (by omega))
theorem stepS_ok {m:Image} {o:MO} {pre:List PF} {t:PF} (h:SOk m o (pre++[t])):ROk m (stepS m o pre t):=by
 have ht:=h.init
 obtain ⟨k,hk,hkl⟩:=ht.part
 have em:m.getD t.part.toNat noPart=m[k]:=by rw[hk];simp[hkl]
 obtain ⟨hc1,hc2,hc3,hc4⟩:=code_ok h.img hkl
 unfold stepS
 simp only
 rw[em]
 split
 ·simp[ROk]
 ·rename_i hlt
  have h0:=ht.at0
  obtain ⟨j,hj⟩:∃ j:Nat,t.at_=(j:Int):=⟨t.at_.toNat,by omega⟩
  have hjl:j < m[k].code.length:=by omega
  have ei:m[k].code.getD t.at_.toNat noInstr=m[k].code[j]:=by rw[hj];simp[hjl]
  rw[ei]
  have hi:=hc3 _ (List.getElem_mem hjl)
  generalize m[k].code[j]=i at hi
  have ht1:PF.ok m o.calls { t with at_:=t.at_+1 }:=ht.at_ (by omega) (by omega)
  have h1:SOk m o (pre++[{ t with at_:=t.at_+1 }]):=h.top ht1
  generalize { t with at_:=t.at_+1 }=u at ht1 h1
  obtain ⟨i1,i2,i3,i4,i5,i6,i7,i8,i9⟩:=instr_rng hi
  have hw:=ht1.ws
  have hl:=h.deep
  simp only[List.length_append,List.length_singleton] at hl
  split
  ·unfold memS
   split
   ·split
    ·simp[ROk]
    ·split
     ·refine ⟨h1.top ⟨ht1.part,ht1.at0,ht1.at1,ht1.locs,?_,ht1.noted⟩,snoc_ne⟩
      simp[PF.ww,PF.on];omega
     ·simp[ROk]
   ·split
    ·simp[ROk]
    ·split
     ·exact ⟨h1.rest.snoc (by simp) h.told (Nat.le_refl _) h.calls (by omega) (ht1.on 2),snoc_ne⟩
     ·simp[ROk]
  ·split
   ·unfold ctlS
    split
    ·rename_i h9
     refine ⟨h1.top (ht1.at_ i3 ?_),snoc_ne⟩
     rw[h9] at i4;have:bdA 9=1199:=rfl
     omega
    ·split
     ·rename_i h9
      rw[h9] at i4;have:bdA 10=1199:=rfl
      split
      ·simp[ROk]
      ·refine ⟨h1.top ?_,snoc_ne⟩
       split
       ·exact (ht1.on 1).at_ i3 (by omega)
       ·exact ht1.on 1
     ·split
      ·rename_i h9
       rw[h9] at i4;have:bdA 11=1199:=rfl
       split
       ·simp[ROk]
       ·exact enterS_ok (h1.top (ht1.on _)) ht1.part ⟨i3,by omega⟩ (by omega)
      ·split
       ·exact gateS_ok h1 hi
       ·split
        ·exact retS_ok h1
        ·simp[ROk]
   ·unfold wrdS
    split
    ·exact pushS_ok h1 _
    ·split
     ·exact pushS_ok h1 _
     ·dsimp only
      generalize hn:(if i.op=8 then 2 else 1:Nat)=n
      split
      ·simp[ROk]
      ·split
       ·split
        ·simp[ROk]
        ·refine ⟨h1.top ⟨ht1.part,ht1.at0,ht1.at1,ht1.locs,?_,ht1.noted⟩,snoc_ne⟩
         simp[PF.ww];omega
       ·split
        ·exact ⟨h1.top ⟨ht1.part,ht1.at0,ht1.at1,by simp[ht1.locs],(ht1.on 1).ws,ht1.noted⟩,snoc_ne⟩
        ·split
         ·split
          ·simp[ROk]
          ·exact ⟨h1.rest.snoc rfl (by have:=h.told;simp;omega) (Nat.le_refl _) h.calls (by omega) (ht1.on 1),snoc_ne⟩
         ·split
          ·refine ⟨h1.top ⟨ht1.part,ht1.at0,ht1.at1,ht1.locs,?_,ht1.noted⟩,snoc_ne⟩
           rename_i h8
           rw[if_pos h8] at hn
           have:2≤u.ws.length:=by omega
           simp[PF.ww,PF.on];omega
          ·exact ⟨h1.top (ht1.on 1),snoc_ne⟩
end Barb
/-
  mach: what is done with the words of the top frame; calls of what enters a frame, and of what steps.
-/
namespace Barb
open Go Go.Dm Go.Eng
theorem Fr.g_at2 {x:Fr} (hx:x.f.locs.length=8) {i:Nat} {n:Int} (hi:x.f.locs[i]?=some n):x.g[0+2+i*1]?=some (.int n):=by
 rw[show 0+2+i*1=2+i from by omega]
 exact Fr.g_at hx hi
theorem Fr.g_set_loc2 {x:Fr} (hx:x.f.locs.length=8) {i:Nat} (hi:i < 8) (n:Int):setL x.g (0+2+i*1) [.int n]=(Fr.mk { x.f with locs:=x.f.locs.set i n } x.v).g:=by
 rw[show 0+2+i*1=2+i from by omega]
 exact Fr.g_set_loc hx hi n
end Barb
namespace Go.Proofs.YtijdegmamdhcbaaGreatDoor
open Go Go.Dm Go.Eng Go.RowKit Barb
abbrev jx (b:Nat) (r:Heap) (i:Nat):Nat:=rnI [0,1,2,3,4,5] b (r.length+6) i
abbrev MHf (m:Image) (e val:Int) (o:MO) (fs:List Fr) (N:Ns) (r:Heap):Heap :=
 .blk [.g (.sl 4 (m.map Part.g)),.g (.int e),.g (.int val),.row 3,.row 2,.row 4,.row (jx 5 r 5)] 81 :: .many (fs.map fz) [(N.d,2),(N.t,3),(N.c,4),(N.f,jx 5 r 5)] :: .row (o.data.map intG) 3 1 :: .row (o.told.map intG) 3 1 :: .row (o.calls.map Nt.g) 165 7 ::
  .dead :: (r++[.row (fs.map Fr.g) 115 12])
theorem putF (m m':Image) (e e' val val':Int) (o o':MO) (fs fs':List Fr) (N N':Ns) (r:Heap):putH (MHr m e val o fs N r) [0,1,2,3,4,5] 5 (MH m' e' val' o' fs' N')=MHf m' e' val' o' fs' N' r:=by
 unfold putH
 simp only[List.map_cons,List.map_nil,putO]
 rw[show (0+1+1+1+1+1+1:Nat)=0+6 from rfl,putO_rest]
 rfl
abbrev MHt (m:Image) (e val:Int) (o:MO) (fs:List Fr) (N:Ns) (r:Heap):Heap :=
 .blk [.g (.sl 4 (m.map Part.g)),.g (.int e),.g (.int val),.row (jx 1 r 3),.row (jx 1 r 2),.row (jx 1 r 4),.row (jx 1 r 5)] 81 :: .dead :: .dead :: .dead :: .dead :: .dead ::
  (r++[.many (fs.map fz) [(N.d,jx 1 r 2),(N.t,jx 1 r 3),(N.c,jx 1 r 4),(N.f,jx 1 r 5)],.row (o.data.map intG) 3 1,.row (o.told.map intG) 3 1,.row (o.calls.map Nt.g) 165 7,.row (fs.map Fr.g) 115 12])
theorem putT (m m':Image) (e e' val val':Int) (o o':MO) (fs fs':List Fr) (N N':Ns) (r:Heap):putH (MHr m e val o fs N r) [0,1,2,3,4,5] 1 (MH m' e' val' o' fs' N')=MHt m' e' val' o' fs' N' r:=by
 unfold putH
 simp only[List.map_cons,List.map_nil,putO]
 rw[show (0+1+1+1+1+1+1:Nat)=0+6 from rfl,putO_rest]
 rfl
theorem turnM2 (m:Image) (e val:Int) (o:MO) (fs:List Fr) (N:Ns) (r:Heap) (l:List D) (hn:l.map (conv (MHr m e val o fs N r) (olds 0 1 2 3 4 5) 4)=l):TurnTo (MHr m e val o fs N r) (olds 0 1 2 3 4 5) (.ptr 0 0 :: l) (MH m e val o fs N) (.ptr 0 0 :: l) :=
 ⟨rfl,.inl rfl,.inl (by rw[List.map_cons,hn];rfl),rfl⟩
theorem callEnter {all:List D} {h:Heap} {K Qp:KD} {m:Image} {e val:Int} {o:MO} {fs:List Fr} {N:Ns} {part at_ noted:Int} {args:List Int} (r:Heap) (hf:fs.length≤20)
  (hh:h=MHr m e val o fs N r) (ha:all=[.ptr 0 0,.g (.int part),.g (.int at_),.g (.int noted),.g (.sl 1 (args.map intG))])
  (hno:fs.length=20→K (.g (.int 5)) (MHf m e val o fs N r))
  (hyes:∀ f,¬fs.length=20→K (.g (.int 0)) (MHf m e val o (fs++[newF part at_ noted args]) (N.withF f) r)) :
  fnOk Tryz.prog 24=true∧(OwnCall Tryz.prog gl 24 all h K Qp∨SemCall Tryz.prog gl 24 all h K Qp):=by
 subst hh;subst ha
 refine callO [0,1,2,3,4,5] enter_fn rfl rfl (turnM2 _ _ _ _ _ _ _ _ rfl) (enter_any m e val o fs N part at_ noted args hf) (fun d' h' hq=>?_) (fun d' h' hq=>?_)
 ·unfold enterQ at hq
  split at hq
  ·injection hq with e1 e2;subst e1;subst e2;rw[putF];exact hno (by assumption)
  ·obtain ⟨v',hq⟩:=hq
   injection hq with e1 e2;subst e1;subst e2;rw[putF];exact hyes v' (by assumption)
 ·unfold enterQ at hq
  split at hq
  ·cases hq
  ·obtain ⟨v',hq⟩:=hq;cases hq
theorem RQ_ret {m:Image} {x:R} {out:Out} (h:RQ m x out):∃ c v o gs N,out=.ret (.g (.int c)) (MH m 0 v o gs N):=by
 cases x with
 | go o fs=>obtain ⟨gs,N,_,h⟩:=h;exact ⟨_,_,_,_,_,h⟩
 | stop c v o=>obtain ⟨gs,N,h⟩:=h;exact ⟨_,_,_,_,_,h⟩
theorem callMR {g:FuncId} (hg:fnOk Tryz.prog g=true) {l all:List D} {h:Heap} {K Qp:KD} {m:Image} {e val:Int} {o:MO} {fs:List Fr} {N:Ns} {x:R} (r:Heap)
  (hct:CTH Tryz.prog gl g 1 (MH m e val o fs N) (.ptr 0 0 :: l) (RQ m x)) (hn:l.map (conv (MHr m e val o fs N r) (olds 0 1 2 3 4 5) 4)=l) (hl:closedσ (MHr m e val o fs N r) [0,1,2,3,4,5] (.ptr 0 0 :: l)=true)
  (hh:h=MHr m e val o fs N r) (ha:all=.ptr 0 0 :: l)
  (hyes:∀ c v o' gs N',RQ m x (.ret (.g (.int c)) (MH m 0 v o' gs N'))→K (.g (.int c)) (MHt m 0 v o' gs N' r)) :
  fnOk Tryz.prog g=true∧(OwnCall Tryz.prog gl g all h K Qp∨SemCall Tryz.prog gl g all h K Qp):=by
 subst hh;subst ha
 refine callO [0,1,2,3,4,5] hg hl rfl (turnM2 _ _ _ _ _ _ _ _ hn) hct (fun d' h' hq=>?_) (fun d' h' hq=>?_)
 ·obtain ⟨c,v,o',gs,N',he⟩:=RQ_ret hq
  injection he with e1 e2;subst e1;subst e2
  rw[putT]
  exact hyes c v o' gs N' hq
 ·obtain ⟨c,v,o',gs,N',he⟩:=RQ_ret hq
  cases he

set_option maxRecDepth 20000 in
theorem mwords_any (m:Image) (o:MO) (pre:List Fr) (t:Fr) (N:Ns) (i:Instr) (hi:instrE i=0) (_hop:i.op=1∨i.op=2∨i.op=3∨i.op=4∨i.op=5∨i.op=8∨i.op=14) (hto:o.told.length≤500) (ht:t.ok) (hp:pre.length < 1000) :
  CTH Tryz.prog gl 47 1 (MH m 0 0 o (pre++[t]) N) [.ptr 0 0,.agg i.d] (RQ m (wrdS i o (pre.map Fr.f) t.f)):=by
 have hw:=ht.2
 obtain ⟨i1,i2,i3,i4,i5,i6,i7,i8,i9⟩:=instr_rng hi
 suffices H:∀ r:R,wrdS i o (pre.map Fr.f) t.f=r→CTH Tryz.prog gl 47 1 (MH m 0 0 o (pre++[t]) N) [.ptr 0 0,.agg i.d] (RQ m r) from H _ rfl
 intro r hr
 have got:∀ {d:D} {gs:List Fr} {N':Ns} {o':MO} {fs:List PF},wrdS i o (pre.map Fr.f) t.f=.go o' fs→gs.map Fr.f=fs→d=.g (.int 0)→RQ m r (.ret d (MH m 0 0 o' gs N')):=fun h1 h2 h3=>by
  subst h3;rw[← hr,h1];exact ⟨_,_,h2,rfl⟩
 have bad:∀ {c v:Int} {gs:List Fr} {N':Ns},wrdS i o (pre.map Fr.f) t.f=.stop c v o→RQ m r (.ret (.g (.int c)) (MH m 0 v o gs N')):=fun h1=>by
  rw[← hr,h1];exact ⟨_,_,rfl⟩
 have mapz:∀ (x:Fr),(pre++[x]).map Fr.f=pre.map Fr.f++[x.f]:=fun x=>by rw[List.map_append];rfl
 refine enterH [] hT hF hM Tryz.func47 rfl 117 rfl (by kernel_rfl) [.tmp 4] rfl [.ptr 0 0,.agg i.d] rfl (MH m 0 0 o (pre++[t]) N) [0] rfl rfl rfl 1 [] trivial _ ?_
 refine ⟨fun h1=>?_,fun h1=>?_⟩
 ·refine ⟨fun h4=>absurd h4 (by omega),fun _=>?_⟩
  refine callPush [.blk i.d 109] ht hp rfl rfl (fun h40=>?_) (fun v' h40=>?_)
  ·refine ⟨rfl,.inl (endMH (.g (.int 4)) (olds 0 1 2 3 4 5) rfl rfl rfl (.inl rfl) rfl rfl rfl rfl rfl (List.Perm.refl _) trivial (bad ?_))⟩
   unfold wrdS pushS;rw[if_pos h1,if_pos h40]
  ·refine ⟨rfl,.inl (endMH (.g (.int 0)) (olds 0 1 2 3 4 5) rfl rfl rfl (.inl rfl) rfl rfl rfl rfl rfl (List.Perm.refl _) trivial (got ?_ (mapz _) rfl))⟩
   unfold wrdS pushS;rw[if_pos h1,if_neg h40];rfl
 refine ⟨fun h4=>?_,fun h4=>?_⟩
 ·refine ⟨fun _=>?_,fun h=>absurd h4 h⟩
  obtain ⟨a,ha⟩:∃ a:Nat,i.a=(a:Int):=⟨i.a.toNat,by omega⟩
  have ha8:a < 8:=by have:bdA 4=7:=rfl;rw[h4] at i4;omega
  have hal:a < t.f.locs.length:=by rw[ht.1];exact ha8
  refine ⟨none,rfl,?_⟩
  refine ⟨top_fn,_,fun h' hx=>top_rd (hx _ _ rfl) rfl (hx _ _ rfl) (n:=pre.length) (by simp) (by omega),?_⟩
  refine ⟨a,congrArg (fun z=>D.g (.int z)) ha,ha8,?_⟩
  refine ⟨_,snoc_at Fr.g pre t,ldG_at rfl (Fr.g_at2 ht.1 (List.getElem?_eq_getElem hal)) ?_⟩
  have hg:t.f.locs.getD i.a.toNat 0=t.f.locs[a]:=by rw[ha];simp[hal]
  refine callPush [.blk i.d 109] ht hp rfl rfl (fun h40=>?_) (fun v' h40=>?_)
  ·refine ⟨rfl,.inl (endMH (.g (.int 4)) (olds 0 1 2 3 4 5) rfl rfl rfl (.inl rfl) rfl rfl rfl rfl rfl (List.Perm.refl _) trivial (bad ?_))⟩
   unfold wrdS pushS;rw[if_neg h1,if_pos h4,if_pos h40]
  ·refine ⟨rfl,.inl (endMH (.g (.int 0)) (olds 0 1 2 3 4 5) rfl rfl rfl (.inl rfl) rfl rfl rfl rfl rfl (List.Perm.refl _) trivial (got ?_ (mapz _) rfl))⟩
   unfold wrdS pushS;rw[if_neg h1,if_pos h4,if_neg h40,hg];rfl
 refine ⟨fun h8=>?_,fun h8=>?_⟩
 ·have e:wrdS i o (pre.map Fr.f) t.f=if t.f.ws.length < 2 then .stop 4 0 o else .go o (pre.map Fr.f++[t.f.ww ((t.f.on 2).ws++[doI i.a ((t.f.off 2).getD 0 0) ((t.f.off 2).getD 1 0)])]):=by
   unfold wrdS;rw[if_neg h1,if_neg h4];simp only[h8,if_true];rfl
  refine callPop (n:=2) [.blk i.d 109] ht hp (by decide) rfl rfl (fun hl=>?_) (fun v' hl=>?_)
  ·refine ⟨rfl,.inl (endMH (.g (.int 4)) (olds 0 1 2 3 4 5) rfl rfl rfl (.inl rfl) rfl rfl rfl rfl rfl (List.Perm.refl _) trivial (bad ?_))⟩
   rw[e,if_pos hl]
  ·obtain ⟨q,hlen⟩:∃ q,t.f.ws.length=q+2:=⟨t.f.ws.length - 2,by omega⟩
   obtain ⟨x,y,hx,hws⟩:=off_two hlen
   have hoff:t.f.off 2=[x,y]:=by unfold PF.off;rw[hlen];exact hx
   rw[if_neg (by omega),hoff] at e
   rw[show t.f.ws.length - 2=q from by omega,hx]
   refine ⟨fun h=>absurd h (by omega),fun _=>?_⟩
   refine ⟨fun h=>absurd h (by omega),fun _=>?_⟩
   refine ⟨fun h=>absurd h (by omega),fun _=>?_⟩
   refine ⟨fun _=>?_,fun h=>absurd h8 h⟩
   refine ⟨none,rfl,?_⟩
   refine ⟨0,[.int x],rfl,rfl,?_⟩
   refine ⟨1,[.int y],rfl,rfl,?_⟩
   refine ⟨_,_,.inl rfl,Do_any i.a x y,rfl,?_⟩
   refine callPush (t:=t.ww (t.f.ws.take q) v') [.blk i.d 109] ⟨ht.1,by simp[Fr.ww];omega⟩ hp rfl rfl (fun h40=>?_) (fun v2 h40=>?_)
   ·exfalso
    simp[Fr.ww] at h40;omega
   refine ⟨rfl,.inl (endMH (.g (.int 0)) (olds 0 1 2 3 4 5) rfl rfl rfl (.inl rfl) rfl rfl rfl rfl rfl (List.Perm.refl _) trivial (got e ?_ rfl))⟩
   rw[mapz]
   show _++[t.f.ww (t.f.ws.take q++[_])]=_++[t.f.ww (t.f.ws.take (t.f.ws.length - 2)++[_])]
   rw[show t.f.ws.length - 2=q from by omega]
   rfl
 have e:wrdS i o (pre.map Fr.f) t.f=if t.f.ws.length < 1 then .stop 4 0 o else
   if i.op=3 then if t.f.ws.length=40 then .stop 4 0 o else .go o (pre.map Fr.f++[t.f.ww (t.f.ws++[(t.f.off 1).getD 0 0])])
   else if i.op=5 then .go o (pre.map Fr.f++[{ t.f.on 1 with locs:=t.f.locs.set i.a.toNat ((t.f.off 1).getD 0 0) }])
   else if i.op=14 then if o.told.length=500 then .stop 6 0 o else .go { o with told:=o.told++[(t.f.off 1).getD 0 0] } (pre.map Fr.f++[t.f.on 1])
   else .go o (pre.map Fr.f++[t.f.on 1]):=by
  unfold wrdS;rw[if_neg h1,if_neg h4];simp only[h8,if_false]
 refine callPop (n:=1) [.blk i.d 109] ht hp (by decide) rfl rfl (fun hl=>?_) (fun v' hl=>?_)
 ·refine ⟨rfl,.inl (endMH (.g (.int 4)) (olds 0 1 2 3 4 5) rfl rfl rfl (.inl rfl) rfl rfl rfl rfl rfl (List.Perm.refl _) trivial (bad ?_))⟩
  rw[e,if_pos hl]
 obtain ⟨q,hlen⟩:∃ q,t.f.ws.length=q+1:=⟨t.f.ws.length - 1,by omega⟩
 obtain ⟨x,hx,hws⟩:=off_one hlen
 have hoff:t.f.off 1=[x]:=by unfold PF.off;rw[hlen];exact hx
 have hon:t.f.on 1=t.f.ww (t.f.ws.take q):=by unfold PF.on;rw[show t.f.ws.length - 1=q from by omega]
 rw[if_neg (by omega),hoff,hon] at e
 rw[show t.f.ws.length - 1=q from by omega,hx]
 refine ⟨fun h3=>?_,fun h3=>?_⟩
 ·rw[if_pos h3] at e
  refine ⟨0,[.int x],rfl,rfl,?_⟩
  refine callPush (t:=t.ww (t.f.ws.take q) v') [.blk i.d 109] ⟨ht.1,by simp[Fr.ww];omega⟩ hp rfl rfl (fun h40=>?_) (fun v2 h40=>?_)
  ·exfalso
   simp[Fr.ww] at h40;omega
  refine ⟨0,[.int x],rfl,rfl,?_⟩
  have hl2:(t.f.ws.take q++[x]).length=t.f.ws.length:=by simp;omega
  refine callPush (t:=(t.ww (t.f.ws.take q) v').ww (t.f.ws.take q++[x]) v2) [.blk i.d 109] ⟨ht.1,by show (t.f.ws.take q++[x]).length≤40;omega⟩ hp rfl rfl (fun h40=>?_) (fun v3 h40=>?_)
  ·refine ⟨rfl,.inl (endMH (.g (.int 4)) (olds 0 1 2 3 4 5) rfl rfl rfl (.inl rfl) rfl rfl rfl rfl rfl (List.Perm.refl _) trivial (bad ?_))⟩
   rw[e,if_pos (by rw[← hl2];exact h40)]
  ·refine ⟨rfl,.inl (endMH (.g (.int 0)) (olds 0 1 2 3 4 5) rfl rfl rfl (.inl rfl) rfl rfl rfl rfl rfl (List.Perm.refl _) trivial (got (e.trans (if_neg (by rw[← hl2];exact h40))) ?_ rfl))⟩
   rw[mapz]
   show _++[t.f.ww (t.f.ws.take q++[x]++[x])]=_++[t.f.ww (t.f.ws++[x])]
   rw[← hws]
 refine ⟨fun h5=>?_,fun h5=>?_⟩
 ·rw[if_neg h3,if_pos h5] at e
  obtain ⟨a,ha⟩:∃ a:Nat,i.a=(a:Int):=⟨i.a.toNat,by omega⟩
  have ha8:a < 8:=by have:bdA 5=7:=rfl;rw[h5] at i4;omega
  refine ⟨none,rfl,?_⟩
  refine ⟨top_fn,_,fun h' hx=>top_rd (hx _ _ rfl) rfl (hx _ _ rfl) (n:=pre.length) (by simp) (by omega),?_⟩
  refine ⟨0,[.int x],rfl,rfl,?_⟩
  refine ⟨a,congrArg (fun z=>D.g (.int z)) ha,ha8,?_⟩
  refine ⟨_,[.int x],snoc_at Fr.g pre _,⟨rfl,trivial⟩,?_,(fun h=>by cases h),?_⟩
  ·rw[Fr.g_len (x:=t.ww (t.f.ws.take q) v') ht.1]
   show 0+2+a*1+1≤12
   omega
  refine ⟨rfl,.inl (endMH (fs:=pre++[Fr.mk { t.f.ww (t.f.ws.take q) with locs:=t.f.locs.set a x } v']) (.g (.int 0)) (olds 0 1 2 3 4 5) rfl rfl rfl (.inl rfl) rfl rfl rfl rfl (snoc_set Fr.g pre _ _ _ (Fr.g_set_loc2 (x:=t.ww (t.f.ws.take q) v') ht.1 ha8 x).symm) ?_ trivial (got e ?_ rfl))⟩
  ·rw[List.map_append,List.map_append];exact List.Perm.refl _
  ·rw[mapz,ha]
   rfl
 refine ⟨fun h14=>?_,fun h14=>?_⟩
 ·rw[if_neg h3,if_neg h5,if_pos h14] at e
  have hlt:(o.told.map intG).length=o.told.length:=List.length_map _
  refine ⟨fun h500=>?_,fun h500=>?_⟩
  ·refine ⟨rfl,.inl (endMH (.g (.int 6)) (olds 0 1 2 3 4 5) rfl rfl rfl (.inl rfl) rfl rfl rfl rfl rfl (List.Perm.refl _) trivial (bad ?_))⟩
   rw[e,if_pos (by omega)]
  ·refine ⟨some 9998,[14],rfl,?_⟩
   refine ⟨0,[.int x],rfl,rfl,?_⟩
   refine ⟨[[.int x]],rfl,rfl,⟨rfl,trivial⟩,⟨_,rfl⟩,?_⟩
   refine ⟨⟨by simp[maxLen];omega,by simp;omega⟩,?_⟩
   refine .inr (ghNameN 1 8 (fun v=>[(N.d,2),(v,8),(N.c,4),(N.f,5)]) rfl rfl (fun v t ht=>?_) (fun v2=>ghNo ?_))
   ·simp only[List.mem_cons,List.not_mem_nil,or_false] at ht ⊢
    rcases ht with rfl | rfl | rfl | rfl<;>simp
   refine ⟨rfl,.inl (endMH (o:={ o with told:=o.told++[x] }) (N:=⟨N.d,v2,N.c,N.f⟩) (.g (.int 0)) (olds 0 1 2 8 4 5) rfl rfl rfl (.inl rfl) rfl rfl ?_ rfl rfl (List.Perm.refl _) trivial (got (e.trans (if_neg (by omega))) (mapz _) rfl))⟩
   rw[List.map_append]
   rfl
 ·rw[if_neg h3,if_neg h5,if_neg h14] at e
  refine ⟨fun h=>absurd h h8,fun _=>?_⟩
  exact ⟨rfl,.inl (endMH (.g (.int 0)) (olds 0 1 2 3 4 5) rfl rfl rfl (.inl rfl) rfl rfl rfl rfl rfl (List.Perm.refl _) trivial (got e (mapz _) rfl))⟩
end Go.Proofs.YtijdegmamdhcbaaGreatDoor
/-
  mach: a gate into another part; the way back; control.
-/
namespace Barb
open Go Go.Dm Go.Eng
theorem getD_of {α:Type} {l:List α} {k:Nat} (h:k < l.length) (z:α):l.getD k z=l[k]:=by simp[h]
theorem modify_at {α:Type} {l:List α} {k:Nat} (h:k < l.length) (f:α→α):l.modify k f=l.set k (f l[k]):=by
 apply List.ext_getElem?
 intro i
 rw[List.getElem?_modify,List.getElem?_set]
 by_cases e:k=i
 ·subst e;simp[h]
 ·simp[e]
end Barb
namespace Go.Proofs.YtijdegmamdhcbaaGreatDoor
open Go Go.Dm Go.Eng Go.RowKit Barb

theorem callEnterC {all:List D} {h:Heap} {K Qp:KD} {m:Image} {o:MO} {nt:Nt} {fs:List Fr} {N:Ns} {part at_:Int} {args:List Int} (x6 x7:Dm.Obj) (hf:fs.length≤20)
  (hh:h=[.blk [.g (.sl 4 (m.map Part.g)),.g (.int 0),.g (.int 0),.row 3,.row 2,.row 8,.row 5] 81,.many (fs.map fz) [(N.d,2),(N.t,3),(N.c,8),(N.f,5)],.row (o.data.map intG) 3 1,.row (o.told.map intG) 3 1,.dead,.row (fs.map Fr.g) 115 12,x6,x7,.row (o.calls.map Nt.g++[Nt.g nt]) 165 7])
  (ha:all=[.ptr 0 0,.g (.int part),.g (.int at_),.g (.int ((o.calls.map Nt.g).length:Nat)),.g (.sl 1 (args.map intG))])
  (hno:fs.length=20→K (.g (.int 5)) [.blk [.g (.sl 4 (m.map Part.g)),.g (.int 0),.g (.int 0),.row 3,.row 2,.row 8,.row 9] 81,.many (fs.map fz) [(N.d,2),(N.t,3),(N.c,8),(N.f,9)],.row (o.data.map intG) 3 1,.row (o.told.map intG) 3 1,.dead,.dead,x6,x7,.row (({ o with calls:=o.calls++[nt] }:MO).calls.map Nt.g) 165 7,.row (fs.map Fr.g) 115 12])
  (hyes:∀ f,¬fs.length=20→K (.g (.int 0)) [.blk [.g (.sl 4 (m.map Part.g)),.g (.int 0),.g (.int 0),.row 3,.row 2,.row 8,.row 9] 81,.many ((fs++[newF part at_ ((o.calls.map Nt.g).length:Nat) args]).map fz) [(N.d,2),(N.t,3),(N.c,8),(f,9)],.row (o.data.map intG) 3 1,.row (o.told.map intG) 3 1,.dead,.dead,x6,x7,.row (({ o with calls:=o.calls++[nt] }:MO).calls.map Nt.g) 165 7,.row ((fs++[newF part at_ ((o.calls.map Nt.g).length:Nat) args]).map Fr.g) 115 12]) :
  fnOk Tryz.prog 24=true∧(OwnCall Tryz.prog gl 24 all h K Qp∨SemCall Tryz.prog gl 24 all h K Qp):=by
 have ec:o.calls.map Nt.g++[Nt.g nt]=({ o with calls:=o.calls++[nt] }:MO).calls.map Nt.g:=by rw[List.map_append];rfl
 rw[ec] at hh
 subst hh;subst ha
 refine callO [0,1,2,3,8,5] enter_fn rfl rfl ⟨rfl,.inl rfl,.inl rfl,rfl⟩ (enter_any m 0 0 { o with calls:=o.calls++[nt] } fs N part at_ ((o.calls.map Nt.g).length:Nat) args hf) (fun d' h' hq=>?_) (fun d' h' hq=>?_)
 ·unfold enterQ at hq
  split at hq
  ·injection hq with e1 e2;subst e1;subst e2;exact hno (by assumption)
  ·obtain ⟨v',hq⟩:=hq
   injection hq with e1 e2;subst e1;subst e2;exact hyes v' (by assumption)
 ·unfold enterQ at hq
  split at hq
  ·cases hq
  ·obtain ⟨v',hq⟩:=hq;cases hq
set_option maxRecDepth 20000 in
set_option maxHeartbeats 1000000 in
theorem gate_any (m:Image) (o:MO) (pre:List Fr) (t:Fr) (N:Ns) (i:Instr) (hi:instrE i=0) (hop:i.op=12) (_himg:imgE m=0) (hc:o.calls.length≤100) (ht:t.ok) (hp:pre.length < 20) :
  CTH Tryz.prog gl 69 1 (MH m 0 0 o (pre++[t]) N) [.ptr 0 0,.agg i.d] (RQ m (gateS m i o (pre.map Fr.f) t.f)):=by
 have hw:=ht.2
 obtain ⟨i1,i2,i3,i4,i5,i6,i7,i8,i9⟩:=instr_rng hi
 suffices H:∀ r:R,gateS m i o (pre.map Fr.f) t.f=r→CTH Tryz.prog gl 69 1 (MH m 0 0 o (pre++[t]) N) [.ptr 0 0,.agg i.d] (RQ m r) from H _ rfl
 intro r hr
 have bad:∀ {c v:Int} {o':MO} {gs:List Fr} {N':Ns},gateS m i o (pre.map Fr.f) t.f=.stop c v o'→RQ m r (.ret (.g (.int c)) (MH m 0 v o' gs N')):=fun h1=>by
  rw[← hr,h1];exact ⟨_,_,rfl⟩
 have hb12:bdA 12=4:=rfl
 have hc12:bdC 12=4:=rfl
 have hB12:bdB 12=7:=rfl
 rw[hop] at i4 i6 i8
 obtain ⟨a,ha⟩:∃ a:Nat,i.a=(a:Int):=⟨i.a.toNat,by omega⟩
 obtain ⟨b,hb⟩:∃ b:Nat,i.b=(b:Int):=⟨i.b.toNat,by omega⟩
 obtain ⟨c,hcc⟩:∃ c:Nat,i.c=(c:Int):=⟨i.c.toNat,by omega⟩
 have lm:(m.map Part.g).length=m.length:=List.length_map _
 refine enterH [] hT hF hM Tryz.func69 rfl 125 rfl (by kernel_rfl) [.tmp 4] rfl [.ptr 0 0,.agg i.d] rfl (MH m 0 0 o (pre++[t]) N) [0] rfl rfl rfl 1 [] trivial _ ?_
 refine callPop (n:=c) [.blk i.d 109] ht (by omega) (by omega) rfl (congrArg (fun z=>[D.ptr 0 0,D.g (.int z)]) hcc) (fun hl=>?_) (fun v' hl=>?_)
 ·refine ⟨none,rfl,?_⟩
  refine ⟨rfl,.inl (endMH (.g (.int 4)) (olds 0 1 2 3 4 5) rfl rfl rfl (.inl rfl) rfl rfl rfl rfl rfl (List.Perm.refl _) trivial (bad ?_))⟩
  unfold gateS
  rw[if_pos (by rw[hcc];exact hl)]
 have e0:gateS m i o (pre.map Fr.f) t.f=if gateBad m i then .stop 4 0 o else
   let e:=(m.getD i.a.toNat noPart).entries.getD i.b.toNat noEntry
   let l:=t.f.off i.c.toNat
   if o.calls.length < 100 then enterS { o with calls:=o.calls++[⟨t.f.part,i.a,i.b,l,((pre.map Fr.f).length+1:Nat),false,0⟩] } (pre.map Fr.f++[t.f.on i.c.toNat]) i.a e.at_ o.calls.length l
   else enterS o (pre.map Fr.f++[t.f.on i.c.toNat]) i.a e.at_ (-1) l:=by
  unfold gateS;rw[if_neg (by rw[hcc];show ¬t.f.ws.length < c;omega)]
 refine ⟨none,rfl,?_⟩
 refine ⟨fun g1=>?_,fun g1=>?_⟩
 ·refine ⟨rfl,.inl (endMH (.g (.int 4)) (olds 0 1 2 3 4 5) rfl rfl rfl (.inl rfl) rfl rfl rfl rfl rfl (List.Perm.refl _) trivial (bad ?_))⟩
  rw[e0,if_pos (by unfold gateBad;left;omega)]
 have hal:a < m.length:=by omega
 have hma:m.getD i.a.toNat noPart=m[a]:=by rw[ha];exact getD_of hal _
 refine ⟨a,_,dI ha,gm hal,?_⟩
 have le:(m[a].entries.map Entry.g).length=m[a].entries.length:=List.length_map _
 refine ⟨fun g2=>?_,fun g2=>?_⟩
 ·refine ⟨rfl,.inl (endMH (.g (.int 4)) (olds 0 1 2 3 4 5) rfl rfl rfl (.inl rfl) rfl rfl rfl rfl rfl (List.Perm.refl _) trivial (bad ?_))⟩
  rw[e0,if_pos (by unfold gateBad;rw[hma];right;left;omega)]
 have hbl:b < m[a].entries.length:=by omega
 have hmb:m[a].entries.getD i.b.toNat noEntry=m[a].entries[b]:=by rw[hb];exact getD_of hbl _
 refine ⟨a,_,dI ha,gm hal,?_⟩
 refine ⟨b,_,dI hb,gm hbl,?_⟩
 refine ⟨fun g3=>?_,fun g3=>?_⟩
 ·refine ⟨rfl,.inl (endMH (.g (.int 4)) (olds 0 1 2 3 4 5) rfl rfl rfl (.inl rfl) rfl rfl rfl rfl rfl (List.Perm.refl _) trivial (bad ?_))⟩
  rw[e0,if_pos (by unfold gateBad;rw[hma,hmb];right;right;exact g3)]
 rw[if_neg (by unfold gateBad;rw[hma,hmb];omega),hma,hmb] at e0
 have hoff:t.f.off i.c.toNat=t.f.ws.drop (t.f.ws.length - c):=by unfold PF.off;rw[hcc];rfl
 have hon:t.f.on i.c.toNat=t.f.ww (t.f.ws.take (t.f.ws.length - c)):=by unfold PF.on;rw[hcc];rfl
 rw[hoff,hon] at e0
 dsimp only at e0
 have lc:(o.calls.map Nt.g).length=o.calls.length:=List.length_map _
 have lf:∀ x:Fr,(pre.map Fr.f++[t.f.ww (t.f.ws.take (t.f.ws.length - c))]).length=(pre++[x]).length:=fun x=>by simp
 have mapz:∀ (x y:Fr),(pre++[x]++[y]).map Fr.f=pre.map Fr.f++[x.f]++[y.f]:=fun x y=>by simp
 have lfe:∀ x:Fr,((((pre++[x]).map Fr.g).length:Nat):Int)=(((pre.map Fr.f).length+1:Nat):Int):=fun x=>by simp
 have mem5:∀ (a b c d:Value × Nat) (t:Value × Nat),t∈[a,b,c,d]→t=a∨t=b∨t=c∨t=d:=fun a b c d t ht=>by simpa using ht
 refine ⟨fun g4=>?_,fun g4=>?_⟩
 ·rw[if_pos (by omega),← lfe (t.ww (t.f.ws.take (t.f.ws.length - c)) v'),← lc] at e0
  refine ⟨some 9998,[27],rfl,?_⟩
  refine ⟨top_fn,_,fun h' hx=>top_rd (hx _ _ rfl) rfl (hx _ _ rfl) (n:=pre.length) (by simp) (by omega),?_⟩
  refine ⟨_,snoc_at Fr.g pre _,?_⟩
  refine ⟨[Nt.g ⟨t.f.part,i.a,i.b,t.f.ws.drop (t.f.ws.length - c),(((pre++[t.ww (t.f.ws.take (t.f.ws.length - c)) v']).map Fr.g).length:Nat),false,0⟩],rfl,rfl,⟨rfl,rfl,rfl,rfl,rfl,rfl,rfl,trivial⟩,⟨_,rfl⟩,?_⟩
  refine ⟨⟨by simp[maxLen];omega,by simp;omega⟩,?_⟩
  refine .inr (ghNameN 1 8 (fun v=>[(N.d,2),(N.t,3),(v,8),(N.f,5)]) rfl rfl (fun v t ht=>?_) (fun v2=>ghNo ?_))
  ·rcases mem5 _ _ _ _ _ ht with rfl | rfl | rfl | rfl<;>simp
  refine ⟨some 9999,[20],rfl,?_⟩
  refine ⟨a,_,dI ha,gm hal,?_⟩
  refine ⟨b,_,dI hb,gm hbl,?_⟩
  refine callEnterC (o:=o) (nt:=⟨t.f.part,i.a,i.b,t.f.ws.drop (t.f.ws.length - c),(((pre++[t.ww (t.f.ws.take (t.f.ws.length - c)) v']).map Fr.g).length:Nat),false,0⟩) (fs:=pre++[(t.ww (t.f.ws.take (t.f.ws.length - c)) v')]) (N:=⟨N.d,N.t,v2,N.f⟩) (args:=t.f.ws.drop (t.f.ws.length - c)) (.blk i.d 109) (.row [Nt.g ⟨t.f.part,i.a,i.b,t.f.ws.drop (t.f.ws.length - c),(((pre++[t.ww (t.f.ws.take (t.f.ws.length - c)) v']).map Fr.g).length:Nat),false,0⟩] 165 7) (by simp;omega) rfl rfl (fun h20=>?_) (fun f2 h20=>?_)
  ·refine ⟨rfl,.inl (endMH (o:={ o with calls:=o.calls++[⟨t.f.part,i.a,i.b,t.f.ws.drop (t.f.ws.length - c),(((pre++[t.ww (t.f.ws.take (t.f.ws.length - c)) v']).map Fr.g).length:Nat),false,0⟩] }) (N:=⟨N.d,N.t,v2,N.f⟩) (.g (.int 5)) (olds 0 1 2 3 8 9) rfl rfl rfl (.inl rfl) rfl rfl rfl rfl rfl (List.Perm.refl _) trivial (bad ?_))⟩
   rw[e0];unfold enterS;rw[if_pos ((lf _).trans h20)]
  ·refine ⟨rfl,.inl (endMH (o:={ o with calls:=o.calls++[⟨t.f.part,i.a,i.b,t.f.ws.drop (t.f.ws.length - c),(((pre++[t.ww (t.f.ws.take (t.f.ws.length - c)) v']).map Fr.g).length:Nat),false,0⟩] }) (N:=⟨N.d,N.t,v2,f2⟩) (.g (.int 0)) (olds 0 1 2 3 8 9) rfl rfl rfl (.inl rfl) rfl rfl rfl rfl rfl (List.Perm.refl _) trivial ?_)⟩
   rw[← hr,e0];unfold enterS;rw[if_neg (fun h=>h20 ((lf _).symm.trans h))]
   exact ⟨_,_,mapz _ _,rfl⟩
 ·rw[if_neg (by omega)] at e0
  refine ⟨some 9999,[20],rfl,?_⟩
  refine ⟨a,_,dI ha,gm hal,?_⟩
  refine ⟨b,_,dI hb,gm hbl,?_⟩
  refine callEnter (fs:=pre++[t.ww (t.f.ws.take (t.f.ws.length - c)) v']) (args:=t.f.ws.drop (t.f.ws.length - c)) [.blk i.d 109] (by simp;omega) rfl rfl (fun h20=>?_) (fun f2 h20=>?_)
  ·refine ⟨rfl,.inl (endMH (.g (.int 5)) (olds 0 1 2 3 4 7) rfl rfl rfl (.inl rfl) rfl rfl rfl rfl rfl (List.Perm.refl _) trivial (bad ?_))⟩
   rw[e0];unfold enterS;rw[if_pos ((lf _).trans h20)]
  ·refine ⟨rfl,.inl (endMH (N:=N.withF f2) (.g (.int 0)) (olds 0 1 2 3 4 7) rfl rfl rfl (.inl rfl) rfl rfl rfl rfl rfl (List.Perm.refl _) trivial ?_)⟩
   rw[← hr,e0];unfold enterS;rw[if_neg (fun h=>h20 ((lf _).symm.trans h))]
   exact ⟨_,_,mapz _ _,rfl⟩
end Go.Proofs.YtijdegmamdhcbaaGreatDoor
