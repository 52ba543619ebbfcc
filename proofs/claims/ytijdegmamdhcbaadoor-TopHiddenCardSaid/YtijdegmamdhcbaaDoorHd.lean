/-
  Gates are left out of code: slices.DeleteFunc by its contract: it is handed a row of its caller's own, which it turns and cuts.
-/
import Derived.Test.YtijdegmamdhcbaaDoorHo
import Derived.Test.YtijdegmamdhcbaaDoorGh
namespace Go.Dm
open Go Go.Eng
section
variable {P:Program} {G:Gl}
theorem semLend {g:FuncId} {all bs:List D} {h:Heap} {x:GV} {K Qp:KD} (hl:likeA (all.map (conv h [] 4)) bs) (hct:CT P G g bs (Is (.g x))) (hn:noV x) (hk:K (.g x) h):SemCall P G g all h K Qp:=by
 intro C w β V vals hG hr hd
 subst hG
 have hck:=kill_rel hr (idsL all)
 have hargs:RepDL [] (turnβ [] β) (killV h (idsL all) β V) w (all.map (conv h [] 4)) vals:=by
  refine convL_rep (src:=[]) hr (fun i=>i∈idsL all) (fun k hk=>.inl hk) (fun i o k h1 h2 h3 h4=>.inr ⟨i,o,h1,h2,h3,h4⟩) 4 all vals (fun d hd i hi _=>ids_mem hd i hi (fun j hj=>hj)) hd
 have hargs':RepDL [] (fun _=>undef) (killV h (idsL all) β V) w bs vals:=by
  have:=likeA_rep hl hargs
  exact RepDL.mono (h':=[]) (fun i o hi=>by simp at hi) (Moved.refl _ _) _ _ this
 refine (hct w _ vals hck.vlt hck.gl hargs').mono fun e' w' he=>?_
 cases e' with
 | returned v =>
  obtain ⟨d,h',β',V',hq,hrel,hd'⟩:=he
  injection hq with e1 e2
  subst e1
  subst e2
  obtain ⟨q1,q2⟩:=keep_fr hr hrel.fr
  refine ⟨.g x,h,β,V,hk,q1,?_,LeH.refl _ _,q2⟩
  simp only[RepD] at hd' ⊢
  exact noV_rep hn hd'
 | panicked ch =>
  obtain ⟨d,t,u,β',V',rfl,hq,_⟩:=he
  cases hq
 | outgrown=>exact he.elim
end
end Go.Dm
namespace Barb
open Go Go.Dm Go.Eng
def gateI (x:Instr):Bool:=decide (x.op=12)
def keepI (x:Instr):Bool:=!gateI x
def gateAt (c:List Instr):Int:=if c.findIdx gateI < c.length then (c.findIdx gateI:Int) else -1
theorem gateAt_none {c:List Instr} (h:∀ i (h:i < c.length),gateI c[i]=false):gateAt c=-1∧c.filter keepI=c:=by
 have h1:∀ x∈c,gateI x=false:=fun x hx=>by
  obtain ⟨i,hi,rfl⟩:=List.getElem_of_mem hx
  exact h i hi
 refine ⟨?_,List.filter_eq_self.2 fun x hx=>by simp[keepI,h1 x hx]⟩
 unfold gateAt
 rw[List.findIdx_eq_length_of_false h1,if_neg (Nat.lt_irrefl _)]
theorem gateAt_at {c:List Instr} {i:Nat} (hi:i < c.length) (h:∀ j (h:j < i),gateI (c[j]'(by omega))=false) (hg:gateI c[i]=true):gateAt c=(i:Int)∧(c.take i).filter keepI=c.take i:=by
 have e:c.findIdx gateI=i:=(List.findIdx_eq hi).2 ⟨hg,h⟩
 refine ⟨?_,List.filter_eq_self.2 fun x hx=>?_⟩
 ·unfold gateAt
  rw[e,if_pos hi]
 ·obtain ⟨j,hj,rfl⟩:=List.getElem_of_mem hx
  rw[List.getElem_take]
  rw[List.length_take] at hj
  simp[keepI,h j (by omega)]
theorem gateAt_no {c:List Instr} (h:gateAt c=-1):c.filter keepI=c:=by
 unfold gateAt at h
 by_cases hl:c.findIdx gateI < c.length
 ·rw[if_pos hl] at h;omega
 ·refine List.filter_eq_self.2 fun x hx=>?_
  have:=(List.findIdx_eq_length (p:=gateI)).1 (Nat.le_antisymm List.findIdx_le_length (by omega)) x hx
  simp[keepI,this]
theorem gateAt_yes {c:List Instr} (h:gateAt c≠-1):∃ i,∃ h:i < c.length,gateAt c=(i:Int)∧gateI c[i]=true∧(c.take i).filter keepI=c.take i:=by
 unfold gateAt at h ⊢
 by_cases hl:c.findIdx gateI < c.length
 ·refine ⟨c.findIdx gateI,hl,by rw[if_pos hl],List.findIdx_getElem (w:=hl),(gateAt_at hl (fun j hj=>?_) (List.findIdx_getElem (w:=hl))).2⟩
  exact List.not_of_lt_findIdx hj
 ·rw[if_neg hl] at h;exact absurd rfl h
theorem keep_no {c:List Instr} {j:Nat} (hj:j < c.length) (h:gateI c[j]=true):(c.take (j+1)).filter keepI=(c.take j).filter keepI:=by
 rw[List.take_succ_eq_append_getElem hj,List.filter_append,List.filter_cons,if_neg (by simp[keepI,h]),List.filter_nil,List.append_nil]
theorem keep_yes {c:List Instr} {j:Nat} (hj:j < c.length) (h:gateI c[j]=false):(c.take (j+1)).filter keepI=(c.take j).filter keepI++[c[j]]:=by
 rw[List.take_succ_eq_append_getElem hj,List.filter_append,List.filter_cons,if_pos (by simp[keepI,h]),List.filter_nil]
theorem stale_at {f:List (List GV)} {mid:List (List GV)} {c:List Instr} {j:Nat} (hj:j < c.length) (h:f.length+mid.length=j):(f++mid++(c.drop j).map Instr.g)[j]?=some (Instr.g c[j]):=by
 rw[List.getElem?_append_right (by rw[List.length_append];omega),List.length_append,List.getElem?_map,List.getElem?_drop,show j+(j - (f.length+mid.length))=j by omega,List.getElem?_eq_getElem hj]
 rfl
theorem stale_no {f:List (List GV)} {mid:List (List GV)} {c:List Instr} {j:Nat} (hj:j < c.length):f++mid++(c.drop j).map Instr.g=f++(mid++[Instr.g c[j]])++(c.drop (j+1)).map Instr.g:=by
 rw[List.drop_eq_getElem_cons hj,List.map_cons]
 simp only[List.append_assoc,List.cons_append,List.nil_append]
theorem stale_yes {f:List (List GV)} {m0:List GV} {mid:List (List GV)} {c:List Instr} {j:Nat} (hj:j < c.length) (x:List GV):(f++(m0 :: mid)++(c.drop j).map Instr.g).set f.length x=f++[x]++(mid++[Instr.g c[j]])++(c.drop (j+1)).map Instr.g:=by
 rw[List.drop_eq_getElem_cons hj,List.map_cons,List.append_assoc,List.set_append_right _ _ (Nat.le_refl _),Nat.sub_self]
 simp only[List.append_assoc,List.cons_append,List.nil_append,List.set_cons_zero]
theorem stale_m0 {f:List Instr} {m0:List GV} {mid:List (List GV)} (l:List (List GV)):(f.map Instr.g++(m0 :: mid)++l)[f.length]?=some m0:=by
 rw[List.append_assoc,List.getElem?_append_right (by rw[List.length_map];exact Nat.le_refl _),List.length_map,Nat.sub_self]
 rfl
theorem set4 {m0:List GV} (h:m0.length=4) (x:Instr):setL m0 0 (Instr.g x)=Instr.g x:=by
 match m0,h with
 | [a,b,c,d],_=>rfl
theorem stale_set {f:List Instr} {m0:List GV} {mid:List (List GV)} {c:List Instr} {j:Nat} (hj:j < c.length) (h:m0.length=4):(f.map Instr.g++(m0 :: mid)++(c.drop j).map Instr.g).set f.length (setL m0 0 (Instr.g c[j]))=f.map Instr.g++[c[j]].map Instr.g++(mid++[Instr.g c[j]])++(c.drop (j+1)).map Instr.g:=by
 rw[set4 h]
 have:=stale_yes (f:=f.map Instr.g) (m0:=m0) (mid:=mid) hj (Instr.g c[j])
 rw[List.length_map] at this
 exact this
end Barb
namespace Go.Proofs.YtijdegmamdhcbaaDoor
open Go Go.Dm Go.Eng Go.RowKit Barb

theorem del_fn:fnOk Tryd.prog 16=true:=by kernel_rfl
theorem ixf_fn:fnOk Tryd.prog 42=true:=by kernel_rfl
theorem isGate_any (x:Instr):CT Tryd.prog gl 19 [.agg x.d] (Is (.g (.bool (gateI x)))):=by
 refine enter hT hF hM Tryd.func19 rfl 6 rfl (by kernel_rfl) [.tmp 2] rfl [.agg x.d] rfl _ ?_
 exact ⟨rfl,retPB (by simp[gateI])⟩
theorem ixf_any (c:List Instr) (hc:c.length≤9223372036854775807):CT Tryd.prog gl 42 [.g (.sl 4 (c.map Instr.g)),.fn 19 [] []] (Is (.g (.int (gateAt c)))):=by
 have lc:(c.map Instr.g).length=c.length:=List.length_map _
 refine enter hT hF hM Tryd.func42 rfl 19 rfl (by kernel_rfl) [.tmp 4] rfl [.g (.sl 4 (c.map Instr.g)),.fn 19 [] []] rfl _ ?_
 refine loopR (ι:=Nat) (fun i=>[(8,.g (.int (i:Int)))]) (fun _=>[]) (fun i=>i≤c.length∧∀ j (_:j < i) (h:j < c.length),gateI c[j]=false) (fun i=>c.length - i)
  ⟨0,[],⟨rfl,.inl rfl,.inr ⟨lk rfl,trivial⟩,rfl⟩,Nat.zero_le _,fun j h=>absurd h (Nat.not_lt_zero _)⟩ ?_
 rintro Rd hRd i ⟨hi,hno⟩
 refine ⟨fun h=>?_,fun h=>?_⟩
 ·have h1:i < c.length:=by omega
  refine ⟨i,_,rfl,gm h1,?_⟩
  refine callIs (.inl rfl) (isGate_any c[i]) ?_
  cases hg:gateI c[i] with
  | true =>
   obtain ⟨e1,_⟩:=gateAt_at h1 (fun j hj=>hno j hj (by omega)) hg
   rw[e1]
   exact ⟨rfl,retIs (.inl rfl)⟩
  | false =>
   refine ⟨_,I64.wrap (by unfold I64;omega),?_⟩
   exact hRd _ _ _ ⟨i+1,[],⟨rfl,.inl rfl,.inr ⟨lk rfl,trivial⟩,rfl⟩,⟨h1,fun j hj hjl=>by
    by_cases e:j=i
    ·subst e;exact hg
    ·exact hno j (by omega) hjl⟩,by omega⟩
 ·obtain ⟨e1,_⟩:=gateAt_none (c:=c) (fun j hj=>hno j (by omega) hj)
  rw[e1]
  exact ⟨rfl,retIs (.inl rfl)⟩
theorem Delete_any (c:List Instr) (hc:c.length≤1200):CTH Tryd.prog gl 16 0 [.row (c.map Instr.g) 55 4] [.row 0,.fn 19 [] []] (fun out=>out=.ret (.g (.sl 4 ((c.filter keepI).map Instr.g))) []):=by
 have lc:(c.map Instr.g).length=c.length:=List.length_map _
 refine enterH [] hT hF hM Tryd.func16 rfl 42 rfl (by kernel_rfl) [.tmp 4] rfl [.row 0,.fn 19 [] []] rfl ([.row (c.map Instr.g) 55 4]) [] rfl rfl rfl 0 [] trivial _ ?_
 refine callS ixf_fn (semLend (.inl rfl) (ixf_any c (by omega)) trivial ?_)
 refine ⟨fun e=>?_,fun e=>?_⟩
 ·have e2:c.filter keepI=c:=gateAt_no e
  rw[e2]
  exact ⟨rfl,[],.g (.sl 4 (c.map Instr.g)),[],⟨rfl,.inl rfl,.inl rfl,rfl⟩,rfl,trivial,rfl⟩
 obtain ⟨i0,hi0,e1,hg0,hf0⟩:=gateAt_yes e
 rw[e1]
 refine ⟨_,I64.wrap (by unfold I64;omega),?_⟩
 refine loopR (ι:=Nat × List (List GV)) (fun q=>[(0,.row 0),(5,.g (.int (((c.take q.1).filter keepI).length:Nat))),(6,.g (.int (q.1:Int)))])
  (fun q=>[.row (((c.take q.1).filter keepI).map Instr.g++q.2++(c.drop q.1).map Instr.g) 55 4])
  (fun q=>q.1≤c.length∧0 < q.2.length∧((c.take q.1).filter keepI).length+q.2.length=q.1∧∀ r∈q.2,r.length=4) (fun q=>c.length - q.1)
  ⟨(i0+1,[Instr.g c[i0]]),[.old 0],⟨rfl,.inr ⟨⟨?_,rfl,rfl⟩,trivial⟩,.inr ⟨lk rfl,lkI ?_,lkI (by push_cast;rfl),trivial⟩,rfl⟩,hi0,by simp,?_,?_⟩ ?_
 ·show c.map Instr.g=((c.take (i0+1)).filter keepI).map Instr.g++[Instr.g c[i0]]++(c.drop (i0+1)).map Instr.g
  rw[keep_no hi0 hg0,hf0]
  have:=stale_no (f:=(c.take i0).map Instr.g) (mid:=[]) hi0
  rw[List.append_nil,List.nil_append,← List.map_append,List.take_append_drop] at this
  exact this
 ·show (i0:Int)=(((c.take (i0+1)).filter keepI).length:Nat)
  rw[keep_no hi0 hg0,hf0,List.length_take]
  omega
 ·show ((c.take (i0+1)).filter keepI).length+1=i0+1
  rw[keep_no hi0 hg0,hf0,List.length_take]
  omega
 ·intro r hr
  rw[List.mem_singleton.1 hr]
  rfl
 rintro Rd hRd ⟨j,mid⟩ ⟨hj,hm0,hsum,hm4⟩
 dsimp only at hj hm0 hsum hm4 ⊢
 refine ⟨fun h=>?_,fun h=>?_⟩
 ·have hjl:j < c.length:=by
   have h:(j:Int) < ((((c.take j).filter keepI).map Instr.g++mid++(c.drop j).map Instr.g).length:Nat):=h
   rw[List.length_append,List.length_append,List.length_map,List.length_map,List.length_drop] at h
   omega
  have hjr:j < (((c.take j).filter keepI).map Instr.g++mid++(c.drop j).map Instr.g).length:=by
   rw[List.length_append,List.length_append,List.length_map,List.length_map,List.length_drop]
   omega
  refine ⟨j,rfl,hjr,Instr.g c[j],stale_at hjl (by rw[List.length_map];exact hsum),?_⟩
  refine callIs (.inl rfl) (isGate_any c[j]) ?_
  obtain ⟨m0,mid',rfl⟩:∃ m0 mid',mid=m0 :: mid':=by
   cases mid with
   | nil=>exact absurd hm0 (by decide)
   | cons a b=>exact ⟨a,b,rfl⟩
  cases hg:gateI c[j] with
  | true =>
   refine ⟨_,I64.wrap (by unfold I64;omega),?_⟩
   refine hRd _ _ _ ⟨(j+1,(m0 :: mid')++[Instr.g c[j]]),[.old 0],⟨rfl,.inr ⟨⟨?_,rfl,rfl⟩,trivial⟩,.inr ⟨lk rfl,lkI ?_,lkI (by push_cast;rfl),trivial⟩,rfl⟩,⟨hjl,by simp,?_,?_⟩,by show c.length - (j+1) < c.length - j;omega⟩
   ·show _=((c.take (j+1)).filter keepI).map Instr.g++((m0 :: mid')++[Instr.g c[j]])++(c.drop (j+1)).map Instr.g
    rw[keep_no hjl hg]
    exact stale_no hjl
   ·show (((c.take j).filter keepI).length:Int)=(((c.take (j+1)).filter keepI).length:Nat)
    rw[keep_no hjl hg]
   ·show ((c.take (j+1)).filter keepI).length+((m0 :: mid')++[Instr.g c[j]]).length=j+1
    rw[keep_no hjl hg,List.length_append,List.length_singleton]
    omega
   ·intro r hr
    rcases List.mem_append.1 hr with hr | hr
    ·exact hm4 r hr
    ·rw[List.mem_singleton.1 hr];rfl
  | false =>
   have hml:=hm4 m0 List.mem_cons_self
   have hfr:((c.take j).filter keepI).length < (((c.take j).filter keepI).map Instr.g++(m0 :: mid')++(c.drop j).map Instr.g).length:=by
    rw[List.length_append,List.length_append,List.length_map,List.length_cons]
    omega
   refine ⟨((c.take j).filter keepI).length,rfl,hfr,?_⟩
   refine ⟨m0,Instr.g c[j],stale_m0 _,⟨rfl,rfl,rfl,rfl,trivial⟩,(by rw[hml];decide),List.not_mem_nil,?_⟩
   refine ⟨_,I64.wrap (by unfold I64;omega),?_⟩
   refine ⟨_,I64.wrap (by unfold I64;omega),?_⟩
   refine hRd _ _ _ ⟨(j+1,mid'++[Instr.g c[j]]),[.old 0],⟨rfl,.inr ⟨⟨?_,rfl,rfl⟩,trivial⟩,.inr ⟨lk rfl,lkI ?_,lkI (by push_cast;rfl),trivial⟩,rfl⟩,⟨hjl,by simp,?_,?_⟩,by show c.length - (j+1) < c.length - j;omega⟩
   ·show _=((c.take (j+1)).filter keepI).map Instr.g++(mid'++[Instr.g c[j]])++(c.drop (j+1)).map Instr.g
    rw[keep_yes hjl hg,List.map_append]
    exact stale_set hjl hml
   ·show ((((c.take j).filter keepI).length:Nat):Int)+1=(((c.take (j+1)).filter keepI).length:Nat)
    rw[keep_yes hjl hg,List.length_append,List.length_singleton]
    push_cast
    rfl
   ·show ((c.take (j+1)).filter keepI).length+(mid'++[Instr.g c[j]]).length=j+1
    rw[keep_yes hjl hg,List.length_append,List.length_append,List.length_singleton,List.length_singleton]
    rw[List.length_cons] at hsum
    omega
   ·intro r hr
    rcases List.mem_append.1 hr with hr | hr
    ·exact hm4 r (List.mem_cons_of_mem _ hr)
    ·rw[List.mem_singleton.1 hr];rfl
 ·have hje:j=c.length:=by
   have h:¬(j:Int) < ((((c.take j).filter keepI).map Instr.g++mid++(c.drop j).map Instr.g).length:Nat):=h
   rw[List.length_append,List.length_append,List.length_map,List.length_map,List.length_drop] at h
   omega
  subst hje
  rw[List.take_length] at hsum ⊢
  rw[List.drop_length,List.map_nil,List.append_nil]
  generalize c.filter keepI=f at *
  have hlen:(f.map Instr.g++mid).length=f.length+mid.length:=by rw[List.length_append,List.length_map]
  refine ⟨f.length,rfl,(by rw[hlen];omega),(by rw[hlen];omega),(by rw[hlen];omega),[.int 0,.int 0,.int 0,.int 0],⟨rfl,rfl,rfl,rfl,trivial⟩,?_⟩
  have htk:∀ l:List (List GV),((f.map Instr.g++mid).take f.length++l).take f.length=f.map Instr.g:=fun l=>by
   rw[List.take_left' (l₁:=f.map Instr.g) (List.length_map _),List.take_left' (List.length_map _)]
  refine ⟨f.length,rfl,?_,?_⟩
  ·rw[List.length_append,List.length_take,hlen]
   omega
  exact ⟨rfl,[],.g (.sl 4 (f.map Instr.g)),[],⟨rfl,.inl rfl,.inr ⟨lkL (htk _),trivial⟩,rfl⟩,rfl,trivial,rfl⟩
end Go.Proofs.YtijdegmamdhcbaaDoor
