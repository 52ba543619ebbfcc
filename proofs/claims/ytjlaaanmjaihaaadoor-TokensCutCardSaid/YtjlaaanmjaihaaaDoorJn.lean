/-
  strings.Join: its contract, as the walks ask it.
-/
import Derived.Test.YtjlaaanmjaihaaaDoorLb
import Derived.Test.YtjlaaanmjaihaaaDoorSpec2
import Derived.Shelf.Strings.OnBuilder
namespace Go.Proofs.YtjlaaanmjaihaaaDoor
open Go Go.Dm Go.Eng Go.RowKit Go.Shelf Barb
variable {L:Lv}
def laysJoin_ren : Go.Shelf.Ren := ⟨fun | 156 => 8 | 165 => 19 | 166 => 20 | 169 => 21 | 240 => 29 | 241 => 30 | 276 => 37 | 277 => 38 | n => n, fun | 31 => 28 | 9 => 9 | 3 => 3 | 4 => 4 | 0 => 0 | 20 => 20 | 72 => 41 | 76 => 45 | 70 => 38 | 37 => 39 | 75 => 44 | 127 => 55 | 164 => 59 | 5 => 5 | 80 => 47 | n => n, fun | n => n⟩
theorem laysJoin : Go.Proofs.Lays.n156 Tryd.prog laysJoin_ren := by
  repeat' first | kernel_rfl | (intro w; kernel_rfl) | (intro w; rfl) | constructor
theorem extraJoin:Builder.Extra Tryd.prog laysJoin_ren where
 sizeBuilder:=by kernel_rfl
 liesBuilder:=by kernel_rfl
 t5:=laysIndex.t5
 a5:=run_isAgg_plain laysIndex.t5 rfl
 z5:=laysIndex.z5
 v5:=laysIndex.v5
 infoByte:=by kernel_rfl
 cellsByte:=by kernel_rfl
 sizeByte:=by kernel_rfl
 neB5:=by decide
theorem rows_at {V:Nat→Prop} {w:World} {a:Addr}:∀ (l:List Str) (i:Nat),RepAll V w 1 a i (l.map strG)→∀ (j:Nat) (s:Str),l[j]?=some s→w.cell? (a.add (i+j))=some (.string ⟨⟨s⟩⟩)
 | [],_,_,j,s,h=>by simp at h
 | u :: l,i,h,j,s,hj=>by
  simp only[List.map_cons,RepAll,strG,RepRow,RepV] at h
  obtain ⟨⟨_,⟨⟨v,hc,rfl⟩,_⟩⟩,hr⟩:=h
  cases j with
  | zero =>
   simp only[List.getElem?_cons_zero,Option.some.injEq] at hj
   subst hj
   simpa using hc
  | succ j =>
   have:=rows_at l (i+1) hr j s (by simpa using hj)
   rw[show i+(j+1)=i+1+j from by omega]
   exact this
theorem Join_any (l:List Str) (sep:Str) (hn:l.length≤140737488355328) (hl:(Lib.join l sep).length≤140737488355328):CT Tryd.prog (gl L) 8 [.g (.sl 1 (l.map strG)),.g (.str sep)] (Is (.g (.str (Lib.join l sep)))):=by
 refine ct_of_raw fun w V vals hG hr=>?_
 simp only[RepDL] at hr
 obtain ⟨v,us,rfl,hv,v2,us2,rfl,hv2,rfl⟩:=hr
 simp only[RepD,RepV] at hv hv2
 subst hv2
 obtain ⟨A,cap,rfl,hcap,hrow,hz⟩:=hv
 have e:(l.map (fun s=>(⟨⟨s⟩⟩:ByteArray))).map (·.data.toList)=l:=by
  rw[List.map_map]
  exact List.map_id' l
 cases l with
 | nil =>
  refine (Any.strings_Join_none laysJoin extraJoin A cap ⟨⟨sep⟩⟩ w).mono fun e w' ⟨he,hw⟩=>⟨_,he,hw▸Below.refl _ _,?_⟩
  simp only[RepD,RepV]
  rfl
 | cons x l =>
  obtain ⟨a,rfl,_,hall⟩:=hrow (by simp)
  have hc:=rows_at (x :: l) 0 hall
  have h0:=hc 0 x rfl
  obtain ⟨b,o,sp⟩:=a
  have hsp:sp=none:=by
   rw[Addr.add,if_pos rfl] at h0
   unfold World.cell? at h0
   cases sp with
   | none=>rfl
   | some k=>split at h0<;>simp at h0
  subst hsp
  have hb:b < w.heap.size:=World.block_lt_of_cell? w _ (by rw[Addr.add,if_pos rfl] at h0;exact h0)
  have hJ:=Any.strings_Join laysJoin extraJoin b o cap ((x :: l).map (fun s=>(⟨⟨s⟩⟩:ByteArray))) ⟨⟨sep⟩⟩ w (fun j y hj=>by
   simp only[List.getElem?_map,Option.map_eq_some_iff] at hj
   obtain ⟨s,hs,rfl⟩:=hj
   have:=hc j s hs
   rw[Nat.zero_add,add_mk] at this
   exact this) hb (by rw[List.length_map];exact hn) (by simpa using hcap) (by rw[e];exact hl)
  rw[e] at hJ
  simp only[List.length_map] at hJ ⊢
  refine hJ.mono fun e w' ⟨he,hw⟩=>⟨_,he,hw,?_⟩
  simp only[RepD,RepV]
end Go.Proofs.YtjlaaanmjaihaaaDoor
