/-
  The tables of a row that lists the signs of operations and the powers of ten alone.
-/
import Derived.Test.YtabjelabdojpkaaDoorLb
import Derived.Test.YtabjelabdojpkaaDoorDgs
namespace Go.Proofs.YtabjelabdojpkaaDoor
open Go Go.Dm Go.Eng Go.RowKit Go.ChangeShapes Go.WideShapes Go.ChangeAt Barb
abbrev g0:Gl:=[(1,[.str [],.str [43],.str [45],.str [42],.str [38],.str [124],.str [94],.str [60],.str [61,61],.str [60,60],.str [62,62]]),(3,Lib.pow10Tab.map fun z=>.raw (.int .u64 z))]
theorem tab_of_g0 {V : Nat → Prop} {w : World} (hG : GlOk g0 V w) : Lib.TabIs Tryd.prog w "internal/strconv.uint64pow10" .u64 Lib.pow10Tab := by
 obtain ⟨_,h2⟩:=hG (3,Lib.pow10Tab.map fun z=>.raw (.int .u64 z)) (by simp)
 have e0:Lib.pow10Tab=1 :: Lib.pow10Tab.drop 1:=by decide
 have e:Lib.pow10Tab.map (fun z=>GV.raw (.int .u64 z))=((Value.int .u64 1) :: (Lib.pow10Tab.drop 1).map (Value.int .u64)).map GV.raw:=by
  conv=>lhs;rw[e0]
  rw[List.map_cons,List.map_cons,List.map_map]
  rfl
 rw[e] at h2
 have a2:=var_of pow10Named _ _ h2
 unfold Lib.TabIs
 rw[a2]
 refine congrArg (fun l=>some (List.toArray l)) ?_
 conv=>rhs;rw[e0]
 rfl
theorem pow_of {W : World} (h2 : Lib.TabIs Tryd.prog W "internal/strconv.uint64pow10" .u64 Lib.pow10Tab) : GlOk [(3, Lib.pow10Tab.map fun z => .raw (.int .u64 z))] (fun k => k < W.heap.size) W := by
 have key:∀ (n:String) (b:Nat) (us:List Value),Tryd.prog.globalNamed n=some b→W.var? Tryd.prog n=some us.toArray→us≠[]→(∀ u∈us,u.oneCell'=true∧cellsL u=[u])→b < W.heap.size∧RepRow (fun k=>k < W.heap.size) W ⟨b,0,none⟩ 0 (us.map .raw)∧whole W b (us.map .raw):=by
  intro n b us hn hv hne hu
  have hc:∀ j,W.cell? ⟨b,j,none⟩=us[j]?:=fun j=>by rw[World.var?_cell hn hv j];simp
  have row:∀ (m:List Value) (i:Nat),(∀ u∈m,u.oneCell'=true∧cellsL u=[u])→(∀ (k:Nat) (u:Value),m[k]?=some u→us[i+k]?=some u)→RepRow (fun k=>k < W.heap.size) W ⟨b,0,none⟩ i (m.map .raw):=by
   intro m
   induction m with
   | nil=>intro i _ _;simp[RepRow]
   | cons u m ih =>
    intro i hm hl
    simp only[List.map_cons,RepRow]
    refine ⟨⟨u,?_,?_⟩,ih (i+1) (fun v hv=>hm v (List.mem_cons_of_mem _ hv)) (fun k v hk=>by rw[show i+1+k=i+(k+1) from by omega];exact hl (k+1) v (by simpa using hk))⟩
    ·rw[add_mk]
     simpa using (hc i).trans (by simpa using hl 0 u rfl)
    ·simp only[RepV,true_and]
     exact hm u List.mem_cons_self
  unfold World.var? at hv
  simp only[hn,Option.bind_some] at hv
  cases hh:W.heap[b]? with
  | none=>rw[hh] at hv;cases hv
  | some o =>
   rw[hh] at hv
   cases o<;>simp only[reduceCtorEq,Option.some.injEq] at hv
   subst hv
   refine ⟨(Array.getElem?_eq_some_iff.1 hh).1,row us 0 hu (fun k u hk=>by simpa using hk),?_⟩
   cases us with
   | nil=>exact absurd rfl hne
   | cons u us=>exact ⟨_,_,_,hh,by simp⟩
 intro p hp
 simp only[List.mem_cons,List.not_mem_nil,or_false] at hp
 subst hp
 have e:Lib.pow10Tab.map (fun z=>GV.raw (.int .u64 z))=(Lib.pow10Tab.map (Value.int .u64)).map GV.raw:=by rw[List.map_map];rfl
 show _∧RepRow _ _ _ _ (Lib.pow10Tab.map (fun z=>GV.raw (.int .u64 z)))∧whole _ _ (Lib.pow10Tab.map (fun z=>GV.raw (.int .u64 z)))
 rw[e]
 exact key _ _ _ pow10Named h2 (by decide) (fun u hu=>by obtain ⟨z,_,rfl⟩:=List.mem_map.1 hu;exact ⟨rfl,rfl⟩)
theorem g0_laid {W : World} {r : List (String × DataW Unit)} (h : laidMet Tryd.prog (("internal/strconv.uint64pow10", Lib.tabData .u64 Lib.pow10Tab) :: ("barbican/tree.ops", Rows.laid_barbican_tree_ops) :: r) W) : GlOk g0 (fun k => k < W.heap.size) W := by
 have ho:GlOk [(1,([] :: ([[43],[45],[42],[38],[124],[94],[60],[61,61],[60,60],[62,62]]:List (List UInt8))).map .str)] (fun k=>k < W.heap.size) W :=
  glOk_strs (by kernel_rfl) (by kernel_rfl) Tryd.underlying131 Tryd.underlying9 (by kernel_rfl) (by simp) (laidMet_tail h)
 exact GlOk.both ho (pow_of (Lib.tabIs_of_head pow10Named tabType Tryd.underlying139 Tryd.underlying98 u64Cells tabCells h))
end Go.Proofs.YtabjelabdojpkaaDoor
