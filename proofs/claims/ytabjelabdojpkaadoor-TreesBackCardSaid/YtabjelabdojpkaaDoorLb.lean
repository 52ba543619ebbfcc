/-
  The library's variables as tables of the walks: what they hold; contracts of token.Number and token.sign.
-/
import Derived.Test.YtabjelabdojpkaaDoorNn
import Derived.Test.YtabjelabdojpkaaDoorSg
import Derived.Test.YtabjelabdojpkaaDoorDgl
import Derived.Test.YtabjelabdojpkaaDoorDcard
import Derived.Test.YtabjelabdojpkaaDoorRows
import Derived.Stop.LaidErr
import Derived.Lib.LaidTab
import Derived.LaidMore
namespace Go.Dm
open Go Go.Eng Go.RowKit
theorem ct_of_raw {P:Program} {G:Gl} {g:FuncId} {ds:List D} {d:D}
  (h:∀ (w:World) (V:Nat→Prop) (vals:List Value),GlOk G V w→RepDL [] (fun _=>undef) V w ds vals→Calls P g ⟨vals⟩ w fun e w'=>∃ v,e=.returned v∧Below w.heap.size w w'∧RepD [] (fun _=>undef) V w' d v):CT P G g ds (Is d):=by
 intro w V vals hV hG hr
 refine (h w V vals hG hr).mono fun e w' ⟨v,he,hb,hd⟩=>?_
 subst he
 have hm:Moved V w V w':=fun k hk=>⟨hk,hb.block k (hV k hk)⟩
 refine ⟨d,[],fun _=>undef,V,rfl,⟨fun i o hi=>by simp at hi,fun i j o o' k hi=>by simp at hi,fun i o k hi=>by simp at hi,fun i o k hi=>by simp at hi,fun k hk=>Nat.lt_of_lt_of_le (hV k hk) hb.size,fun k hk=>hk,fun k hk=>.inl hk,Fr.of_below hb,hG.move hm⟩,hd⟩
end Go.Dm
namespace Go.Proofs.YtabjelabdojpkaaDoor
open Go Go.Dm Go.Eng Go.RowKit Go.ChangeShapes Go.WideShapes Go.ChangeAt Barb
variable {L:Lv}
theorem synName : Tryd.prog.globalNamed "strconv.ErrSyntax" = some 4 := by kernel_rfl
theorem synType:(Tryd.prog.globals[4]?).map (·.type)=some 46:=by kernel_rfl
theorem ranName : Tryd.prog.globalNamed "strconv.ErrRange" = some 5 := by kernel_rfl
theorem ranType:(Tryd.prog.globals[5]?).map (·.type)=some 46:=by kernel_rfl
theorem tabType:(Tryd.prog.globals[3]?).map (·.type)=some 139:=by kernel_rfl
theorem errCells:Tryd.prog.cellsOf 165=1:=by kernel_rfl
theorem strCells:Tryd.prog.cellsOf 9=1:=by kernel_rfl
theorem u64Cells:Tryd.prog.cellsOf 98=1:=by kernel_rfl
theorem tabCells:Tryd.prog.cellsOf 139=20:=by kernel_rfl
theorem raw_of {w:World} {V:Nat→Prop} {b:Nat}:∀ (l:List Value) (i:Nat),RepRow V w ⟨b,0,none⟩ i (l.map .raw)→∀ (j:Nat) (v:Value),l[j]?=some v→w.cell? ⟨b,i+j,none⟩=some v
 | [],_,_,j,v,hj=>by simp at hj
 | u :: l,i,h,j,v,hj=>by
  simp only[List.map_cons,RepRow] at h
  obtain ⟨⟨u',hc,hu⟩,hr⟩:=h
  simp only[RepV] at hu
  cases j with
  | zero =>
   simp only[List.getElem?_cons_zero,Option.some.injEq] at hj
   subst hj
   rw[add_mk,Nat.zero_add] at hc
   rw[Nat.add_zero,hc,hu.1]
  | succ j =>
   have:=raw_of l (i+1) hr j v (by simpa using hj)
   rw[show i+(j+1)=i+1+j from by omega]
   exact this
theorem var_of {w:World} {V:Nat→Prop} {n:String} {b:Nat} (hn:Tryd.prog.globalNamed n=some b) (u:Value) (l:List Value) (h:RepRow V w ⟨b,0,none⟩ 0 ((u :: l).map .raw)∧whole w b ((u :: l).map .raw)):w.var? Tryd.prog n=some (u :: l).toArray:=by
 obtain ⟨hr,cs,t,x,hh,hs⟩:=h
 have hs:cs.size=(u :: l).length:=by simpa using hs
 unfold World.var?
 simp only[hn,Option.bind_some,hh]
 refine congrArg some (Array.ext' (List.ext_getElem? fun j=>?_))
 by_cases hj:j < (u :: l).length
 ·have:=raw_of (u :: l) 0 hr j _ (List.getElem?_eq_getElem hj)
  rw[Nat.zero_add] at this
  simp only[World.cell?,hh] at this
  rw[List.getElem?_eq_getElem hj,← this]
  simp
 ·rw[List.getElem?_eq_none (show (u :: l).length≤j by omega),List.getElem?_eq_none (show cs.toList.length≤j by rw[Array.length_toList];omega)]
theorem lib_of_gl {L:Lv} {V:Nat→Prop} {w:World} (hG:GlOk (gl L) V w):LibOk w:=by
 obtain ⟨_,h0⟩:=hG (4,[.raw (.iface L.t0 L.p0)]) (by simp)
 obtain ⟨_,h1⟩:=hG (5,[.raw (.iface L.t1 L.p1)]) (by simp)
 obtain ⟨_,h2⟩:=hG (3,Lib.pow10Tab.map fun z=>.raw (.int .u64 z)) (by simp)
 have a0:=World.var?_cell synName (var_of synName _ [] h0) 0
 have a1:=World.var?_cell ranName (var_of ranName _ [] h1) 0
 refine ⟨⟨_,_,by simpa using a0⟩,⟨_,_,by simpa using a1⟩,?_⟩
 have e0:Lib.pow10Tab=1 :: Lib.pow10Tab.drop 1:=by decide
 have e:Lib.pow10Tab.map (fun z=>GV.raw (.int .u64 z))=((Value.int .u64 1) :: (Lib.pow10Tab.drop 1).map (Value.int .u64)).map GV.raw:=by
  conv=>lhs;rw[e0]
  rw[List.map_cons,List.map_cons,List.map_map]
  rfl
 rw[e] at h2
 have a2:=var_of pow10Named _ _ h2
 unfold Lib.TabIs
 rw[a2]
 refine congrArg (fun l=>some (List.toArray l)) ?_
 conv=>rhs;rw[e0]
 rfl
theorem gl_of {W : World} {L : Lv} (h0 : W.var? Tryd.prog "strconv.ErrSyntax" = some #[.iface L.t0 L.p0]) (h1 : W.var? Tryd.prog "strconv.ErrRange" = some #[.iface L.t1 L.p1]) (h2 : Lib.TabIs Tryd.prog W "internal/strconv.uint64pow10" .u64 Lib.pow10Tab) : GlOk (libG L) (fun k => k < W.heap.size) W := by
 have key:∀ (n:String) (b:Nat) (us:List Value),Tryd.prog.globalNamed n=some b→W.var? Tryd.prog n=some us.toArray→us≠[]→(∀ u∈us,u.oneCell'=true∧cellsL u=[u])→b < W.heap.size∧RepRow (fun k=>k < W.heap.size) W ⟨b,0,none⟩ 0 (us.map .raw)∧whole W b (us.map .raw):=by
  intro n b us hn hv hne hu
  have hc:∀ j,W.cell? ⟨b,j,none⟩=us[j]?:=fun j=>by rw[World.var?_cell hn hv j];simp
  have row:∀ (m:List Value) (i:Nat),(∀ u∈m,u.oneCell'=true∧cellsL u=[u])→(∀ (k:Nat) (u:Value),m[k]?=some u→us[i+k]?=some u)→RepRow (fun k=>k < W.heap.size) W ⟨b,0,none⟩ i (m.map .raw):=by
   intro m
   induction m with
   | nil=>intro i _ _;simp[RepRow]
   | cons u m ih =>
    intro i hm hl
    simp only[List.map_cons,RepRow]
    refine ⟨⟨u,?_,?_⟩,ih (i+1) (fun v hv=>hm v (List.mem_cons_of_mem _ hv)) (fun k v hk=>by rw[show i+1+k=i+(k+1) from by omega];exact hl (k+1) v (by simpa using hk))⟩
    ·rw[add_mk]
     simpa using (hc i).trans (by simpa using hl 0 u rfl)
    ·simp only[RepV,true_and]
     exact hm u List.mem_cons_self
  unfold World.var? at hv
  simp only[hn,Option.bind_some] at hv
  cases hh:W.heap[b]? with
  | none=>rw[hh] at hv;cases hv
  | some o =>
   rw[hh] at hv
   cases o<;>simp only[reduceCtorEq,Option.some.injEq] at hv
   subst hv
   refine ⟨(Array.getElem?_eq_some_iff.1 hh).1,row us 0 hu (fun k u hk=>by simpa using hk),?_⟩
   cases us with
   | nil=>exact absurd rfl hne
   | cons u us=>exact ⟨_,_,_,hh,by simp⟩
 intro p hp
 simp only[List.mem_cons,List.not_mem_nil,or_false] at hp
 rcases hp with rfl | rfl | rfl
 ·exact key _ _ [.iface L.t0 L.p0] synName h0 (by simp) (by simp[Value.oneCell',cellsL])
 ·exact key _ _ [.iface L.t1 L.p1] ranName h1 (by simp) (by simp[Value.oneCell',cellsL])
 ·have e:Lib.pow10Tab.map (fun z=>GV.raw (.int .u64 z))=(Lib.pow10Tab.map (Value.int .u64)).map GV.raw:=by rw[List.map_map];rfl
  show _∧RepRow _ _ _ _ (Lib.pow10Tab.map (fun z=>GV.raw (.int .u64 z)))∧whole _ _ (Lib.pow10Tab.map (fun z=>GV.raw (.int .u64 z)))
  rw[e]
  exact key _ _ _ pow10Named h2 (by decide) (fun u hu=>by obtain ⟨z,_,rfl⟩:=List.mem_map.1 hu;exact ⟨rfl,rfl⟩)
theorem errName (u : TypeId) (h : Tryd.prog.typeName? 3 u = some "*errors.errorString") : u = 163 :=
 typeName_ptr_named (nm := "errors.errorString") (by rw [show "*" ++ "errors.errorString" = "*errors.errorString" from by decide]; kernel_rfl) (by kernel_rfl) (by decide) u (by rw [show "*" ++ "errors.errorString" = "*errors.errorString" from by decide]; exact h)
theorem gl_laid {W : World} {x : String × DataW Unit} {r : List (String × DataW Unit)} (h : laidMet Tryd.prog (("internal/strconv.uint64pow10", Lib.tabData .u64 Lib.pow10Tab) :: x :: ("strconv.ErrRange", Rows.laid_strconv_ErrRange) :: ("strconv.ErrSyntax", Rows.laid_strconv_ErrSyntax) :: r) W) : ∃ L, GlOk (libG L) (fun k => k < W.heap.size) W := by
 obtain ⟨a0,s0,hv0,-,-,-⟩:=laid_sentinel h.tail.tail ranName ranType Tryd.underlying46 errName Tryd.underlying163 Tryd.underlying165 rfl rfl Tryd.underlying9 errCells strCells
 obtain ⟨a1,s1,hv1,-,-,-⟩:=laid_sentinel h.tail.tail.tail synName synType Tryd.underlying46 errName Tryd.underlying163 Tryd.underlying165 rfl rfl Tryd.underlying9 errCells strCells
 exact ⟨⟨_,_,_,_⟩,gl_of hv1 hv0 (Lib.tabIs_of_head pow10Named tabType Tryd.underlying139 Tryd.underlying98 u64Cells tabCells h)⟩
theorem arg1 {V:Nat→Prop} {w:World} {s:List UInt8} {vals:List Value} (h:RepDL [] (fun _=>undef) V w [.g (.str s)] vals):vals=[.string ⟨⟨s⟩⟩]:=by
 simp only[RepDL] at h
 obtain ⟨v,us,rfl,hv,rfl⟩:=h
 simp only[RepD,RepV] at hv
 rw[hv]
theorem Number_any (s:List UInt8) (hs:s.length≤140737488351232):CT Tryd.prog (gl L) 41 [.g (.str s)] (Is (.tuple [.g (.int (numR s)),.g (.bool (numB s))])):=by
 refine ct_of_raw fun w V vals hG hr=>?_
 rw[arg1 hr]
 refine (number_raw ⟨⟨s⟩⟩ hs w (lib_of_gl hG)).mono fun e w' ⟨he,hb⟩=>⟨_,he,hb,?_⟩
 simp only[RepD,RepDL,RepV]
 exact ⟨_,rfl,_,_,rfl,rfl,_,_,rfl,rfl,rfl⟩
theorem sign_any (s:List UInt8):CT Tryd.prog (gl L) 42 [.g (.str s)] (Is (.g (.str (signOf s)))):=by
 refine ct_of_raw fun w V vals hG hr=>?_
 rw[arg1 hr]
 refine (sign_raw ⟨⟨s⟩⟩ w).mono fun e w' ⟨he,hb⟩=>⟨_,he,hb,?_⟩
 simp only[RepD,RepV]
end Go.Proofs.YtabjelabdojpkaaDoor
