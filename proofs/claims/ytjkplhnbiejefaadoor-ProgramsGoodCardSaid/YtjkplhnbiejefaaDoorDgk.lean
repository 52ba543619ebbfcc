/-
  The tables of the packages code and barbicankeep, as the rows list them: their cells are at hand wherever the rows' condition holds.
-/
import Derived.Test.YtjkplhnbiejefaaDoorDgl
namespace Go.Dm
open Go Go.Eng Go.RowKit Go.ChangeShapes Go.WideShapes Go.Deep Go.ChangeAt
section
variable {P:Program} {w:World}
theorem laidMet_tail {x:String × DataW Unit} {rest:List (String × DataW Unit)} (h:laidMet P (x :: rest) w):laidMet P rest w:=by
 obtain ⟨n,d⟩:=x
 obtain ⟨ps,⟨g,t,cs,fuel,p,q,_,_,_,_,hq,rfl⟩,hnd,hc⟩:=h
 refine ⟨q,hq,(List.nodup_append.1 hnd).2.1,fun b off hb=>hc b off (List.mem_append_right _ hb)⟩
def tabS {H:Type} (l:List (List UInt8)):DataW H:=.agg (l.map fun s=>.lit (.string s))
theorem cells_of_tabS {H:Type} {enc:TypeId × Value→H} {base:Nat} {sp:Nat→Bool} {held:Bool} {fuel:Nat} {t e:TypeId} {n:Nat} {cs:List Value} {l:List (List UInt8)} {p:List MemPlace}
  (ht:P.underlying t=some (.array n e)) (he:P.underlying e=some .string) (hce:P.cellsOf e=1) (h:DataW.trod enc P w base sp held fuel t cs=some (tabS l,p)) :
  ∀ (i:Nat) (s:List UInt8),l[i]?=some s→cs[i]?=some (.string ⟨⟨s⟩⟩):=by
 obtain ⟨xs,m,_,hx,_,hl,hat⟩:=DataW.trod_array ht h
 intro i s hi
 injection hx with hx _
 injection hx with hx
 have h2:(xs.map (·.1))[i]?=some (DataW.lit (.string s):DataW H):=by rw[← hx];simp[hi]
 obtain ⟨x,hxi,hx1⟩:∃ x,xs[i]?=some x∧x.1=.lit (.string s):=by
  simp only[List.getElem?_map,Option.map_eq_some_iff] at h2
  exact h2
 have hil:i < n:=by rw[← hl];exact (List.getElem?_eq_some_iff.1 hxi).1
 have ha:=hat i hil
 rw[hxi,hce] at ha
 obtain ⟨b,hb,hz,_⟩:=DataW.trod_string he ha
 rw[hz] at hx1
 injection hx1 with hx1
 injection hx1 with hx1
 subst hx1
 have:=congrArg (·[0]?) hb
 simpa [List.getElem?_take,List.getElem?_drop] using this
theorem glOk_strs {name:String} {l:List (List UInt8)} {rest:List (String × DataW Unit)} {g:Nat} {t e:TypeId} {n:Nat}
  (hg:P.globalNamed name=some g) (hty:(P.globals[g]?).map (·.type)=some t) (ht:P.underlying t=some (.array n e)) (he:P.underlying e=some .string) (hce:P.cellsOf e=1) (hne:l≠[])
  (h:laidMet P ((name,tabS l) :: rest) w):GlOk [(g,l.map .str)] (fun k=>k < w.heap.size) w:=by
 obtain ⟨ps,⟨g',t',cs,fuel,p,q,hg',ht',hvar,hd,_,_⟩,_⟩:=h
 obtain rfl:=Option.some.inj (hg.symm.trans hg')
 obtain rfl:=Option.some.inj (hty.symm.trans ht')
 have hc:=cells_of_tabS ht he hce hd
 have cell:∀ (k:Nat) (s:List UInt8),l[k]?=some s→w.cell? ⟨g,k,none⟩=some (.string ⟨⟨s⟩⟩):=by
  intro k s hk
  have:=hc k s hk
  rw[World.var?_cell hg hvar k]
  simpa using this
 have row:∀ (m:List (List UInt8)) (i:Nat),(∀ (k:Nat) (s:List UInt8),m[k]?=some s→l[i+k]?=some s)→RepRow (fun k=>k < w.heap.size) w ⟨g,0,none⟩ i (m.map .str):=by
  intro m
  induction m with
  | nil=>intro i _;simp[RepRow]
  | cons s m ih =>
   intro i hl
   simp only[List.map_cons,RepRow]
   refine ⟨⟨.string ⟨⟨s⟩⟩,?_,by simp only[RepV]⟩,ih (i+1) (fun k z' hk=>by rw[show i+1+k=i+(k+1) from by omega];exact hl (k+1) z' (by simpa using hk))⟩
   rw[add_mk]
   simpa using cell i s (by simpa using hl 0 s rfl)
 intro q hq
 simp only[List.mem_singleton] at hq
 subst hq
 refine ⟨?_,row _ 0 (fun k z hk=>by simpa using hk),by cases l<;>trivial⟩
 cases hrows:l with
 | nil=>exact absurd hrows hne
 | cons s rs =>
  have:=cell 0 s (by rw[hrows];rfl)
  exact World.block_lt_of_cell? w _ this
theorem GlOk.both {G1 G2:Gl} {V:Nat→Prop} (h1:GlOk G1 V w) (h2:GlOk G2 V w):GlOk (G1++G2) V w:=fun p hp=>by
 rcases List.mem_append.1 hp with hp | hp
 ·exact h1 p hp
 ·exact h2 p hp
end
end Go.Dm
namespace Go.Proofs.YtjkplhnbiejefaaDoor
open Go Go.Dm Go.Eng
theorem unName : Tryd.prog.globalNamed "barbican/barbicankeep.units" = some 0 := by kernel_rfl
theorem unType:(Tryd.prog.globals[0]?).map (·.type)=some 43:=by kernel_rfl
theorem unArray:Tryd.prog.underlying 43=some (.array 3 9):=by kernel_rfl
theorem unElem:Tryd.prog.underlying 9=some .string:=by kernel_rfl
theorem unCells:Tryd.prog.cellsOf 9=1:=by kernel_rfl
abbrev unStrs:List (List UInt8):=[[111,110,101],[116,119,111],[116,114,105]]
theorem laid_strs:(Rows.laid_barbican_barbicankeep_units:DataW Unit)=tabS unStrs:=rfl
theorem gl_ok {W : World} (h : laidMetH Tryd.prog [("barbican/barbicankeep.units", Rows.laid_barbican_barbicankeep_units)] W) : GlOk gl (fun k => k < W.heap.size) W := by
 rw[laid_strs] at h
 exact glOk_strs unName unType unArray unElem unCells (by decide) h
def recell (l:List Value):Go.Obj→Go.Obj
 | .cells _ t frozen=>.cells l.toArray t frozen
 | o=>o
noncomputable def gl_world (os:Os):World :=
 { World.holding Tryd.prog os ⟨#[],#[],[]⟩ with heap:=(World.holding Tryd.prog os ⟨#[],#[],[]⟩).heap.modify 0 (recell (unStrs.map fun s=>Value.string ⟨⟨s⟩⟩)) }
end Go.Proofs.YtjkplhnbiejefaaDoor
