/-
  Tables of texts, as a row lists them. It holds of every program.
-/
import Derived.Test.YtabjelabdojpkaaDoorDcard
namespace Go.Dm
open Go Go.Eng Go.RowKit Go.ChangeShapes Go.WideShapes Go.Deep Go.ChangeAt
section
variable {P:Program} {w:World}
theorem laidMet_tail {x:String × DataW Unit} {rest:List (String × DataW Unit)} (h:laidMet P (x :: rest) w):laidMet P rest w:=by
 obtain ⟨n,d⟩:=x
 obtain ⟨ps,⟨g,t,cs,fuel,p,q,_,_,_,_,hq,rfl⟩,hnd,hc⟩:=h
 refine ⟨q,hq,(List.nodup_append.1 hnd).2.1,fun b off hb=>hc b off (List.mem_append_right _ hb)⟩
def tabS {H:Type} (l:List (List UInt8)):DataW H:=.agg (l.map fun s=>.lit (.string s))
theorem cells_of_tabS {H:Type} {enc:TypeId × Value→H} {base:Nat} {sp:Nat→Bool} {held:Bool} {fuel:Nat} {t e:TypeId} {n:Nat} {cs:List Value} {l:List (List UInt8)} {p:List MemPlace}
  (ht:P.underlying t=some (.array n e)) (he:P.underlying e=some .string) (hce:P.cellsOf e=1) (h:DataW.trod enc P w base sp held fuel t cs=some (tabS l,p)) :
  ∀ (i:Nat) (s:List UInt8),l[i]?=some s→cs[i]?=some (.string ⟨⟨s⟩⟩):=by
 obtain ⟨xs,m,_,hx,_,hl,hat⟩:=DataW.trod_array ht h
 intro i s hi
 injection hx with hx _
 injection hx with hx
 have h2:(xs.map (·.1))[i]?=some (DataW.lit (.string s):DataW H):=by rw[← hx];simp[hi]
 obtain ⟨x,hxi,hx1⟩:∃ x,xs[i]?=some x∧x.1=.lit (.string s):=by
  simp only[List.getElem?_map,Option.map_eq_some_iff] at h2
  exact h2
 have hil:i < n:=by rw[← hl];exact (List.getElem?_eq_some_iff.1 hxi).1
 have ha:=hat i hil
 rw[hxi,hce] at ha
 obtain ⟨b,hb,hz,_⟩:=DataW.trod_string he ha
 rw[hz] at hx1
 injection hx1 with hx1
 injection hx1 with hx1
 subst hx1
 have:=congrArg (·[0]?) hb
 simpa [List.getElem?_take,List.getElem?_drop] using this
theorem glOk_strs {name:String} {l:List (List UInt8)} {rest:List (String × DataW Unit)} {g:Nat} {t e:TypeId} {n:Nat}
  (hg:P.globalNamed name=some g) (hty:(P.globals[g]?).map (·.type)=some t) (ht:P.underlying t=some (.array n e)) (he:P.underlying e=some .string) (hce:P.cellsOf e=1) (hne:l≠[])
  (h:laidMet P ((name,tabS l) :: rest) w):GlOk [(g,l.map .str)] (fun k=>k < w.heap.size) w:=by
 obtain ⟨ps,⟨g',t',cs,fuel,p,q,hg',ht',hvar,hd,_,_⟩,_⟩:=h
 obtain rfl:=Option.some.inj (hg.symm.trans hg')
 obtain rfl:=Option.some.inj (hty.symm.trans ht')
 have hc:=cells_of_tabS ht he hce hd
 have cell:∀ (k:Nat) (s:List UInt8),l[k]?=some s→w.cell? ⟨g,k,none⟩=some (.string ⟨⟨s⟩⟩):=by
  intro k s hk
  have:=hc k s hk
  rw[World.var?_cell hg hvar k]
  simpa using this
 have row:∀ (m:List (List UInt8)) (i:Nat),(∀ (k:Nat) (s:List UInt8),m[k]?=some s→l[i+k]?=some s)→RepRow (fun k=>k < w.heap.size) w ⟨g,0,none⟩ i (m.map .str):=by
  intro m
  induction m with
  | nil=>intro i _;simp[RepRow]
  | cons s m ih =>
   intro i hl
   simp only[List.map_cons,RepRow]
   refine ⟨⟨.string ⟨⟨s⟩⟩,?_,by simp only[RepV]⟩,ih (i+1) (fun k z' hk=>by rw[show i+1+k=i+(k+1) from by omega];exact hl (k+1) z' (by simpa using hk))⟩
   rw[add_mk]
   simpa using cell i s (by simpa using hl 0 s rfl)
 intro q hq
 simp only[List.mem_singleton] at hq
 subst hq
 refine ⟨?_,row _ 0 (fun k z hk=>by simpa using hk),by cases l<;>trivial⟩
 cases hrows:l with
 | nil=>exact absurd hrows hne
 | cons s rs =>
  have:=cell 0 s (by rw[hrows];rfl)
  exact World.block_lt_of_cell? w _ this
theorem GlOk.both {G1 G2:Gl} {V:Nat→Prop} (h1:GlOk G1 V w) (h2:GlOk G2 V w):GlOk (G1++G2) V w:=fun p hp=>by
 rcases List.mem_append.1 hp with hp | hp
 ·exact h1 p hp
 ·exact h2 p hp
end
end Go.Dm
