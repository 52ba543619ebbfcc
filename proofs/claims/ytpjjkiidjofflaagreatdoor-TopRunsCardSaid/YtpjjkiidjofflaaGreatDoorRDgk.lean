import Derived.Test.YtpjjkiidjofflaaGreatDoorRDgl
namespace Go.Dm
open Go Go.Eng Go.RowKit Go.ChangeShapes Go.WideShapes Go.Deep Go.ChangeAt
section
variable {P:Program} {w:World}
theorem laidMet_tail {x:String × DataW Unit} {rest:List (String × DataW Unit)} (h:laidMet P (x :: rest) w):laidMet P rest w:=by obtain ⟨n,d⟩:=x;obtain ⟨ps,⟨g,t,cs,fuel,p,q,_,_,_,_,hq,rfl⟩,hnd,hc⟩:=h;refine ⟨q,hq,(List.nodup_append.1 hnd).2.1,λb off hb=>hc b off (List.mem_append_right _ hb)⟩
def tabS {H:Type} (l:List (List UInt8)):DataW H:=.agg (l.map λs=>.lit (.string s))
theorem cells_of_tabS {H:Type} {enc:TypeId × Value->H} {base:Nat} {sp:Nat->Bool} {held:Bool} {fuel:Nat} {t e:TypeId} {n:Nat} {cs:List Value} {l:List (List UInt8)} {p:List MemPlace}
  (ht:P.underlying t=some (.array n e)) (he:P.underlying e=some .string) (hce:P.cellsOf e=1) (h:DataW.trod enc P w base sp held fuel t cs=some (tabS l,p)) :
  ∀(i:Nat) (s:List UInt8),l[i]?=some s->cs[i]?=some (.string ⟨⟨s⟩⟩):=by
 obtain ⟨xs,m,_,hx,_,hl,hat⟩:=DataW.trod_array ht h;intro i s hi;injection hx with hx _;injection hx with hx;have h2:(xs.map (·.1))[i]?=some (DataW.lit (.string s):DataW H):=by rw[<- hx];simp[hi]
 obtain ⟨x,hxi,hx1⟩:∃x,xs[i]?=some x/\x.1=.lit (.string s):=by simp only[List.getElem?_map,Option.map_eq_some_iff] at h2;exact h2
 have hil:i < n:=by rw[<- hl];exact (List.getElem?_eq_some_iff.1 hxi).1
 have ha:=hat i hil;rw[hxi,hce] at ha;obtain ⟨b,hb,hz,_⟩:=DataW.trod_string he ha;rw[hz] at hx1;injection hx1 with hx1;injection hx1 with hx1;subst hx1;have:=congrArg (·[0]?) hb
 simpa [List.getElem?_take,List.getElem?_drop] using this
theorem glOk_strs {name:String} {l:List (List UInt8)} {rest:List (String × DataW Unit)} {g:Nat} {t e:TypeId} {n:Nat}
  (hg:P.globalNamed name=some g) (hty:(P.globals[g]?).map (·.type)=some t) (ht:P.underlying t=some (.array n e)) (he:P.underlying e=some .string) (hce:P.cellsOf e=1) (hne:l≠[])
  (h:laidMet P ((name,tabS l) :: rest) w):GlOk [(g,l.map .str)] (λk=>k < w.heap.size) w:=by
 obtain ⟨ps,⟨g',t',cs,fuel,p,q,hg',ht',hvar,hd,_,_⟩,_⟩:=h;obtain rfl:=Option.some.inj (hg.symm.trans hg');obtain rfl:=Option.some.inj (hty.symm.trans ht');have hc:=cells_of_tabS ht he hce hd;have cell:∀(k:Nat) (s:List UInt8),l[k]?=some s->w.cell? ⟨g,k,none⟩=some (.string ⟨⟨s⟩⟩):=by
  intro k s hk;have:=hc k s hk;rw[World.var?_cell hg hvar k]
  simpa using this
 have row:∀(m:List (List UInt8)) (i:Nat),(∀(k:Nat) (s:List UInt8),m[k]?=some s->l[i+k]?=some s)->ZaC (λk=>k < w.heap.size) w ⟨g,0,none⟩ i (m.map .str):=by
  intro m
  induction m with
  | nil=>intro i _;simp[ZaC]
  | cons s m ih =>
   intro i hl;simp only[List.map_cons,ZaC];refine ⟨⟨.string ⟨⟨s⟩⟩,?_,by simp only[ZaR]⟩,ih (i+1) (λk z' hk=>by rw[show i+1+k=i+(k+1) from by omega];exact hl (k+1) z' (by simpa using hk))⟩;rw[Zce]
   simpa using cell i s (by simpa using hl 0 s rfl)
 intro q hq;simp only[List.mem_singleton] at hq;subst hq;refine ⟨?_,row _ 0 (λk z hk=>by simpa using hk)⟩
 cases hrows:l with
 | nil=>exact absurd hrows hne
 | cons s rs =>have:=cell 0 s (by rw[hrows];rfl);exact World.block_lt_of_cell? w _ this
theorem GlOk.both {G1 G2:Gl} {V:Nat->Prop} (h1:GlOk G1 V w) (h2:GlOk G2 V w):GlOk (G1++G2) V w:=λp hp=>by
 rcases List.mem_append.1 hp with hp | hp
 ·exact h1 p hp
 ·exact h2 p hp
end
end Go.Dm
namespace Go.Proofs.YtpjjkiidjofflaaGreatDoor
open Go Go.Dm Go.Eng
theorem unName : Tryz.prog.globalNamed "barbican/barbicankeep.units" = some 0 := by kernel_rfl
theorem unType:(Tryz.prog.globals[0]?).map (·.type)=some 101:=by kernel_rfl
theorem unArray:Tryz.prog.underlying 101=some (.array 3 9):=by kernel_rfl
theorem ofName : Tryz.prog.globalNamed "barbican/code.of" = some 1 := by kernel_rfl
theorem ofType:(Tryz.prog.globals[1]?).map (·.type)=some 186:=by kernel_rfl
theorem ofCells:Tryz.prog.cellsOf 185=3:=by kernel_rfl
def Zih (P:Program):List Field->Nat->Bool
 | [],_=>true
 | f :: l,j=>f.offset == j && (match P.underlying f.type with | some (.int .i64)=>true | _=>false) && P.cellsOf f.type == 1 && Zih P l (j+1)
theorem Zi8 {P:Program}:∀{l:List Field} {i:Nat},Zih P l i=true->∀(j:Nat) (f:Field),l[j]?=some f->f.offset=i+j/\P.underlying f.type=some (.int .i64)/\P.cellsOf f.type=1
 | [],_,_,j,f,hj=>by simp at hj
 | g :: l,i,h,j,f,hj=>by
  simp only[Zih,Bool.and_eq_true,beq_iff_eq] at h
  cases j with
  | zero =>
   simp at hj;subst hj;refine ⟨h.1.1.1,?_,h.1.2⟩;have h2:=h.1.1.2
   split at h2
   ·assumption
   ·cases h2
  | succ j =>have:=Zi8 h.2 j f (by simpa using hj);exact ⟨by omega,this.2⟩
theorem ofFields:(match Tryz.prog.underlying 185 with | some (.struct fs)=>Zih Tryz.prog fs.toList 0 | _=>false)=true:=by kernel_rfl
theorem ofStruct:∃fs,Tryz.prog.underlying 185=some (.struct fs)/\∀(j:Nat) (f:Field),fs[j]?=some f->f.offset=j/\Tryz.prog.underlying f.type=some (.int .i64)/\Tryz.prog.cellsOf f.type=1:=by
 have h:=ofFields
 split at h
 ·rename_i fs hu;exact ⟨fs,hu,λj f hj=>by have:=Zi8 h j f (by simpa using hj);simpa using this⟩
 ·cases h
theorem ofArray:Tryz.prog.underlying 186=some (.array 16 185):=by kernel_rfl
theorem unElem:Tryz.prog.underlying 9=some .string:=by kernel_rfl
theorem unCells:Tryz.prog.cellsOf 9=1:=by kernel_rfl
theorem laid_tab:(Rows.laid_barbican_code_of:DataW Unit)=tab2 ofRows:=rfl
abbrev unStrs:List (List UInt8):=[[111,110,101],[116,119,111],[116,114,105]]
theorem laid_strs:(Rows.laid_barbican_barbicankeep_units:DataW Unit)=tabS unStrs:=rfl
theorem gl_ok {W : World} (h : laidMetH Tryz.prog [("barbican/code.of", Rows.laid_barbican_code_of), ("barbican/barbicankeep.units", Rows.laid_barbican_barbicankeep_units)] W) : GlOk gl (fun k => k < W.heap.size) W := by
 obtain ⟨fs,hs,hf⟩:=ofStruct;rw[laid_tab,laid_strs] at h
 have h1 : laidMet Tryz.prog [("barbican/code.of", tab2 ofRows), ("barbican/barbicankeep.units", tabS unStrs)] W := h
 exact GlOk.both (G1:=[_]) (G2:=[_]) (glOk_strs unName unType unArray unElem unCells (by decide) (laidMet_tail h1)) (glOk_of_head ofName ofType ofArray hs ofCells hf (by decide) (by decide) h1)
def recell (l:List Value):Go.Obj->Go.Obj
 | .cells _ t frozen=>.cells l.toArray t frozen
 | o=>o
noncomputable def gl_world (os:Os):World :=
 { World.holding Tryz.prog os ⟨#[],#[],[]⟩ with heap:=((World.holding Tryz.prog os ⟨#[],#[],[]⟩).heap.modify 1 (recell (ofRows.flatten.map λz=>Value.int .i64 z))).modify 0 (recell (unStrs.map λs=>Value.string ⟨⟨s⟩⟩)) }
end Go.Proofs.YtpjjkiidjofflaaGreatDoor
