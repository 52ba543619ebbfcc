import Derived.Test.YtpjjkiidjofflaaGreatDoorWDlaw
import Derived.Test.YtpjjkiidjofflaaGreatDoorWB1
open Go Go.Proofs Go.Proofs.YtpjjkiidjofflaaGreatDoor
namespace ZN
open Go Go.Dm Go.Eng
def Zp9:List (List Int):=[[0,0,0],[65535,0,0],[0,0,0],[0,0,0],[7,0,0],[7,0,0],[0,0,0],[0,0,0],[10,0,0],[1199,0,0],[1199,0,0],[1199,4,0],[4,7,4],[0,0,0],[0,0,0],[0,0,0]]
abbrev gl:Gl:=[(0,[.str [111,110,101],.str [116,119,111],.str [116,114,105]]),(1,Zp9.flatten.map .int)]
end ZN
namespace Go.Dm
open Go Go.Eng Go.RowKit Go.ChangeShapes Go.WideShapes Go.Deep Go.ChangeAt
section
variable {P:Program} {w:World}
theorem Znn {x:String × DataW Unit} {rest:List (String × DataW Unit)} (h:laidMet P (x :: rest) w):laidMet P rest w:=by obtain ⟨n,d⟩:=x;obtain ⟨ps,⟨g,t,cs,fuel,p,q,_,_,_,_,hq,rfl⟩,hnd,hc⟩:=h;refine ⟨q,hq,(List.nodup_append.1 hnd).2.1,λb off hb=>hc b off (List.mem_append_right _ hb)⟩
def ZBy {H:Type} (l:List (List UInt8)):DataW H:=.agg (l.map λs=>.lit (.string s))
theorem Zma {H:Type} {enc:TypeId × Value->H} {base:Nat} {sp:Nat->Bool} {held:Bool} {fuel:Nat} {t e:TypeId} {n:Nat} {cs:List Value} {l:List (List UInt8)} {p:List MemPlace}
  (ht:P.underlying t=some (.array n e)) (he:P.underlying e=some .string) (hce:P.cellsOf e=1) (h:DataW.trod enc P w base sp held fuel t cs=some (ZBy l,p)) :
  ∀(i:Nat) (s:List UInt8),l[i]?=some s->cs[i]?=some (.string ⟨⟨s⟩⟩):=by
 obtain ⟨xs,m,_,hx,_,hl,hat⟩:=DataW.trod_array ht h;intro i s hi;injection hx with hx _;injection hx with hx;have h2:(xs.map (·.1))[i]?=some (DataW.lit (.string s):DataW H):=by rw[<- hx];simp[hi]
 obtain ⟨x,hxi,hx1⟩:∃x,xs[i]?=some x/\x.1=.lit (.string s):=by simp only[YaC,YaD] at h2;exact h2
 have hil:i < n:=by rw[<- hl];exact (Yaa.1 hxi).1
 have ha:=hat i hil;rw[hxi,hce] at ha;obtain ⟨b,hb,hz,_⟩:=DataW.trod_string he ha;rw[hz] at hx1;injection hx1 with hx1;injection hx1 with hx1;subst hx1;have:=congrArg (·[0]?) hb;simpa [List.getElem?_take,List.getElem?_drop] using this
theorem Zud {name:String} {l:List (List UInt8)} {rest:List (String × DataW Unit)} {g:Nat} {t e:TypeId} {n:Nat}
  (hg:P.globalNamed name=some g) (hty:(P.globals[g]?).map (·.type)=some t) (ht:P.underlying t=some (.array n e)) (he:P.underlying e=some .string) (hce:P.cellsOf e=1) (hne:l≠[])
  (h:laidMet P ((name,ZBy l) :: rest) w):Zok [(g,l.map .str)] (λk=>k < w.heap.size) w:=by
 obtain ⟨ps,⟨g',t',cs,fuel,p,q,hg',ht',hvar,hd,_,_⟩,_⟩:=h;obtain rfl:=Ya5 (hg.symm.trans hg');obtain rfl:=Ya5 (hty.symm.trans ht');have hc:=Zma ht he hce hd;have cell:∀(k:Nat) (s:List UInt8),l[k]?=some s->w.cell? ⟨g,k,none⟩=some (.string ⟨⟨s⟩⟩):=by intro k s hk;have:=hc k s hk;rw[World.var?_cell hg hvar k];simpa using this
 have row:∀(m:List (List UInt8)) (i:Nat),(∀(k:Nat) (s:List UInt8),m[k]?=some s->l[i+k]?=some s)->ZaG (λk=>k < w.heap.size) w ⟨g,0,none⟩ i (m.map .str):=by
  intro m
  induction m with
  | nil=>intro i _;simp[ZaG]
  | cons s m ih =>intro i hl;simp only[Yar,ZaG];refine ⟨⟨.string ⟨⟨s⟩⟩,?_,by simp only[ZaW]⟩,ih (i+1) (λk z' hk=>by rw[show i+1+k=i+(k+1) from by omega];exact hl (k+1) z' (by simpa using hk))⟩;rw[Zcm];simpa using cell i s (by simpa using hl 0 s rfl)
 intro q hq;simp only[Yay] at hq;subst hq;refine ⟨?_,row _ 0 (λk z hk=>by simpa using hk)⟩;cases hrows:l with
 | nil=>exact absurd hrows hne
 | cons s rs =>have:=cell 0 s (by rw[hrows];rfl);exact World.block_lt_of_cell? w _ this
theorem Zok.both {G1 G2:Gl} {V:Nat->Prop} (h1:Zok G1 V w) (h2:Zok G2 V w):Zok (G1++G2) V w:=λp hp=>by
 rcases Yao.1 hp with hp | hp
 ·exact h1 p hp
 ·exact h2 p hp
end
end Go.Dm
namespace ZN
open Go Go.Dm Go.Eng
theorem Zz0 : Tryz.prog.globalNamed "barbican/barbicankeep.units" = some 0 := by kernel_rfl
theorem ZzZ:(Tryz.prog.globals[0]?).map (·.type)=some 101:=by kernel_rfl
theorem Zx1:Tryz.prog.underlying 101=some (.array 3 9):=by kernel_rfl
theorem ZAC : Tryz.prog.globalNamed "barbican/code.of" = some 1 := by kernel_rfl
theorem ZAB:(Tryz.prog.globals[1]?).map (·.type)=some 186:=by kernel_rfl
theorem ZyH:Tryz.prog.cellsOf 185=3:=by kernel_rfl
def ZiS (P:Program):List Field->Nat->Bool
 | [],_=>true
 | f :: l,j=>f.offset == j && (match P.underlying f.type with | some (.int .i64)=>true | _=>false) && P.cellsOf f.type == 1 && ZiS P l (j+1)
theorem ZjL {P:Program}:∀{l:List Field} {i:Nat},ZiS P l i=true->∀(j:Nat) (f:Field),l[j]?=some f->f.offset=i+j/\P.underlying f.type=some (.int .i64)/\P.cellsOf f.type=1
 | [],_,_,j,f,hj=>by simp at hj
 | g :: l,i,h,j,f,hj=>by
  simp only[ZiS,Yaf,beq_iff_eq] at h;cases j with
  | zero =>
   simp at hj;subst hj;refine ⟨h.1.1.1,?_,h.1.2⟩;have h2:=h.1.1.2;split at h2
   ·assumption
   ·cases h2
  | succ j =>have:=ZjL h.2 j f (by simpa using hj);exact ⟨by omega,this.2⟩
theorem Zv6:(match Tryz.prog.underlying 185 with | some (.struct fs)=>ZiS Tryz.prog fs.toList 0 | _=>false)=true:=by kernel_rfl
theorem Zv5:∃fs,Tryz.prog.underlying 185=some (.struct fs)/\∀(j:Nat) (f:Field),fs[j]?=some f->f.offset=j/\Tryz.prog.underlying f.type=some (.int .i64)/\Tryz.prog.cellsOf f.type=1:=by
 have h:=Zv6;split at h
 ·rename_i fs hu;exact ⟨fs,hu,λj f hj=>by have:=ZjL h j f (by simpa using hj);simpa using this⟩
 ·cases h
theorem ZyI:Tryz.prog.underlying 186=some (.array 16 185):=by kernel_rfl
theorem Zz1:Tryz.prog.underlying 9=some .string:=by kernel_rfl
theorem Zx0:Tryz.prog.cellsOf 9=1:=by kernel_rfl
theorem Zwh:(Rows.laid_barbican_code_of:DataW Unit)=Zz6 Zp9:=rfl
abbrev ZsO:List (List UInt8):=[[111,110,101],[116,119,111],[116,114,105]]
theorem Zt0:(Rows.laid_barbican_barbicankeep_units:DataW Unit)=ZBy ZsO:=rfl
theorem ZCc {W : World} (h : laidMetH Tryz.prog [("barbican/code.of", Rows.laid_barbican_code_of), ("barbican/barbicankeep.units", Rows.laid_barbican_barbicankeep_units)] W) : Zok gl (fun k => k < W.heap.size) W := by
 obtain ⟨fs,hs,hf⟩:=Zv5;rw[Zwh,Zt0] at h
 have h1 : laidMet Tryz.prog [("barbican/code.of", Zz6 Zp9), ("barbican/barbicankeep.units", ZBy ZsO)] W := h
 exact Zok.both (G1:=[_]) (G2:=[_]) (Zud Zz0 ZzZ Zx1 Zz1 Zx0 (by decide) (Znn h1)) (Znv ZAC ZAB ZyI hs ZyH hf (by decide) (by decide) h1)
def recell (l:List Value):Go.Obj->Go.Obj
 | .cells _ t frozen=>.cells l.toArray t frozen
 | o=>o
noncomputable def ZlV (os:Os):World :=
 { World.holding Tryz.prog os ⟨#[],#[],[]⟩ with heap:=((World.holding Tryz.prog os ⟨#[],#[],[]⟩).heap.modify 1 (recell (Zp9.flatten.map λz=>Value.int .i64 z))).modify 0 (recell (ZsO.map λs=>Value.string ⟨⟨s⟩⟩)) }
end ZN
