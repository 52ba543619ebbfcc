import Derived.Test.YthccmffgjchdmaaGreatDoorNDlaw
import Derived.Test.YthccmffgjchdmaaGreatDoorNKer
import Derived.OpenShut
import Derived.Lib.ItoaNum
namespace Go.Dm
open Go Go.Eng Go.RowKit Go.ChangeShapes Go.WideShapes Go.Deep Go.ChangeAt
section
variable {P:Program} {w:World}
theorem ZbD {x:String × DataW Unit} {rest:List (String × DataW Unit)} (h:laidMet P (x :: rest) w):laidMet P rest w:=by obtain ⟨n,d⟩:=x;obtain ⟨ps,⟨g,t,cs,fuel,p,q,_,_,_,_,hq,rfl⟩,pJ,hc⟩:=h;refine ⟨q,hq,(List.nodup_append.1 pJ).2.1,λb off hb=>hc b off (List.mem_append_right _ hb)⟩
def ZCB {H:Type} (l:List (List UInt8)):DataW H:=.agg (l.map λs=>.lit (.string s))
theorem Zmy {H:Type} {enc:TypeId × Value->H} {base:Nat} {sp:Nat->Bool} {held:Bool} {fuel:Nat} {t e:TypeId} {n:Nat} {cs:List Value} {l:List (List UInt8)} {p:List MemPlace}
  (ht:P.underlying t=some (.array n e)) (he:P.underlying e=some .string) (jz:P.cellsOf e=1) (h:DataW.trod enc P w base sp held fuel t cs=some (ZCB l,p)) :
  ∀(i:Nat) (s:List UInt8),l[i]?=some s->cs[i]?=some (.string ⟨⟨s⟩⟩):=by
 obtain ⟨xs,m,_,hx,_,hl,ek⟩:=DataW.trod_array ht h;intro i s hi;injection hx with hx _;injection hx with hx;have h2:(xs.map (·.1))[i]?=some (DataW.lit (.string s):DataW H):=by rw[<- hx];simp[hi]
 obtain ⟨x,nJ,cS⟩:∃x,xs[i]?=some x/\x.1=.lit (.string s):=by simp only[YaE,YaB] at h2;exact h2
 have az:i < n:=by rw[<- hl];exact (Yac.1 nJ).1
 have ha:=ek i az;rw[nJ,jz] at ha;obtain ⟨b,hb,hz,_⟩:=DataW.trod_string he ha;rw[hz] at cS;injection cS with cS;injection cS with cS;subst cS;have:=congrArg (·[0]?) hb;simpa [List.getElem?_take,List.getElem?_drop] using this
theorem ZnM {name:String} {l:List (List UInt8)} {rest:List (String × DataW Unit)} {g:Nat} {t e:TypeId} {n:Nat}
  (hg:P.globalNamed name=some g) (qE:(P.globals[g]?).map (·.type)=some t) (ht:P.underlying t=some (.array n e)) (he:P.underlying e=some .string) (jz:P.cellsOf e=1) (aC:l≠[])
  (h:laidMet P ((name,ZCB l) :: rest) w):Zis [(g,l.map .str)] (λk=>k < w.heap.size) w:=by
 obtain ⟨ps,⟨g',t',cs,fuel,p,q,iZ,jS,iF,hd,_,_⟩,_⟩:=h;obtain rfl:=Ya2 (hg.symm.trans iZ);obtain rfl:=Ya2 (qE.symm.trans jS);have hc:=Zmy ht he jz hd;have cell:∀(k:Nat) (s:List UInt8),l[k]?=some s->w.cell? ⟨g,k,none⟩=some (.string ⟨⟨s⟩⟩):=by intro k s hk;have:=hc k s hk;rw[World.var?_cell hg iF k];simpa using this
 have row:∀(m:List (List UInt8)) (i:Nat),(∀(k:Nat) (s:List UInt8),m[k]?=some s->l[i+k]?=some s)->Zav (λk=>k < w.heap.size) w ⟨g,0,none⟩ i (m.map .str):=by
  intro m
  induction m with
  | nil=>intro i _;simp[Zav]
  | cons s m ih =>intro i hl;simp only[Yan,Zav];refine ⟨⟨.string ⟨⟨s⟩⟩,?_,by simp only[ZaS]⟩,ih (i+1) (λk z' hk=>by rw[show i+1+k=i+(k+1) from by omega];exact hl (k+1) z' (by simpa using hk))⟩;rw[Zb8];simpa using cell i s (by simpa using hl 0 s rfl)
 intro q hq;simp only[Yaz] at hq;subst hq;refine ⟨?_,row _ 0 (λk z hk=>by simpa using hk),by cases l<;>trivial⟩;cases dD:l with
 | nil=>exact absurd dD aC
 | cons s rs =>have:=cell 0 s (by rw[dD];rfl);exact World.block_lt_of_cell? w _ this
theorem Zis.both {G1 G2:Gl} {V:Nat->Prop} (h1:Zis G1 V w) (h2:Zis G2 V w):Zis (G1++G2) V w:=λp hp=>by
 rcases Yar.1 hp with hp | hp
 ·exact h1 p hp
 ·exact h2 p hp
end
end Go.Dm
open Go Go.Proofs Go.Proofs.YthccmffgjchdmaaGreatDoor
namespace ZN
open Go.Dm Go.Eng Go.RowKit Go.ChangeShapes Go.WideShapes Go.ChangeAt
theorem hM:Mix Tryz.prog:=⟨by kernel_rfl⟩
def ZtY:List TypeId:=[3
 ,9
 ,33
 ,30
 ,102
 ,135
 ,81
 ,89
 ,85
 ,87
 ,26
 ,28
 ,104
 ,29
 ,67
 ,34
 ,146
 ,112
 ,114
 ,69
 ,71,4
 ,35
 ,37
 ,25
 ,24
 ,22
 ]
theorem ZtX:Zg6 Tryz.prog ZtY=true:=by kernel_rfl
theorem Zy6 {ts:List TypeId} (h:ZxI Tryz.prog ZtY ts=true):∀t∈ts,t∈ZtY/\Tryz.prog.readableRec t=true/\t < Tryz.prog.types.size:=Zt1 h
end ZN
namespace ZN
open Go Go.Dm Go.Eng
def Zt6:List (List Int):=[[0,0,0],[65535,0,0],[0,0,0],[0,0,0],[7,0,0],[7,0,0],[0,0,0],[0,0,0],[10,0,0],[1199,0,0],[1199,0,0],[1199,4,0],[4,7,4],[0,0,0],[0,0,0],[0,0,0]]
structure Lv where
 t0:TypeId
 p0:Value
 t1:TypeId
 p1:Value
abbrev ZCd (L:Lv):Gl:=[(5,[.raw (.iface L.t0 L.p0)]),(6,[.raw (.iface L.t1 L.p1)]),(2,Lib.pow10Tab.map λz=>.raw (.int .u64 z))]
abbrev gl (L:Lv):Gl:=(1,[.str [],.str [43],.str [45],.str [42],.str [38],.str [124],.str [94],.str [60],.str [61,61],.str [60,60],.str [62,62]]) :: (0,[.str [111,110,101],.str [116,119,111],.str [116,114,105]]) :: (4,Zt6.flatten.map .int) :: ZCd L
end ZN
