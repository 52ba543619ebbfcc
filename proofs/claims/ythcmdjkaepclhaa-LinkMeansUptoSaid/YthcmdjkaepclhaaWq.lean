import Derived.Test.YthcmdjkaepclhaaWc
import Derived.Test.YthcmdjkaepclhaaRb
import Derived.Test.YthcmdjkaepclhaaEv
namespace Barb
open Go Go.Dm Go.Eng Go.Proofs.Ythcmdjkaepclhaa
inductive CallBad (p:List Unit) (cs:List Cells) (un fn:Str) (args:List Int) (deep fuel:Int):Int->Prop
 | fault (h:cellsE p cs≠0):CallBad p cs un fn args deep fuel (cellsE p cs)
 | unit (h0:cellsE p cs=0) (h:unitIdx p un=-1):CallBad p cs un fn args deep fuel 5
 | func (h0:cellsE p cs=0) (u:Nat) (hu:u < p.length) (hun:unitIdx p un=(u:Int)) (h:funIdx (uAt p u) fn=-1):CallBad p cs un fn args deep fuel 5
 | count (h0:cellsE p cs=0) (u i:Nat) (hu:u < p.length) (hun:unitIdx p un=(u:Int)) (hi:i < (uAt p u).funcs.length) (hfn:funIdx (uAt p u) fn=(i:Int)) (h:args.length≠((uAt p u).funcs.getD i noF).params.length):CallBad p cs un fn args deep fuel 7
 | range (h0:cellsE p cs=0) (u i:Nat) (hu:u < p.length) (hun:unitIdx p un=(u:Int)) (hi:i < (uAt p u).funcs.length) (hfn:funIdx (uAt p u) fn=(i:Int)) (ha:args.length=((uAt p u).funcs.getD i noF).params.length) (h:¬((0<=deep/\deep<=19)/\(0<=fuel/\fuel<=100000)/\wds args)):CallBad p cs un fn args deep fuel 2
structure CallMay (p:List Unit) (cs:List Cells) (un fn:Str) (args:List Int) (deep fuel:Int) (u i d f:Nat):Prop where
 ok:cellsE p cs=0
 hu:u < p.length
 hun:unitIdx p un=(u:Int)
 hi:i < (uAt p u).funcs.length
 hfn:funIdx (uAt p u) fn=(i:Int)
 ha:args.length=((uAt p u).funcs.getD i noF).params.length
 hd:deep=(d:Int)/\d<=19
 hf:fuel=(f:Int)/\f<=100000
 hw:wds args
theorem call_cases (p:List Unit) (cs:List Cells) (un fn:Str) (args:List Int) (deep fuel:Int):(∃ e,CallBad p cs un fn args deep fuel e)\/∃ u i d f,CallMay p cs un fn args deep fuel u i d f:=by
 by_cases h0:cellsE p cs=0
 ·rcases idx_cases (fun u:Unit=>u.name=un) p with ⟨h,_⟩ | ⟨u,hu,h,_⟩
  ·exact .inl ⟨_,.unit h0 h⟩
  ·rcases idx_cases (fun f:Fun=>f.name=fn) (uAt p u).funcs with ⟨k,_⟩ | ⟨i,hi,k,_⟩
   ·exact .inl ⟨_,.func h0 u hu h k⟩
   ·by_cases ha:args.length=((uAt p u).funcs.getD i noF).params.length
    ·by_cases hr:(0<=deep/\deep<=19)/\(0<=fuel/\fuel<=100000)/\wds args
     ·exact .inr ⟨u,i,deep.toNat,fuel.toNat,h0,hu,h,hi,k,ha,by omega,by omega,hr.2.2⟩
     ·exact .inl ⟨_,.range h0 u i hu h hi k ha hr⟩
    ·exact .inl ⟨_,.count h0 u i hu h hi k ha⟩
 ·exact .inl ⟨_,.fault h0⟩
theorem callBad_ne {p:List Unit} {cs:List Cells} {un fn:Str} {args:List Int} {deep fuel e:Int} (h:CallBad p cs un fn args deep fuel e):e≠0:=by
 cases h with
 | fault h=>exact h
 | _=>decide
end Barb
namespace Go.Proofs.Ythcmdjkaepclhaa
open Go Go.Dm Go.Eng Go.RowKit Barb
abbrev errD (e:Int):D:=.tuple [.agg [.g (.int 0),.g (.int 0),.g (.sl 1 []),.g (.sl 1 []),.g (.sl 7 [])],.g (.sl 2 []),.g (.int e)]
set_option maxRecDepth 20000 in
theorem CalledOf_bad (p:List Barb.Unit) (hpI:progI p) (cs:List Cells) (hI:∀ c∈cs,Cells.I c) (hl:cs.length*48<=140737488351232) (un fn:Str) (args:List Int) (hla:args.length<=9223372036854775807) (deep fuel e:Int) (hb:CallBad p cs un fn args deep fuel e) :
  CT Try.prog [] 24 [.g (.sl 4 (p.map Unit.g)),.g (.sl 2 (cs.map Cells.g)),.g (.str un),.g (.str fn),.g (.sl 1 (args.map intG)),.g (.int deep),.g (.int fuel)] (Is (errD e)):=by
 have hcs:=CellsFault_any p hpI cs hI hl
 have few:cellsE p cs=0->progE p=0/\p.length<=5/\∀ u∈p,unitE u=0:=fun h=>by
  obtain ⟨hpe,_⟩:=cellsE_ok h
  have hp:=PI.of hpe
  exact ⟨hpe,hp.few,fun u hu=>hp.unit u hu⟩
 have hgm:∀ {u:Nat},u < p.length->(p.map Unit.g)[u]?=some [.str (uAt p u).name,.sl 1 ((uAt p u).vars.map strG),.sl 2 ((uAt p u).arrays.map Arr.g),.sl 4 ((uAt p u).funcs.map Fun.g)]:=fun hu=>by rw[uAt_eq hu];exact gm hu
 have hfg:∀ {u i:Nat} (hi:i < (uAt p u).funcs.length),((uAt p u).funcs.map Fun.g)[i]?=some [.str (uAt p u).funcs[i].name,.bool (uAt p u).funcs[i].isOpen,.sl 1 ((uAt p u).funcs[i].params.map strG),.sl 5 ((uAt p u).funcs[i].body.map Stmt.g)]:=fun hi=>fnG hi
 have hpl:∀ {u i:Nat} (hi:i < (uAt p u).funcs.length),((uAt p u).funcs[i].params.map strG).length=((uAt p u).funcs.getD i noF).params.length:=fun hi=>by rw[List.length_map];simp[hi]
 have hal:(args.map intG).length=args.length:=List.length_map _
 have hU:cellsE p cs=0->_:=fun h=>UnitAt_any p (by have:=(few h).2.1;omega) un
 have hFn:cellsE p cs=0->∀ {u:Nat},u < p.length->_:=fun h u hu=>FuncAt_any (uAt p u) (by have:=(unitE_inv ((few h).2.2 _ (uAt_mem hu))).2.2.2.1;omega) fn
 refine enter hT hF hM Try.func24 rfl 109 rfl (by kernel_rfl) [.cell 14 76,.tmp 15,.tmp 16] rfl [.g (.sl 4 (p.map Unit.g)),.g (.sl 2 (cs.map Cells.g)),.g (.str un),.g (.str fn),.g (.sl 1 (args.map intG)),.g (.int deep),.g (.int fuel)] rfl _ ?_
 refine callIs (.inl rfl) hcs ?_
 cases hb with
 | fault h=>exact ⟨fun _=>⟨rfl,retIs (.inr (.inr ⟨.inr ⟨lk rfl,lk rfl,.inr rfl,.inr rfl,.inr rfl,trivial⟩,.inr rfl,lk rfl,trivial⟩))⟩,fun h'=>absurd h' h⟩
 | unit h0 h =>
  refine ⟨fun h'=>absurd h0 h',fun _=>?_⟩
  have hU:=hU h0
  rw[h] at hU
  refine callIs (.inl rfl) hU ?_
  refine ⟨fun h'=>absurd h' (by decide),fun _=>?_⟩
  exact ⟨fun _=>⟨rfl,retIs (.inr (.inr ⟨.inr ⟨lk rfl,lk rfl,.inr rfl,.inr rfl,.inr rfl,trivial⟩,.inr rfl,lk rfl,trivial⟩))⟩,fun h'=>absurd h' (by decide)⟩
 | func h0 u hu hun h =>
  have hU:=hU h0
  rw[hun] at hU
  have hF:=hFn h0 hu
  rw[h] at hF
  refine ⟨fun h'=>absurd h0 h',fun _=>?_⟩
  refine callIs (.inl rfl) hU ?_
  refine ⟨fun _=>?_,fun h'=>absurd h' (by omega)⟩
  refine ⟨u,_,rfl,hgm hu,?_⟩
  refine callIs (.inl rfl) hF ?_
  exact ⟨fun _=>⟨rfl,retIs (.inr (.inr ⟨.inr ⟨lk rfl,lk rfl,.inr rfl,.inr rfl,.inr rfl,trivial⟩,.inr rfl,lk rfl,trivial⟩))⟩,fun h'=>absurd h' (by omega)⟩
 | count h0 u i hu hun hi hfn h =>
  have hpl:=hpl hi
  have hU:=hU h0
  rw[hun] at hU
  have hF:=hFn h0 hu
  rw[hfn] at hF
  refine ⟨fun h'=>absurd h0 h',fun _=>?_⟩
  refine callIs (.inl rfl) hU ?_
  refine ⟨fun _=>?_,fun h'=>absurd h' (by omega)⟩
  refine ⟨u,_,rfl,hgm hu,?_⟩
  refine callIs (.inl rfl) hF ?_
  refine ⟨fun h'=>absurd h' (by omega),fun _=>?_⟩
  refine ⟨u,_,rfl,hgm hu,?_⟩
  refine ⟨i,_,rfl,hfg hi,?_⟩
  exact ⟨fun _=>⟨rfl,retIs (.inr (.inr ⟨.inr ⟨lk rfl,lk rfl,.inr rfl,.inr rfl,.inr rfl,trivial⟩,.inr rfl,lk rfl,trivial⟩))⟩,fun h'=>absurd h' (by omega)⟩
 | range h0 u i hu hun hi hfn ha h =>
  have hpl:=hpl hi
  have hU:=hU h0
  rw[hun] at hU
  have hF:=hFn h0 hu
  rw[hfn] at hF
  refine ⟨fun h'=>absurd h0 h',fun _=>?_⟩
  refine callIs (.inl rfl) hU ?_
  refine ⟨fun _=>?_,fun h'=>absurd h' (by omega)⟩
  refine ⟨u,_,rfl,hgm hu,?_⟩
  refine callIs (.inl rfl) hF ?_
  refine ⟨fun h'=>absurd h' (by omega),fun _=>?_⟩
  refine ⟨u,_,rfl,hgm hu,?_⟩
  refine ⟨i,_,rfl,hfg hi,?_⟩
  refine ⟨fun h'=>absurd h' (by omega),fun _=>?_⟩
  refine callIs (.inl rfl) (In_any _ _ _) ?_
  refine ⟨fun _=>⟨rfl,retIs (.inr (.inr ⟨.inr ⟨lk rfl,lk rfl,.inr rfl,.inr rfl,.inr rfl,trivial⟩,.inr rfl,lk rfl,trivial⟩))⟩,fun h1=>?_⟩
  refine callIs (.inl rfl) (In_any _ _ _) ?_
  refine ⟨fun _=>⟨rfl,retIs (.inr (.inr ⟨.inr ⟨lk rfl,lk rfl,.inr rfl,.inr rfl,.inr rfl,trivial⟩,.inr rfl,lk rfl,trivial⟩))⟩,fun h3=>?_⟩
  refine callIs (.inl rfl) (wordsMay_any args hla _) ?_
  exact ⟨fun _=>⟨rfl,retIs (.inr (.inr ⟨.inr ⟨lk rfl,lk rfl,.inr rfl,.inr rfl,.inr rfl,trivial⟩,.inr rfl,lk rfl,trivial⟩))⟩,fun h5=>absurd ⟨by omega,by omega,h5.2⟩ h⟩
end Go.Proofs.Ythcmdjkaepclhaa
