import Derived.Test.YthcmdjkaepclhaaWd
namespace Barb
open Go Go.Dm Go.Eng
def bdA (op:Int):Int:=if op=1 then 65535 else if op=4\/op=5 then 7 else if op=8 then 10 else if op=9\/op=10\/op=11 then 1199 else if op=12 then 4 else 0
def bdB (op:Int):Int:=if op=11 then 4 else if op=12 then 7 else 0
def bdC (op:Int):Int:=if op=12 then 4 else 0
def instrBad (x:Instr):Prop:=¬(0<=x.a/\x.a<=bdA x.op)\/¬(0<=x.b/\x.b<=bdB x.op)\/¬(0<=x.c/\x.c<=bdC x.op)\/(x.op=8/\x.a=0)
instance (x:Instr):Decidable (instrBad x):=by unfold instrBad;infer_instance
def instrE (x:Instr):Int:=if ¬(1<=x.op/\x.op<=15) then 3 else if instrBad x then 2 else 0
abbrev Instr.d (x:Instr):List D:=[.g (.int x.op),.g (.int x.a),.g (.int x.b),.g (.int x.c)]
end Barb
namespace Go.Proofs.Ythcmdjkaepclhaa
open Go Go.Dm Go.Eng Barb
theorem dI {a b:Int} (h:a=b):D.g (.int a)=D.g (.int b):=by rw[h]
set_option maxRecDepth 20000 in
set_option maxHeartbeats 1000000 in
theorem InstrFault_any (x:Barb.Instr):CT Try.prog [] 43 [.agg x.d] (Is (.g (.int (instrE x)))):=by
 refine enter hT hF hM Try.func43 rfl 55 rfl (by kernel_rfl) [.tmp 2] rfl [.agg x.d] rfl _ ?_
 refine callIs (.inl rfl) (In_any x.op 1 15) ⟨fun h1=>⟨rfl,retI (by unfold instrE;rw[if_pos h1])⟩,fun h1=>?_⟩
 have e:instrE x=if instrBad x then 2 else 0:=by unfold instrE;rw[if_neg (Classical.not_not.2 h1)]
 refine stepS ⟨?_⟩
 refine stepS ⟨?_⟩
 refine stepS ⟨?_⟩
 refine seqJ (ι:=Int × Int × Int) (fun b=>[(1,.ptr 0 0),(3,.g (.int b.1)),(4,.g (.int b.2.1)),(5,.g (.int b.2.2))]) (fun _=>[.blk x.d 67]) (fun b=>b=(bdA x.op,bdB x.op,bdC x.op)) (fun e0 b hb=>?_) (fun Rj hRj=>?_)
 rotate_left
 ·have hz:∀ a b c:Int,bdA x.op=a->bdB x.op=b->bdC x.op=c->(a,b,c)=(bdA x.op,bdB x.op,bdC x.op):=fun a b c h1 h2 h3=>by rw[h1,h2,h3]
  refine ⟨fun b1=>?_,fun b1=>⟨fun b4=>?_,fun b4=>⟨fun b5=>?_,fun b5=>⟨fun b8=>?_,fun b8=>⟨fun b9=>?_,fun b9=>⟨fun b10=>?_,fun b10=>⟨fun b11=>?_,fun b11=>⟨fun b12=>?_,fun b12=>?_⟩⟩⟩⟩⟩⟩⟩⟩
  ·exact hRj (65535,0,0) _ ⟨rfl,rfl,rfl,rfl,trivial⟩ (hz _ _ _ (by simp[bdA,b1]) (by simp[bdB,b1]) (by simp[bdC,b1]))
  ·exact ⟨fun _=>hRj (7,0,0) _ ⟨rfl,rfl,rfl,rfl,trivial⟩ (hz _ _ _ (by simp[bdA,b4]) (by simp[bdB,b4]) (by simp[bdC,b4])),fun h=>absurd b4 h⟩
  ·exact hRj (7,0,0) _ ⟨rfl,rfl,rfl,rfl,trivial⟩ (hz _ _ _ (by simp[bdA,b5]) (by simp[bdB,b5]) (by simp[bdC,b5]))
  ·exact hRj (10,0,0) _ ⟨rfl,rfl,rfl,rfl,trivial⟩ (hz _ _ _ (by simp[bdA,b8]) (by simp[bdB,b8]) (by simp[bdC,b8]))
  ·exact ⟨fun _=>hRj (1199,0,0) _ ⟨rfl,rfl,rfl,rfl,trivial⟩ (hz _ _ _ (by simp[bdA,b9]) (by simp[bdB,b9]) (by simp[bdC,b9])),fun h=>absurd b9 h⟩
  ·exact hRj (1199,0,0) _ ⟨rfl,rfl,rfl,rfl,trivial⟩ (hz _ _ _ (by simp[bdA,b10]) (by simp[bdB,b10]) (by simp[bdC,b10]))
  ·exact hRj (1199,4,0) _ ⟨rfl,rfl,rfl,rfl,trivial⟩ (hz _ _ _ (by simp[bdA,b11]) (by simp[bdB,b11]) (by simp[bdC,b11]))
  ·exact hRj (4,7,4) _ ⟨rfl,rfl,rfl,rfl,trivial⟩ (hz _ _ _ (by simp[bdA,b12]) (by simp[bdB,b12]) (by simp[bdC,b12]))
  ·exact hRj (0,0,0) _ ⟨rfl,rfl,rfl,rfl,trivial⟩ (hz _ _ _ (by simp[bdA,b1,b4,b5,b8,b9,b10,b11,b12]) (by simp[bdB,b11,b12]) (by simp[bdC,b12]))
 subst hb
 have bad:instrBad x->∀ h:Heap,RetTo (Is (.g (.int (instrE x)))) h (.g (.int 2)):=fun hb h=>retI (by rw[e,if_pos hb])
 have fine:¬instrBad x->∀ h:Heap,RetTo (Is (.g (.int (instrE x)))) h (.g (.int 0)):=fun hb h=>retI (by rw[e,if_neg hb])
 unfold instrBad at bad fine
 clear e
 generalize bdA x.op=a at *
 generalize bdB x.op=b at *
 generalize bdC x.op=c at *
 refine callIs (.inl rfl) (In_any x.a 0 a) ⟨fun a1=>⟨rfl,bad (by omega) _⟩,fun a1=>?_⟩
 refine callIs (.inl rfl) (In_any x.b 0 b) ⟨fun a2=>⟨rfl,bad (by omega) _⟩,fun a2=>?_⟩
 refine callIs (.inl rfl) (In_any x.c 0 c) ⟨fun a3=>⟨rfl,bad (by omega) _⟩,fun a3=>?_⟩
 exact ⟨fun a7=>⟨fun a8=>⟨rfl,bad (by omega) _⟩,fun a8=>⟨rfl,fine (by omega) _⟩⟩,fun a7=>⟨rfl,fine (by omega) _⟩⟩
end Go.Proofs.Ythcmdjkaepclhaa
