/-
  code.Check and what the document says of instructions: the contracts.
-/
import Derived.Test.YtijdegmamdhcbaaDoorWd
namespace Barb
open Go Go.Dm Go.Eng
def bdA (op:Int):Int:=if op=1 then 65535 else if op=4∨op=5 then 7 else if op=8 then 10 else if op=9∨op=10∨op=11 then 1199 else if op=12 then 4 else 0
def bdB (op:Int):Int:=if op=11 then 4 else if op=12 then 7 else 0
def bdC (op:Int):Int:=if op=12 then 4 else 0
def instrBad (x:Instr):Prop:=¬(0≤x.a∧x.a≤bdA x.op)∨¬(0≤x.b∧x.b≤bdB x.op)∨¬(0≤x.c∧x.c≤bdC x.op)∨(x.op=8∧x.a=0)
instance (x:Instr):Decidable (instrBad x):=by unfold instrBad;infer_instance
def instrE (x:Instr):Int:=if ¬(1≤x.op∧x.op≤15) then 3 else if instrBad x then 2 else 0
abbrev Instr.d (x:Instr):List D:=[.g (.int x.op),.g (.int x.a),.g (.int x.b),.g (.int x.c)]
end Barb
namespace Go.Proofs.YtijdegmamdhcbaaDoor
open Go Go.Dm Go.Eng Barb

theorem dI {a b:Int} (h:a=b):D.g (.int a)=D.g (.int b):=by rw[h]
set_option maxRecDepth 20000 in
set_option maxHeartbeats 1000000 in
theorem Check_any (x:Barb.Instr):CT Tryd.prog gl 47 [.agg x.d] (Is (.g (.int (instrE x)))):=by
 refine enter hT hF hM Tryd.func47 rfl 60 rfl (by kernel_rfl) [.tmp 2] rfl [.agg x.d] rfl _ ?_
 refine ⟨fun h1=>⟨rfl,retI (by unfold instrE;rw[if_pos (by omega)])⟩,fun h1=>⟨fun h2=>⟨rfl,retI (by unfold instrE;rw[if_pos (by omega)])⟩,fun h2=>?_⟩⟩
 have e:instrE x=if instrBad x then 2 else 0:=by unfold instrE;rw[if_neg (by omega)]
 refine seqJ (ι:=Int × Int × Int) (fun _=>[(1,.ptr 0 0),(3,.ptr 1 0)]) (fun b=>[.blk x.d 55,.blk [.g (.int b.1),.g (.int b.2.1),.g (.int b.2.2)] 152]) (fun b=>b=(bdA x.op,bdB x.op,bdC x.op)) (fun e0 b hb=>?_) (fun Rj hRj=>?_)
 rotate_left
 ·have h:x.op=1∨x.op=2∨x.op=3∨x.op=4∨x.op=5∨x.op=6∨x.op=7∨x.op=8∨x.op=9∨x.op=10∨x.op=11∨x.op=12∨x.op=13∨x.op=14∨x.op=15:=by omega
  rcases h with h | h | h | h | h | h | h | h | h | h | h | h | h | h | h
  ·exact ⟨1,dI h,by decide,hRj (65535,0,0) _ ⟨rfl,rfl,trivial⟩ (by rw[h];simp[bdA,bdB,bdC])⟩
  ·exact ⟨2,dI h,by decide,hRj (0,0,0) _ ⟨rfl,rfl,trivial⟩ (by rw[h];rfl)⟩
  ·exact ⟨3,dI h,by decide,hRj (0,0,0) _ ⟨rfl,rfl,trivial⟩ (by rw[h];rfl)⟩
  ·exact ⟨4,dI h,by decide,hRj (7,0,0) _ ⟨rfl,rfl,trivial⟩ (by rw[h];rfl)⟩
  ·exact ⟨5,dI h,by decide,hRj (7,0,0) _ ⟨rfl,rfl,trivial⟩ (by rw[h];rfl)⟩
  ·exact ⟨6,dI h,by decide,hRj (0,0,0) _ ⟨rfl,rfl,trivial⟩ (by rw[h];rfl)⟩
  ·exact ⟨7,dI h,by decide,hRj (0,0,0) _ ⟨rfl,rfl,trivial⟩ (by rw[h];rfl)⟩
  ·exact ⟨8,dI h,by decide,hRj (10,0,0) _ ⟨rfl,rfl,trivial⟩ (by rw[h];rfl)⟩
  ·exact ⟨9,dI h,by decide,hRj (1199,0,0) _ ⟨rfl,rfl,trivial⟩ (by rw[h];rfl)⟩
  ·exact ⟨10,dI h,by decide,hRj (1199,0,0) _ ⟨rfl,rfl,trivial⟩ (by rw[h];rfl)⟩
  ·exact ⟨11,dI h,by decide,hRj (1199,4,0) _ ⟨rfl,rfl,trivial⟩ (by rw[h];rfl)⟩
  ·exact ⟨12,dI h,by decide,hRj (4,7,4) _ ⟨rfl,rfl,trivial⟩ (by rw[h];rfl)⟩
  ·exact ⟨13,dI h,by decide,hRj (0,0,0) _ ⟨rfl,rfl,trivial⟩ (by rw[h];rfl)⟩
  ·exact ⟨14,dI h,by decide,hRj (0,0,0) _ ⟨rfl,rfl,trivial⟩ (by rw[h];rfl)⟩
  ·exact ⟨15,dI h,by decide,hRj (0,0,0) _ ⟨rfl,rfl,trivial⟩ (by rw[h];rfl)⟩
 subst hb
 have bad:instrBad x→∀ h:Heap,RetTo (Is (.g (.int (instrE x)))) h (.g (.int 2)):=fun hb h=>retI (by rw[e,if_pos hb])
 have fine:¬instrBad x→∀ h:Heap,RetTo (Is (.g (.int (instrE x)))) h (.g (.int 0)):=fun hb h=>retI (by rw[e,if_neg hb])
 unfold instrBad at bad fine
 clear e
 generalize bdA x.op=a at *
 generalize bdB x.op=b at *
 generalize bdC x.op=c at *
 refine ⟨fun a1=>⟨rfl,bad (by first | omega | (dsimp only at *;omega)) _⟩,fun a1=>⟨fun a2=>⟨rfl,bad (by first | omega | (dsimp only at *;omega)) _⟩,fun a2=>⟨fun a3=>⟨rfl,bad (by first | omega | (dsimp only at *;omega)) _⟩,fun a3=>⟨fun a4=>⟨rfl,bad (by first | omega | (dsimp only at *;omega)) _⟩,fun a4=>⟨fun a5=>⟨rfl,bad (by first | omega | (dsimp only at *;omega)) _⟩,fun a5=>⟨fun a6=>⟨rfl,bad (by first | omega | (dsimp only at *;omega)) _⟩,fun a6=>⟨fun a7=>⟨fun a8=>⟨rfl,bad (by first | omega | (dsimp only at *;omega)) _⟩,fun a8=>⟨rfl,fine (by first | omega | (dsimp only at *;omega)) _⟩⟩,fun a7=>⟨rfl,fine (by first | omega | (dsimp only at *;omega)) _⟩⟩⟩⟩⟩⟩⟩⟩

end Go.Proofs.YtijdegmamdhcbaaDoor
