/-
  Operations of words, as numbers. No program in sight.
-/
import Derived.Test.YtjkplhnbiejefaaDoorDa4
namespace Barb
open Go Go.Eng Go.Dm Go.RowKit

theorem mask_any (x:Int):Op.intBits .and .i64 x 65535=pure (.int .i64 (x % 65536)):=by
 have h:(BitVec.ofInt 64 x &&& BitVec.ofInt 64 65535).toNat=(x % 65536).toNat:=by
  rw[BitVec.toNat_and,BitVec.toNat_ofInt,show (BitVec.ofInt 64 65535).toNat=2 ^ 16 - 1 from rfl,Nat.and_two_pow_sub_one_eq_mod]
  omega
 have h2:IntKind.i64.wrap ((x % 65536).toNat:Int)=x % 65536:=by
  have:=isI64.of (x:=x % 65536) (by omega) (by omega)
  rw[Int.toNat_of_nonneg (by omega)]
  exact this
 show pure (Value.int .i64 (IntKind.i64.wrap ((BitVec.ofInt 64 x &&& BitVec.ofInt 64 65535).toNat:Int)))=_
 rw[h,h2]
theorem ofInt_nat {x:Nat} (hx:x≤65535):(BitVec.ofInt 64 (x:Int)).toNat=x:=by
 rw[BitVec.toNat_ofInt];omega
theorem wrap_nat {x:Nat} (hx:x≤65535):IntKind.i64.wrap (x:Int)=x:=isI64.of (x:=(x:Int)) (by omega) (by omega)
theorem and_any {x y:Nat} (hx:x≤65535) (hy:y≤65535):Op.intBits .and .i64 x y=pure (.int .i64 ((x &&& y:Nat):Int)):=by
 show pure (Value.int .i64 (IntKind.i64.wrap ((BitVec.ofInt 64 (x:Int) &&& BitVec.ofInt 64 (y:Int)).toNat:Int)))=_
 rw[BitVec.toNat_and,ofInt_nat hx,ofInt_nat hy,wrap_nat]
 exact Nat.le_trans Nat.and_le_left hx
theorem or_le {x y:Nat} (hx:x≤65535) (hy:y≤65535):x ||| y≤65535:=Nat.le_of_lt_succ (Nat.or_lt_two_pow (n:=16) (Nat.lt_succ_of_le hx) (Nat.lt_succ_of_le hy))
theorem xor_le {x y:Nat} (hx:x≤65535) (hy:y≤65535):x ^^^ y≤65535:=Nat.le_of_lt_succ (Nat.xor_lt_two_pow (n:=16) (Nat.lt_succ_of_le hx) (Nat.lt_succ_of_le hy))
theorem or_any {x y:Nat} (hx:x≤65535) (hy:y≤65535):Op.intBits .or .i64 x y=pure (.int .i64 ((x ||| y:Nat):Int)):=by
 show pure (Value.int .i64 (IntKind.i64.wrap ((BitVec.ofInt 64 (x:Int) ||| BitVec.ofInt 64 (y:Int)).toNat:Int)))=_
 rw[BitVec.toNat_or,ofInt_nat hx,ofInt_nat hy,wrap_nat (or_le hx hy)]
theorem xor_any {x y:Nat} (hx:x≤65535) (hy:y≤65535):Op.intBits .xor .i64 x y=pure (.int .i64 ((x ^^^ y:Nat):Int)):=by
 show pure (Value.int .i64 (IntKind.i64.wrap ((BitVec.ofInt 64 (x:Int) ^^^ BitVec.ofInt 64 (y:Int)).toNat:Int)))=_
 rw[BitVec.toNat_xor,ofInt_nat hx,ofInt_nat hy,wrap_nat (xor_le hx hy)]
def half (m k:Nat):Nat:=m / 2 ^ k
def did (op:Nat) (m n:Nat):Nat:=match op with
 | 1=>(m+n) % 65536 | 2=>(m+65536 - n) % 65536 | 3=>m*n % 65536 | 4=>m &&& n | 5=>m ||| n | 6=>m ^^^ n
 | 7=>if m < n then 1 else 0 | 8=>if m=n then 1 else 0 | 9=>m*2 ^ (n % 16) % 65536 | _=>m / 2 ^ (n % 16)
theorem mask15 {n:Nat} (hn:n≤65535):Op.intBits .and .i64 (n:Int) 15=pure (.int .i64 ((n % 16:Nat):Int)):=by
 have h:=and_any (x:=n) (y:=15) hn (by decide)
 have h2:n &&& 15=n % 16:=Nat.and_two_pow_sub_one_eq_mod n 4
 rw[h2] at h
 exact h
theorem shl_nat (m n:Nat):(m:Int)*2 ^ (min ((n % 16:Nat):Int).toNat 64)=((m*2 ^ (n % 16):Nat):Int):=by
 rw[Int.toNat_natCast,Nat.min_eq_left (by omega)];simp
theorem shl_le {m n:Nat} (hm:m≤65535):m*2 ^ (n % 16)≤65535*32768 :=
 Nat.mul_le_mul hm (Nat.le_trans (Nat.pow_le_pow_right (by decide) (show n % 16≤15 by omega)) (by decide))
theorem shr_nat (m n:Nat):(m:Int).fdiv (2 ^ (min ((n % 16:Nat):Int).toNat 64))=((m / 2 ^ (n % 16):Nat):Int):=by
 rw[Int.toNat_natCast,Nat.min_eq_left (by omega),Int.fdiv_eq_ediv_of_nonneg _ (by exact_mod_cast Nat.zero_le _)];simp
def bitC (op:Int) (x y:Nat):Prop:=(op=4∧x+y=2)∨(op=5∧0 < x+y)∨(op=6∧x≠y)
theorem half_bit (x k:Nat):x.testBit k=decide (half x k % 2=1):=by rw[Nat.testBit_eq_decide_div_mod_eq];rfl
theorem did_bit {op:Int} {m n k:Nat} (h:op=4∨op=5∨op=6):half (did op.toNat m n) k % 2=1↔bitC op (half m k % 2) (half n k % 2):=by
 have hx:half m k % 2 < 2:=Nat.mod_lt _ (by decide)
 have hy:half n k % 2 < 2:=Nat.mod_lt _ (by decide)
 rcases h with e | e | e<;>subst e
 ·have h1:(m &&& n).testBit k=(m.testBit k && n.testBit k):=Nat.testBit_and ..
  rw[half_bit,half_bit,half_bit] at h1
  show half (m &&& n) k % 2=1↔_
  have h2:half (m &&& n) k % 2=1↔(half m k % 2=1∧half n k % 2=1):=by
   rw[← decide_eq_true_iff (p:=half (m &&& n) k % 2=1),h1];simp
  rw[h2];unfold bitC
  generalize half m k % 2=x at hx ⊢
  generalize half n k % 2=y at hy ⊢
  omega
 ·have h1:(m ||| n).testBit k=(m.testBit k || n.testBit k):=Nat.testBit_or ..
  rw[half_bit,half_bit,half_bit] at h1
  show half (m ||| n) k % 2=1↔_
  have h2:half (m ||| n) k % 2=1↔(half m k % 2=1∨half n k % 2=1):=by
   rw[← decide_eq_true_iff (p:=half (m ||| n) k % 2=1),h1];simp
  rw[h2];unfold bitC
  generalize half m k % 2=x at hx ⊢
  generalize half n k % 2=y at hy ⊢
  omega
 ·have h1:(m ^^^ n).testBit k=(m.testBit k ^^ n.testBit k):=Nat.testBit_xor ..
  rw[half_bit,half_bit,half_bit] at h1
  show half (m ^^^ n) k % 2=1↔_
  have h2:half (m ^^^ n) k % 2=1↔¬(half m k % 2=1↔half n k % 2=1):=by
   rw[← decide_eq_true_iff (p:=half (m ^^^ n) k % 2=1),h1]
   by_cases ha:half m k % 2=1<;>by_cases hb:half n k % 2=1<;>simp[ha,hb]
  rw[h2];unfold bitC
  generalize half m k % 2=x at hx ⊢
  generalize half n k % 2=y at hy ⊢
  omega
theorem did_yes {op:Int} {m n k:Nat} (h:op=4∨op=5∨op=6) (hc:bitC op (half m k % 2) (half n k % 2)):did op.toNat m n % 2 ^ (k+1)=did op.toNat m n % 2 ^ k+2 ^ k:=by
 have hsuc:did op.toNat m n % 2 ^ (k+1)=did op.toNat m n % 2 ^ k+2 ^ k*(half (did op.toNat m n) k % 2):=Nat.mod_pow_succ
 rw[hsuc,(did_bit h).2 hc,Nat.mul_one]
theorem did_no {op:Int} {m n k:Nat} (h:op=4∨op=5∨op=6) (hc:¬bitC op (half m k % 2) (half n k % 2)):did op.toNat m n % 2 ^ (k+1)=did op.toNat m n % 2 ^ k:=by
 have hsuc:did op.toNat m n % 2 ^ (k+1)=did op.toNat m n % 2 ^ k+2 ^ k*(half (did op.toNat m n) k % 2):=Nat.mod_pow_succ
 have h0:half (did op.toNat m n) k % 2=0:=by
  have h1:=Nat.mod_lt (half (did op.toNat m n) k) (show 0 < 2 by decide)
  have h2:¬ half (did op.toNat m n) k % 2=1:=fun h'=>hc ((did_bit h).1 h')
  omega
 rw[hsuc,h0,Nat.mul_zero,Nat.add_zero]
theorem did_le {op:Int} {m n:Nat} (hm:m≤65535) (hn:n≤65535) (h:op=4∨op=5∨op=6):did op.toNat m n≤65535:=by
 rcases h with e | e | e<;>subst e
 ·exact Nat.le_trans Nat.and_le_left hm
 ·exact or_le hm hn
 ·exact xor_le hm hn
end Barb
