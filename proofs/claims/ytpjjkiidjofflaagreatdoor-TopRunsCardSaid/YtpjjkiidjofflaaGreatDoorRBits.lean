import Derived.Test.YtpjjkiidjofflaaGreatDoorRDa4
namespace Barb
open Go Go.Eng Go.Dm Go.RowKit
theorem ZcW (x:Int):Op.intBits .and .i64 x 65535=pure (.int .i64 (x % 65536)):=by
 have h:(BitVec.ofInt 64 x &&& BitVec.ofInt 64 65535).toNat=(x % 65536).toNat:=by rw[BitVec.toNat_and,BitVec.toNat_ofInt,show (BitVec.ofInt 64 65535).toNat=2 ^ 16 - 1 from rfl,Nat.and_two_pow_sub_one_eq_mod];omega
 have h2:IntKind.i64.wrap ((x % 65536).toNat:Int)=x % 65536:=by have:=isI64.of (x:=x % 65536) (by omega) (by omega);rw[Int.toNat_of_nonneg (by omega)];exact this
 show pure (Value.int .i64 (IntKind.i64.wrap ((BitVec.ofInt 64 x &&& BitVec.ofInt 64 65535).toNat:Int)))=_;rw[h,h2]
theorem Zd8 {x:Nat} (hx:x<=65535):(BitVec.ofInt 64 (x:Int)).toNat=x:=by rw[BitVec.toNat_ofInt];omega
theorem wrap_nat {x:Nat} (hx:x<=65535):IntKind.i64.wrap (x:Int)=x:=isI64.of (x:=(x:Int)) (by omega) (by omega)
theorem and_any {x y:Nat} (hx:x<=65535) (hy:y<=65535):Op.intBits .and .i64 x y=pure (.int .i64 ((x &&& y:Nat):Int)):=by show pure (Value.int .i64 (IntKind.i64.wrap ((BitVec.ofInt 64 (x:Int) &&& BitVec.ofInt 64 (y:Int)).toNat:Int)))=_;rw[BitVec.toNat_and,Zd8 hx,Zd8 hy,wrap_nat];exact Nat.le_trans Nat.and_le_left hx
theorem or_le {x y:Nat} (hx:x<=65535) (hy:y<=65535):x ||| y<=65535:=Nat.le_of_lt_succ (Nat.or_lt_two_pow (n:=16) (Nat.lt_succ_of_le hx) (Nat.lt_succ_of_le hy))
theorem xor_le {x y:Nat} (hx:x<=65535) (hy:y<=65535):x ^^^ y<=65535:=Nat.le_of_lt_succ (Nat.xor_lt_two_pow (n:=16) (Nat.lt_succ_of_le hx) (Nat.lt_succ_of_le hy))
theorem or_any {x y:Nat} (hx:x<=65535) (hy:y<=65535):Op.intBits .or .i64 x y=pure (.int .i64 ((x ||| y:Nat):Int)):=by show pure (Value.int .i64 (IntKind.i64.wrap ((BitVec.ofInt 64 (x:Int) ||| BitVec.ofInt 64 (y:Int)).toNat:Int)))=_;rw[BitVec.toNat_or,Zd8 hx,Zd8 hy,wrap_nat (or_le hx hy)]
theorem xor_any {x y:Nat} (hx:x<=65535) (hy:y<=65535):Op.intBits .xor .i64 x y=pure (.int .i64 ((x ^^^ y:Nat):Int)):=by show pure (Value.int .i64 (IntKind.i64.wrap ((BitVec.ofInt 64 (x:Int) ^^^ BitVec.ofInt 64 (y:Int)).toNat:Int)))=_;rw[BitVec.toNat_xor,Zd8 hx,Zd8 hy,wrap_nat (xor_le hx hy)]
def half (m k:Nat):Nat:=m / 2 ^ k
def did (op:Nat) (m n:Nat):Nat:=match op with
 | 1=>(m+n) % 65536 | 2=>(m+65536 - n) % 65536 | 3=>m*n % 65536 | 4=>m &&& n | 5=>m ||| n | 6=>m ^^^ n
 | 7=>if m < n then 1 else 0 | 8=>if m=n then 1 else 0 | 9=>m*2 ^ (n % 16) % 65536 | _=>m / 2 ^ (n % 16)
theorem mask15 {n:Nat} (hn:n<=65535):Op.intBits .and .i64 (n:Int) 15=pure (.int .i64 ((n % 16:Nat):Int)):=by have h:=and_any (x:=n) (y:=15) hn (by decide);have h2:n &&& 15=n % 16:=Nat.and_two_pow_sub_one_eq_mod n 4;rw[h2] at h;exact h
theorem shl_nat (m n:Nat):(m:Int)*2 ^ (min ((n % 16:Nat):Int).toNat 64)=((m*2 ^ (n % 16):Nat):Int):=by rw[Int.toNat_natCast,Nat.min_eq_left (by omega)];simp
theorem shl_le {m n:Nat} (hm:m<=65535):m*2 ^ (n % 16)<=65535*32768 :=
 Nat.mul_le_mul hm (Nat.le_trans (Nat.pow_le_pow_right (by decide) (show n % 16<=15 by omega)) (by decide))
theorem shr_nat (m n:Nat):(m:Int).fdiv (2 ^ (min ((n % 16:Nat):Int).toNat 64))=((m / 2 ^ (n % 16):Nat):Int):=by rw[Int.toNat_natCast,Nat.min_eq_left (by omega),Int.fdiv_eq_ediv_of_nonneg _ (by exact_mod_cast Nat.zero_le _)];simp
theorem did_le {op:Int} {m n:Nat} (hm:m<=65535) (hn:n<=65535) (h:op=4\/op=5\/op=6):did op.toNat m n<=65535:=by
 rcases h with e | e | e<;>subst e
 ·exact Nat.le_trans Nat.and_le_left hm
 ·exact or_le hm hn
 ·exact xor_le hm hn
end Barb
