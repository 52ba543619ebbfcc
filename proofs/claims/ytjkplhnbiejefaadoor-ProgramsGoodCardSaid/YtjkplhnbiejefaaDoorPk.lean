/-
  Numbers that are picked, and lists of raw things: the contracts.
-/
import Derived.Test.YtjkplhnbiejefaaDoorWd
namespace Barb
open Go Go.Dm Go.Eng
def pickN (n many:Int):Int:=(if n < 0 then -(n+1) else n) % many
theorem pickN_nat (n:Int) {many:Nat} (hm:0 < many):∃ k:Nat,pickN n many=(k:Int)∧k < many:=by
 have h1:=Int.emod_nonneg (if n < 0 then -(n+1) else n) (show ((many:Nat):Int)≠0 by omega)
 have h2:=Int.emod_lt_of_pos (if n < 0 then -(n+1) else n) (show (0:Int) < ((many:Nat):Int) by omega)
 exact ⟨(pickN n many).toNat,by unfold pickN;omega,by unfold pickN;omega⟩
theorem pickN_lo (n:Int) {many:Int} (hm:0 < many):0≤pickN n many∧pickN n many < many :=
 ⟨Int.emod_nonneg _ (by omega),Int.emod_lt_of_pos _ hm⟩
structure Raw where
 kind:Int
 a:Int
 b:Int
 c:Int
def Raw.g (r:Raw):List GV:=[.int r.kind,.int r.a,.int r.b,.int r.c]
def Raw.I (r:Raw):Prop:=I64 r.kind∧I64 r.a∧I64 r.b∧I64 r.c
end Barb
namespace Go.Proofs.YtjkplhnbiejefaaDoor
open Go Go.Dm Go.Eng Barb
theorem picked_any (n many:Int) (hn:I64 n) (hm:0 < many):CT Tryd.prog gl 6 [.g (.int n),.g (.int many)] (Is (.g (.int (pickN n many)))):=by
 refine enter hT hF hM Tryd.func6 rfl 13 rfl (by kernel_rfl) [.tmp 4] rfl [.g (.int n),.g (.int many)] rfl _ ?_
 unfold I64 at hn
 refine ⟨fun h=>?_,fun h=>?_⟩
 ·refine ⟨_,I64.wrap (by unfold I64;omega),by unfold I64;omega,by omega,rfl,retI ?_⟩
  rw[Int.tmod_eq_emod_of_nonneg (by omega)]
  unfold pickN
  rw[if_pos h]
  congr 1
  omega
 ·refine ⟨by omega,rfl,retI ?_⟩
  rw[Int.tmod_eq_emod_of_nonneg (by omega)]
  unfold pickN
  rw[if_neg h]
theorem pick_any (n:Int) (hn:I64 n) {many:Nat} (hm:0 < many):∃ k:Nat,k < many∧CT Tryd.prog gl 6 [.g (.int n),.g (.int (many:Int))] (Is (.g (.int (k:Int)))):=by
 obtain ⟨k,hk,hl⟩:=pickN_nat n hm
 exact ⟨k,hl,hk▸picked_any n many hn (by omega)⟩
theorem cells_Raw:Tryd.prog.cellsOf 52=4:=by kernel_rfl
theorem bytes_Raw:Tryd.prog.bytesOf 52=32:=by kernel_rfl
theorem dec_Raw {f:Nat} {r:List GV} (h:TypedR Tryd.prog f 52 r):∃ i:Raw,r=i.g∧i.I:=by
 obtain ⟨hl,hf⟩:=dec_fields Tryd.underlying52 h
 match r,hl with
 | [g0,g1,g2,g3],_ =>
  obtain ⟨n0,rfl,h0⟩:=dec_int (hf 0 _ g0 rfl rfl)
  obtain ⟨n1,rfl,h1⟩:=dec_int (hf 1 _ g1 rfl rfl)
  obtain ⟨n2,rfl,h2⟩:=dec_int (hf 2 _ g2 rfl rfl)
  obtain ⟨n3,rfl,h3⟩:=dec_int (hf 3 _ g3 rfl rfl)
  exact ⟨⟨n0,n1,n2,n3⟩,rfl,h0,h1,h2,h3⟩
theorem dec_Raws {f:Nat} {g:GV} (h:TypedG Tryd.prog f 22 g):∃ l,g=.sl 4 (List.map Raw.g l)∧(∀ x∈l,Raw.I x)∧l.length*32≤140737488351232 :=
 dec_list Tryd.underlying22 cells_Raw bytes_Raw h (fun _ _ h=>dec_Raw h)
end Go.Proofs.YtjkplhnbiejefaaDoor
