/-
  Numbers as texts: strconv.Itoa, and the reference's dec: the contracts.
-/
import Derived.Test.YtabjelabdojpkaaDoorLb
import Derived.Test.YtabjelabdojpkaaDoorVl
namespace Go.Proofs.YtabjelabdojpkaaDoor
open Go Go.Dm Go.Eng Go.RowKit Go.Shelf Barb
variable {L:Lv}
theorem argI {V:Nat→Prop} {w:World} {n:Int} {vals:List Value} (h:RepDL [] (fun _=>undef) V w [.g (.int n)] vals):vals=[.int .i64 n]:=by
 simp only[RepDL] at h
 obtain ⟨v,us,rfl,hv,rfl⟩:=h
 simp only[RepD,RepV] at hv
 rw[hv]
theorem Itoa_any (n:Nat) (h:n≤65535):CT Tryd.prog (gl L) 14 [.g (.int (n:Int))] (Is (.g (.str (Lib.decDigits n)))):=by
 refine ct_of_raw fun w V vals hG hr=>?_
 rw[argI hr]
 refine (itoa_ok n (by omega) (by omega) w (lib_of_gl hG).tab).mono fun e w' ⟨he,hb⟩=>⟨_,he,hb,?_⟩
 rw[Lib.itoa_nonneg]
 simp only[RepD,RepV]
theorem dec_small {n:Nat} (h:n < 10) (w:World):Calls Tryd.prog 19 #[.int .i64 (n:Int)] w fun e w'=>e=.returned (.string ⟨(Lib.decDigits n).toArray⟩)∧Below w.heap.size w w':=by
 rw[decDigits_small h]
 have h1:((n:Int) < 10):=by omega
 go_enter Tryd.func19,Tryd.ntmps19
 have hc:(convert 42 9 (Value.slice (some { block:=w.heap.size,off:=0 }) 1 1)).run Tryd.prog (w.alloc (Obj.cells #[Value.int IntKind.u8 (48+↑n)] 5))=.ok (.string ⟨#[UInt8.ofNat (48+n)]⟩) (w.alloc (Obj.cells #[Value.int IntKind.u8 (48+↑n)] 5)):=by
  have e8:(48+(n:Int))=((UInt8.ofNat (48+n)).toNat:Int):=by
   rw[UInt8.toNat_ofNat']
   omega
  rw[e8]
  refine run_convert_bytes_back _ 42 9 5 ⟨w.heap.size,0,none⟩ 1 [UInt8.ofNat (48+n)] Tryd.underlying42 Tryd.underlying5 Tryd.underlying9 (fun j hj=>?_)
  obtain rfl:j=0:=by simp only[List.length_cons,List.length_nil] at hj;omega
  show (w.alloc _).cell? ⟨w.heap.size,0,none⟩=_
  rw[Lib.cell_of_heap (heap_alloc_new w _)]
  rfl
 go_wp2
 go_ret
 refine ⟨?_,(Below.refl _ _).alloc (Nat.le_refl _) _⟩
 rw[UInt8.ofNat_add]
 rfl
theorem dec_any:∀ (n:Nat),n≤65535→CT Tryd.prog (gl L) 19 [.g (.int (n:Int))] (Is (.g (.str (Lib.decDigits n)))):=by
 intro n
 induction n using Nat.strongRecOn with
 | ind n ih =>
  intro hn
  by_cases h:n < 10
  ·refine ct_of_raw fun w V vals hG hr=>?_
   rw[argI hr]
   refine (dec_small h w).mono fun e w' ⟨he,hb⟩=>⟨_,he,hb,?_⟩
   simp only[RepD,RepV]
  ·have ia:=ih (n / 10) (by omega) (by omega)
   have ib:=ih (n % 10) (by omega) (by omega)
   have la:=dec_len (n:=n / 10) (by omega)
   have lb:=dec_len (n:=n % 10) (by omega)
   have e1:(n:Int).tdiv 10=((n / 10:Nat):Int):=by rw[Int.tdiv_eq_ediv_of_nonneg (by omega)];omega
   have e2:(n:Int).tmod 10=((n % 10:Nat):Int):=by rw[Int.tmod_eq_emod_of_nonneg (by omega)];omega
   rw[← e1] at ia
   rw[← e2] at ib
   rw[decDigits_big h,← decDigits_small (n:=n % 10) (by omega)]
   refine enter hT hF hM Tryd.func19 rfl 17 rfl (by kernel_rfl) [.tmp 2] rfl [.g (.int (n:Int))] rfl _ ?_
   refine ⟨fun h'=>absurd h' (by omega),fun _=>?_⟩
   refine ⟨by decide,by rw[e1];unfold I64;omega,?_⟩
   refine callIs (.inl rfl) ia ?_
   refine ⟨by decide,?_⟩
   refine callIs (.inl rfl) ib ?_
   refine ⟨by omega,?_⟩
   exact ⟨rfl,retIs (.inl rfl)⟩
end Go.Proofs.YtabjelabdojpkaaDoor
