/-
  token.Number: what it answers, in every world where the library's variables hold what they should.
-/
import Derived.Test.YthbdbjnakknbkaaDoorNu
import Derived.Test.YthbdbjnakknbkaaDoorDlaw
import Derived.Shelf.Strconv.AtoiAll
import Derived.Shelf.Strconv.Itoa3
import Derived.KernelRfl
import Derived.Lib.AtoiErrMem
import Derived.Lib.SmallJoins
import Derived.Ground.NamesProg
import Derived.WalkKit
import Derived.BigCall
namespace Go.Proofs.YthbdbjnakknbkaaDoor
open Go Go.Shelf Go.RowKit Barb
def laysAtoi_ren : Go.Shelf.Ren := ⟨fun | 172 => 49 | 244 => 75 | 245 => 76 | 247 => 99 | 279 => 100 | 280 => 101 | 281 => 102 | 282 => 103 | 287 => 116 | 316 => 117 | 171 => 50 | 205 => 118 | 321 => 129 | 322 => 130 | 243 => 77 | 246 => 104 | 283 => 119 | 284 => 120 | 285 => 121 | 286 => 122 | 129 => 132 | 317 => 131 | 318 => 133 | 319 => 134 | 320 => 135 | 337 => 138 | 338 => 139 | n => n, fun | 9 => 9 | 3 => 3 | 75 => 101 | 76 => 102 | 4 => 4 | 5 => 5 | 167 => 155 | 37 => 112 | 0 => 0 | 85 => 156 | 2 => 2 | 168 => 158 | 53 => 175 | 175 => 176 | 46 => 178 | 210 => 180 | 127 => 149 | 145 => 196 | 143 => 194 | 21 => 21 | 171 => 182 | 173 => 185 | 212 => 198 | 51 => 199 | 20 => 20 | 213 => 200 | 232 => 208 | 233 => 209 | 80 => 122 | n => n, fun | 15 => 1 | 16 => 2 | 17 => 4 | 18 => 8 | 19 => 9 | n => n⟩
theorem laysAtoi : Go.Proofs.LaysC.n172 Tryd.prog laysAtoi_ren := by
  repeat' first | kernel_rfl | (intro w; kernel_rfl) | (intro w; rfl) | constructor
def laysItoa_ren : Go.Shelf.Ren := ⟨fun | 171 => 50 | 243 => 77 | 246 => 104 | 283 => 119 | 284 => 120 | 285 => 121 | 286 => 122 | 129 => 132 | 317 => 131 | 318 => 133 | 319 => 134 | 320 => 135 | 337 => 138 | 338 => 139 | n => n, fun | 3 => 3 | 9 => 9 | 2 => 2 | 4 => 4 | 171 => 182 | 0 => 0 | 53 => 175 | 37 => 112 | 5 => 5 | 173 => 185 | 212 => 198 | 51 => 199 | 20 => 20 | 213 => 200 | 46 => 178 | 232 => 208 | 233 => 209 | n => n, fun | 17 => 4 | 18 => 8 | 19 => 9 | n => n⟩
theorem laysItoa : Go.Proofs.LaysM.n171 Tryd.prog laysItoa_ren := by
  repeat' first | kernel_rfl | (intro w; kernel_rfl) | (intro w; rfl) | constructor
/-- What the library's variables hold. -/
structure LibOk (w : World) : Prop where
  synt : ∃ t p, w.cell? ⟨1, 0, none⟩ = some (.iface t p)
  rang : ∃ t p, w.cell? ⟨2, 0, none⟩ = some (.iface t p)
  tab : Lib.TabIs Tryd.prog w "internal/strconv.uint64pow10" .u64 Lib.pow10Tab
theorem pow10Named : Tryd.prog.globalNamed "internal/strconv.uint64pow10" = some 4 := by kernel_rfl
theorem tab_on {w w' : World} (h : Lib.TabIs Tryd.prog w "internal/strconv.uint64pow10" .u64 Lib.pow10Tab) (hb : Below w.heap.size w w') : Lib.TabIs Tryd.prog w' "internal/strconv.uint64pow10" .u64 Lib.pow10Tab :=
  Joins.tab_stays pow10Named h hb (Nat.le_refl _)
theorem below_laid (w : World) (q : Nat) (os : Array Obj) : Below w.heap.size w (Sort.grow (w.drewN q) os) :=
  ⟨rfl, rfl, rfl, by simp [Sort.grow], fun i hi => by
    show ((w.drewN q).heap ++ os)[i]? = _
    rw [Array.getElem?_append_left (by show i < w.heap.size; omega)]
    rfl⟩
/-- strconv.Atoi where there is a number. -/
theorem atoi_ok (s : ByteArray) (hs : s.size ≤ 140737488351232) (v : Int) (h : Lib.atoiAll s.data.toList = .ok v) (w : World) :
    Calls Tryd.prog 49 #[.string s] w fun e w' => e = .returned (.tuple #[.int .i64 v, .nilIface]) ∧ Below w.heap.size w w' :=
  (Any.strconv_Atoi_ok laysAtoi s (by omega) v h w).mono (by
    rintro e w' ⟨rfl, hw⟩
    refine ⟨rfl, ?_⟩
    rcases hw with rfl | ⟨t, rfl⟩
    · exact Below.refl _ _
    · exact Lib.bytesWorld_below _ _ _)
theorem atoi_no (s : ByteArray) (hs : s.size ≤ 140737488351232) (h : ∀ v, Lib.atoiAll s.data.toList ≠ .ok v) (w : World) (hw : LibOk w) :
    Calls Tryd.prog 49 #[.string s] w fun e w' => ∃ n t p, e = .returned (.tuple #[.int .i64 n, .iface t p]) ∧ Below w.heap.size w w' := by
  obtain ⟨t0, p0, h0⟩ := hw.synt
  obtain ⟨t1, p1, h1⟩ := hw.rang
  cases ha : Lib.atoiAll s.data.toList with
  | ok v => exact absurd ha (h v)
  | range =>
    refine (Any.strconv_Atoi_range laysAtoi s (by omega) ha _ w h1 (.inr ⟨_, _, rfl⟩)).mono ?_
    rintro e w' ⟨N, rfl, -, -, hb⟩
    exact ⟨_, _, _, rfl, hb⟩
  | _ =>
    refine (Any.strconv_Atoi_syntax laysAtoi s (by omega) ha _ w h0 (.inr ⟨_, _, rfl⟩)).mono ?_
    rintro e w' ⟨N, rfl, -, -, hb⟩
    exact ⟨_, _, _, rfl, hb⟩
theorem itoa_ok (n : Int) (h0 : 0 ≤ n) (h1 : n ≤ 65535) (w : World) (ht : Lib.TabIs Tryd.prog w "internal/strconv.uint64pow10" .u64 Lib.pow10Tab) :
    Calls Tryd.prog 50 #[.int .i64 n] w fun e w' => e = .returned (.string ⟨(Lib.itoa n).toArray⟩) ∧ Below w.heap.size w w' :=
  (Any.strconv_Itoa laysItoa n (by omega) (by omega) w ht).mono (by
    rintro e w' ⟨rfl, k, os, rfl⟩
    exact ⟨rfl, below_laid _ _ _⟩)

set_option maxRecDepth 100000 in
/-- token.Number: what it answers. -/
theorem number_raw (s : ByteArray) (hs : s.size ≤ 140737488351232) (w : World) (hw : LibOk w) :
    Calls Tryd.prog 29 #[.string s] w fun e w' => e = .returned (.tuple #[.int .i64 (numR s.data.toList), .bool (numB s.data.toList)]) ∧ Below w.heap.size w w' := by
  by_cases hn : isNum s.data.toList
  · obtain ⟨n, h5, he⟩ := hn
    have ha := atoi_digits h5
    rw [← he] at ha
    obtain ⟨r1, r2⟩ := numR_yes h5
    rw [← he] at r1 r2
    rw [r1, r2]
    have hi : Lib.itoa (n : Int) = s.data.toList := by
      rw [Lib.itoa_nonneg]; exact he.symm
    have hI : ∀ w, Lib.TabIs Tryd.prog w "internal/strconv.uint64pow10" .u64 Lib.pow10Tab → Calls Tryd.prog 50 #[.int .i64 (n : Int)] w fun e w' => e = .returned (.string s) ∧ Below w.heap.size w w' := fun w ht => (itoa_ok (n : Int) (by omega) (by omega) w ht).mono (by
      rintro e w' ⟨rfl, hb⟩
      refine ⟨?_, hb⟩
      rw [hi])
    go_enter Tryd.func29, Tryd.ntmps29
    go_wp2_with (first
      | (go_at_call 49; refine (atoi_ok s hs _ ha _).mono ?_; rintro e w1 ⟨rfl, hb1⟩)
      | (go_at_call 50; refine (hI _ (tab_on hw.tab hb1)).mono ?_; rintro e w2 ⟨rfl, hb2⟩)
      | go_in)
    go_ret2
    exact ⟨rfl, hb1.trans (hb2.mono hb1.size)⟩
  · obtain ⟨r1, r2⟩ := numR_no hn
    rw [r1, r2]
    by_cases hok : ∃ v, Lib.atoiAll s.data.toList = .ok v
    · obtain ⟨v, ha⟩ := hok
      by_cases hv : 0 ≤ v ∧ v ≤ 65535
      · obtain ⟨hv0, hv1⟩ := hv
        obtain ⟨n, rfl⟩ : ∃ n : Nat, v = (n : Int) := ⟨v.toNat, by omega⟩
        have hne : ¬Lib.itoa (n : Int) = s.data.toList := fun e => hn ⟨n, by omega, by rw [← e, ← Lib.itoa_nonneg]⟩
        have hI : ∀ w, Lib.TabIs Tryd.prog w "internal/strconv.uint64pow10" .u64 Lib.pow10Tab → Calls Tryd.prog 50 #[.int .i64 (n : Int)] w fun e w' => ∃ z : ByteArray, (z.toList == s.toList) = false ∧ e = .returned (.string z) ∧ Below w.heap.size w w' := fun w ht => (itoa_ok (n : Int) (by omega) (by omega) w ht).mono (by
          rintro e w' ⟨rfl, hb⟩
          exact ⟨_, by rw [Go.Eng.str_eq]; exact decide_eq_false (fun e => hne (by rw [← e])), rfl, hb⟩)
        clear hne
        go_enter Tryd.func29, Tryd.ntmps29
        go_wp2_with (first
          | (go_at_call 49; refine (atoi_ok s hs _ ha _).mono ?_; rintro e w1 ⟨rfl, hb1⟩)
          | (go_at_call 50; refine (hI _ (tab_on hw.tab hb1)).mono ?_; rintro e w2 ⟨z, hz, rfl, hb2⟩)
          | go_in)
        go_ret2
        exact ⟨rfl, hb1.trans (hb2.mono hb1.size)⟩
      · go_enter Tryd.func29, Tryd.ntmps29
        go_wp2_with (first
          | (go_at_call 49; refine (atoi_ok s hs _ ha _).mono ?_; rintro e w1 ⟨rfl, hb1⟩)
          | go_in)
        all_goals
          go_ret2
          exact ⟨rfl, hb1⟩
    · go_enter Tryd.func29, Tryd.ntmps29
      go_wp2_with (first
        | (go_at_call 49; refine (atoi_no s hs (fun v h => hok ⟨v, h⟩) _ hw).mono ?_; rintro e w1 ⟨n, t, p, rfl, hb1⟩)
        | go_in)
      go_ret2
      exact ⟨rfl, hb1⟩
end Go.Proofs.YthbdbjnakknbkaaDoor
