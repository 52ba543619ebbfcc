/-
  tree.caught, deferred: what it does of a panic, and where there is none: the contracts.
-/
import Derived.Test.YtibhhcncefkoiaaTs
import Derived.Tactics
import Derived.Tactics2
import Derived.Defers
import Derived.Recover
import Derived.Laws.Pointers
namespace Go.Proofs.Ytibhhcncefkoiaa
open Go Go.Dm Go.Eng Barb

theorem assert_fault (v : Value) (xT : TypeId) (w : World) : (Instr.typeAssert (.iface 148 v) xT 148 true).run Try.prog w = .ok (.tuple #[v, .bool true]) w := by kernel_rfl
theorem caught_idle (p : Addr) (w : World) :
    CallsD Try.prog 70 #[.pointer (some p)] .returning w fun e u' w' => e = .returned (.tuple #[]) ∧ u' = .returning ∧ w' = w := by
  refine callsD_of_wpS Try.func70 rfl fun c₀ cs hu => ?_
  apply wpS_seq
  apply wpS_region
  simp [wpOpsS, go_sem, recoverD, hu, Try.ntmps70, Exit.thenS]
  apply wpS_seq
  apply wpS_seq
  apply wpS_region
  simp [wpOpsS, go_sem, Exit.thenS]
  refine wpS_cond (t := true) (by simp [Act.eval, Array.replicate]) ?_
  simp only [if_true]
  refine wpS_of_wp (wp_ret ?_)
  cases c₀
  simp_all [bodyPostS, results, Try.results70, Exit.thenS]
theorem caught_panicking (p : Addr) (x e : Int) (w : World) (hc : ∀ o, (w.alloc o).cell? p = some (.int .i64 x)) (hz : ∀ o, (w.alloc o).frozen? p = false) :
    CallsD Try.prog 70 #[.pointer (some p)] (.panicking [{ v := .iface 148 (.agg #[.int .i64 e]), recovered := false }]) w fun en u' w' =>
      en = .returned (.tuple #[]) ∧ u' = .panicking [{ v := .iface 148 (.agg #[.int .i64 e]), recovered := true }] ∧ ∃ o, w' = (w.alloc o).setCell p (.int .i64 e) := by
  refine callsD_of_wpS Try.func70 rfl fun c₀ cs hu => ?_
  apply wpS_seq
  apply wpS_region
  simp [wpOpsS, go_sem, recoverD, hu, Try.ntmps70, Exit.thenS]
  apply wpS_seq
  apply wpS_seq
  apply wpS_region
  simp [wpOpsS, go_sem, Exit.thenS]
  refine wpS_cond (t := false) (by simp [Act.eval, Array.replicate]) ?_
  simp only [Bool.false_eq_true, if_false]
  refine wpS_of_wp (wp_skip ?_)
  simp only [Exit.thenS]
  apply wpS_seq
  apply wpS_region
  simp [wpOpsS, go_sem, Exit.thenS, assert_fault]
  apply wpS_seq
  apply wpS_seq
  apply wpS_region
  simp [wpOpsS, go_sem, Exit.thenS]
  refine wpS_cond (t := false) (by simp [Act.eval, Array.replicate]) ?_
  simp only [Bool.false_eq_true, if_false]
  refine wpS_of_wp (wp_skip ?_)
  simp only [Exit.thenS]
  apply wpS_region
  simp [wpOpsS, go_sem, hc, hz, bodyPostS, results, Try.results70]
  exact ⟨_, rfl⟩
end Go.Proofs.Ytibhhcncefkoiaa
