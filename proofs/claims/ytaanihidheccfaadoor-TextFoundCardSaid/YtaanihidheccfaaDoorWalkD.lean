/-
  The program's door: an encoding is two closures.
-/
import Derived.Test.YtaanihidheccfaaDoorWalkC
import Derived.Laws.EntriesVeiled
namespace Go.Proofs.YtaanihidheccfaaDoor
open Go.Shelf Go.RowKit
set_option linter.unusedVariables false

/-- The value that single hands out: the box of its bound lies at b. -/
def oneByte (b : Nat) : Value := .agg #[.func (.func 87) #[] #[.pointer (some ⟨b, 0, none⟩)], .func (.func 88) #[] #[.pointer (some ⟨b, 0, none⟩)]]

theorem f72 (m : Int) (w : World) : Calls Tryd.prog 72 #[.int .i64 m] w fun e w' => ∃ b, e = .returned (oneByte b) ∧ w.heap.size ≤ b ∧ b < w'.heap.size ∧ w'.heap[b]? = some (.cells #[.int .i64 m] 3 (0, 0)) ∧ Below w.heap.size w w' := by
  go_enter Tryd.func72, Tryd.ntmps72
  go_wp2_with fail
  refine bodyPost_ret (v := oneByte w.heap.size) (by simp [results, Tryd.results72, go_sem, oneByte]) rfl ?_
  refine ⟨w.heap.size, rfl, Nat.le_refl _, by simp; omega, (Below.heap_alloc _ _ _ (by simp)).trans (heap_alloc_new w _), ?_⟩
  exact ((Below.refl _ _).alloc (Nat.le_refl _) _).alloc (by simp) _

theorem f48u (e : Int) (h0 : e ≠ 0) (h1 : e ≠ 1) (w : World) : Calls Tryd.prog 48 #[.int .i64 e] w fun en w' => en = .returned (.agg #[.func (.func 73) #[] #[], .func (.func 76) #[] #[]]) ∧ Below w.heap.size w w' := by
  go_enter Tryd.func48, Tryd.ntmps48
  go_wp2_with fail
  refine bodyPost_ret (v := .agg #[.func (.func 73) #[] #[], .func (.func 76) #[] #[]]) (by simp [results, Tryd.results48, go_sem]) rfl ?_
  exact ⟨rfl, (Below.refl _ _).alloc (Nat.le_refl _) _⟩

end Go.Proofs.YtaanihidheccfaaDoor
