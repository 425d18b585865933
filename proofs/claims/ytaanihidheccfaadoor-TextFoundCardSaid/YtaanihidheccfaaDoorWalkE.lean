/-
  The program's door: of, at the two encodings of one byte.
-/
import Derived.Test.YtaanihidheccfaaDoorWalkD
namespace Go.Proofs.YtaanihidheccfaaDoor
open Go.Shelf Go.RowKit
set_option linter.unusedVariables false

theorem f48a (w : World) : Calls Tryd.prog 48 #[.int .i64 0] w fun en w' => ∃ b, en = .returned (oneByte b) ∧ w.heap.size ≤ b ∧ b < w'.heap.size ∧ w'.heap[b]? = some (.cells #[.int .i64 128] 3 (0, 0)) ∧ Below w.heap.size w w' := by
  have H72 := Lib.hid (f72 128 (w.alloc (.cells #[.nilFunc, .nilFunc] 67)))
  go_enter Tryd.func48, Tryd.ntmps48
  go_wp2_with (go_at_call 72; refine H72.out.mono ?_; rintro en w2 ⟨b, rfl, hlo, hhi, hc, hB⟩; have HC := Lib.hid hc; clear hc; have c0 : w2.cell? ⟨w.heap.size, 0, none⟩ = some .nilFunc := (hB.cell (by simp)).trans (by simp); have c1 : w2.cell? ⟨w.heap.size, 1, none⟩ = some .nilFunc := (hB.cell (by simp)).trans (by simp); have z0 : w2.frozen? ⟨w.heap.size, 0, none⟩ = false := (hB.frozen (by simp)).trans (by simp); have z1 : w2.frozen? ⟨w.heap.size, 1, none⟩ = false := (hB.frozen (by simp)).trans (by simp); have HB := Lib.hid hB; clear hB; have HLO := Lib.hid hlo; clear hlo; simp only [oneByte])
  have hlo := HLO.out
  have hB : Below w.heap.size w w2 := ((Below.refl w.heap.size w).alloc (Nat.le_refl _) _).trans (HB.out.mono (by simp))
  have e1 : (w.alloc (.cells #[.nilFunc, .nilFunc] 67)).heap.size = w.heap.size + 1 := by simp
  rw [e1] at hlo
  refine bodyPost_ret (v := oneByte b) (by simp [results, Tryd.results48, go_sem, oneByte, c0, c1]) rfl ?_
  refine ⟨b, rfl, by omega, by simpa using hhi, ?_, (hB.setCell (Nat.le_refl _) _).setCell (Nat.le_refl _) _⟩
  rw [Below.heap_setCell _ _ _ _ (by show b ≠ w.heap.size; omega), Below.heap_setCell _ _ _ _ (by show b ≠ w.heap.size; omega)]
  exact HC.out

theorem f48b (w : World) : Calls Tryd.prog 48 #[.int .i64 1] w fun en w' => ∃ b, en = .returned (oneByte b) ∧ w.heap.size ≤ b ∧ b < w'.heap.size ∧ w'.heap[b]? = some (.cells #[.int .i64 256] 3 (0, 0)) ∧ Below w.heap.size w w' := by
  have H72 := Lib.hid (f72 256 (w.alloc (.cells #[.nilFunc, .nilFunc] 67)))
  go_enter Tryd.func48, Tryd.ntmps48
  go_wp2_with (go_at_call 72; refine H72.out.mono ?_; rintro en w2 ⟨b, rfl, hlo, hhi, hc, hB⟩; have HC := Lib.hid hc; clear hc; have c0 : w2.cell? ⟨w.heap.size, 0, none⟩ = some .nilFunc := (hB.cell (by simp)).trans (by simp); have c1 : w2.cell? ⟨w.heap.size, 1, none⟩ = some .nilFunc := (hB.cell (by simp)).trans (by simp); have z0 : w2.frozen? ⟨w.heap.size, 0, none⟩ = false := (hB.frozen (by simp)).trans (by simp); have z1 : w2.frozen? ⟨w.heap.size, 1, none⟩ = false := (hB.frozen (by simp)).trans (by simp); have HB := Lib.hid hB; clear hB; have HLO := Lib.hid hlo; clear hlo; simp only [oneByte])
  have hlo := HLO.out
  have hB : Below w.heap.size w w2 := ((Below.refl w.heap.size w).alloc (Nat.le_refl _) _).trans (HB.out.mono (by simp))
  have e1 : (w.alloc (.cells #[.nilFunc, .nilFunc] 67)).heap.size = w.heap.size + 1 := by simp
  rw [e1] at hlo
  refine bodyPost_ret (v := oneByte b) (by simp [results, Tryd.results48, go_sem, oneByte, c0, c1]) rfl ?_
  refine ⟨b, rfl, by omega, by simpa using hhi, ?_, (hB.setCell (Nat.le_refl _) _).setCell (Nat.le_refl _) _⟩
  rw [Below.heap_setCell _ _ _ _ (by show b ≠ w.heap.size; omega), Below.heap_setCell _ _ _ _ (by show b ≠ w.heap.size; omega)]
  exact HC.out

end Go.Proofs.YtaanihidheccfaaDoor
