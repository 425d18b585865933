/-
  The cells of a slice of pairs, one by one.
-/
import Derived.Test.YtombofldebmaoaaOpens
namespace Go.Proofs.Ytombofldebmaoaa
open Go.RowKit
set_option linter.unusedVariables false

def pairOwn (v : Value) : Nat → Prop := fun k => ∃ o l c, v = .slice (some ⟨k, o, none⟩) l c

theorem Pairs.lt {w : World} {v : Value} {ps : List P2} (h : Pairs w v ps) (hp : 0 < ps.length) : ∀ k, pairOwn v k → k < w.heap.size := by
  rintro k ⟨o, l, c, rfl⟩
  obtain ⟨ao, cap, e, _, hv⟩ := h.view
  obtain ⟨g, o', e2, hg, _⟩ := hv 0 ps[0] (by simp [hp])
  simp only [Value.slice.injEq] at e
  rw [← e.1] at e2
  cases e2
  exact hg

/-- One pair's cells. -/
theorem Pairs.at {w : World} {v : Value} {ps : List P2} (h : Pairs w v ps) {j : Nat} {p : P2} (hp : ps[j]? = some p) {S : Nat → Prop} : ∃ g o cap, v = .slice (some ⟨g, o, none⟩) ps.length cap ∧ pairOwn v g ∧ g < w.heap.size ∧ ∀ w', Touch S w w' → ¬ S g →
    w'.cell? ⟨g, o + j * 2, none⟩ = some (.int .i64 p.1) ∧ w'.cell? ⟨g, o + j * 2 + 1, none⟩ = some (.int .i64 p.2) := by
  obtain ⟨ao, cap, rfl, _, hv⟩ := h.view
  obtain ⟨g, o, rfl, hg, x0, x1⟩ := hv j p hp
  exact ⟨g, o, cap, rfl, ⟨o, _, _, rfl⟩, hg, fun w' ht hS => ⟨(ht.cell (p := ⟨g, _, none⟩) hg hS).trans x0, (ht.cell (p := ⟨g, _, none⟩) hg hS).trans x1⟩⟩

end Go.Proofs.Ytombofldebmaoaa
