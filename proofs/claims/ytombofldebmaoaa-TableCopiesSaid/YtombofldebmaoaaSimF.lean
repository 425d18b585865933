/-
  The two tables side by side: Rekey. No program in sight.
-/
import Derived.Test.YtombofldebmaoaaSimE
namespace Go.Proofs.Ytombofldebmaoaa
open Go.RowKit
set_option linter.unusedVariables false

theorem rek_sorted (ps : List P2) {rs : List R3} (hs : rs.Pairwise (fun a b => a.2.2 < b.2.2)) : (rekRows ps rs).Pairwise (fun a b => a.2.2 < b.2.2) := by
  have key : ∀ j, j ≤ rs.length → (rekRows ps (rs.take j)).Pairwise (fun a b => a.2.2 < b.2.2) := by
    intro j
    induction j with
    | zero => intro _; simp [rekRows]
    | succ j ih =>
      intro hj
      have hjl : j < rs.length := by omega
      have hr : rs[j]? = some rs[j] := by simp [hjl]
      have h := ih (by omega)
      rw [rekRows_take hr]
      unfold rekStep
      cases hf : (rekRows ps (rs.take j)).findIdx? (fun q => q.1 == (toOf ps rs[j].1).getD rs[j].1) with
      | some i => exact setVal_pair (fun a b => a.2 < b.2) h
      | none =>
        simp only
        rw [List.pairwise_append]
        refine ⟨h, by simp, ?_⟩
        intro a ha c hc
        simp only [List.mem_singleton] at hc
        subst hc
        obtain ⟨x, hx, e⟩ := rekRows_nums ps (rs.take j) a ha
        rw [← e]
        obtain ⟨i, hi, e2⟩ := List.mem_take_iff_getElem.1 hx
        rw [← e2]
        exact (List.pairwise_iff_getElem.1 hs) i j (by omega) hjl (by omega)
  have := key rs.length (Nat.le_refl _)
  rwa [List.take_length] at this

theorem Sim.rekey {T R : PT} (h : Sim T R) (ps : List P2) : (T.rekey ps).2 = (R.rekey ps).2 ∧ Sim (T.rekey ps).1 (R.rekey ps).1 := by
  have e1 : rekFresh T.rows ps = rekFresh R.rows ps := by
    unfold rekFresh
    have e : (fun p : P2 => decide (0 ≤ atI T.rows p.1) && decide (atI T.rows p.2 < 0)) = fun p : P2 => decide (0 ≤ atI R.rows p.1) && decide (atI R.rows p.2 < 0) := by
      funext p; rw [h.rows.atI, h.rows.atI]
    rw [e]
  have e2 : rekMiss T.rows ps = rekMiss R.rows ps := by
    unfold rekMiss
    have e : (fun p : P2 => decide (atI T.rows p.1 < 0)) = fun p : P2 => decide (atI R.rows p.1 < 0) := by
      funext p; rw [h.rows.atI]
    rw [e]
  unfold PT.rekey
  rw [h.frozen, h.strict, h.opens, e1, e2]
  split
  · exact ⟨rfl, h⟩
  · split
    · exact ⟨rfl, h⟩
    · split
      · exact ⟨rfl, h⟩
      · split
        · exact ⟨rfl, h⟩
        · split
          · exact ⟨rfl, h⟩
          · refine ⟨rfl, h.rows.rek ps, rfl, rfl, h.len, h.over, rek_sorted ps h.sorted, ?_⟩
            intro q hq
            obtain ⟨r, hr, e⟩ := rekRows_nums ps R.rows q hq
            rw [← e]; exact h.nums r hr

end Go.Proofs.Ytombofldebmaoaa
