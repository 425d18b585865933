/-
  The two tables side by side: walks, merge, rekey, copy, what is read. No program in sight.
-/
import Derived.Test.YtombofldebmaoaaSimB
namespace Go.Proofs.Ytombofldebmaoaa
open Go.RowKit
set_option linter.unusedVariables false

theorem Sim.begin {T R : PT} (h : Sim T R) (hok : T.ok) (h20 : Ytombofldebmaoaa.opens T.walks ≤ 20) : T.walk.2 = R.begin.2 ∧ Sim T.walk.1 R.begin.1 := by
  unfold PT.walk PT.begin
  rw [← h.opens]
  by_cases h2 : Ytombofldebmaoaa.opens T.walks = 20
  · rw [if_pos h2, if_pos (by omega)]
    exact ⟨rfl, h⟩
  · rw [if_neg h2, if_neg (by omega)]
    refine ⟨by simp only [h.len], ?_, h.strict, h.frozen, by simp [h.len], ?_, h.sorted, h.nums⟩
    · have hT := hok.nums
      have key : ∀ {xs ys : List R3}, RS (pos T.walks R.walks) xs ys → (∀ r ∈ xs, 0 ≤ r.2.2) → (∀ r ∈ ys, 1 ≤ r.2.2) → RS (pos (T.walks ++ [(-1, false)]) (R.walks ++ [(0, false)])) xs ys := by
        intro xs ys hr
        induction hr with
        | nil => intro _ _; exact .nil
        | @cons a b xs ys hk hv hp hr ih =>
          intro hx hy
          refine .cons hk hv ?_ (ih (fun r hr => hx r (List.mem_cons_of_mem _ hr)) (fun r hr => hy r (List.mem_cons_of_mem _ hr)))
          intro i u v hu hv
          have h0 := hx a List.mem_cons_self
          have h1 := hy b List.mem_cons_self
          rcases Nat.lt_or_ge i T.walks.length with hi | hi
          · rw [List.getElem?_append_left hi] at hu
            rw [List.getElem?_append_left (by rw [← h.len]; exact hi)] at hv
            exact hp i u v hu hv
          · rw [List.getElem?_append_right hi] at hu
            rw [List.getElem?_append_right (by rw [← h.len]; exact hi), ← h.len] at hv
            have hz : i - T.walks.length = 0 := by
              have := (List.getElem?_eq_some_iff.1 hu).1
              simp at this; omega
            rw [hz] at hu hv
            simp at hu hv
            subst hu; subst hv
            simp only
            omega
      exact key h.rows (fun r hr => (hT r hr).1) (fun r hr => (h.nums r hr).1)
    · intro i u v hu hv
      rcases Nat.lt_or_ge i T.walks.length with hi | hi
      · rw [List.getElem?_append_left hi] at hu
        rw [List.getElem?_append_left (by rw [← h.len]; exact hi)] at hv
        exact h.over i u v hu hv
      · rw [List.getElem?_append_right hi] at hu
        rw [List.getElem?_append_right (by rw [← h.len]; exact hi), ← h.len] at hv
        have hz : i - T.walks.length = 0 := by
          have := (List.getElem?_eq_some_iff.1 hu).1
          simp at this; omega
        rw [hz] at hu hv
        simp at hu hv
        subst hu; subst hv
        simp only
        refine ⟨by trivial, by omega, by omega⟩

theorem Sim.pairs {T R : PT} (h : Sim T R) : pairsOf T.rows = pairsOf R.rows := h.rows.pairs

theorem getI_pairs {xs ys : List R3} {p : Int → Int → Prop} (h : RS p xs ys) (k : Int) : getI xs k = getI ys k := by
  unfold getI
  rw [h.find]
  cases ys.findIdx? (fun r => r.1 == k) with
  | none => rfl
  | some i =>
    simp only
    cases ha : xs[i]? with
    | none => rw [h.none ha]
    | some a =>
      obtain ⟨b, hb, _, hv, _⟩ := h.get ha
      rw [hb]; simp only [hv]

theorem whereI_pairs {xs ys : List R3} {p : Int → Int → Prop} (h : RS p xs ys) (k : Int) : whereI xs k = whereI ys k := by
  unfold whereI
  rw [h.find]

theorem rowI_pairs {xs ys : List R3} {p : Int → Int → Prop} (h : RS p xs ys) (i : Int) : rowI xs i = rowI ys i := by
  unfold rowI
  split
  · rfl
  · cases ha : xs[i.toNat]? with
    | none => rw [h.none ha]
    | some a =>
      obtain ⟨b, hb, hk, hv, _⟩ := h.get ha
      rw [hb]; simp only [hk, hv]

theorem freshN_alike {xs ys : List R3} {p : Int → Int → Prop} (h : RS p xs ys) (ps : List P2) : freshN xs ps = freshN ys ps := by
  unfold freshN
  have e : (fun q : P2 => decide (atI xs q.1 < 0)) = fun q : P2 => decide (atI ys q.1 < 0) := by
    funext q; rw [h.atI]
  rw [e]

theorem Sim.strictly {T R : PT} (h : Sim T R) (on : Bool) : Sim { T with strict := on } { R with strict := on } := ⟨h.rows, rfl, h.frozen, h.len, h.over, h.sorted, h.nums⟩
theorem Sim.freeze {T R : PT} (h : Sim T R) : Sim { T with frozen := true } { R with frozen := true } := ⟨h.rows, h.strict, rfl, h.len, h.over, h.sorted, h.nums⟩

end Go.Proofs.Ytombofldebmaoaa
