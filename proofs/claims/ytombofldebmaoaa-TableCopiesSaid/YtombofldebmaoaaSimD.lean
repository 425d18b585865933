/-
  The two tables side by side: Stop, Next, Merge, Rekey, Copy. No program in sight.
-/
import Derived.Test.YtombofldebmaoaaSimC
namespace Go.Proofs.Ytombofldebmaoaa
open Go.RowKit
set_option linter.unusedVariables false

theorem RS.of_get {p : Int → Int → Prop} : ∀ {xs ys : List R3}, xs.length = ys.length → (∀ (i : Nat) (a b : R3), xs[i]? = some a → ys[i]? = some b → a.1 = b.1 ∧ a.2.1 = b.2.1 ∧ p a.2.2 b.2.2) → RS p xs ys := by
  intro xs
  induction xs with
  | nil => intro ys h _; cases ys with | nil => exact .nil | cons y ys => simp at h
  | cons x xs ih =>
    intro ys h hv
    cases ys with
    | nil => simp at h
    | cons y ys =>
      obtain ⟨h1, h2, h3⟩ := hv 0 x y rfl rfl
      exact .cons h1 h2 h3 (ih (by simpa using h) (fun i a b ha hb => hv (i + 1) a b (by simpa using ha) (by simpa using hb)))

theorem RS.findNum {p : Int → Int → Prop} {xs ys : List R3} (h : RS p xs ys) (f g : Int → Bool) (hf : ∀ a b, p a b → f a = g b) : xs.findIdx? (fun r => f r.2.2) = ys.findIdx? (fun r => g r.2.2) := by
  induction h with
  | nil => rfl
  | cons hk hv hp h ih => rw [List.findIdx?_cons, List.findIdx?_cons, hf _ _ hp, ih]

theorem pos_set {ks ls : List W2} {j : Nat} {a b : W2} {x y : Bool} (ha : ks[j]? = some a) (hb : ls[j]? = some b) {n m : Int} (h : pos ks ls n m) : pos (ks.set j (a.1, x)) (ls.set j (b.1, y)) n m := by
  intro i u v hu hv
  by_cases hij : j = i
  · subst hij
    rw [List.getElem?_set_self (List.getElem?_eq_some_iff.1 ha).1] at hu
    rw [List.getElem?_set_self (List.getElem?_eq_some_iff.1 hb).1] at hv
    cases hu; cases hv
    exact h j a b ha hb
  · rw [List.getElem?_set_ne hij] at hu hv
    exact h i u v hu hv

theorem Sim.at {T R : PT} (h : Sim T R) {j : Nat} {a : W2} (ha : T.walks[j]? = some a) : ∃ b, R.walks[j]? = some b ∧ a.2 = b.2 ∧ a.1 < T.next ∧ b.1 ≤ R.next := by
  have hl := (List.getElem?_eq_some_iff.1 ha).1
  have hl2 : j < R.walks.length := by rw [← h.len]; exact hl
  have hb : R.walks[j]? = some R.walks[j] := by simp [hl2]
  exact ⟨_, hb, h.over j a _ ha hb⟩

theorem Sim.setWalk {T R : PT} (h : Sim T R) {j : Nat} {a b : W2} (ha : T.walks[j]? = some a) (hb : R.walks[j]? = some b) (x : Bool) : Sim { T with walks := T.walks.set j (a.1, x) } { R with walks := R.walks.set j (b.1, x) } := by
  refine ⟨h.rows.imp (fun n m hp => pos_set ha hb hp), h.strict, h.frozen, by simp [h.len], ?_, h.sorted, h.nums⟩
  intro i u v hu hv
  by_cases hij : j = i
  · subst hij
    rw [List.getElem?_set_self (List.getElem?_eq_some_iff.1 ha).1] at hu
    rw [List.getElem?_set_self (List.getElem?_eq_some_iff.1 hb).1] at hv
    cases hu; cases hv
    exact ⟨rfl, (h.over j a b ha hb).2⟩
  · rw [List.getElem?_set_ne hij] at hu hv
    exact h.over i u v hu hv

theorem Sim.stop {T R : PT} (h : Sim T R) (i : Int) : (stopW T.walks i).2 = (stopW R.walks i).2 ∧ Sim { T with walks := (stopW T.walks i).1 } { R with walks := (stopW R.walks i).1 } := by
  unfold stopW
  rw [← h.under i]
  cases hu : underB T.walks i with
  | false => exact ⟨rfl, h⟩
  | true =>
    obtain ⟨j, a, rfl, ha, _⟩ := under_true hu
    obtain ⟨b, hb, _⟩ := h.at ha
    simp only [if_true, Int.toNat_natCast, ha, hb]
    exact ⟨by trivial, h.setWalk ha hb true⟩

theorem Sim.next {T R : PT} (h : Sim T R) (hok : T.ok) (i : Int) : (nextW T i).2 = (nextW R i).2 ∧ Sim { T with walks := (nextW T i).1 } { R with walks := (nextW R i).1 } := by
  unfold nextW
  rw [← h.under i]
  cases hu : underB T.walks i with
  | false => exact ⟨rfl, h⟩
  | true =>
    obtain ⟨j, a, rfl, ha, ha2⟩ := under_true hu
    obtain ⟨b, hb, hab, _⟩ := h.at ha
    have hf : T.rows.findIdx? (fun r => decide (a.1 < r.2.2)) = R.rows.findIdx? (fun r => decide (b.1 < r.2.2)) :=
      h.rows.findNum (fun n => decide (a.1 < n)) (fun m => decide (b.1 < m)) (fun n m hp => by have := hp j a b ha hb; simp [this])
    simp only [if_true, Int.toNat_natCast, ha, hb]
    rw [hf]
    cases hq : R.rows.findIdx? (fun r => decide (b.1 < r.2.2)) with
    | none => exact ⟨by trivial, h.setWalk ha hb true⟩
    | some q =>
      simp only
      cases hx : T.rows[q]? with
      | none => rw [h.rows.none hx]; exact ⟨rfl, h⟩
      | some x =>
        obtain ⟨y, hy, hk, hv, _⟩ := h.rows.get hx
        rw [hy]
        refine ⟨by simp only [hk, hv], ?_, h.strict, h.frozen, by simp [h.len], ?_, h.sorted, h.nums⟩
        · refine RS.of_get h.rows.length ?_
          intro i u v hu hv
          obtain ⟨v', hv', h1, h2, h3⟩ := h.rows.get hu
          rw [hv] at hv'; cases hv'
          refine ⟨h1, h2, ?_⟩
          intro s c d hc hd
          by_cases hij : j = s
          · subst hij
            simp only at hc hd
            rw [List.getElem?_set_self (List.getElem?_eq_some_iff.1 ha).1] at hc
            rw [List.getElem?_set_self (List.getElem?_eq_some_iff.1 hb).1] at hd
            cases hc; cases hd
            simp only
            rcases Nat.lt_trichotomy q i with hqi | hqi | hqi
            · have e1 := sorted_get hok.sorted hx hu hqi
              have e2 := sorted_get h.sorted hy hv hqi
              omega
            · subst hqi
              rw [hx] at hu; cases hu
              rw [hy] at hv; cases hv
              omega
            · have e1 := sorted_get hok.sorted hu hx hqi
              have e2 := sorted_get h.sorted hv hy hqi
              omega
          · simp only at hc hd
            rw [List.getElem?_set_ne hij] at hc hd
            exact h3 s c d hc hd
        · intro s c d hc hd
          by_cases hij : j = s
          · subst hij
            simp only at hc hd
            rw [List.getElem?_set_self (List.getElem?_eq_some_iff.1 ha).1] at hc
            rw [List.getElem?_set_self (List.getElem?_eq_some_iff.1 hb).1] at hd
            cases hc; cases hd
            exact ⟨hab, (hok.nums x (List.mem_of_getElem? hx)).2, (h.nums y (List.mem_of_getElem? hy)).2⟩
          · simp only at hc hd
            rw [List.getElem?_set_ne hij] at hc hd
            exact h.over s c d hc hd

end Go.Proofs.Ytombofldebmaoaa
