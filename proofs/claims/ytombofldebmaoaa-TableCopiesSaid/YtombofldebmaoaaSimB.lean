/-
  The two tables side by side: what each step keeps. No program in sight.
-/
import Derived.Test.YtombofldebmaoaaSimA
namespace Go.Proofs.Ytombofldebmaoaa
open Go.RowKit
set_option linter.unusedVariables false

/-- A number and a when stand alike before every walk. -/
def pos (ks ls : List W2) (n m : Int) : Prop := ∀ (i : Nat) (a b : W2), ks[i]? = some a → ls[i]? = some b → (a.1 < n ↔ b.1 < m)

structure Sim (T R : PT) : Prop where
  rows : RS (pos T.walks R.walks) T.rows R.rows
  strict : T.strict = R.strict
  frozen : T.frozen = R.frozen
  len : T.walks.length = R.walks.length
  over : ∀ (i : Nat) (a b : W2), T.walks[i]? = some a → R.walks[i]? = some b → a.2 = b.2 ∧ a.1 < T.next ∧ b.1 ≤ R.next
  sorted : R.rows.Pairwise (fun a b => a.2.2 < b.2.2)
  nums : ∀ r ∈ R.rows, 1 ≤ r.2.2 ∧ r.2.2 ≤ R.next

theorem Sim.new : Sim PT.new PT.new := ⟨.nil, rfl, rfl, rfl, by simp [PT.new], by simp [PT.new], by simp [PT.new]⟩

theorem opens_alike : ∀ {ks ls : List W2}, ks.length = ls.length → (∀ (i : Nat) (a b : W2), ks[i]? = some a → ls[i]? = some b → a.2 = b.2) → opens ks = opens ls := by
  intro ks
  induction ks with
  | nil => intro ls h _; cases ls with | nil => rfl | cons x ls => simp at h
  | cons x ks ih =>
    intro ls h hv
    cases ls with
    | nil => simp at h
    | cons y ls =>
      have h0 := hv 0 x y rfl rfl
      have := ih (ls := ls) (by simpa using h) (fun i a b ha hb => hv (i + 1) a b (by simpa using ha) (by simpa using hb))
      simp only [opens, List.filter_cons] at this ⊢
      rw [h0]
      split <;> simp_all

theorem Sim.opens {T R : PT} (h : Sim T R) : Ytombofldebmaoaa.opens T.walks = Ytombofldebmaoaa.opens R.walks := opens_alike h.len (fun i a b ha hb => (h.over i a b ha hb).1)

theorem Sim.under {T R : PT} (h : Sim T R) (i : Int) : underB T.walks i = underB R.walks i := by
  unfold underB
  split
  · rfl
  · cases ha : T.walks[i.toNat]? with
    | none =>
      have : R.walks[i.toNat]? = none := by
        rw [List.getElem?_eq_none_iff] at ha ⊢
        rw [← h.len]; exact ha
      rw [this]
    | some a =>
      have hl := (List.getElem?_eq_some_iff.1 ha).1
      have hl2 : i.toNat < R.walks.length := by rw [← h.len]; exact hl
      have hb : R.walks[i.toNat]? = some R.walks[i.toNat] := by simp [hl2]
      rw [hb]
      simp only
      rw [(h.over _ _ _ ha hb).1]

theorem Sim.put {T R : PT} (h : Sim T R) (hok : T.ok) (k v : Int) : (T.put k v).2 = (R.putR k v).2 ∧ Sim (T.put k v).1 (R.putR k v).1 := by
  have hl := h.rows.length
  have hfew := hok.few
  unfold PT.put PT.putR
  rw [h.frozen, h.rows.find, h.strict, h.opens]
  cases hfr : R.frozen with
  | true => exact ⟨rfl, h⟩
  | false =>
    simp only [Bool.false_eq_true, if_false]
    cases hf : R.rows.findIdx? (fun r => r.1 == k) with
    | some i =>
      refine ⟨rfl, h.rows.set v i, rfl, rfl, h.len, h.over, setVal_pair (fun a b => a.2 < b.2) h.sorted, ?_⟩
      intro q hq
      obtain ⟨r, hr, _, e⟩ := setVal_mem hq
      rw [← e]; exact h.nums r hr
    | none =>
      simp only
      cases hst : (R.strict && decide (0 < Ytombofldebmaoaa.opens R.walks)) with
      | true => exact ⟨rfl, h⟩
      | false =>
        simp only [Bool.false_eq_true, if_false]
        by_cases h5 : T.rows.length = 500
        · rw [if_pos h5, if_pos (by omega)]
          exact ⟨rfl, h⟩
        · rw [if_neg h5, if_neg (by omega)]
          refine ⟨rfl, ?_, h.strict, h.frozen, h.len, ?_, ?_, ?_⟩
          · refine h.rows.snoc rfl rfl ?_
            intro i a b ha hb
            have := h.over i a b ha hb
            show a.1 < (T.next : Int) ↔ b.1 < ((R.next + 1 : Nat) : Int)
            constructor
            · intro _; omega
            · intro _; omega
          · intro i a b ha hb
            have := h.over i a b ha hb
            simp only [PT.add, PT.addR]
            refine ⟨this.1, by omega, by omega⟩
          · simp only [PT.addR, List.pairwise_append, List.mem_singleton]
            refine ⟨h.sorted, by simp, ?_⟩
            rintro a ha _ rfl
            have := h.nums a ha
            simp only; omega
          · intro r hr
            simp only [PT.addR, List.mem_append, List.mem_singleton] at hr ⊢
            rcases hr with hr | rfl
            · have := h.nums r hr; omega
            · simp only; omega

theorem Sim.drop {T R : PT} (h : Sim T R) (i : Nat) : Sim (T.drop i) (R.drop i) :=
  ⟨h.rows.erase i, h.strict, h.frozen, h.len, h.over, h.sorted.sublist (List.eraseIdx_sublist _ _), fun r hr => h.nums r ((List.eraseIdx_sublist _ _).mem hr)⟩

theorem Sim.del {T R : PT} (h : Sim T R) (k : Int) : (T.del k).2 = (R.del k).2 ∧ Sim (T.del k).1 (R.del k).1 := by
  unfold PT.del
  rw [h.frozen, h.rows.find]
  cases hfr : R.frozen with
  | true => exact ⟨rfl, h⟩
  | false =>
    simp only [Bool.false_eq_true, if_false]
    cases hf : R.rows.findIdx? (fun r => r.1 == k) with
    | none => exact ⟨rfl, h⟩
    | some i =>
      simp only
      cases ha : T.rows[i]? with
      | none => rw [h.rows.none ha]; exact ⟨rfl, h⟩
      | some a =>
        obtain ⟨b, hb, _, hv, _⟩ := h.rows.get ha
        rw [hb]
        exact ⟨by simp only [hv], h.drop i⟩

theorem Sim.shift {T R : PT} (h : Sim T R) : T.shift.2 = R.shift.2 ∧ Sim T.shift.1 R.shift.1 := by
  unfold PT.shift
  rw [h.frozen]
  cases hfr : R.frozen with
  | true => exact ⟨rfl, h⟩
  | false =>
    simp only [Bool.false_eq_true, if_false]
    cases ha : T.rows[0]? with
    | none => rw [h.rows.none ha]; exact ⟨rfl, h⟩
    | some a =>
      obtain ⟨b, hb, hk, hv, _⟩ := h.rows.get ha
      rw [hb]
      exact ⟨by simp only [hk, hv], h.drop 0⟩

end Go.Proofs.Ytombofldebmaoaa
