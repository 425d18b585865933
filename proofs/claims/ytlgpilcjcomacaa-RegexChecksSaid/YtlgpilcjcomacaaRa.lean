/-
  Plain: the document's parser has no look behind a repeat, and reads at most four digits: it reads the same.
-/
import Derived.Test.YtlgpilcjcomacaaPa
namespace Go.Proofs.Ytlgpilcjcomacaa.Rx
set_option linter.unusedVariables false

theorem pk_some {s : List UInt8} {i : Nat} (h : pk s i ≠ 0) : i < s.length := by
  unfold pk byteAt at h
  by_cases hi : i < s.length
  · exact hi
  · rw [List.getElem?_eq_none (by omega)] at h
    exact absurd rfl h

theorem tk_one (s : List UInt8) (i : Nat) (c : UInt8) (hi : i < s.length) : tk s i [c] = decide (pk s i = c.toNat) := by
  unfold tk pk byteAt
  rw [List.getElem?_eq_getElem hi, List.drop_eq_getElem_cons hi]
  show (c == s[i] && true) = decide (s[i].toNat = c.toNat)
  rw [Bool.and_true, Bool.eq_iff_iff]
  simp only [beq_iff_eq, decide_eq_true_eq]
  exact ⟨fun h => by rw [h], fun h => (UInt8.toNat_inj.1 h).symm⟩

/-- A piece, with no look at what is behind it. -/
def pieceR (W : PS → Option (Re × PS)) (s : List UInt8) (st : PS) : Option (Re × PS) :=
  match atomP W s st with
  | none => none
  | some (a, st1) => repP s a st1

theorem again_mem {c : Nat} (h : again.contains c = true) : c = 42 ∨ c = 43 ∨ c = 63 ∨ c = 123 := by
  simpa [again] using h

theorem atom_stuck (W : PS → Option (Re × PS)) (s : List UInt8) (st : PS) (h : again.contains (pk s st.pos) = true) : atomP W s st = none := by
  unfold atomP
  generalize pk s st.pos = c at h
  rcases again_mem h with rfl | rfl | rfl | rfl <;> rfl

theorem loop_stuck (W : PS → Option (Re × PS)) (s : List UInt8) (f : Nat) (st : PS) (rows : List (List Re)) (cur : List Re) (h : again.contains (pk s st.pos) = true) : loopP (pieceR W s) s f st rows cur = none := by
  cases f with
  | zero => rfl
  | succ f =>
    have hlt : st.pos < s.length := pk_some (by rcases again_mem h with e | e | e | e <;> rw [e] <;> decide)
    have hp : pieceR W s st = none := by unfold pieceR; rw [atom_stuck W s st h]
    have h1 : ¬ pk s st.pos = 41 := by rcases again_mem h with e | e | e | e <;> rw [e] <;> decide
    have h2 : ¬ tk s st.pos [124] = true := by
      rw [tk_one _ _ _ hlt]
      rcases again_mem h with e | e | e | e <;> rw [e] <;> decide
    unfold loopP
    rw [if_pos ⟨hlt, h1⟩, if_neg h2, hp]

theorem loop_same (W : PS → Option (Re × PS)) (s : List UInt8) : ∀ (f : Nat) (st : PS) (rows : List (List Re)) (cur : List Re), loopP (pieceP W s) s f st rows cur = loopP (pieceR W s) s f st rows cur := by
  intro f
  induction f with
  | zero => intros; rfl
  | succ f ih =>
    intro st rows cur
    unfold loopP
    by_cases h0 : st.pos < s.length ∧ pk s st.pos ≠ 41
    · rw [if_pos h0, if_pos h0]
      by_cases h1 : tk s st.pos [124] = true
      · rw [if_pos h1, if_pos h1, ih]
      · rw [if_neg h1, if_neg h1]
        unfold pieceP pieceR repP
        cases ha : atomP W s st with
        | none => rfl
        | some x =>
          obtain ⟨a, st1⟩ := x
          cases ht : timesP s st1.pos with
          | none => simp only [ht]
          | some y =>
            obtain ⟨o, j⟩ := y
            cases o with
            | none => simp only [ht]; exact ih _ _ _
            | some z =>
              obtain ⟨lo, hi⟩ := z
              simp only [ht]
              by_cases h2 : isAsr a = true
              · rw [if_pos h2, if_pos h2]
              · rw [if_neg h2, if_neg h2]
                by_cases h3 : again.contains (pk s (howP s a lo hi { st1 with pos := j }).2.pos) = true
                · rw [if_pos h3]
                  have h4 := loop_stuck W s f (howP s a lo hi { st1 with pos := j }).2 rows (cur ++ [(howP s a lo hi { st1 with pos := j }).1]) h3
                  exact h4.symm
                · rw [if_neg h3]
                  exact ih _ _ _
    · rw [if_neg h0, if_neg h0]

/-- Alternatives as the document reads them. -/
theorem waysR_succ (s : List UInt8) (d : Nat) (st : PS) : waysP s (d + 1) st = waysEnd (loopP (pieceR (waysP s d) s) s (s.length + 1 - st.pos) st [] []) := by
  rw [← loop_same]
  rfl

/-- At most so many digits. -/
def digs4 (s : List UInt8) : Nat → Nat → Nat → Nat × Nat
  | 0, i, n => (n, i)
  | f + 1, i, n => if isDig (pk s i) = true then digs4 s f (i + 1) (n * 10 + (pk s i - 48)) else (n, i)
def cntOk (s : List UInt8) (i : Nat) (r : Nat × Nat) : Bool := decide (i < r.2) && (decide (r.1 ≤ 100) && (!decide (pk s i = 48) || decide (r.2 = i + 1)))

theorem digs_le (s : List UInt8) : ∀ f i n, i ≤ (digs s f i n).2
  | 0, i, n => Nat.le_refl _
  | f + 1, i, n => by
    unfold digs
    split
    · exact Nat.le_trans (Nat.le_succ i) (digs_le s f (i + 1) _)
    · exact Nat.le_refl _
theorem digs_cap (s : List UInt8) : ∀ f i, (digs s f i 101).1 = 101
  | 0, i => rfl
  | f + 1, i => by
    unfold digs
    split
    · rw [show min (101 * 10 + (pk s i - 48)) 101 = 101 by omega]
      exact digs_cap s f (i + 1)
    · rfl

theorem isDig_lt {s : List UInt8} {i : Nat} (h : isDig (pk s i) = true) : i < s.length ∧ 48 ≤ pk s i ∧ pk s i ≤ 57 := by
  have h1 : 48 ≤ pk s i ∧ pk s i ≤ 57 := by simpa [isDig] using h
  exact ⟨pk_some (by omega), h1⟩

theorem digs_on {s : List UInt8} {f i n : Nat} (h : isDig (pk s i) = true) : digs s (f + 1) i n = digs s f (i + 1) (min (n * 10 + (pk s i - 48)) 101) := if_pos h
theorem digs_off {s : List UInt8} {f i n : Nat} (h : ¬ isDig (pk s i) = true) : digs s f i n = (n, i) := by
  cases f with
  | zero => rfl
  | succ f => exact if_neg h
theorem digs4_on {s : List UInt8} {f i n : Nat} (h : isDig (pk s i) = true) : digs4 s (f + 1) i n = digs4 s f (i + 1) (n * 10 + (pk s i - 48)) := if_pos h
theorem digs4_off {s : List UInt8} {f i n : Nat} (h : ¬ isDig (pk s i) = true) : digs4 s f i n = (n, i) := by
  cases f with
  | zero => rfl
  | succ f => exact if_neg h

/-- The two ways to count agree. -/
theorem num_agree (s : List UInt8) (i a b c d : Nat) (h : (a = c ∧ b = d ∧ i ≤ b) ∨ (100 < a ∧ 100 < c) ∨ (pk s i = 48 ∧ i + 1 < b ∧ i + 1 < d)) : numOk s i (a, b) = if cntOk s i (c, d) = true then some (c, d) else none := by
  unfold numOk cntOk
  rcases h with ⟨rfl, rfl, hib⟩ | ⟨h1, h2⟩ | ⟨h1, h2, h3⟩
  · by_cases hb : b = i ∨ 100 < a ∨ pk s i = 48 ∧ i + 1 < b
    · rw [if_pos hb, if_neg]
      simp
      intro h4 h5
      rcases hb with e | e | ⟨e1, e2⟩
      · omega
      · omega
      · exact ⟨e1, by omega⟩
    · rw [if_neg hb, if_pos]
      simp
      refine ⟨by omega, by omega, ?_⟩
      by_cases e : pk s i = 48
      · right; omega
      · left; exact e
  · rw [if_pos (.inr (.inl h1)), if_neg]
    simp
    intros; omega
  · rw [if_pos (.inr (.inr ⟨h1, h2⟩)), if_neg]
    simp
    intro _ _
    exact ⟨h1, by omega⟩

theorem num_four (s : List UInt8) (i : Nat) : numP s i = if cntOk s i (digs4 s 4 i 0) = true then some (digs4 s 4 i 0) else none := by
  unfold numP
  by_cases d0 : isDig (pk s i) = true
  · obtain ⟨l0, a0, b0⟩ := isDig_lt d0
    obtain ⟨f0, e0⟩ : ∃ f, s.length + 1 - i = f + 1 := ⟨s.length - i, by omega⟩
    rw [e0, digs_on d0, digs4_on d0]
    by_cases d1 : isDig (pk s (i + 1)) = true
    · obtain ⟨l1, a1, b1⟩ := isDig_lt d1
      obtain ⟨f1, rfl⟩ : ∃ f, f0 = f + 1 := ⟨f0 - 1, by omega⟩
      rw [digs_on d1, digs4_on d1]
      by_cases d2 : isDig (pk s (i + 1 + 1)) = true
      · obtain ⟨l2, a2, b2⟩ := isDig_lt d2
        obtain ⟨f2, rfl⟩ : ∃ f, f1 = f + 1 := ⟨f1 - 1, by omega⟩
        rw [digs_on d2, digs4_on d2]
        by_cases d3 : isDig (pk s (i + 1 + 1 + 1)) = true
        · obtain ⟨l3, a3, b3⟩ := isDig_lt d3
          obtain ⟨f3, rfl⟩ : ∃ f, f2 = f + 1 := ⟨f2 - 1, by omega⟩
          rw [digs_on d3, digs4_on d3]
          by_cases z : pk s i = 48
          · have h1 := digs_le s f3 (i + 1 + 1 + 1 + 1) (min ((min ((min ((min (0 * 10 + (pk s i - 48)) 101) * 10 + (pk s (i + 1) - 48)) 101) * 10 + (pk s (i + 1 + 1) - 48)) 101) * 10 + (pk s (i + 1 + 1 + 1) - 48)) 101)
            exact num_agree s i _ _ _ _ (.inr (.inr ⟨z, by omega, by omega⟩))
          · have e : min ((min ((min ((min (0 * 10 + (pk s i - 48)) 101) * 10 + (pk s (i + 1) - 48)) 101) * 10 + (pk s (i + 1 + 1) - 48)) 101) * 10 + (pk s (i + 1 + 1 + 1) - 48)) 101 = 101 := by omega
            rw [e]
            have h1 := digs_cap s f3 (i + 1 + 1 + 1 + 1)
            exact num_agree s i _ _ _ _ (.inr (.inl ⟨by omega, by omega⟩))
        · rw [digs_off d3, digs4_off d3]
          by_cases z : pk s i = 48
          · exact num_agree s i _ _ _ _ (.inr (.inr ⟨z, by omega, by omega⟩))
          · by_cases q : ((0 * 10 + (pk s i - 48)) * 10 + (pk s (i + 1) - 48)) * 10 + (pk s (i + 1 + 1) - 48) ≤ 100
            · exact num_agree s i _ _ _ _ (.inl ⟨by omega, rfl, by omega⟩)
            · exact num_agree s i _ _ _ _ (.inr (.inl ⟨by omega, by omega⟩))
      · rw [digs_off d2, digs4_off d2]
        exact num_agree s i _ _ _ _ (.inl ⟨by omega, rfl, by omega⟩)
    · rw [digs_off d1, digs4_off d1]
      exact num_agree s i _ _ _ _ (.inl ⟨by omega, rfl, by omega⟩)
  · rw [digs_off d0, digs4_off d0]
    exact num_agree s i _ _ _ _ (.inl ⟨rfl, rfl, Nat.le_refl _⟩)
end Go.Proofs.Ytlgpilcjcomacaa.Rx
