/-
  The characters of a string in an encoding, as plain lists. No program in sight.
-/
import Derived.Test.YtaanihidheccfaaDoorPlainA
namespace Go.Proofs.YtaanihidheccfaaDoor
set_option linter.unusedVariables false

/-- The byte at a place, as a number. -/
def bN (l : List UInt8) (i : Nat) : Nat := (l.getD i 0).toNat
theorem bN_lt (l : List UInt8) (i : Nat) : bN l i < 256 := (l.getD i 0).toNat_lt

/-- The first character of a string, or row of broken bytes: how many bytes, and the code (-1: none). -/
def cutL (e : Int) (l : List UInt8) : Nat × Int :=
  if e = 0 then (1, if bN l 0 < 128 then (bN l 0 : Int) else -1)
  else if e = 1 then (1, (bN l 0 : Int))
  else oneN l.length (bN l 0) (bN l 1) (bN l 2) (bN l 3)

theorem oneN_bounds (n b0 b1 b2 b3 : Nat) (h : 1 ≤ n) : 1 ≤ (oneN n b0 b1 b2 b3).1 ∧ (oneN n b0 b1 b2 b3).1 ≤ n ∧ (oneN n b0 b1 b2 b3).1 ≤ 4 ∧ -1 ≤ (oneN n b0 b1 b2 b3).2 ∧ (oneN n b0 b1 b2 b3).2 ≤ 1114111 := by
  unfold oneN
  by_cases c0 : b0 < 128
  · rw [if_pos c0]; refine ⟨?_, ?_, ?_, ?_, ?_⟩ <;> simp <;> omega
  rw [if_neg c0]
  by_cases c1 : b0 < 192
  · rw [if_pos c1]; refine ⟨?_, ?_, ?_, ?_, ?_⟩ <;> simp <;> omega
  rw [if_neg c1]
  by_cases c2 : b0 < 224
  · rw [if_pos c2]
    split
    · refine ⟨?_, ?_, ?_, ?_, ?_⟩ <;> simp <;> omega
    split
    · refine ⟨?_, ?_, ?_, ?_, ?_⟩ <;> simp <;> omega
    · rename_i h2
      rw [beg_2b] at h2
      refine ⟨?_, ?_, ?_, ?_, ?_⟩ <;> simp <;> omega
  rw [if_neg c2]
  by_cases c3 : b0 < 240
  · rw [if_pos c3]
    split
    · refine ⟨?_, ?_, ?_, ?_, ?_⟩ <;> simp <;> omega
    split
    · refine ⟨?_, ?_, ?_, ?_, ?_⟩ <;> simp <;> omega
    split
    · refine ⟨?_, ?_, ?_, ?_, ?_⟩ <;> simp <;> omega
    · rename_i h2
      rw [beg_3c] at h2
      refine ⟨?_, ?_, ?_, ?_, ?_⟩ <;> simp <;> omega
  rw [if_neg c3]
  split
  · split
    · refine ⟨?_, ?_, ?_, ?_, ?_⟩ <;> simp <;> omega
    split
    · refine ⟨?_, ?_, ?_, ?_, ?_⟩ <;> simp <;> omega
    split
    · refine ⟨?_, ?_, ?_, ?_, ?_⟩ <;> simp <;> omega
    split
    · refine ⟨?_, ?_, ?_, ?_, ?_⟩ <;> simp <;> omega
    · rename_i h2
      rw [beg_4d] at h2
      refine ⟨?_, ?_, ?_, ?_, ?_⟩ <;> simp <;> omega
  · refine ⟨?_, ?_, ?_, ?_, ?_⟩ <;> simp <;> omega

theorem cutL_bounds (e : Int) (l : List UInt8) (h : l ≠ []) : 1 ≤ (cutL e l).1 ∧ (cutL e l).1 ≤ l.length ∧ (cutL e l).1 ≤ 4 ∧ -1 ≤ (cutL e l).2 ∧ (cutL e l).2 ≤ 1114111 := by
  have hl : 1 ≤ l.length := by cases l with | nil => exact absurd rfl h | cons a l => simp
  have hb := bN_lt l 0
  unfold cutL
  split
  · refine ⟨?_, ?_, ?_, ?_, ?_⟩ <;> simp <;> (try split) <;> omega
  · split
    · refine ⟨?_, ?_, ?_, ?_, ?_⟩ <;> simp <;> omega
    · exact oneN_bounds _ _ _ _ _ hl

def partsF (e : Int) : Nat → List UInt8 → List (List UInt8 × Int)
  | 0, _ => []
  | _ + 1, [] => []
  | k + 1, b :: l => ((b :: l).take (cutL e (b :: l)).1, (cutL e (b :: l)).2) :: partsF e k ((b :: l).drop (cutL e (b :: l)).1)

/-- The characters of a string, and its rows of broken bytes: the bytes, the code (-1: none). -/
def parts (e : Int) (l : List UInt8) : List (List UInt8 × Int) := partsF e l.length l

theorem partsF_cons (e : Int) (k : Nat) (l : List UInt8) (h : l ≠ []) : partsF e (k + 1) l = (l.take (cutL e l).1, (cutL e l).2) :: partsF e k (l.drop (cutL e l).1) := by
  cases l with
  | nil => exact absurd rfl h
  | cons a l => rfl
theorem partsF_nil (e : Int) (k : Nat) : partsF e k [] = [] := by cases k <;> rfl
theorem partsF_more (e : Int) : ∀ (k : Nat) (l : List UInt8) (m : Nat), l.length ≤ k → l.length ≤ m → partsF e k l = partsF e m l := by
  intro k
  induction k with
  | zero =>
    intro l m h _
    have : l = [] := List.eq_nil_of_length_eq_zero (by omega)
    subst this
    rw [partsF_nil, partsF_nil]
  | succ k ih =>
    intro l m hk hm
    by_cases hl : l = []
    · subst hl; rw [partsF_nil, partsF_nil]
    · have hb := cutL_bounds e l hl
      obtain ⟨m, rfl⟩ : ∃ m', m = m' + 1 := ⟨m - 1, by omega⟩
      rw [partsF_cons e k l hl, partsF_cons e m l hl]
      congr 1
      exact ih _ _ (by rw [List.length_drop]; omega) (by rw [List.length_drop]; omega)
theorem parts_nil (e : Int) : parts e [] = [] := rfl
theorem parts_cons (e : Int) (l : List UInt8) (h : l ≠ []) : parts e l = (l.take (cutL e l).1, (cutL e l).2) :: parts e (l.drop (cutL e l).1) := by
  have hb := cutL_bounds e l h
  unfold parts
  obtain ⟨k, hk⟩ : ∃ k, l.length = k + 1 := ⟨l.length - 1, by omega⟩
  rw [hk, partsF_cons e k l h]
  congr 1
  exact partsF_more _ _ _ _ (by rw [List.length_drop]; omega) (Nat.le_refl _)

/-- Induction along the characters. -/
theorem parts_ind (e : Int) {P : List UInt8 → Prop} (h0 : P []) (h1 : ∀ l, l ≠ [] → P (l.drop (cutL e l).1) → P l) (l : List UInt8) : P l := by
  obtain ⟨n, hn⟩ : ∃ n, l.length = n := ⟨_, rfl⟩
  induction n using Nat.strongRecOn generalizing l with
  | _ n ih =>
    by_cases hl : l = []
    · subst hl; exact h0
    · have hb := cutL_bounds e l hl
      exact h1 l hl (ih (l.drop (cutL e l).1).length (by rw [List.length_drop]; omega) _ rfl)

theorem parts_join (e : Int) (l : List UInt8) : ((parts e l).map (·.1)).flatten = l := by
  induction l using parts_ind e with
  | h0 => rfl
  | h1 l hl ih =>
    rw [parts_cons e l hl, List.map_cons, List.flatten_cons, ih, List.take_append_drop]
theorem parts_len (e : Int) (l : List UInt8) : (parts e l).length ≤ l.length := by
  induction l using parts_ind e with
  | h0 => simp [parts_nil]
  | h1 l hl ih =>
    have hb := cutL_bounds e l hl
    rw [parts_cons e l hl, List.length_cons]
    rw [List.length_drop] at ih
    omega
theorem parts_part (e : Int) (l : List UInt8) : ∀ p ∈ parts e l, p.1 ≠ [] ∧ p.1.length ≤ 4 ∧ p.1.length ≤ l.length ∧ -1 ≤ p.2 ∧ p.2 ≤ 1114111 := by
  induction l using parts_ind e with
  | h0 => simp [parts_nil]
  | h1 l hl ih =>
    have hb := cutL_bounds e l hl
    rw [parts_cons e l hl]
    intro p hp
    rw [List.mem_cons] at hp
    rcases hp with rfl | hp
    · refine ⟨?_, ?_, ?_, hb.2.2.2.1, hb.2.2.2.2⟩
      · intro h
        have := congrArg List.length h
        simp only [List.length_take, List.length_nil] at this
        omega
      · simp only [List.length_take]; omega
      · simp only [List.length_take]; omega
    · have := ih p hp
      rw [List.length_drop] at this
      exact ⟨this.1, this.2.1, by omega, this.2.2.2⟩

end Go.Proofs.YtaanihidheccfaaDoor
