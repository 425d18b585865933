/-
  What is read is written back; the library's word on validity is that of the characters. No program in sight.
-/
import Derived.Test.YtaanihidheccfaaDoorPlainD
import Derived.Lib.ValidU
import Derived.Lib.TrimUEq
namespace Go.Proofs.YtaanihidheccfaaDoor
set_option linter.unusedVariables false

theorem b8_of (x : UInt8) : b8 x.toNat = x := UInt8.ofNat_toNat
theorem take1 (l : List UInt8) (h : 1 ≤ l.length) : l.take 1 = [b8 (bN l 0)] := by
  match l, h with
  | a :: r, _ => show [a] = [b8 a.toNat]; rw [b8_of]
theorem take2 (l : List UInt8) (h : 2 ≤ l.length) : l.take 2 = [b8 (bN l 0), b8 (bN l 1)] := by
  match l, h with
  | a :: b :: r, _ => show [a, b] = [b8 a.toNat, b8 b.toNat]; rw [b8_of, b8_of]
theorem take3 (l : List UInt8) (h : 3 ≤ l.length) : l.take 3 = [b8 (bN l 0), b8 (bN l 1), b8 (bN l 2)] := by
  match l, h with
  | a :: b :: c :: r, _ => show [a, b, c] = [b8 a.toNat, b8 b.toNat, b8 c.toNat]; rw [b8_of, b8_of, b8_of]
theorem take4 (l : List UInt8) (h : 4 ≤ l.length) : l.take 4 = [b8 (bN l 0), b8 (bN l 1), b8 (bN l 2), b8 (bN l 3)] := by
  match l, h with
  | a :: b :: c :: d :: r, _ => show [a, b, c, d] = [b8 a.toNat, b8 b.toNat, b8 c.toNat, b8 d.toNat]; rw [b8_of, b8_of, b8_of, b8_of]

theorem cut_back_two (l : List UInt8) (h : l ≠ []) (hc : 0 ≤ (cutL 2 l).2) : has 2 (cutL 2 l).2 ∧ l.take (cutL 2 l).1 = enc 2 (cutL 2 l).2 := by
  have hl : 1 ≤ l.length := by cases l with | nil => exact absurd rfl h | cons a l => simp
  have e : cutL 2 l = oneN l.length (bN l 0) (bN l 1) (bN l 2) (bN l 3) := by unfold cutL; rw [if_neg (by decide), if_neg (by decide)]
  have t1 := take1 l
  have t2 := take2 l
  have t3 := take3 l
  have t4 := take4 l
  have h0 := bN_lt l 0
  have h1 := bN_lt l 1
  have h2 := bN_lt l 2
  have h3 := bN_lt l 3
  rw [e] at hc ⊢
  generalize bN l 0 = b0 at *
  generalize bN l 1 = b1 at *
  generalize bN l 2 = b2 at *
  generalize bN l 3 = b3 at *
  by_cases c1 : b0 < 128
  · have e2 : oneN l.length b0 b1 b2 b3 = (1, (b0 : Int)) := by unfold oneN; rw [if_pos c1]
    rw [e2]
    refine ⟨by rw [has_two]; simp only; omega, ?_⟩
    show l.take 1 = enc 2 (b0 : Int)
    rw [t1 hl]
    unfold enc
    rw [if_pos (.inr (by omega))]
    rfl
  by_cases c2 : b0 < 192
  · have e2 : oneN l.length b0 b1 b2 b3 = (1, -1) := by unfold oneN; rw [if_neg c1, if_pos c2]
    rw [e2] at hc
    simp at hc
  by_cases c3 : b0 < 224
  · rw [one_two _ _ _ _ _ (by omega) c3 h1] at hc ⊢
    split at hc
    · rename_i hh
      rw [if_pos hh]
      obtain ⟨g1, g2, g3⟩ := hh
      unfold Cont at g2
      refine ⟨by rw [has_two]; simp only; omega, ?_⟩
      show l.take 2 = enc 2 (((b0 - 192) * 64 + b1 - 128 : Nat) : Int)
      rw [t2 g1]
      unfold enc
      rw [if_neg (by omega), if_pos (by omega)]
      rw [show 192 + (((b0 - 192) * 64 + b1 - 128 : Nat) : Int).toNat / 64 = b0 by omega, show 128 + (((b0 - 192) * 64 + b1 - 128 : Nat) : Int).toNat % 64 = b1 by omega]
    · simp at hc
  by_cases c4 : b0 < 240
  · rw [one_three _ _ _ _ _ (by omega) c4 h1 h2] at hc ⊢
    by_cases hh : 1 < l.length ∧ Sec3 b0 b1
    · rw [if_pos hh] at hc ⊢
      by_cases hh2 : 2 < l.length ∧ Cont b2
      · rw [if_pos hh2]
        obtain ⟨g1, g2⟩ := hh
        obtain ⟨g3, g4⟩ := hh2
        rw [sec3 _ _ (by omega) c4] at g2
        unfold Cont at g2 g4
        refine ⟨by rw [has_two]; simp only; omega, ?_⟩
        show l.take 3 = enc 2 ((((b0 - 224) * 64 + b1 - 128) * 64 + b2 - 128 : Nat) : Int)
        rw [t3 g3]
        unfold enc
        rw [if_neg (by omega), if_neg (by omega), if_pos (by omega)]
        rw [show 224 + ((((b0 - 224) * 64 + b1 - 128) * 64 + b2 - 128 : Nat) : Int).toNat / 4096 = b0 by omega, show 128 + ((((b0 - 224) * 64 + b1 - 128) * 64 + b2 - 128 : Nat) : Int).toNat / 64 % 64 = b1 by omega, show 128 + ((((b0 - 224) * 64 + b1 - 128) * 64 + b2 - 128 : Nat) : Int).toNat % 64 = b2 by omega]
      · rw [if_neg hh2] at hc; simp at hc
    · rw [if_neg hh] at hc; simp at hc
  by_cases c5 : b0 < 248
  · rw [one_four _ _ _ _ _ (by omega) c5 h1 h2 h3] at hc ⊢
    by_cases hh : b0 < 245 ∧ 1 < l.length ∧ Sec3 b0 b1
    · rw [if_pos hh] at hc ⊢
      by_cases hh2 : 2 < l.length ∧ Cont b2
      · rw [if_pos hh2] at hc ⊢
        by_cases hh3 : 3 < l.length ∧ Cont b3
        · rw [if_pos hh3]
          obtain ⟨g0, g1, g2⟩ := hh
          obtain ⟨g3, g4⟩ := hh2
          obtain ⟨g5, g6⟩ := hh3
          rw [sec4 _ _ (by omega) g0] at g2
          unfold Cont at g2 g4 g6
          refine ⟨by rw [has_two]; simp only; omega, ?_⟩
          show l.take 4 = enc 2 (((((b0 - 240) * 64 + b1 - 128) * 64 + b2 - 128) * 64 + b3 - 128 : Nat) : Int)
          rw [t4 g5]
          unfold enc
          rw [if_neg (by omega), if_neg (by omega), if_neg (by omega)]
          rw [show 240 + (((((b0 - 240) * 64 + b1 - 128) * 64 + b2 - 128) * 64 + b3 - 128 : Nat) : Int).toNat / 262144 = b0 by omega, show 128 + (((((b0 - 240) * 64 + b1 - 128) * 64 + b2 - 128) * 64 + b3 - 128 : Nat) : Int).toNat / 4096 % 64 = b1 by omega, show 128 + (((((b0 - 240) * 64 + b1 - 128) * 64 + b2 - 128) * 64 + b3 - 128 : Nat) : Int).toNat / 64 % 64 = b2 by omega, show 128 + (((((b0 - 240) * 64 + b1 - 128) * 64 + b2 - 128) * 64 + b3 - 128 : Nat) : Int).toNat % 64 = b3 by omega]
        · rw [if_neg hh3] at hc; simp at hc
      · rw [if_neg hh2] at hc; simp at hc
    · rw [if_neg hh] at hc; simp at hc
  · have e2 : oneN l.length b0 b1 b2 b3 = (1, -1) := by unfold oneN; rw [if_neg c1, if_neg c2, if_neg c3, if_neg c4, if_neg c5]
    rw [e2] at hc
    simp at hc

theorem cut_back (e : Int) (he : e = 0 ∨ e = 1 ∨ e = 2) (l : List UInt8) (h : l ≠ []) (hc : 0 ≤ (cutL e l).2) : has e (cutL e l).2 ∧ l.take (cutL e l).1 = enc e (cutL e l).2 := by
  have hl : 1 ≤ l.length := by cases l with | nil => exact absurd rfl h | cons a l => simp
  have hb := bN_lt l 0
  rcases he with rfl | rfl | rfl
  · have e1 : cutL 0 l = (1, if bN l 0 < 128 then (bN l 0 : Int) else -1) := by unfold cutL; rw [if_pos rfl]
    rw [e1] at hc ⊢
    by_cases h1 : bN l 0 < 128
    · rw [if_pos h1]
      refine ⟨by rw [has_zero]; simp only; omega, ?_⟩
      show l.take 1 = enc 0 (bN l 0 : Int)
      rw [take1 l hl]
      unfold enc
      rw [if_pos (.inl (by decide))]
      rfl
    · rw [if_neg h1] at hc; simp at hc
  · have e1 : cutL 1 l = (1, (bN l 0 : Int)) := by unfold cutL; rw [if_neg (by decide), if_pos rfl]
    rw [e1]
    refine ⟨by rw [has_one]; simp only; omega, ?_⟩
    show l.take 1 = enc 1 (bN l 0 : Int)
    rw [take1 l hl]
    unfold enc
    rw [if_pos (.inl (by decide))]
    rfl
  · exact cut_back_two l h hc

/-- A character that has a code is what the code is written as. -/
theorem parts_back (e : Int) (he : e = 0 ∨ e = 1 ∨ e = 2) (l : List UInt8) : ∀ p ∈ parts e l, 0 ≤ p.2 → has e p.2 ∧ p.1 = enc e p.2 := by
  induction l using parts_ind e with
  | h0 => intro p hp; simp [parts_nil] at hp
  | h1 l hl ih =>
    rw [parts_cons e l hl]
    intro p hp hc
    rcases List.mem_cons.1 hp with rfl | hp
    · exact cut_back e he l hl hc
    · exact ih p hp hc

/-- Of of Codes is the string. -/
theorem codes_of {e : Int} (he : e = 0 ∨ e = 1 ∨ e = 2) {l : List UInt8} (h : ∀ p ∈ parts e l, 0 ≤ p.2) : (∀ c ∈ (parts e l).map (·.2), has e c) ∧ (((parts e l).map (·.2)).map (enc e)).flatten = l := by
  constructor
  · intro c hc
    obtain ⟨p, hp, rfl⟩ := List.mem_map.1 hc
    exact (parts_back e he l p hp (h p hp)).1
  · conv => rhs; rw [← parts_join e l]
    rw [List.map_map]
    congr 1
    apply List.map_congr_left
    intro p hp
    exact (parts_back e he l p hp (h p hp)).2.symm

theorem cut_decode (l : List UInt8) : cutL 2 l = cutN l.length (bN l 0) (bN l 1) (bN l 2) (bN l 3) := by
  rw [cut_one _ _ _ _ _ (bN_lt l 0) (bN_lt l 1) (bN_lt l 2) (bN_lt l 3)]
  unfold cutL
  rw [if_neg (by decide), if_neg (by decide)]

/-- utf8.ValidString is the characters' word. -/
theorem valid_go : ∀ (n : Nat) (l : List UInt8), l.length ≤ n → Lib.validGoD n l = decide (∀ p ∈ parts 2 l, 0 ≤ p.2)
  | 0, l, h => by
    have : l = [] := List.eq_nil_of_length_eq_zero (by omega)
    subst this
    simp [Lib.validGoD, parts_nil]
  | n + 1, l, h => by
    unfold Lib.validGoD
    by_cases hl : l = []
    · subst hl
      simp [parts_nil]
    · rw [if_neg hl]
      have hd := Lib.decodeL_N l
      have hw := Lib.decodeL_width l
      have hcb := cutL_bounds 2 l hl
      have hcd := cut_decode l
      unfold cutN at hcd
      rw [show Lib.decodeN l.length (bN l 0) (bN l 1) (bN l 2) (bN l 3) = Lib.decodeL l from hd.symm] at hcd
      rw [parts_cons 2 l hl]
      by_cases hb : (Lib.decodeL l).1 = 65533 ∧ (Lib.decodeL l).2 = 1
      · rw [if_pos hb]
        rw [if_pos ⟨hb.1, by omega⟩] at hcd
        symm
        rw [decide_eq_false_iff_not]
        intro hall
        have := hall _ (List.mem_cons_self ..)
        rw [hcd] at this
        simp at this
      · rw [if_neg hb]
        rw [if_neg (fun h => hb ⟨h.1, by omega⟩)] at hcd
        have e1 : (cutL 2 l).1 = (Lib.decodeL l).2 := by rw [hcd]
        have e2 : (cutL 2 l).2 = ((Lib.decodeL l).1 : Int) := by rw [hcd]
        rw [valid_go n _ (by rw [List.length_drop]; omega), ← e1]
        rw [decide_eq_decide]
        constructor
        · intro h p hp
          rcases List.mem_cons.1 hp with rfl | hp
          · rw [e2]; omega
          · exact h p hp
        · intro h p hp
          exact h p (List.mem_cons_of_mem _ hp)
theorem valid_parts (l : List UInt8) : Lib.validD l = decide (∀ p ∈ parts 2 l, 0 ≤ p.2) := valid_go _ _ (Nat.le_refl _)

end Go.Proofs.YtaanihidheccfaaDoor
