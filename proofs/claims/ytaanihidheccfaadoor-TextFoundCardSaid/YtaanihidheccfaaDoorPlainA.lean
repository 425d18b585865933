/-
  One character of utf-8, or a row of broken bytes: the program's way and the document's way give the same. No program in sight.
-/
import Derived.Lib.DecodeN
namespace Go.Proofs.YtaanihidheccfaaDoor
set_option linter.unusedVariables false

/-- Some character of long bytes begins with n bytes that have these bits; p is 64 to the power of what is left. -/
def Beg (bits p least : Nat) : Prop := max (bits * p) least ≤ min (bits * p + (p - 1)) 1114111 ∧ ¬ (55296 ≤ max (bits * p) least ∧ min (bits * p + (p - 1)) 1114111 ≤ 57343)
instance (a b c : Nat) : Decidable (Beg a b c) := by unfold Beg; infer_instance

/-- A byte that goes on. -/
def Cont (b : Nat) : Prop := 128 ≤ b ∧ b < 192
instance (b : Nat) : Decidable (Cont b) := by unfold Cont; infer_instance

/-- One of the document: how many bytes, and the code (-1: broken). n bytes are there, the first four of them b0 to b3. -/
def oneN (n b0 b1 b2 b3 : Nat) : Nat × Int :=
  if b0 < 128 then (1, (b0 : Int))
  else if b0 < 192 then (1, -1)
  else if b0 < 224 then
    (if ¬ Beg (b0 - 192) 64 128 then (1, -1)
     else if ¬ (1 < n ∧ Cont b1 ∧ Beg ((b0 - 192) * 64 + b1 - 128) 1 128) then (1, -1)
     else (2, (((b0 - 192) * 64 + b1 - 128 : Nat) : Int)))
  else if b0 < 240 then
    (if ¬ Beg (b0 - 224) 4096 2048 then (1, -1)
     else if ¬ (1 < n ∧ Cont b1 ∧ Beg ((b0 - 224) * 64 + b1 - 128) 64 2048) then (1, -1)
     else if ¬ (2 < n ∧ Cont b2 ∧ Beg (((b0 - 224) * 64 + b1 - 128) * 64 + b2 - 128) 1 2048) then (2, -1)
     else (3, ((((b0 - 224) * 64 + b1 - 128) * 64 + b2 - 128 : Nat) : Int)))
  else if b0 < 248 then
    (if ¬ Beg (b0 - 240) 262144 65536 then (1, -1)
     else if ¬ (1 < n ∧ Cont b1 ∧ Beg ((b0 - 240) * 64 + b1 - 128) 4096 65536) then (1, -1)
     else if ¬ (2 < n ∧ Cont b2 ∧ Beg (((b0 - 240) * 64 + b1 - 128) * 64 + b2 - 128) 64 65536) then (2, -1)
     else if ¬ (3 < n ∧ Cont b3 ∧ Beg ((((b0 - 240) * 64 + b1 - 128) * 64 + b2 - 128) * 64 + b3 - 128) 1 65536) then (3, -1)
     else (4, (((((b0 - 240) * 64 + b1 - 128) * 64 + b2 - 128) * 64 + b3 - 128 : Nat) : Int)))
  else (1, -1)

def lowB (c : Nat) : Nat := if c = 224 then 160 else if c = 240 then 144 else 128
def highB (c : Nat) : Nat := if c = 237 then 159 else if c = 244 then 143 else 191
/-- How many bytes may follow at most. -/
def restB (c : Nat) : Nat := if 194 ≤ c ∧ c ≤ 223 then 1 else if 224 ≤ c ∧ c ≤ 239 then 2 else if 240 ≤ c ∧ c ≤ 244 then 3 else 0

/-- broken of the program. -/
def brokenN (n b0 b1 b2 b3 : Nat) : Nat :=
  if ¬ (0 < restB b0 ∧ 1 < n ∧ lowB b0 ≤ b1 ∧ b1 ≤ highB b0) then 1
  else if ¬ (1 < restB b0 ∧ 2 < n ∧ 128 ≤ b2 ∧ b2 ≤ 191) then 2
  else if ¬ (2 < restB b0 ∧ 3 < n ∧ 128 ≤ b3 ∧ b3 ≤ 191) then 3
  else 4

/-- The cut of the program's encoding utf-8. -/
def cutN (n b0 b1 b2 b3 : Nat) : Nat × Int :=
  if (Lib.decodeN n b0 b1 b2 b3).1 = 65533 ∧ (Lib.decodeN n b0 b1 b2 b3).2 ≤ 1 then (brokenN n b0 b1 b2 b3, -1)
  else ((Lib.decodeN n b0 b1 b2 b3).2, ((Lib.decodeN n b0 b1 b2 b3).1 : Int))

/-! ### Beg at the places where it is asked -/

theorem beg_2a (a : Nat) : Beg a 64 128 ↔ 2 ≤ a ∧ a ≤ 17407 ∧ ¬ (864 ≤ a ∧ a ≤ 895) := by unfold Beg; omega
theorem beg_2b (a : Nat) : Beg a 1 128 ↔ 128 ≤ a ∧ a ≤ 1114111 ∧ ¬ (55296 ≤ a ∧ a ≤ 57343) := by unfold Beg; omega
theorem beg_3a (a : Nat) : Beg a 4096 2048 ↔ a ≤ 271 := by unfold Beg; omega
theorem beg_3b (a : Nat) : Beg a 64 2048 ↔ 32 ≤ a ∧ a ≤ 17407 ∧ ¬ (864 ≤ a ∧ a ≤ 895) := by unfold Beg; omega
theorem beg_3c (a : Nat) : Beg a 1 2048 ↔ 2048 ≤ a ∧ a ≤ 1114111 ∧ ¬ (55296 ≤ a ∧ a ≤ 57343) := by unfold Beg; omega
theorem beg_4a (a : Nat) : Beg a 262144 65536 ↔ a ≤ 4 := by unfold Beg; omega
theorem beg_4b (a : Nat) : Beg a 4096 65536 ↔ 16 ≤ a ∧ a ≤ 271 := by unfold Beg; omega
theorem beg_4c (a : Nat) : Beg a 64 65536 ↔ 1024 ≤ a ∧ a ≤ 17407 := by unfold Beg; omega
theorem beg_4d (a : Nat) : Beg a 1 65536 ↔ 65536 ≤ a ∧ a ≤ 1114111 := by unfold Beg; omega

theorem pair_eq {a b : Nat} {c d : Int} (h1 : a = b) (h2 : c = d) : (a, c) = (b, d) := by rw [h1, h2]
theorem pair_eqN {a b c d : Nat} (h1 : a = b) (h2 : c = d) : (a, c) = (b, d) := by rw [h1, h2]

/-! ### two bytes -/




/-! ### two bytes -/

theorem decode_two (n b0 b1 b2 b3 : Nat) (h0 : 192 ≤ b0) (h1 : b0 < 224) (hb1 : b1 < 256) : Lib.decodeN n b0 b1 b2 b3 = if 1 < n ∧ Cont b1 ∧ 194 ≤ b0 then ((b0 - 192) * 64 + b1 - 128, 2) else (65533, 1) := by
  unfold Lib.decodeN Cont
  have n3 : ¬ (b0 / 16 = 14 ∧ (1 < n ∧ b1 / 64 = 2) ∧ (2 < n ∧ b2 / 64 = 2)) := by omega
  have n4 : ¬ (b0 / 8 = 30 ∧ (1 < n ∧ b1 / 64 = 2) ∧ (2 < n ∧ b2 / 64 = 2) ∧ (3 < n ∧ b3 / 64 = 2)) := by omega
  rw [if_neg (by omega : ¬ b0 < 128), if_neg n3, if_neg n4]
  by_cases hc : 1 < n ∧ b1 / 64 = 2
  · rw [if_pos ⟨by omega, hc⟩]
    by_cases h2 : 194 ≤ b0
    · rw [if_pos (by omega), if_pos ⟨hc.1, by omega, h2⟩]
      exact pair_eqN (by omega) rfl
    · rw [if_neg (by omega), if_neg (fun h => h2 h.2.2)]
  · rw [if_neg (fun h => hc h.2), if_neg (fun h => hc ⟨h.1, by have := h.2.1; omega⟩)]

theorem one_two (n b0 b1 b2 b3 : Nat) (h0 : 192 ≤ b0) (h1 : b0 < 224) (hb1 : b1 < 256) : oneN n b0 b1 b2 b3 = if 1 < n ∧ Cont b1 ∧ 194 ≤ b0 then (2, (((b0 - 192) * 64 + b1 - 128 : Nat) : Int)) else (1, -1) := by
  unfold oneN
  rw [if_neg (by omega : ¬ b0 < 128), if_neg (by omega : ¬ b0 < 192), if_pos h1]
  by_cases h2 : 194 ≤ b0
  · rw [if_neg (by rw [beg_2a]; omega)]
    by_cases h3 : 1 < n ∧ Cont b1
    · have h4 := h3.2
      unfold Cont at h4
      rw [if_neg (fun h => h ⟨h3.1, h3.2, by rw [beg_2b]; omega⟩), if_pos ⟨h3.1, h3.2, h2⟩]
    · rw [if_pos (fun h => h3 ⟨h.1, h.2.1⟩), if_neg (fun h => h3 ⟨h.1, h.2.1⟩)]
  · rw [if_pos (by rw [beg_2a]; omega), if_neg (fun h => h2 h.2.2)]

theorem broken_two (n b0 b1 b2 b3 : Nat) (h0 : 192 ≤ b0) (h1 : b0 < 224) (h : ¬ (1 < n ∧ Cont b1 ∧ 194 ≤ b0)) : brokenN n b0 b1 b2 b3 = 1 := by
  unfold brokenN
  rw [if_pos]
  rintro ⟨hr, hn, hl, hh⟩
  unfold restB at hr
  have e1 : lowB b0 = 128 := by unfold lowB; rw [if_neg (by omega), if_neg (by omega)]
  have e2 : highB b0 = 191 := by unfold highB; rw [if_neg (by omega), if_neg (by omega)]
  rw [e1] at hl
  rw [e2] at hh
  by_cases h2 : 194 ≤ b0
  · exact h ⟨hn, ⟨hl, by omega⟩, h2⟩
  · rw [if_neg (by omega), if_neg (by omega), if_neg (by omega)] at hr
    omega

theorem cut_two (n b0 b1 b2 b3 : Nat) (h0 : 192 ≤ b0) (h1 : b0 < 224) (hb1 : b1 < 256) : cutN n b0 b1 b2 b3 = oneN n b0 b1 b2 b3 := by
  unfold cutN
  rw [decode_two n b0 b1 b2 b3 h0 h1 hb1, one_two n b0 b1 b2 b3 h0 h1 hb1]
  by_cases h2 : 1 < n ∧ Cont b1 ∧ 194 ≤ b0
  · rw [if_pos h2, if_pos h2, if_neg (fun h => by have := h.2; simp at this)]
  · rw [if_neg h2, if_neg h2, if_pos ⟨rfl, Nat.le_refl _⟩, broken_two n b0 b1 b2 b3 h0 h1 h2]

/-! ### three bytes -/

/-- The second byte of three fits. -/
def Sec3 (b0 b1 : Nat) : Prop := lowB b0 ≤ b1 ∧ b1 ≤ highB b0
instance (a b : Nat) : Decidable (Sec3 a b) := by unfold Sec3; infer_instance

theorem sec3 (b0 b1 : Nat) (h0 : 224 ≤ b0) (h1 : b0 < 240) : Sec3 b0 b1 ↔ Cont b1 ∧ (b0 = 224 → 160 ≤ b1) ∧ (b0 = 237 → b1 ≤ 159) := by
  unfold Sec3 lowB highB Cont
  have e1 : ¬ b0 = 240 := by omega
  have e2 : ¬ b0 = 244 := by omega
  rw [if_neg e1, if_neg e2]
  by_cases a : b0 = 224
  · rw [if_pos a, if_neg (by omega)]; omega
  · by_cases b : b0 = 237
    · rw [if_neg a, if_pos b]; omega
    · rw [if_neg a, if_neg b]; omega

theorem decode_three (n b0 b1 b2 b3 : Nat) (h0 : 224 ≤ b0) (h1 : b0 < 240) (hb1 : b1 < 256) (hb2 : b2 < 256) : Lib.decodeN n b0 b1 b2 b3 = if 1 < n ∧ Sec3 b0 b1 ∧ 2 < n ∧ Cont b2 then (((b0 - 224) * 64 + b1 - 128) * 64 + b2 - 128, 3) else (65533, 1) := by
  have hs := sec3 b0 b1 h0 h1
  unfold Cont at hs
  unfold Lib.decodeN Cont
  have n2 : ¬ (b0 / 32 = 6 ∧ (1 < n ∧ b1 / 64 = 2)) := by omega
  have n4 : ¬ (b0 / 8 = 30 ∧ (1 < n ∧ b1 / 64 = 2) ∧ (2 < n ∧ b2 / 64 = 2) ∧ (3 < n ∧ b3 / 64 = 2)) := by omega
  rw [if_neg (by omega : ¬ b0 < 128), if_neg n2, if_neg n4]
  by_cases hc : (1 < n ∧ b1 / 64 = 2) ∧ (2 < n ∧ b2 / 64 = 2)
  · rw [if_pos ⟨by omega, hc⟩]
    by_cases h2 : Sec3 b0 b1
    · have h3 := hs.1 h2
      rw [if_pos (by omega), if_pos ⟨hc.1.1, h2, hc.2.1, by omega⟩]
      exact pair_eqN (by omega) rfl
    · rw [if_neg (fun h => h2 (hs.2 (by omega))), if_neg (fun h => h2 h.2.1)]
  · rw [if_neg (fun h => hc h.2), if_neg (fun h => hc (by have := hs.1 h.2.1; exact ⟨⟨h.1, by omega⟩, h.2.2.1, by omega⟩))]

theorem one_three (n b0 b1 b2 b3 : Nat) (h0 : 224 ≤ b0) (h1 : b0 < 240) (hb1 : b1 < 256) (hb2 : b2 < 256) : oneN n b0 b1 b2 b3 = if 1 < n ∧ Sec3 b0 b1 then (if 2 < n ∧ Cont b2 then (3, ((((b0 - 224) * 64 + b1 - 128) * 64 + b2 - 128 : Nat) : Int)) else (2, -1)) else (1, -1) := by
  have hs := sec3 b0 b1 h0 h1
  have c2 : (1 < n ∧ Cont b1 ∧ Beg ((b0 - 224) * 64 + b1 - 128) 64 2048) ↔ (1 < n ∧ Sec3 b0 b1) := by
    rw [hs, beg_3b]; unfold Cont; omega
  have c3 : Sec3 b0 b1 → ((2 < n ∧ Cont b2 ∧ Beg (((b0 - 224) * 64 + b1 - 128) * 64 + b2 - 128) 1 2048) ↔ (2 < n ∧ Cont b2)) := by
    intro h
    have h3 := hs.1 h
    rw [beg_3c]; unfold Cont at *; omega
  have ca : Beg (b0 - 224) 4096 2048 := by rw [beg_3a]; omega
  have k1 : ¬ b0 < 128 := by omega
  have k2 : ¬ b0 < 192 := by omega
  have k3 : ¬ b0 < 224 := by omega
  unfold oneN
  simp only [k1, k2, k3, h1, ca, c2, if_false, if_true, not_true_eq_false]
  by_cases h2 : 1 < n ∧ Sec3 b0 b1
  · simp only [h2, and_self, not_true_eq_false, if_false, if_true, c3 h2.2]
    by_cases h5 : 2 < n ∧ Cont b2
    · simp only [h5, and_self, not_true_eq_false, if_false, if_true]
    · simp only [h5, not_false_eq_true, if_false, if_true]
  · simp only [h2, not_false_eq_true, if_false, if_true]

theorem cut_of {n b0 b1 b2 b3 r k : Nat} (hd : Lib.decodeN n b0 b1 b2 b3 = (r, k)) (hk : 2 ≤ k) : cutN n b0 b1 b2 b3 = (k, (r : Int)) := by
  unfold cutN
  rw [hd]
  exact if_neg (fun h => by have := h.2; simp at this; omega)
theorem cut_bad {n b0 b1 b2 b3 : Nat} (hd : Lib.decodeN n b0 b1 b2 b3 = (65533, 1)) : cutN n b0 b1 b2 b3 = (brokenN n b0 b1 b2 b3, -1) := by
  unfold cutN
  rw [hd]
  exact if_pos ⟨rfl, Nat.le_refl _⟩

theorem cut_three (n b0 b1 b2 b3 : Nat) (h0 : 224 ≤ b0) (h1 : b0 < 240) (hb1 : b1 < 256) (hb2 : b2 < 256) : cutN n b0 b1 b2 b3 = oneN n b0 b1 b2 b3 := by
  have hr : restB b0 = 2 := by unfold restB; rw [if_neg (by omega), if_pos (by omega)]
  have hd := decode_three n b0 b1 b2 b3 h0 h1 hb1 hb2
  rw [one_three n b0 b1 b2 b3 h0 h1 hb1 hb2]
  have hs : Sec3 b0 b1 ↔ (lowB b0 ≤ b1 ∧ b1 ≤ highB b0) := Iff.rfl
  have hc : Cont b2 ↔ (128 ≤ b2 ∧ b2 ≤ 191) := by unfold Cont; omega
  by_cases h2 : 1 < n ∧ Sec3 b0 b1
  · rw [if_pos h2]
    by_cases h3 : 2 < n ∧ Cont b2
    · rw [if_pos h3]
      rw [if_pos ⟨h2.1, h2.2, h3.1, h3.2⟩] at hd
      exact cut_of hd (by omega)
    · rw [if_neg h3]
      rw [if_neg (fun h => h3 h.2.2)] at hd
      rw [cut_bad hd]
      have : brokenN n b0 b1 b2 b3 = 2 := by
        have a1 : 0 < restB b0 ∧ 1 < n ∧ lowB b0 ≤ b1 ∧ b1 ≤ highB b0 := ⟨by omega, h2.1, h2.2⟩
        have a2 : ¬ (1 < restB b0 ∧ 2 < n ∧ 128 ≤ b2 ∧ b2 ≤ 191) := fun h => h3 ⟨h.2.1, hc.2 h.2.2⟩
        unfold brokenN
        simp only [a1, a2, and_self, not_true_eq_false, not_false_eq_true, if_false, if_true]
      rw [this]
  · rw [if_neg h2]
    rw [if_neg (fun h => h2 ⟨h.1, h.2.1⟩)] at hd
    rw [cut_bad hd]
    have : brokenN n b0 b1 b2 b3 = 1 := by
      have a1 : ¬ (0 < restB b0 ∧ 1 < n ∧ lowB b0 ≤ b1 ∧ b1 ≤ highB b0) := fun h => h2 ⟨h.2.1, h.2.2⟩
      unfold brokenN
      simp only [a1, not_false_eq_true, if_true]
    rw [this]

/-! ### four bytes -/

theorem sec4 (b0 b1 : Nat) (h0 : 240 ≤ b0) (h1 : b0 < 245) : Sec3 b0 b1 ↔ Cont b1 ∧ (b0 = 240 → 144 ≤ b1) ∧ (b0 = 244 → b1 ≤ 143) := by
  unfold Sec3 lowB highB Cont
  have e1 : ¬ b0 = 224 := by omega
  have e2 : ¬ b0 = 237 := by omega
  rw [if_neg e1, if_neg e2]
  by_cases a : b0 = 240
  · rw [if_pos a, if_neg (by omega)]; omega
  · by_cases b : b0 = 244
    · rw [if_neg a, if_pos b]; omega
    · rw [if_neg a, if_neg b]; omega

theorem decode_four (n b0 b1 b2 b3 : Nat) (h0 : 240 ≤ b0) (h1 : b0 < 248) (hb1 : b1 < 256) (hb2 : b2 < 256) (hb3 : b3 < 256) : Lib.decodeN n b0 b1 b2 b3 = if b0 < 245 ∧ 1 < n ∧ Sec3 b0 b1 ∧ 2 < n ∧ Cont b2 ∧ 3 < n ∧ Cont b3 then ((((b0 - 240) * 64 + b1 - 128) * 64 + b2 - 128) * 64 + b3 - 128, 4) else (65533, 1) := by
  unfold Lib.decodeN
  have n2 : ¬ (b0 / 32 = 6 ∧ (1 < n ∧ b1 / 64 = 2)) := by omega
  have n3 : ¬ (b0 / 16 = 14 ∧ (1 < n ∧ b1 / 64 = 2) ∧ (2 < n ∧ b2 / 64 = 2)) := by omega
  rw [if_neg (by omega : ¬ b0 < 128), if_neg n2, if_neg n3]
  by_cases hc : (1 < n ∧ b1 / 64 = 2) ∧ (2 < n ∧ b2 / 64 = 2) ∧ (3 < n ∧ b3 / 64 = 2)
  · rw [if_pos ⟨by omega, hc⟩]
    by_cases h5 : b0 < 245
    · have hs := sec4 b0 b1 h0 h5
      unfold Cont at hs ⊢
      by_cases h2 : Sec3 b0 b1
      · have h3 := hs.1 h2
        rw [if_pos (by omega), if_pos ⟨h5, hc.1.1, h2, hc.2.1.1, by omega, hc.2.2.1, by omega⟩]
        exact pair_eqN (by omega) rfl
      · rw [if_neg (fun h => h2 (hs.2 (by omega))), if_neg (fun h => h2 h.2.2.1)]
    · rw [if_neg (by omega), if_neg (fun h => h5 h.1)]
  · rw [if_neg (fun h => hc h.2)]
    unfold Cont
    rw [if_neg]
    rintro ⟨h5, a, b, c, d, e, f⟩
    have h3 := (sec4 b0 b1 h0 h5).1 b
    unfold Cont at h3
    exact hc ⟨⟨a, by omega⟩, ⟨c, by omega⟩, e, by omega⟩

theorem one_four (n b0 b1 b2 b3 : Nat) (h0 : 240 ≤ b0) (h1 : b0 < 248) (hb1 : b1 < 256) (hb2 : b2 < 256) (hb3 : b3 < 256) : oneN n b0 b1 b2 b3 = if b0 < 245 ∧ 1 < n ∧ Sec3 b0 b1 then (if 2 < n ∧ Cont b2 then (if 3 < n ∧ Cont b3 then (4, (((((b0 - 240) * 64 + b1 - 128) * 64 + b2 - 128) * 64 + b3 - 128 : Nat) : Int)) else (3, -1)) else (2, -1)) else (1, -1) := by
  have k1 : ¬ b0 < 128 := by omega
  have k2 : ¬ b0 < 192 := by omega
  have k3 : ¬ b0 < 224 := by omega
  have k4 : ¬ b0 < 240 := by omega
  unfold oneN
  by_cases h5 : b0 < 245
  · have hs := sec4 b0 b1 h0 h5
    have ca : Beg (b0 - 240) 262144 65536 := by rw [beg_4a]; omega
    have c2 : (1 < n ∧ Cont b1 ∧ Beg ((b0 - 240) * 64 + b1 - 128) 4096 65536) ↔ (1 < n ∧ Sec3 b0 b1) := by
      rw [hs, beg_4b]; unfold Cont; omega
    have c3 : Sec3 b0 b1 → ((2 < n ∧ Cont b2 ∧ Beg (((b0 - 240) * 64 + b1 - 128) * 64 + b2 - 128) 64 65536) ↔ (2 < n ∧ Cont b2)) := by
      intro h
      have h3 := hs.1 h
      rw [beg_4c]; unfold Cont at *; omega
    have c4 : Sec3 b0 b1 → Cont b2 → ((3 < n ∧ Cont b3 ∧ Beg ((((b0 - 240) * 64 + b1 - 128) * 64 + b2 - 128) * 64 + b3 - 128) 1 65536) ↔ (3 < n ∧ Cont b3)) := by
      intro h h'
      have h3 := hs.1 h
      rw [beg_4d]; unfold Cont at *; omega
    simp only [k1, k2, k3, k4, h1, h5, ca, c2, if_false, if_true, not_true_eq_false, true_and]
    by_cases h2 : 1 < n ∧ Sec3 b0 b1
    · simp only [h2, and_self, not_true_eq_false, if_false, if_true, c3 h2.2]
      by_cases h6 : 2 < n ∧ Cont b2
      · simp only [h6, and_self, not_true_eq_false, if_false, if_true, c4 h2.2 h6.2]
        by_cases h7 : 3 < n ∧ Cont b3
        · simp only [h7, and_self, not_true_eq_false, if_false, if_true]
        · simp only [h7, not_false_eq_true, if_false, if_true]
      · simp only [h6, not_false_eq_true, if_false, if_true]
    · simp only [h2, not_false_eq_true, if_false, if_true]
  · have ca : ¬ Beg (b0 - 240) 262144 65536 := by rw [beg_4a]; omega
    simp only [k1, k2, k3, k4, h1, h5, ca, if_false, if_true, not_false_eq_true, false_and]

theorem cut_four (n b0 b1 b2 b3 : Nat) (h0 : 240 ≤ b0) (h1 : b0 < 248) (hb1 : b1 < 256) (hb2 : b2 < 256) (hb3 : b3 < 256) : cutN n b0 b1 b2 b3 = oneN n b0 b1 b2 b3 := by
  have hd := decode_four n b0 b1 b2 b3 h0 h1 hb1 hb2 hb3
  rw [one_four n b0 b1 b2 b3 h0 h1 hb1 hb2 hb3]
  have hc2 : Cont b2 ↔ (128 ≤ b2 ∧ b2 ≤ 191) := by unfold Cont; omega
  have hc3 : Cont b3 ↔ (128 ≤ b3 ∧ b3 ≤ 191) := by unfold Cont; omega
  by_cases h2 : b0 < 245 ∧ 1 < n ∧ Sec3 b0 b1
  · have hr : restB b0 = 3 := by unfold restB; rw [if_neg (by omega), if_neg (by omega), if_pos (by omega)]
    have a1 : 0 < restB b0 ∧ 1 < n ∧ lowB b0 ≤ b1 ∧ b1 ≤ highB b0 := ⟨by omega, h2.2.1, h2.2.2⟩
    rw [if_pos h2]
    by_cases h3 : 2 < n ∧ Cont b2
    · have a2 : 1 < restB b0 ∧ 2 < n ∧ 128 ≤ b2 ∧ b2 ≤ 191 := ⟨by omega, h3.1, hc2.1 h3.2⟩
      rw [if_pos h3]
      by_cases h4 : 3 < n ∧ Cont b3
      · rw [if_pos h4]
        rw [if_pos ⟨h2.1, h2.2.1, h2.2.2, h3.1, h3.2, h4.1, h4.2⟩] at hd
        exact cut_of hd (by omega)
      · rw [if_neg h4]
        rw [if_neg (fun h => h4 h.2.2.2.2.2)] at hd
        rw [cut_bad hd]
        have a3 : ¬ (2 < restB b0 ∧ 3 < n ∧ 128 ≤ b3 ∧ b3 ≤ 191) := fun h => h4 ⟨h.2.1, hc3.2 h.2.2⟩
        have : brokenN n b0 b1 b2 b3 = 3 := by
          unfold brokenN
          simp only [a1, a2, a3, and_self, not_true_eq_false, not_false_eq_true, if_false, if_true]
        rw [this]
    · rw [if_neg h3]
      rw [if_neg (fun h => h3 ⟨h.2.2.2.1, h.2.2.2.2.1⟩)] at hd
      rw [cut_bad hd]
      have a2 : ¬ (1 < restB b0 ∧ 2 < n ∧ 128 ≤ b2 ∧ b2 ≤ 191) := fun h => h3 ⟨h.2.1, hc2.2 h.2.2⟩
      have : brokenN n b0 b1 b2 b3 = 2 := by
        unfold brokenN
        simp only [a1, a2, and_self, not_true_eq_false, not_false_eq_true, if_false, if_true]
      rw [this]
  · rw [if_neg h2]
    rw [if_neg (fun h => h2 ⟨h.1, h.2.1, h.2.2.1⟩)] at hd
    rw [cut_bad hd]
    have : brokenN n b0 b1 b2 b3 = 1 := by
      have a1 : ¬ (0 < restB b0 ∧ 1 < n ∧ lowB b0 ≤ b1 ∧ b1 ≤ highB b0) := by
        rintro ⟨hr, hn, hl, hh⟩
        by_cases h5 : b0 < 245
        · exact h2 ⟨h5, hn, hl, hh⟩
        · unfold restB at hr
          rw [if_neg (by omega), if_neg (by omega), if_neg (by omega)] at hr
          omega
      unfold brokenN
      simp only [a1, not_false_eq_true, if_true]
    rw [this]

/-! ### all of them -/

theorem decode_none (n b0 b1 b2 b3 : Nat) (h : (128 ≤ b0 ∧ b0 < 192) ∨ 248 ≤ b0) (hb : b0 < 256) : Lib.decodeN n b0 b1 b2 b3 = (65533, 1) := by
  unfold Lib.decodeN
  rw [if_neg (by omega), if_neg (by omega), if_neg (by omega), if_neg (by omega)]

/-- The cut of utf-8 is One of the document. -/
theorem cut_one (n b0 b1 b2 b3 : Nat) (hb0 : b0 < 256) (hb1 : b1 < 256) (hb2 : b2 < 256) (hb3 : b3 < 256) : cutN n b0 b1 b2 b3 = oneN n b0 b1 b2 b3 := by
  by_cases c1 : b0 < 128
  · have hd : Lib.decodeN n b0 b1 b2 b3 = (b0, 1) := by unfold Lib.decodeN; rw [if_pos c1]
    unfold cutN oneN
    rw [hd, if_pos c1]
    exact if_neg (fun h => by have := h.1; simp at this; omega)
  · by_cases c2 : b0 < 192
    · have hd := decode_none n b0 b1 b2 b3 (.inl ⟨by omega, c2⟩) hb0
      rw [cut_bad hd]
      unfold oneN
      rw [if_neg c1, if_pos c2]
      have a1 : ¬ (0 < restB b0 ∧ 1 < n ∧ lowB b0 ≤ b1 ∧ b1 ≤ highB b0) := by
        rintro ⟨hr, -⟩
        unfold restB at hr
        rw [if_neg (by omega), if_neg (by omega), if_neg (by omega)] at hr
        omega
      unfold brokenN
      simp only [a1, not_false_eq_true, if_true]
    · by_cases c3 : b0 < 224
      · exact cut_two n b0 b1 b2 b3 (by omega) c3 hb1
      · by_cases c4 : b0 < 240
        · exact cut_three n b0 b1 b2 b3 (by omega) c4 hb1 hb2
        · by_cases c5 : b0 < 248
          · exact cut_four n b0 b1 b2 b3 (by omega) c5 hb1 hb2 hb3
          · have hd := decode_none n b0 b1 b2 b3 (.inr (by omega)) hb0
            rw [cut_bad hd]
            unfold oneN
            rw [if_neg c1, if_neg c2, if_neg c3, if_neg c4, if_neg c5]
            have a1 : ¬ (0 < restB b0 ∧ 1 < n ∧ lowB b0 ≤ b1 ∧ b1 ≤ highB b0) := by
              rintro ⟨hr, -⟩
              unfold restB at hr
              rw [if_neg (by omega), if_neg (by omega), if_neg (by omega)] at hr
              omega
            unfold brokenN
            simp only [a1, not_false_eq_true, if_true]

end Go.Proofs.YtaanihidheccfaaDoor
