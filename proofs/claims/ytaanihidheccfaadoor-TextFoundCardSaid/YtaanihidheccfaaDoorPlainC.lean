/-
  Which codes have a character in an encoding, and its bytes, in plain words.
-/
import Derived.Test.YtaanihidheccfaaDoorPlainB
import Derived.Lib.Small
namespace Go.Proofs.YtaanihidheccfaaDoor
set_option linter.unusedVariables false

/-- A code has a character in an encoding. -/
def has (e c : Int) : Prop := if e = 0 then 0 ≤ c ∧ c ≤ 127 else if e = 1 then 0 ≤ c ∧ c ≤ 255 else 0 ≤ c ∧ c ≤ 1114111 ∧ (c < 55296 ∨ 57343 < c)
instance (e c : Int) : Decidable (has e c) := by unfold has; infer_instance

def b8 (n : Nat) : UInt8 := UInt8.ofNat n
theorem b8_toNat (n : Nat) : (b8 n).toNat = n % 256 := UInt8.toNat_ofNat'

/-- The bytes of a character. -/
def enc (e c : Int) : List UInt8 :=
  if e ≠ 2 ∨ c < 128 then [b8 c.toNat]
  else if c < 2048 then [b8 (192 + c.toNat / 64), b8 (128 + c.toNat % 64)]
  else if c < 65536 then [b8 (224 + c.toNat / 4096), b8 (128 + c.toNat / 64 % 64), b8 (128 + c.toNat % 64)]
  else [b8 (240 + c.toNat / 262144), b8 (128 + c.toNat / 4096 % 64), b8 (128 + c.toNat / 64 % 64), b8 (128 + c.toNat % 64)]

theorem enc_len (e c : Int) : 1 ≤ (enc e c).length ∧ (enc e c).length ≤ 4 := by
  unfold enc
  split
  · exact ⟨by simp, by simp⟩
  split
  · exact ⟨by simp, by simp⟩
  split
  · exact ⟨by simp, by simp⟩
  · exact ⟨by simp, by simp⟩

theorem has_two (c : Int) : has 2 c ↔ 0 ≤ c ∧ c ≤ 1114111 ∧ (c < 55296 ∨ 57343 < c) := by
  unfold has; rw [if_neg (by decide), if_neg (by decide)]
theorem has_zero (c : Int) : has 0 c ↔ 0 ≤ c ∧ c ≤ 127 := by
  unfold has; rw [if_pos rfl]
theorem has_one (c : Int) : has 1 c ↔ 0 ≤ c ∧ c ≤ 255 := by
  unfold has; rw [if_neg (by decide), if_pos rfl]
theorem has_pos {e c : Int} (h : has e c) : 0 ≤ c ∧ c ≤ 1114111 := by
  unfold has at h
  split at h
  · omega
  split at h
  · omega
  · omega

theorem encode_enc (c : Int) (h : has 2 c) : (Utf8.encode c).data.toList = enc 2 c := by
  rw [has_two] at h
  have hv : Utf8.valid c = true := by
    unfold Utf8.valid
    simp
    omega
  unfold Utf8.encode enc
  simp only [hv, if_true]
  have n2 : ¬ ((2 : Int) ≠ 2 ∨ c < 128) ↔ ¬ c < 128 := by omega
  by_cases c1 : c < 128
  · rw [if_pos (show c.toNat < 128 by omega), if_pos (.inr c1)]; rfl
  rw [if_neg (show ¬ c.toNat < 128 by omega), if_neg (n2.2 c1)]
  by_cases c2 : c < 2048
  · rw [if_pos (show c.toNat < 2048 by omega), if_pos c2]; rfl
  rw [if_neg (show ¬ c.toNat < 2048 by omega), if_neg c2]
  by_cases c3 : c < 65536
  · rw [if_pos (show c.toNat < 65536 by omega), if_pos c3]; rfl
  · rw [if_neg (show ¬ c.toNat < 65536 by omega), if_neg c3]; rfl

/-- A string in another encoding, with what cannot be written replaced. -/
def lossyP (to : Int) (by' : List UInt8) (p : List UInt8 × Int) : List UInt8 := if has to p.2 then enc to p.2 else by'
def lossyL (f to : Int) (by' : List UInt8) (l : List UInt8) : List UInt8 := ((parts f l).map (lossyP to by')).flatten

theorem lossyP_len (to : Int) (by' : List UInt8) (p : List UInt8 × Int) (h : by'.length ≤ 100000) : (lossyP to by' p).length ≤ 100000 := by
  unfold lossyP
  split
  · have := (enc_len to p.2).2; omega
  · exact h

end Go.Proofs.YtaanihidheccfaaDoor
