/-
  What an encoding writes is read back, in plain words.
-/
import Derived.Test.YtaanihidheccfaaDoorPlainC
namespace Go.Proofs.YtaanihidheccfaaDoor
set_option linter.unusedVariables false

theorem bN_zero (a : UInt8) (l : List UInt8) : bN (a :: l) 0 = a.toNat := rfl
theorem bN_succ (a : UInt8) (l : List UInt8) (i : Nat) : bN (a :: l) (i + 1) = bN l i := rfl
theorem b8_lt (n : Nat) (h : n < 256) : (b8 n).toNat = n := by rw [b8_toNat]; exact Nat.mod_eq_of_lt h

theorem cut_enc_two (c : Int) (h : has 2 c) (rest : List UInt8) : cutL 2 (enc 2 c ++ rest) = ((enc 2 c).length, c) := by
  rw [has_two] at h
  obtain ⟨k, rfl⟩ : ∃ k : Nat, c = k := ⟨c.toNat, by omega⟩
  unfold cutL
  rw [if_neg (by decide), if_neg (by decide)]
  unfold enc
  by_cases c1 : (k : Int) < 128
  · rw [if_pos (.inr c1)]
    have e0 : bN ([b8 (k : Int).toNat] ++ rest) 0 = k := by
      show (b8 _).toNat = k
      rw [b8_lt _ (by omega)]; omega
    rw [e0]
    unfold oneN
    rw [if_pos (by omega)]
    rfl
  · rw [if_neg (by omega)]
    by_cases c2 : (k : Int) < 2048
    · rw [if_pos c2]
      have e0 : bN ([b8 (192 + (k : Int).toNat / 64), b8 (128 + (k : Int).toNat % 64)] ++ rest) 0 = 192 + k / 64 := by
        show (b8 _).toNat = _
        rw [b8_lt _ (by omega)]; omega
      have e1 : bN ([b8 (192 + (k : Int).toNat / 64), b8 (128 + (k : Int).toNat % 64)] ++ rest) 1 = 128 + k % 64 := by
        show (b8 _).toNat = _
        rw [b8_lt _ (by omega)]; omega
      rw [e0, e1, one_two _ _ _ _ _ (by omega) (by omega) (by omega), if_pos ⟨by simp, by unfold Cont; omega, by omega⟩]
      exact pair_eq rfl (by omega)
    · rw [if_neg c2]
      by_cases c3 : (k : Int) < 65536
      · rw [if_pos c3]
        have e0 : bN ([b8 (224 + (k : Int).toNat / 4096), b8 (128 + (k : Int).toNat / 64 % 64), b8 (128 + (k : Int).toNat % 64)] ++ rest) 0 = 224 + k / 4096 := by
          show (b8 _).toNat = _
          rw [b8_lt _ (by omega)]; omega
        have e1 : bN ([b8 (224 + (k : Int).toNat / 4096), b8 (128 + (k : Int).toNat / 64 % 64), b8 (128 + (k : Int).toNat % 64)] ++ rest) 1 = 128 + k / 64 % 64 := by
          show (b8 _).toNat = _
          rw [b8_lt _ (by omega)]; omega
        have e2 : bN ([b8 (224 + (k : Int).toNat / 4096), b8 (128 + (k : Int).toNat / 64 % 64), b8 (128 + (k : Int).toNat % 64)] ++ rest) 2 = 128 + k % 64 := by
          show (b8 _).toNat = _
          rw [b8_lt _ (by omega)]; omega
        rw [e0, e1, e2, one_three _ _ _ _ _ (by omega) (by omega) (by omega) (by omega), if_pos ⟨by simp, by rw [sec3 _ _ (by omega) (by omega)]; unfold Cont; omega⟩, if_pos ⟨by simp, by unfold Cont; omega⟩]
        exact pair_eq rfl (by omega)
      · rw [if_neg c3]
        have e0 : bN ([b8 (240 + (k : Int).toNat / 262144), b8 (128 + (k : Int).toNat / 4096 % 64), b8 (128 + (k : Int).toNat / 64 % 64), b8 (128 + (k : Int).toNat % 64)] ++ rest) 0 = 240 + k / 262144 := by
          show (b8 _).toNat = _
          rw [b8_lt _ (by omega)]; omega
        have e1 : bN ([b8 (240 + (k : Int).toNat / 262144), b8 (128 + (k : Int).toNat / 4096 % 64), b8 (128 + (k : Int).toNat / 64 % 64), b8 (128 + (k : Int).toNat % 64)] ++ rest) 1 = 128 + k / 4096 % 64 := by
          show (b8 _).toNat = _
          rw [b8_lt _ (by omega)]; omega
        have e2 : bN ([b8 (240 + (k : Int).toNat / 262144), b8 (128 + (k : Int).toNat / 4096 % 64), b8 (128 + (k : Int).toNat / 64 % 64), b8 (128 + (k : Int).toNat % 64)] ++ rest) 2 = 128 + k / 64 % 64 := by
          show (b8 _).toNat = _
          rw [b8_lt _ (by omega)]; omega
        have e3 : bN ([b8 (240 + (k : Int).toNat / 262144), b8 (128 + (k : Int).toNat / 4096 % 64), b8 (128 + (k : Int).toNat / 64 % 64), b8 (128 + (k : Int).toNat % 64)] ++ rest) 3 = 128 + k % 64 := by
          show (b8 _).toNat = _
          rw [b8_lt _ (by omega)]; omega
        rw [e0, e1, e2, e3, one_four _ _ _ _ _ (by omega) (by omega) (by omega) (by omega) (by omega), if_pos ⟨by omega, by simp, by rw [sec4 _ _ (by omega) (by omega)]; unfold Cont; omega⟩, if_pos ⟨by simp, by unfold Cont; omega⟩, if_pos ⟨by simp, by unfold Cont; omega⟩]
        exact pair_eq rfl (by omega)

theorem cut_enc (e c : Int) (he : e = 0 ∨ e = 1 ∨ e = 2) (h : has e c) (rest : List UInt8) : cutL e (enc e c ++ rest) = ((enc e c).length, c) := by
  rcases he with rfl | rfl | rfl
  · rw [has_zero] at h
    have h1 : enc 0 c = [b8 c.toNat] := by unfold enc; rw [if_pos (.inl (by decide))]
    have e0 : bN ([b8 c.toNat] ++ rest) 0 = c.toNat := by
      show (b8 _).toNat = _
      rw [b8_lt _ (by omega)]
    rw [h1]
    unfold cutL
    rw [if_pos rfl, e0, if_pos (by omega)]
    exact pair_eq rfl (by omega)
  · rw [has_one] at h
    have h1 : enc 1 c = [b8 c.toNat] := by unfold enc; rw [if_pos (.inl (by decide))]
    have e0 : bN ([b8 c.toNat] ++ rest) 0 = c.toNat := by
      show (b8 _).toNat = _
      rw [b8_lt _ (by omega)]
    rw [h1]
    unfold cutL
    rw [if_neg (by decide), if_pos rfl, e0]
    exact pair_eq rfl (by omega)
  · exact cut_enc_two c h rest

/-- One character at the front. -/
theorem parts_enc (e c : Int) (he : e = 0 ∨ e = 1 ∨ e = 2) (h : has e c) (rest : List UInt8) : parts e (enc e c ++ rest) = (enc e c, c) :: parts e rest := by
  have h0 := (enc_len e c).1
  have hne : enc e c ++ rest ≠ [] := by
    intro h2
    have := congrArg List.length h2
    rw [List.length_append] at this
    simp at this
    rw [this.1] at h0
    simp at h0
  rw [parts_cons e _ hne, cut_enc e c he h rest]
  simp

/-- What is written is read back. -/
theorem parts_of (e : Int) (he : e = 0 ∨ e = 1 ∨ e = 2) : ∀ (cs : List Int), (∀ c ∈ cs, has e c) → parts e ((cs.map (enc e)).flatten) = cs.map fun c => (enc e c, c)
  | [], _ => rfl
  | c :: cs, h => by
    rw [List.map_cons, List.flatten_cons, parts_enc e c he (h c (by simp)), parts_of e he cs (fun x hx => h x (by simp [hx]))]
    rfl

end Go.Proofs.YtaanihidheccfaaDoor
