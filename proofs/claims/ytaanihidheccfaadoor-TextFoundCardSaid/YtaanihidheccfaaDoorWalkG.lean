/-
  The program's door: broken, how many bytes belong together though no character begins there.
-/
import Derived.Test.YtaanihidheccfaaDoorPlainA
import Derived.Test.YtaanihidheccfaaDoorProg
import Derived.WalkKit
import Derived.Lib.Hide
import Derived.Outline
namespace Go.Proofs.YtaanihidheccfaaDoor
open Go.RowKit
set_option linter.unusedVariables false

/-- The byte at a place, as a number. -/
def byteN (s : ByteArray) (i : Nat) : Nat := (s.get! i).toNat
theorem byteN_eq (s : ByteArray) (i : Nat) (h : i < s.size) : byteN s i = (s[i]'h).toNat := by
  unfold byteN
  rw [show s.get! i = s[i]'h from by simp [ByteArray.get!, ByteArray.getElem_eq_getElem_data, h]]
theorem byteN_lt (s : ByteArray) (i : Nat) : byteN s i < 256 := (s.get! i).toNat_lt

def brkGo (s : ByteArray) (low high : Nat) : Nat → Nat → Nat
  | 0, k => k
  | n + 1, k => if k < s.size ∧ low ≤ byteN s k ∧ byteN s k ≤ high then brkGo s 128 191 n (k + 1) else k

theorem brkGo_zero (s : ByteArray) (low high k : Nat) : brkGo s low high 0 k = k := rfl
theorem brkGo_yes {s : ByteArray} {low high n k : Nat} (hk : k < s.size) (h1 : low ≤ byteN s k) (h2 : byteN s k ≤ high) : brkGo s low high (n + 1) k = brkGo s 128 191 n (k + 1) := if_pos ⟨hk, h1, h2⟩
theorem brkGo_no {s : ByteArray} {low high n k : Nat} (h : ¬ (k < s.size ∧ low ≤ byteN s k ∧ byteN s k ≤ high)) : brkGo s low high (n + 1) k = k := if_neg h

/-- What the classes of a first byte are. -/
theorem brk_class (c : Nat) (h : c < 256) : (c < 194 ∧ lowB c = 128 ∧ highB c = 191 ∧ restB c = 0) ∨ (194 ≤ c ∧ c ≤ 223 ∧ lowB c = 128 ∧ highB c = 191 ∧ restB c = 1) ∨ (c = 224 ∧ lowB c = 160 ∧ highB c = 191 ∧ restB c = 2) ∨ (225 ≤ c ∧ c ≤ 236 ∧ lowB c = 128 ∧ highB c = 191 ∧ restB c = 2) ∨ (c = 237 ∧ lowB c = 128 ∧ highB c = 159 ∧ restB c = 2) ∨ (238 ≤ c ∧ c ≤ 239 ∧ lowB c = 128 ∧ highB c = 191 ∧ restB c = 2) ∨ (c = 240 ∧ lowB c = 144 ∧ highB c = 191 ∧ restB c = 3) ∨ (241 ≤ c ∧ c ≤ 243 ∧ lowB c = 128 ∧ highB c = 191 ∧ restB c = 3) ∨ (c = 244 ∧ lowB c = 128 ∧ highB c = 143 ∧ restB c = 3) ∨ (245 ≤ c ∧ lowB c = 128 ∧ highB c = 191 ∧ restB c = 0) := by
  have hl : lowB c = if c = 224 then 160 else if c = 240 then 144 else 128 := rfl
  have hh : highB c = if c = 237 then 159 else if c = 244 then 143 else 191 := rfl
  have hr : restB c = if 194 ≤ c ∧ c ≤ 223 then 1 else if 224 ≤ c ∧ c ≤ 239 then 2 else if 240 ≤ c ∧ c ≤ 244 then 3 else 0 := rfl
  have h10 : c < 194 ∨ (194 ≤ c ∧ c ≤ 223) ∨ c = 224 ∨ (225 ≤ c ∧ c ≤ 236) ∨ c = 237 ∨ (238 ≤ c ∧ c ≤ 239) ∨ c = 240 ∨ (241 ≤ c ∧ c ≤ 243) ∨ c = 244 ∨ 245 ≤ c := by omega
  rcases h10 with h1 | h1 | h1 | h1 | h1 | h1 | h1 | h1 | h1 | h1
  · (first | rw [if_pos (by omega)] at hl | rw [if_neg (by omega), if_pos (by omega)] at hl | rw [if_neg (by omega), if_neg (by omega)] at hl)
    (first | rw [if_pos (by omega)] at hh | rw [if_neg (by omega), if_pos (by omega)] at hh | rw [if_neg (by omega), if_neg (by omega)] at hh)
    (first | rw [if_pos (by omega)] at hr | rw [if_neg (by omega), if_pos (by omega)] at hr | rw [if_neg (by omega), if_neg (by omega), if_pos (by omega)] at hr | rw [if_neg (by omega), if_neg (by omega), if_neg (by omega)] at hr)
    exact .inl ⟨h1, hl, hh, hr⟩
  · (first | rw [if_pos (by omega)] at hl | rw [if_neg (by omega), if_pos (by omega)] at hl | rw [if_neg (by omega), if_neg (by omega)] at hl)
    (first | rw [if_pos (by omega)] at hh | rw [if_neg (by omega), if_pos (by omega)] at hh | rw [if_neg (by omega), if_neg (by omega)] at hh)
    (first | rw [if_pos (by omega)] at hr | rw [if_neg (by omega), if_pos (by omega)] at hr | rw [if_neg (by omega), if_neg (by omega), if_pos (by omega)] at hr | rw [if_neg (by omega), if_neg (by omega), if_neg (by omega)] at hr)
    exact .inr (.inl ⟨h1.1, h1.2, hl, hh, hr⟩)
  · (first | rw [if_pos (by omega)] at hl | rw [if_neg (by omega), if_pos (by omega)] at hl | rw [if_neg (by omega), if_neg (by omega)] at hl)
    (first | rw [if_pos (by omega)] at hh | rw [if_neg (by omega), if_pos (by omega)] at hh | rw [if_neg (by omega), if_neg (by omega)] at hh)
    (first | rw [if_pos (by omega)] at hr | rw [if_neg (by omega), if_pos (by omega)] at hr | rw [if_neg (by omega), if_neg (by omega), if_pos (by omega)] at hr | rw [if_neg (by omega), if_neg (by omega), if_neg (by omega)] at hr)
    exact .inr (.inr (.inl ⟨h1, hl, hh, hr⟩))
  · (first | rw [if_pos (by omega)] at hl | rw [if_neg (by omega), if_pos (by omega)] at hl | rw [if_neg (by omega), if_neg (by omega)] at hl)
    (first | rw [if_pos (by omega)] at hh | rw [if_neg (by omega), if_pos (by omega)] at hh | rw [if_neg (by omega), if_neg (by omega)] at hh)
    (first | rw [if_pos (by omega)] at hr | rw [if_neg (by omega), if_pos (by omega)] at hr | rw [if_neg (by omega), if_neg (by omega), if_pos (by omega)] at hr | rw [if_neg (by omega), if_neg (by omega), if_neg (by omega)] at hr)
    exact .inr (.inr (.inr (.inl ⟨h1.1, h1.2, hl, hh, hr⟩)))
  · (first | rw [if_pos (by omega)] at hl | rw [if_neg (by omega), if_pos (by omega)] at hl | rw [if_neg (by omega), if_neg (by omega)] at hl)
    (first | rw [if_pos (by omega)] at hh | rw [if_neg (by omega), if_pos (by omega)] at hh | rw [if_neg (by omega), if_neg (by omega)] at hh)
    (first | rw [if_pos (by omega)] at hr | rw [if_neg (by omega), if_pos (by omega)] at hr | rw [if_neg (by omega), if_neg (by omega), if_pos (by omega)] at hr | rw [if_neg (by omega), if_neg (by omega), if_neg (by omega)] at hr)
    exact .inr (.inr (.inr (.inr (.inl ⟨h1, hl, hh, hr⟩))))
  · (first | rw [if_pos (by omega)] at hl | rw [if_neg (by omega), if_pos (by omega)] at hl | rw [if_neg (by omega), if_neg (by omega)] at hl)
    (first | rw [if_pos (by omega)] at hh | rw [if_neg (by omega), if_pos (by omega)] at hh | rw [if_neg (by omega), if_neg (by omega)] at hh)
    (first | rw [if_pos (by omega)] at hr | rw [if_neg (by omega), if_pos (by omega)] at hr | rw [if_neg (by omega), if_neg (by omega), if_pos (by omega)] at hr | rw [if_neg (by omega), if_neg (by omega), if_neg (by omega)] at hr)
    exact .inr (.inr (.inr (.inr (.inr (.inl ⟨h1.1, h1.2, hl, hh, hr⟩)))))
  · (first | rw [if_pos (by omega)] at hl | rw [if_neg (by omega), if_pos (by omega)] at hl | rw [if_neg (by omega), if_neg (by omega)] at hl)
    (first | rw [if_pos (by omega)] at hh | rw [if_neg (by omega), if_pos (by omega)] at hh | rw [if_neg (by omega), if_neg (by omega)] at hh)
    (first | rw [if_pos (by omega)] at hr | rw [if_neg (by omega), if_pos (by omega)] at hr | rw [if_neg (by omega), if_neg (by omega), if_pos (by omega)] at hr | rw [if_neg (by omega), if_neg (by omega), if_neg (by omega)] at hr)
    exact .inr (.inr (.inr (.inr (.inr (.inr (.inl ⟨h1, hl, hh, hr⟩))))))
  · (first | rw [if_pos (by omega)] at hl | rw [if_neg (by omega), if_pos (by omega)] at hl | rw [if_neg (by omega), if_neg (by omega)] at hl)
    (first | rw [if_pos (by omega)] at hh | rw [if_neg (by omega), if_pos (by omega)] at hh | rw [if_neg (by omega), if_neg (by omega)] at hh)
    (first | rw [if_pos (by omega)] at hr | rw [if_neg (by omega), if_pos (by omega)] at hr | rw [if_neg (by omega), if_neg (by omega), if_pos (by omega)] at hr | rw [if_neg (by omega), if_neg (by omega), if_neg (by omega)] at hr)
    exact .inr (.inr (.inr (.inr (.inr (.inr (.inr (.inl ⟨h1.1, h1.2, hl, hh, hr⟩)))))))
  · (first | rw [if_pos (by omega)] at hl | rw [if_neg (by omega), if_pos (by omega)] at hl | rw [if_neg (by omega), if_neg (by omega)] at hl)
    (first | rw [if_pos (by omega)] at hh | rw [if_neg (by omega), if_pos (by omega)] at hh | rw [if_neg (by omega), if_neg (by omega)] at hh)
    (first | rw [if_pos (by omega)] at hr | rw [if_neg (by omega), if_pos (by omega)] at hr | rw [if_neg (by omega), if_neg (by omega), if_pos (by omega)] at hr | rw [if_neg (by omega), if_neg (by omega), if_neg (by omega)] at hr)
    exact .inr (.inr (.inr (.inr (.inr (.inr (.inr (.inr (.inl ⟨h1, hl, hh, hr⟩))))))))
  · (first | rw [if_pos (by omega)] at hl | rw [if_neg (by omega), if_pos (by omega)] at hl | rw [if_neg (by omega), if_neg (by omega)] at hl)
    (first | rw [if_pos (by omega)] at hh | rw [if_neg (by omega), if_pos (by omega)] at hh | rw [if_neg (by omega), if_neg (by omega)] at hh)
    (first | rw [if_pos (by omega)] at hr | rw [if_neg (by omega), if_pos (by omega)] at hr | rw [if_neg (by omega), if_neg (by omega), if_pos (by omega)] at hr | rw [if_neg (by omega), if_neg (by omega), if_neg (by omega)] at hr)
    exact .inr (.inr (.inr (.inr (.inr (.inr (.inr (.inr (.inr (⟨h1, hl, hh, hr⟩)))))))))

theorem brk_brokenN (s : ByteArray) : brkGo s (lowB (byteN s 0)) (highB (byteN s 0)) (restB (byteN s 0)) 1 = brokenN s.size (byteN s 0) (byteN s 1) (byteN s 2) (byteN s 3) := by
  have h3 : restB (byteN s 0) ≤ 3 := by unfold restB; repeat' split
                                        all_goals omega
  obtain ⟨c, hc⟩ : ∃ c, byteN s 0 = c := ⟨_, rfl⟩
  rw [hc] at h3 ⊢
  unfold brokenN
  obtain ⟨r, hr⟩ : ∃ r, restB c = r := ⟨_, rfl⟩
  rw [hr] at h3 ⊢
  rcases r with _ | _ | _ | _ | r
  · simp [brkGo]
  · simp only [brkGo, Nat.reduceAdd]
    repeat' split
    all_goals omega
  · simp only [brkGo, Nat.reduceAdd]
    repeat' split
    all_goals omega
  · simp only [brkGo, Nat.reduceAdd]
    repeat' split
    all_goals omega
  · omega

set_option maxHeartbeats 1000000 in
theorem f75 (s : ByteArray) (hs : 0 < s.size) (hm : s.size ≤ 140737488355328) (w : World) : Calls Tryd.prog 75 #[.string s] w fun e w' => e = .returned (.int .i64 (brokenN s.size (byteN s 0) (byteN s 1) (byteN s 2) (byteN s 3) : Nat)) ∧ w' = w := by
  rw [← brk_brokenN s]
  have hcl := brk_class (byteN s 0) (byteN_lt s 0)
  rw [byteN_eq s 0 hs] at hcl ⊢
  rcases hcl with ⟨h1, hl, hh, hr⟩ | ⟨h1, h2, hl, hh, hr⟩ | ⟨h1, hl, hh, hr⟩ | ⟨h1, h2, hl, hh, hr⟩ | ⟨h1, hl, hh, hr⟩ | ⟨h1, h2, hl, hh, hr⟩ | ⟨h1, hl, hh, hr⟩ | ⟨h1, h2, hl, hh, hr⟩ | ⟨h1, hl, hh, hr⟩ | ⟨h1, hl, hh, hr⟩
  all_goals
    rw [hl, hh, hr]
    clear hl hh hr
    generalize HR0 : brkGo s _ _ _ 1 = R
    have HR := Lib.hid HR0
    clear HR0
    go_enter Tryd.func75, Tryd.ntmps75
    go_wp2_with fail
    go_loop [4, 5, 6, 7] (fun low high n at_ => ∃ lo hi k a : Nat, low = .int .u8 lo ∧ high = .int .u8 hi ∧ n = .int .i64 k ∧ at_ = .int .i64 a ∧ k ≤ 3 ∧ a ≤ s.size ∧ Hid (brkGo s lo hi k a = R)) (fun _ _ n _ => (intOf n).toNat)
    case atStart => exact ⟨_, _, _, _, rfl, rfl, rfl, rfl, by decide, hs, HR⟩
    case round =>
      obtain ⟨lo, hi, k, a, rfl, rfl, rfl, rfl, hk, ha, HB⟩ := hrel
      rcases k with _ | k
      · have HE : Hid (a = R) := Lib.hid HB.out
        clear HR
        go_wp2_with fail
        go_ret
        rw [← HE.out]
        exact ⟨rfl, rfl⟩
      · have hk0 : (0 : Int) < ((k + 1 : Nat) : Int) := by omega
        by_cases hlt : a < s.size
        · have HBE := Lib.hid (byteN_eq s a hlt)
          by_cases h1 : lo ≤ (s[a]'hlt).toNat
          · by_cases h2 : (s[a]'hlt).toNat ≤ hi
            · have HN : Hid (brkGo s 128 191 k (a + 1) = R) := Lib.hid (by rw [← HB.out]; exact (brkGo_yes hlt (by rw [HBE.out]; exact h1) (by rw [HBE.out]; exact h2)).symm)
              clear HR HB
              go_wp2_with fail
              go_round
              case rel => exact ⟨128, 191, k, a + 1, rfl, rfl, by go_num, by go_num, by omega, by omega, HN⟩
              case measure => simp [intOf]
            · have HE : Hid (a = R) := Lib.hid (by rw [← HB.out]; exact (brkGo_no (by rw [HBE.out]; omega)).symm)
              clear HR HB
              go_wp2_with fail
              go_ret
              rw [← HE.out]
              exact ⟨rfl, rfl⟩
          · have HE : Hid (a = R) := Lib.hid (by rw [← HB.out]; exact (brkGo_no (by rw [HBE.out]; omega)).symm)
            clear HR HB
            go_wp2_with fail
            go_ret
            rw [← HE.out]
            exact ⟨rfl, rfl⟩
        · have HE : Hid (a = R) := Lib.hid (by rw [← HB.out]; exact (brkGo_no (by omega)).symm)
          clear HR HB
          go_wp2_with fail
          go_ret
          rw [← HE.out]
          exact ⟨rfl, rfl⟩

end Go.Proofs.YtaanihidheccfaaDoor
