/-
  The statement TextTidies walked.
-/
import Derived.Test.YtaanihidheccfaaDoorRefC
namespace Go.Proofs.YtaanihidheccfaaDoor
open Go.Shelf Go.RowKit
set_option linter.unusedVariables false

theorem cmp_swap : ∀ (l m : List UInt8), Lib.compareBytes m l = - Lib.compareBytes l m
  | [], [] => rfl
  | [], _ :: _ => rfl
  | _ :: _, [] => rfl
  | a :: l, b :: m => by
    rcases Nat.lt_trichotomy a.toNat b.toNat with h | h | h
    · rw [cmp_lt h, cmp_gt h]; rfl
    · rw [cmp_eq h, cmp_eq h.symm]; exact cmp_swap l m
    · rw [cmp_gt h, cmp_lt h]
theorem cmp_bounds : ∀ (l m : List UInt8), -1 ≤ Lib.compareBytes l m ∧ Lib.compareBytes l m ≤ 1
  | [], [] => by simp [Lib.compareBytes]
  | [], _ :: _ => by simp [Lib.compareBytes]
  | _ :: _, [] => by simp [Lib.compareBytes]
  | a :: l, b :: m => by
    rcases Nat.lt_trichotomy a.toNat b.toNat with h | h | h
    · rw [cmp_lt h]; omega
    · rw [cmp_eq h]; exact cmp_bounds l m
    · rw [cmp_gt h]; omega

theorem f5_sane (s t : ByteArray) (hs : s.size ≤ 9223372036854775807) (ht : t.size ≤ 9223372036854775807) (h : 3000 < s.size ∨ 3000 < t.size) (w : World) (hT : Lib.Utf8Tabs 0 1 w) (h2 : 2 ≤ w.heap.size) : Calls Tryd.prog 5 #[.string s, .string t] w fun en w' => en = .returned (.bool true) ∧ Below w.heap.size w w' := by
  have H15 := Lib.hid (f15 w hT h2)
  clear hT
  by_cases h1 : 3000 < s.size
  · clear h
    go_enter Tryd.func5, Tryd.ntmps5
    go_wp2_with (go_at_call 15; refine H15.out.mono ?_; rintro en w4 ⟨rfl, hB⟩; have HB4 := Lib.hid hB; clear hB)
    go_ret
    exact ⟨rfl, HB4.out⟩
  · have h3 : 3000 < t.size := by omega
    have h4 : s.size ≤ 3000 := by omega
    clear h h1
    go_enter Tryd.func5, Tryd.ntmps5
    go_wp2_with (go_at_call 15; refine H15.out.mono ?_; rintro en w4 ⟨rfl, hB⟩; have HB4 := Lib.hid hB; clear hB)
    go_ret
    exact ⟨rfl, HB4.out⟩

set_option maxRecDepth 100000 in
theorem f5 (s t : ByteArray) (w : World) (hs : s.size ≤ 9223372036854775807) (ht : t.size ≤ 9223372036854775807) (hT : Lib.Utf8Tabs 0 1 w) (h2 : 2 ≤ w.heap.size) : Calls Tryd.prog 5 #[.string s, .string t] w fun en w' => en = .returned (.bool true) ∧ Below w.heap.size w w' := by
  by_cases hbig : 3000 < s.size ∨ 3000 < t.size
  · exact f5_sane s t hs ht hbig w hT h2
  · have hs3 : s.size ≤ 3000 := by omega
    have ht3 : t.size ≤ 3000 := by omega
    clear hbig hs ht
    have HT := Lib.hid hT; clear hT
    have H22 := Lib.hid (f22 s t (by omega) (by omega) w)
    have HSW := Lib.hid (cmp_swap (str s) (str t))
    have hcb := cmp_bounds (str s) (str t)
    have H24 := Lib.hid fun w => f24 s t w
    have H24b := Lib.hid fun w => f24 t s w
    have H25 := Lib.hid fun w => f25 s t (by omega) (by omega) w
    rw [HSW.out] at H24b
    generalize Lib.compareBytes (str s) (str t) = c at *
    clear HSW
    obtain ⟨hc1, hc2⟩ := hcb
    go_enter Tryd.func5, Tryd.ntmps5
    go_wp2_with fail
    refine H22.out.mono ?_
    rintro en w2 ⟨rfl, hB⟩
    have hz2 := hB.size
    have HT2 := Lib.hid (tabs_below hB h2 HT.out)
    have HB2 := Lib.hid hB; clear hB
    have H23 := Lib.hid (f23 s t (by omega) (by omega) w2)
    go_wp2_with fail
    refine H23.out.mono ?_
    rintro en w3 ⟨rfl, hB⟩
    have hz3 := hB.size
    have HT3 := Lib.hid (tabs_below hB (by omega) HT2.out)
    have HB3 := Lib.hid hB; clear hB
    generalize bs (tidyL (str t) (str s)) = r at *
    go_wp2_with fail
    refine (H24.out w3).mono ?_
    rintro en w4 ⟨rfl, rfl⟩
    go_wp2_with fail
    refine (H25.out w4).mono ?_
    rintro en w5 ⟨rfl, hB⟩
    have hz5 := hB.size
    have HT5 := Lib.hid (tabs_below hB (by omega) HT3.out)
    have HB5 := Lib.hid hB; clear hB
    go_wp2_with fail
    refine (H24b.out w5).mono ?_
    rintro en w6 ⟨rfl, rfl⟩
    go_wp2_with fail
    refine (H25.out w6).mono ?_
    rintro en w7 ⟨rfl, hB⟩
    have hz7 := hB.size
    have H15 := Lib.hid (f15 w7 (tabs_below hB (by omega) HT5.out) (by omega))
    have HB7 := Lib.hid hB; clear hB
    go_wp2_with fail
    refine H15.out.mono ?_
    rintro en w8 ⟨rfl, hB⟩
    have HB8 := Lib.hid hB; clear hB
    go_wp2_with fail
    go_ret
    exact ⟨rfl, (((HB2.out.trans (HB3.out.mono (by omega))).trans (HB5.out.mono (by omega))).trans (HB7.out.mono (by omega))).trans (HB8.out.mono (by omega))⟩

end Go.Proofs.YtaanihidheccfaaDoor
