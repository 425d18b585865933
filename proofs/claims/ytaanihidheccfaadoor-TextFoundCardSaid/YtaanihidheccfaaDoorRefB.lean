/-
  The document's and the program's Compare and Tidy.
-/
import Derived.Test.YtaanihidheccfaaDoorRefA
namespace Go.Proofs.YtaanihidheccfaaDoor
open Go.Shelf Go.RowKit
set_option linter.unusedVariables false

theorem below_drewN' {B : Nat} {a w : World} (h : Below B a w) (q : Nat) : Below B a (w.drewN q) := ⟨h.os, h.tape, h.output, h.size, h.block⟩

theorem drop_at (s : ByteArray) (j : Nat) (h : j < s.size) : (str s).drop j = (s[j]'h) :: (str s).drop (j + 1) := by
  have hl : j < (str s).length := by rw [str_len]; exact h
  rw [List.drop_eq_getElem_cons hl]
  congr 1

theorem f24 (s t : ByteArray) (w : World) : Calls Tryd.prog 24 #[.string s, .string t] w fun en w' => en = .returned (.int .i64 (Lib.compareBytes (str s) (str t))) ∧ w' = w := by
  have H60 := Lib.hid (Tryd.strings_Compare s t w)
  unfold str
  generalize Lib.compareBytes s.data.toList t.data.toList = r at *
  go_enter Tryd.func24, Tryd.ntmps24
  go_wp2_with (go_at_call 60; refine H60.out.mono ?_; rintro en w2 ⟨rfl, rfl⟩)
  go_ret
  exact ⟨rfl, rfl⟩

theorem cmp_lt {a b : UInt8} {l m : List UInt8} (h : a.toNat < b.toNat) : Lib.compareBytes (a :: l) (b :: m) = -1 := by
  unfold Lib.compareBytes
  rw [if_pos (by rw [UInt8.lt_iff_toNat_lt]; exact h)]
theorem cmp_gt {a b : UInt8} {l m : List UInt8} (h : b.toNat < a.toNat) : Lib.compareBytes (a :: l) (b :: m) = 1 := by
  unfold Lib.compareBytes
  rw [if_neg (by rw [UInt8.lt_iff_toNat_lt]; omega), if_pos (by rw [UInt8.lt_iff_toNat_lt]; exact h)]
theorem cmp_eq {a b : UInt8} {l m : List UInt8} (h : a.toNat = b.toNat) : Lib.compareBytes (a :: l) (b :: m) = Lib.compareBytes l m := by
  conv => lhs; unfold Lib.compareBytes
  rw [if_neg (by rw [UInt8.lt_iff_toNat_lt]; omega), if_neg (by rw [UInt8.lt_iff_toNat_lt]; omega)]

theorem f25 (s t : ByteArray) (hs : s.size ≤ 140737488355328) (ht : t.size ≤ 140737488355328) (w : World) : Calls Tryd.prog 25 #[.string s, .string t] w fun en w' => en = .returned (.int .i64 (Lib.compareBytes (str s) (str t))) ∧ Below w.heap.size w w' := by
  generalize hR : Lib.compareBytes (str s) (str t) = R
  have HR := Lib.hid hR; clear hR
  go_enter Tryd.func25, Tryd.ntmps25
  go_wp2_with fail
  go_loopw [5] (fun i wr => ∃ j : Nat, j ≤ s.size ∧ j ≤ t.size ∧ i = .int .i64 j ∧ Hid (Lib.compareBytes ((str s).drop j) ((str t).drop j) = R) ∧ Hid (Below w.heap.size w wr)) (fun i _ => s.size - (intOf i).toNat)
  case atStart => exact ⟨0, Nat.zero_le _, Nat.zero_le _, rfl, HR, Lib.hid (Below.refl _ _)⟩
  case round =>
    obtain ⟨j, hj, hj2, rfl, HC, HB⟩ := hrel
    by_cases hl1 : j < s.size
    · by_cases hl2 : j < t.size
      · have HD : Hid (Lib.compareBytes ((s[j]'hl1) :: (str s).drop (j + 1)) ((t[j]'hl2) :: (str t).drop (j + 1)) = R) := Lib.hid (by rw [← drop_at s j hl1, ← drop_at t j hl2]; exact HC.out)
        rcases Nat.lt_trichotomy (s[j]'hl1).toNat (t[j]'hl2).toNat with hc | hc | hc
        · have HE : Hid (-1 = R) := Lib.hid (by rw [← HD.out]; exact (cmp_lt hc).symm)
          clear HC HD HR
          go_wp2_with fail
          go_quiet (fail)
          go_wp2_with fail
          go_ret
          rw [← HE.out]
          exact ⟨rfl, below_drewN' HB.out _⟩
        · have HE : Hid (Lib.compareBytes ((str s).drop (j + 1)) ((str t).drop (j + 1)) = R) := Lib.hid (by rw [← HD.out]; exact (cmp_eq hc).symm)
          have hd1 : decide ((s[j]'hl1).toNat < (t[j]'hl2).toNat) = false := by simp; omega
          have hd2 : decide ((t[j]'hl2).toNat < (s[j]'hl1).toNat) = false := by simp; omega
          clear HC HD HR hc
          go_wp2_with fail
          go_quiet (fail)
          go_wp2_with fail
          go_quiet (fail)
          go_wp2_with fail
          go_roundw
          case rel => exact ⟨j + 1, by omega, by omega, by go_num, HE, Lib.hid (below_drewN' HB.out _)⟩
          case measure => simp [intOf]; omega
        · have HE : Hid (1 = R) := Lib.hid (by rw [← HD.out]; exact (cmp_gt hc).symm)
          have hd1 : decide ((s[j]'hl1).toNat < (t[j]'hl2).toNat) = false := by simp; omega
          clear HC HD HR
          go_wp2_with fail
          go_quiet (fail)
          go_wp2_with fail
          go_quiet (fail)
          go_wp2_with fail
          go_ret
          rw [← HE.out]
          exact ⟨rfl, below_drewN' (below_drewN' HB.out _) _⟩
      · obtain rfl : j = t.size := by omega
        have HE : Hid (1 = R) := Lib.hid (by
          rw [← HC.out, drop_at s t.size hl1, show (str t).drop t.size = [] from List.drop_eq_nil_of_le (by rw [str_len]; exact Nat.le_refl _)]
          rfl)
        clear HC HR
        go_wp2_with fail
        go_ret
        rw [← HE.out]
        exact ⟨rfl, HB.out⟩
    · have hse : j = s.size := by omega
      by_cases hl2 : j < t.size
      · have HE : Hid (-1 = R) := Lib.hid (by
          rw [← HC.out, drop_at t j hl2, show (str s).drop j = [] from List.drop_eq_nil_of_le (by rw [str_len]; omega)]
          rfl)
        have hst : s.size < t.size := by omega
        clear HC HR
        go_wp2_with fail
        go_ret
        rw [← HE.out]
        exact ⟨rfl, HB.out⟩
      · have HE : Hid (0 = R) := Lib.hid (by
          rw [← HC.out, show (str s).drop j = [] from List.drop_eq_nil_of_le (by rw [str_len]; omega), show (str t).drop j = [] from List.drop_eq_nil_of_le (by rw [str_len]; omega)]
          rfl)
        have hst : ¬ s.size < t.size := by omega
        have hst2 : ¬ t.size < s.size := by omega
        clear HC HR hse
        go_wp2_with fail
        go_ret
        rw [← HE.out]
        exact ⟨rfl, HB.out⟩

/-! ### Tidy -/

/-- Away with the bytes of a set, at the front and behind. -/
def frontL (set l : List UInt8) : List UInt8 := l.dropWhile fun b => decide (b ∈ set)
def tidyL (set l : List UInt8) : List UInt8 := (frontL set (frontL set l).reverse).reverse

theorem indexByte_mem : ∀ (l : List UInt8) (c : UInt8), (c ∈ l → 0 ≤ Lib.indexByte l c) ∧ (c ∉ l → Lib.indexByte l c = -1)
  | [], c => ⟨fun h => by simp at h, fun _ => rfl⟩
  | b :: l, c => by
    have ih := indexByte_mem l c
    unfold Lib.indexByte
    by_cases hb : b = c
    · rw [if_pos (by simp [hb])]
      exact ⟨fun _ => by omega, fun h => absurd (by simp [hb]) h⟩
    · rw [if_neg (by simp [hb])]
      by_cases hm : c ∈ l
      · have h0 := ih.1 hm
        have hn : ¬ (Lib.indexByte l c == -1) = true := by simp; omega
        rw [if_neg hn]
        exact ⟨fun _ => by omega, fun h => absurd (List.mem_cons_of_mem _ hm) h⟩
      · have h0 := ih.2 hm
        rw [if_pos (by simp [h0])]
        exact ⟨fun h => by
          rcases List.mem_cons.1 h with h | h
          · exact absurd h.symm hb
          · exact absurd h hm, fun _ => rfl⟩

theorem f58_yes (s : ByteArray) (c : UInt8) (w : World) (h : c ∈ str s) : Calls Tryd.prog 58 #[.string s, .int .u8 c.toNat] w fun en w' => (∃ r : Int, 0 ≤ r ∧ en = .returned (.int .i64 r)) ∧ w' = w := by
  have h1 := Tryd.strings_IndexByte s c.toNat w
  have e : ((c.toNat : Int)).toNat.toUInt8 = c := by simp
  rw [e] at h1
  exact h1.mono fun _ _ h2 => ⟨⟨_, (indexByte_mem _ c).1 h, h2.1⟩, h2.2⟩
theorem f58_no (s : ByteArray) (c : UInt8) (w : World) (h : c ∉ str s) : Calls Tryd.prog 58 #[.string s, .int .u8 c.toNat] w fun en w' => en = .returned (.int .i64 (-1)) ∧ w' = w := by
  have h1 := Tryd.strings_IndexByte s c.toNat w
  have e : ((c.toNat : Int)).toNat.toUInt8 = c := by simp
  rw [e, show Lib.indexByte s.data.toList c = -1 from (indexByte_mem _ c).2 h] at h1
  exact h1

theorem str_cons (s : ByteArray) (h : 0 < s.size) : str s = (s[0]'h) :: str (s.extract 1 s.size) := by
  rw [str_drop]
  have := drop_at s 0 h
  simpa using this
theorem str_last (s : ByteArray) (h : s.size - 1 < s.size) : (str s).reverse = (s[s.size - 1]'h) :: (str (s.extract 0 (s.size - 1))).reverse := by
  have h1 : str s = (str s).take (s.size - 1) ++ [s[s.size - 1]'h] := by
    have h2 := drop_at s (s.size - 1) h
    rw [show s.size - 1 + 1 = s.size by omega, show (str s).drop s.size = [] from List.drop_eq_nil_of_le (by rw [str_len]; exact Nat.le_refl _)] at h2
    rw [← h2, List.take_append_drop]
  rw [ext_front, str_bs]
  conv => lhs; rw [h1]
  rw [List.reverse_append]
  rfl

theorem front_yes {set l : List UInt8} {b : UInt8} (h : b ∈ set) : frontL set (b :: l) = frontL set l := by
  unfold frontL
  rw [List.dropWhile_cons_of_pos (by simpa using h)]
theorem front_no {set l : List UInt8} {b : UInt8} (h : b ∉ set) : frontL set (b :: l) = b :: l := by
  unfold frontL
  rw [List.dropWhile_cons_of_neg (by simpa using h)]

end Go.Proofs.YtaanihidheccfaaDoor
