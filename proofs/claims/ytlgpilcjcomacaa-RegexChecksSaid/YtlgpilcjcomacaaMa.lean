/-
  The small functions of the program's matcher: isWord, word, stands, step.
-/
import Derived.Test.YtlgpilcjcomacaaHeap
namespace Go.Proofs.Ytlgpilcjcomacaa
open Go.RowKit Rx
set_option linter.unusedVariables false

theorem ret_bool {a b : Bool} (h : a = b) : Ending.returned (.bool a) = .returned (.bool b) := by rw [h]

set_option maxRecDepth 100000 in
theorem isWord_any (c : UInt8) (w : World) : Calls Try.prog 102 #[.int .u8 c.toNat] w fun e w' => e = .returned (.bool (wordB c.toNat)) ∧ w = w' := by
  go_enter Try.func102, Try.ntmps102
  go_wp2
  all_goals (go_ret; refine ⟨ret_bool ?_, rfl⟩)
  all_goals (rw [Bool.eq_iff_iff]; unfold wordB; simp; omega)

/-- Whether there is a byte of a word at a place, -1 too. -/
def wordI (s : List UInt8) (i : Int) : Bool := decide (0 ≤ i) && wordAt s i.toNat
theorem wordI_at (s : List UInt8) (k : Nat) : wordI s (k : Int) = wordAt s k := by unfold wordI; simp
theorem wordI_pred (s : List UInt8) (k : Nat) : wordI s ((k : Int) - 1) = (decide (0 < k) && wordAt s (k - 1)) := by
  unfold wordI
  rw [show ((k : Int) - 1).toNat = k - 1 by omega, show decide (0 ≤ (k : Int) - 1) = decide (0 < k) from decide_eq_decide.2 (by omega)]

theorem word_any (bm : Nat) (s : ByteArray) (i : Int) (w : World) (hs : s.size ≤ 5000) (h0 : w.cell? ⟨bm, 0, none⟩ = some (.string s)) :
    Calls Try.prog 90 #[.pointer (some ⟨bm, 0, none⟩), .int .i64 i] w fun e w' => e = .returned (.bool (wordI (str s) i)) ∧ w = w' := by
  by_cases h : 0 ≤ i
  · obtain ⟨k, rfl⟩ := Int.eq_ofNat_of_zero_le h
    by_cases hk : k < s.size
    · have hW := Lib.hid (isWord_any (s[k]'hk) w)
      have HB := Lib.hid (byteAt_lt hk)
      go_enter Try.func90, Try.ntmps90
      go_wp2_with (go_at_call 102; refine hW.out.mono ?_; rintro e w' ⟨rfl, rfl⟩)
      go_ret
      refine ⟨ret_bool ?_, rfl⟩
      rw [wordI_at]; unfold wordAt; rw [HB.out]
    · have HB := Lib.hid (byteAt_ge (Nat.le_of_not_lt hk))
      go_enter Try.func90, Try.ntmps90
      go_wp2
      go_ret
      refine ⟨ret_bool ?_, rfl⟩
      rw [wordI_at]; unfold wordAt; rw [HB.out]
  · go_enter Try.func90, Try.ntmps90
    go_wp2
    go_ret
    refine ⟨ret_bool ?_, rfl⟩
    unfold wordI; simp; intro h'; exact absurd h' (by omega)

theorem u8_eq (a : UInt8) (n : Nat) (h : n < 256) : (((a.toNat : Nat) : Int) == (n : Int)) = decide (a.toNat = n) := by
  rw [Bool.eq_iff_iff]; simp; omega

set_option maxRecDepth 100000 in
theorem stands_any (bm k at' : Nat) (s : ByteArray) (w : World) (hk : 1 ≤ k) (hk6 : k ≤ 6) (hs : s.size ≤ 5000) (ha : at' ≤ s.size) (h0 : w.cell? ⟨bm, 0, none⟩ = some (.string s)) :
    Calls Try.prog 68 #[.pointer (some ⟨bm, 0, none⟩), .int .i64 k, .int .i64 at'] w fun e w' => e = .returned (.bool (Rx.stands (str s) k at')) ∧ w = w' := by
  have HW1 := Lib.hid (word_any bm s ((at' : Int) - 1) w hs h0)
  have HW2 := Lib.hid (word_any bm s (at' : Int) w hs h0)
  rw [wordI_pred] at HW1
  rw [wordI_at] at HW2
  obtain rfl | rfl | rfl | rfl | rfl | rfl : k = 1 ∨ k = 2 ∨ k = 3 ∨ k = 4 ∨ k = 5 ∨ k = 6 := by omega
  · by_cases hz : at' = 0
    · subst hz
      go_enter Try.func68, Try.ntmps68
      go_wp2_with fail
      go_ret
      exact ⟨ret_bool (by simp [Rx.stands]), rfl⟩
    · have hb := byteAt_lt (s := s) (i := at' - 1) (by omega)
      have HB := Lib.hid hb; clear hb
      have hlt : at' - 1 < s.size := by omega
      have ht : ((at' : Int) - 1).toNat = at' - 1 := by omega
      have hz' : ((at' : Int) == 0) = false := by simp; omega
      go_enter Try.func68, Try.ntmps68
      go_wp2_with fail
      go_ret
      refine ⟨ret_bool ?_, rfl⟩
      unfold Rx.stands
      rw [HB.out, if_pos rfl, decide_eq_false hz]
      rw [Bool.eq_iff_iff]; simp; omega
  · by_cases hz : at' < s.size
    · have hb := byteAt_lt hz
      have HB := Lib.hid hb; clear hb
      have hz' : ((at' : Int) == (s.size : Int)) = false := by simp; omega
      go_enter Try.func68, Try.ntmps68
      go_wp2_with fail
      go_ret
      refine ⟨ret_bool ?_, rfl⟩
      unfold Rx.stands
      rw [HB.out, if_neg (by decide), if_pos rfl, str_len, decide_eq_false (by omega : ¬ at' = s.size)]
      rw [Bool.eq_iff_iff]; simp; omega
    · obtain rfl : at' = s.size := by omega
      go_enter Try.func68, Try.ntmps68
      go_wp2_with fail
      go_ret
      exact ⟨ret_bool (by simp [Rx.stands, str_len]), rfl⟩
  · go_enter Try.func68, Try.ntmps68
    go_wp2_with fail
    go_ret
    exact ⟨ret_bool (by unfold Rx.stands; rw [if_neg (by decide), if_neg (by decide), if_pos rfl, Bool.eq_iff_iff]; simp), rfl⟩
  · go_enter Try.func68, Try.ntmps68
    go_wp2_with fail
    go_ret
    exact ⟨ret_bool (by unfold Rx.stands; rw [if_neg (by decide), if_neg (by decide), if_neg (by decide), if_pos rfl, str_len, Bool.eq_iff_iff]; simp; omega), rfl⟩
  · go_enter Try.func68, Try.ntmps68
    go_wp2_with fail
    refine HW1.out.mono ?_
    rintro e w' ⟨rfl, rfl⟩
    go_wp2_with fail
    refine HW2.out.mono ?_
    rintro e w' ⟨rfl, rfl⟩
    go_wp2_with fail
    go_ret
    refine ⟨ret_bool ?_, rfl⟩
    unfold Rx.stands
    rfl
  · go_enter Try.func68, Try.ntmps68
    go_wp2_with fail
    refine HW1.out.mono ?_
    rintro e w' ⟨rfl, rfl⟩
    go_wp2_with fail
    refine HW2.out.mono ?_
    rintro e w' ⟨rfl, rfl⟩
    go_wp2_with fail
    go_ret
    refine ⟨ret_bool ?_, rfl⟩
    unfold Rx.stands
    rfl

set_option maxRecDepth 100000 in
theorem step_over (bm B : Nat) (w : World) (h1 : w.cell? ⟨bm, 1, none⟩ = some (.int .i64 B)) (h2 : w.cell? ⟨bm, 2, none⟩ = some (.int .i64 B)) :
    Calls Try.prog 67 #[.pointer (some ⟨bm, 0, none⟩)] w fun e w' => e = .panicked [{ v := .iface 112 (.agg #[]), recovered := false }] ∧ ∃ q, w' = w.drewN q := by
  go_enter Try.func67, Try.ntmps67
  go_wp2_with fail
  go_quiet (fail)
  go_wp2_with fail
  exact ⟨rfl, rfl, _, rfl⟩

set_option maxRecDepth 100000 in
theorem step_on (bm B n : Nat) (w : World) (hn : n < B) (hB : B ≤ 1000000) (h1 : Holds w bm 1 (.int .i64 n)) (h2 : w.cell? ⟨bm, 2, none⟩ = some (.int .i64 B)) :
    Calls Try.prog 67 #[.pointer (some ⟨bm, 0, none⟩)] w fun e w' => e = .returned (.tuple #[]) ∧ ∃ q, w' = (w.drewN q).setCell ⟨bm, 1, none⟩ (.int .i64 ((n + 1 : Nat) : Int)) := by
  obtain ⟨h1, hf⟩ := h1
  have hd : ((n : Int) == (B : Int)) = false := by simp; omega
  go_enter Try.func67, Try.ntmps67
  go_wp2_with fail
  go_quiet (fail)
  go_wp2_with fail
  go_end0
  exact ⟨rfl, _, rfl⟩
end Go.Proofs.Ytlgpilcjcomacaa
