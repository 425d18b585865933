/-
  Upper and Lower, the program's and the document's; TextCases.
-/
import Derived.Test.YtaanihidheccfaaDoorCasP
import Derived.Test.YtaanihidheccfaaDoorCasB
import Derived.Test.YtaanihidheccfaaDoorCasC
import Derived.Test.YtaanihidheccfaaDoorTurnsL
namespace Go.Proofs.YtaanihidheccfaaDoor
open Go.Shelf Go.RowKit
set_option linter.unusedVariables false

theorem f62_bad63 (e : Int) (s : ByteArray) (hs : s.size ≤ 140737488355328) (h : ¬ (e = 0 ∨ e = 1 ∨ e = 2) ∨ 100000 < s.size) (bx : Nat) (w : World) : Calls Tryd.prog 62 #[.string s, .int .i64 e, .func (.func 63) #[] #[.pointer (some ⟨bx, 0, none⟩)]] w fun en w' => en = .returned (ans ⟨#[]⟩ 1) ∧ Below w.heap.size w w' := by
  have H47 := Lib.hid (f47one e s hs w)
  rw [asked_bad (xs := [s]) (h.imp_right fun h => ⟨s, by simp, h⟩)] at H47
  clear h
  go_enter Tryd.func62, Tryd.ntmps62
  go_wp2_with (go_at_call 47; refine H47.out.mono ?_; rintro en w2 ⟨rfl, rfl⟩)
  go_ret2
  exact ⟨rfl, (Below.refl _ _).alloc (Nat.le_refl _) _⟩
theorem f30_bad (e : Int) (s : ByteArray) (hs : s.size ≤ 140737488355328) (h : ¬ (e = 0 ∨ e = 1 ∨ e = 2) ∨ 100000 < s.size) (w : World) : Calls Tryd.prog 30 #[.string s, .int .i64 e] w fun en w' => en = .returned (ans ⟨#[]⟩ 1) ∧ Below w.heap.size w w' := by
  have H62 := Lib.hid (f62_bad63 e s hs h w.heap.size (w.alloc (.cells #[.int .i64 e] 3)))
  have HA : Hid (Below w.heap.size w (w.alloc (.cells #[.int .i64 e] 3))) := Lib.hid ((Below.refl _ _).alloc (Nat.le_refl _) _)
  unfold ans at H62
  clear h
  go_enter Tryd.func30, Tryd.ntmps30
  go_wp2_with (go_at_call 62; refine H62.out.mono ?_; rintro en w2 ⟨rfl, hB⟩; have HB := Lib.hid hB; clear hB)
  go_ret2
  exact ⟨rfl, HA.out.trans (HB.out.mono (by simp))⟩
theorem f62_up (e : Int) (he : e = 0 ∨ e = 1 ∨ e = 2) (s : ByteArray) (hs : s.size ≤ 100000) (bx : Nat) (w : World) (hbx : bx < w.heap.size) (hbc : w.cell? ⟨bx, 0, none⟩ = some (.int .i64 e)) (hT : Lib.Utf8Tabs 0 1 w) (h2 : 2 ≤ w.heap.size) : Calls Tryd.prog 62 #[.string s, .int .i64 e, .func (.func 63) #[] #[.pointer (some ⟨bx, 0, none⟩)]] w fun en w' => en = .returned (.tuple #[.string (bs (mapL e (upI e) (str s))), .int .i64 0]) ∧ Below w.heap.size w w' := by
  rcases he with rfl | rfl | rfl
  · exact f62_063 s hs bx w hbx hbc hT h2
  · exact f62_163 s hs bx w hbx hbc hT h2
  · exact f62_263 s hs bx w hbx hbc hT h2
theorem f30 (e : Int) (he : e = 0 ∨ e = 1 ∨ e = 2) (s : ByteArray) (hs : s.size ≤ 100000) (w : World) (hT : Lib.Utf8Tabs 0 1 w) (h2 : 2 ≤ w.heap.size) : Calls Tryd.prog 30 #[.string s, .int .i64 e] w fun en w' => en = .returned (ans (bs (mapL e (upI e) (str s))) 0) ∧ Below w.heap.size w w' := by
  have HA : Hid (Below w.heap.size w (w.alloc (.cells #[.int .i64 e] 3))) := Lib.hid ((Below.refl _ _).alloc (Nat.le_refl _) _)
  have H62 := Lib.hid (f62_up e he s hs w.heap.size (w.alloc (.cells #[.int .i64 e] 3)) (by simp) (cell_blk (heap_alloc_new w (.cells #[.int .i64 e] 3)) 0) (tabs_below HA.out h2 hT) (by simp; omega))
  generalize bs (mapL e (upI e) (str s)) = x at *
  clear hT he
  go_enter Tryd.func30, Tryd.ntmps30
  go_wp2_with (go_at_call 62; refine H62.out.mono ?_; rintro en w2 ⟨rfl, hB⟩; have HB := Lib.hid hB; clear hB)
  go_ret2
  exact ⟨rfl, HA.out.trans (HB.out.mono (by simp))⟩
theorem f31_bad (e : Int) (s : ByteArray) (hs : s.size ≤ 140737488355328) (h : ¬ (e = 0 ∨ e = 1 ∨ e = 2) ∨ 100000 < s.size) (w : World) : Calls Tryd.prog 31 #[.string s, .int .i64 e] w fun en w' => en = .returned (ans ⟨#[]⟩ 1) ∧ Below w.heap.size w w' := by
  have H51 := Lib.hid (f51one e s hs w)
  rw [badN_bad (xs := [s]) (h.imp_right fun h => ⟨s, by simp, h⟩)] at H51
  clear h
  go_enter Tryd.func31, Tryd.ntmps31
  go_wp2_with (go_at_call 51; refine H51.out.mono ?_; rintro en w2 ⟨rfl, rfl⟩)
  go_ret2
  exact ⟨rfl, (Below.refl _ _).alloc (Nat.le_refl _) _⟩
theorem f31 (e : Int) (he : e = 0 ∨ e = 1 ∨ e = 2) (s : ByteArray) (hs : s.size ≤ 100000) (w : World) : Calls Tryd.prog 31 #[.string s, .int .i64 e] w fun en w' => en = .returned (ans (bs (mapL e (upI e) (str s))) 0) ∧ Below w.heap.size w w' := by
  have H51 := Lib.hid (f51one e s (by omega) w)
  rw [badN_ok (xs := [s]) he (by intro x hx; simp at hx; subst hx; exact hs)] at H51
  have HA : Hid (Below w.heap.size w (w.alloc (.cells #[.string s] 9))) := Lib.hid ((Below.refl _ _).alloc (Nat.le_refl _) _)
  have H65 := Lib.hid (f65_up e he s hs (w.alloc (.cells #[.string s] 9)))
  generalize bs (mapL e (upI e) (str s)) = x at *
  clear he
  go_enter Tryd.func31, Tryd.ntmps31
  go_wp2_with (first | (go_at_call 51; refine H51.out.mono ?_; rintro en w2 ⟨rfl, rfl⟩) | (go_at_call 65; refine H65.out.mono ?_; rintro en w2 ⟨rfl, hB⟩; have HB := Lib.hid hB; clear hB))
  go_ret2
  exact ⟨rfl, HA.out.trans (HB.out.mono (by simp))⟩

theorem f62_bad66 (e : Int) (s : ByteArray) (hs : s.size ≤ 140737488355328) (h : ¬ (e = 0 ∨ e = 1 ∨ e = 2) ∨ 100000 < s.size) (bx : Nat) (w : World) : Calls Tryd.prog 62 #[.string s, .int .i64 e, .func (.func 66) #[] #[.pointer (some ⟨bx, 0, none⟩)]] w fun en w' => en = .returned (ans ⟨#[]⟩ 1) ∧ Below w.heap.size w w' := by
  have H47 := Lib.hid (f47one e s hs w)
  rw [asked_bad (xs := [s]) (h.imp_right fun h => ⟨s, by simp, h⟩)] at H47
  clear h
  go_enter Tryd.func62, Tryd.ntmps62
  go_wp2_with (go_at_call 47; refine H47.out.mono ?_; rintro en w2 ⟨rfl, rfl⟩)
  go_ret2
  exact ⟨rfl, (Below.refl _ _).alloc (Nat.le_refl _) _⟩
theorem f32_bad (e : Int) (s : ByteArray) (hs : s.size ≤ 140737488355328) (h : ¬ (e = 0 ∨ e = 1 ∨ e = 2) ∨ 100000 < s.size) (w : World) : Calls Tryd.prog 32 #[.string s, .int .i64 e] w fun en w' => en = .returned (ans ⟨#[]⟩ 1) ∧ Below w.heap.size w w' := by
  have H62 := Lib.hid (f62_bad66 e s hs h w.heap.size (w.alloc (.cells #[.int .i64 e] 3)))
  have HA : Hid (Below w.heap.size w (w.alloc (.cells #[.int .i64 e] 3))) := Lib.hid ((Below.refl _ _).alloc (Nat.le_refl _) _)
  unfold ans at H62
  clear h
  go_enter Tryd.func32, Tryd.ntmps32
  go_wp2_with (go_at_call 62; refine H62.out.mono ?_; rintro en w2 ⟨rfl, hB⟩; have HB := Lib.hid hB; clear hB)
  go_ret2
  exact ⟨rfl, HA.out.trans (HB.out.mono (by simp))⟩
theorem f62_lo (e : Int) (he : e = 0 ∨ e = 1 ∨ e = 2) (s : ByteArray) (hs : s.size ≤ 100000) (bx : Nat) (w : World) (hbx : bx < w.heap.size) (hbc : w.cell? ⟨bx, 0, none⟩ = some (.int .i64 e)) (hT : Lib.Utf8Tabs 0 1 w) (h2 : 2 ≤ w.heap.size) : Calls Tryd.prog 62 #[.string s, .int .i64 e, .func (.func 66) #[] #[.pointer (some ⟨bx, 0, none⟩)]] w fun en w' => en = .returned (.tuple #[.string (bs (mapL e (loI e) (str s))), .int .i64 0]) ∧ Below w.heap.size w w' := by
  rcases he with rfl | rfl | rfl
  · exact f62_066 s hs bx w hbx hbc hT h2
  · exact f62_166 s hs bx w hbx hbc hT h2
  · exact f62_266 s hs bx w hbx hbc hT h2
theorem f32 (e : Int) (he : e = 0 ∨ e = 1 ∨ e = 2) (s : ByteArray) (hs : s.size ≤ 100000) (w : World) (hT : Lib.Utf8Tabs 0 1 w) (h2 : 2 ≤ w.heap.size) : Calls Tryd.prog 32 #[.string s, .int .i64 e] w fun en w' => en = .returned (ans (bs (mapL e (loI e) (str s))) 0) ∧ Below w.heap.size w w' := by
  have HA : Hid (Below w.heap.size w (w.alloc (.cells #[.int .i64 e] 3))) := Lib.hid ((Below.refl _ _).alloc (Nat.le_refl _) _)
  have H62 := Lib.hid (f62_lo e he s hs w.heap.size (w.alloc (.cells #[.int .i64 e] 3)) (by simp) (cell_blk (heap_alloc_new w (.cells #[.int .i64 e] 3)) 0) (tabs_below HA.out h2 hT) (by simp; omega))
  generalize bs (mapL e (loI e) (str s)) = x at *
  clear hT he
  go_enter Tryd.func32, Tryd.ntmps32
  go_wp2_with (go_at_call 62; refine H62.out.mono ?_; rintro en w2 ⟨rfl, hB⟩; have HB := Lib.hid hB; clear hB)
  go_ret2
  exact ⟨rfl, HA.out.trans (HB.out.mono (by simp))⟩
theorem f33_bad (e : Int) (s : ByteArray) (hs : s.size ≤ 140737488355328) (h : ¬ (e = 0 ∨ e = 1 ∨ e = 2) ∨ 100000 < s.size) (w : World) : Calls Tryd.prog 33 #[.string s, .int .i64 e] w fun en w' => en = .returned (ans ⟨#[]⟩ 1) ∧ Below w.heap.size w w' := by
  have H51 := Lib.hid (f51one e s hs w)
  rw [badN_bad (xs := [s]) (h.imp_right fun h => ⟨s, by simp, h⟩)] at H51
  clear h
  go_enter Tryd.func33, Tryd.ntmps33
  go_wp2_with (go_at_call 51; refine H51.out.mono ?_; rintro en w2 ⟨rfl, rfl⟩)
  go_ret2
  exact ⟨rfl, (Below.refl _ _).alloc (Nat.le_refl _) _⟩
theorem f33 (e : Int) (he : e = 0 ∨ e = 1 ∨ e = 2) (s : ByteArray) (hs : s.size ≤ 100000) (w : World) : Calls Tryd.prog 33 #[.string s, .int .i64 e] w fun en w' => en = .returned (ans (bs (mapL e (loI e) (str s))) 0) ∧ Below w.heap.size w w' := by
  have H51 := Lib.hid (f51one e s (by omega) w)
  rw [badN_ok (xs := [s]) he (by intro x hx; simp at hx; subst hx; exact hs)] at H51
  have HA : Hid (Below w.heap.size w (w.alloc (.cells #[.string s] 9))) := Lib.hid ((Below.refl _ _).alloc (Nat.le_refl _) _)
  have H65 := Lib.hid (f65_lo e he s hs (w.alloc (.cells #[.string s] 9)))
  generalize bs (mapL e (loI e) (str s)) = x at *
  clear he
  go_enter Tryd.func33, Tryd.ntmps33
  go_wp2_with (first | (go_at_call 51; refine H51.out.mono ?_; rintro en w2 ⟨rfl, rfl⟩) | (go_at_call 65; refine H65.out.mono ?_; rintro en w2 ⟨rfl, hB⟩; have HB := Lib.hid hB; clear hB))
  go_ret2
  exact ⟨rfl, HA.out.trans (HB.out.mono (by simp))⟩

theorem f7_sane (s : ByteArray) (e : Int) (w : World) (hs : s.size ≤ 9223372036854775807) (hbig : 3000 < s.size) (hT : Lib.Utf8Tabs 0 1 w) (h2 : 2 ≤ w.heap.size) : Calls Tryd.prog 7 #[.string s, .int .i64 e] w fun en w' => en = .returned (.bool true) ∧ Below w.heap.size w w' := by
  have H15 := Lib.hid (f15 w hT h2)
  clear hT
  go_enter Tryd.func7, Tryd.ntmps7
  go_wp2_with (go_at_call 15; refine H15.out.mono ?_; rintro en w4 ⟨rfl, hB⟩; have HB4 := Lib.hid hB; clear hB)
  go_ret
  exact ⟨rfl, HB4.out⟩

set_option maxRecDepth 100000 in
set_option maxHeartbeats 1000000 in
theorem f7_no (s a b : ByteArray) (e : Int) (w : World) (hs : s.size ≤ 3000)
    (H30 : Hid (Says 30 #[.string s, .int .i64 e] (.tuple #[.string a, .int .i64 1]))) (H31 : Hid (Says 31 #[.string s, .int .i64 e] (.tuple #[.string a, .int .i64 1])))
    (H32 : Hid (Says 32 #[.string s, .int .i64 e] (.tuple #[.string b, .int .i64 1]))) (H33 : Hid (Says 33 #[.string s, .int .i64 e] (.tuple #[.string b, .int .i64 1])))
    (hT : Lib.Utf8Tabs 0 1 w) (h2 : 2 ≤ w.heap.size) : Calls Tryd.prog 7 #[.string s, .int .i64 e] w fun en w' => en = .returned (.bool true) ∧ Below w.heap.size w w' := by
  have HT := Lib.hid hT; clear hT
  go_enter Tryd.func7, Tryd.ntmps7
  go_wp2_with fail
  refine (H30.out w HT.out h2).mono ?_
  rintro en w1 ⟨rfl, hB⟩
  have HB1 : Hid (Below w.heap.size w w1) := Lib.hid hB
  clear hB
  go_wp2_with fail
  refine (H31.out w1 (tabs_below HB1.out h2 HT.out) (by have := HB1.out.size; omega)).mono ?_
  rintro en w2 ⟨rfl, hB⟩
  have HB2 : Hid (Below w.heap.size w w2) := Lib.hid (HB1.out.trans (hB.mono HB1.out.size))
  clear hB HB1
  go_wp2_with fail
  refine (H32.out w2 (tabs_below HB2.out h2 HT.out) (by have := HB2.out.size; omega)).mono ?_
  rintro en w3 ⟨rfl, hB⟩
  have HB3 : Hid (Below w.heap.size w w3) := Lib.hid (HB2.out.trans (hB.mono HB2.out.size))
  clear hB HB2
  go_wp2_with fail
  refine (H33.out w3 (tabs_below HB3.out h2 HT.out) (by have := HB3.out.size; omega)).mono ?_
  rintro en w4 ⟨rfl, hB⟩
  have HB4 : Hid (Below w.heap.size w w4) := Lib.hid (HB3.out.trans (hB.mono HB3.out.size))
  clear hB HB3
  have H15 := Lib.hid (f15 w4 (tabs_below HB4.out h2 HT.out) (by have := HB4.out.size; omega))
  go_wp2_with (go_at_call 15; refine H15.out.mono ?_; rintro en w9 ⟨rfl, hB⟩; have HB9 := Lib.hid hB; clear hB)
  go_ret
  exact ⟨rfl, HB4.out.trans (HB9.out.mono HB4.out.size)⟩

set_option maxRecDepth 100000 in
set_option maxHeartbeats 1000000 in
theorem f7_yes (s a b : ByteArray) (e : Int) (w : World) (hs : s.size ≤ 3000) (hab : a.size = s.size)
    (H30 : Hid (Says 30 #[.string s, .int .i64 e] (.tuple #[.string a, .int .i64 0]))) (H31 : Hid (Says 31 #[.string s, .int .i64 e] (.tuple #[.string a, .int .i64 0])))
    (H32 : Hid (Says 32 #[.string s, .int .i64 e] (.tuple #[.string b, .int .i64 0]))) (H33 : Hid (Says 33 #[.string s, .int .i64 e] (.tuple #[.string b, .int .i64 0])))
    (HUL : Hid (Says 30 #[.string b, .int .i64 e] (.tuple #[.string a, .int .i64 0]))) (HLU : Hid (Says 32 #[.string a, .int .i64 e] (.tuple #[.string b, .int .i64 0])))
    (hT : Lib.Utf8Tabs 0 1 w) (h2 : 2 ≤ w.heap.size) : Calls Tryd.prog 7 #[.string s, .int .i64 e] w fun en w' => en = .returned (.bool true) ∧ Below w.heap.size w w' := by
  have HT := Lib.hid hT; clear hT
  have q1 : ((a.size : Int) != (s.size : Int)) = false := by simp; omega
  have q2 : (a.size != s.size) = false := by simp; omega
  go_enter Tryd.func7, Tryd.ntmps7
  go_wp2_with fail
  refine (H30.out w HT.out h2).mono ?_
  rintro en w1 ⟨rfl, hB⟩
  have HB1 : Hid (Below w.heap.size w w1) := Lib.hid hB
  clear hB
  go_wp2_with fail
  refine (H31.out w1 (tabs_below HB1.out h2 HT.out) (by have := HB1.out.size; omega)).mono ?_
  rintro en w2 ⟨rfl, hB⟩
  have HB2 : Hid (Below w.heap.size w w2) := Lib.hid (HB1.out.trans (hB.mono HB1.out.size))
  clear hB HB1
  go_wp2_with fail
  refine (H32.out w2 (tabs_below HB2.out h2 HT.out) (by have := HB2.out.size; omega)).mono ?_
  rintro en w3 ⟨rfl, hB⟩
  have HB3 : Hid (Below w.heap.size w w3) := Lib.hid (HB2.out.trans (hB.mono HB2.out.size))
  clear hB HB2
  go_wp2_with fail
  refine (H33.out w3 (tabs_below HB3.out h2 HT.out) (by have := HB3.out.size; omega)).mono ?_
  rintro en w4 ⟨rfl, hB⟩
  have HB4 : Hid (Below w.heap.size w w4) := Lib.hid (HB3.out.trans (hB.mono HB3.out.size))
  clear hB HB3
  go_wp2_with fail
  refine (HUL.out w4 (tabs_below HB4.out h2 HT.out) (by have := HB4.out.size; omega)).mono ?_
  rintro en w5 ⟨rfl, hB⟩
  have HB5 : Hid (Below w.heap.size w w5) := Lib.hid (HB4.out.trans (hB.mono HB4.out.size))
  clear hB HB4
  go_wp2_with fail
  refine (HLU.out w5 (tabs_below HB5.out h2 HT.out) (by have := HB5.out.size; omega)).mono ?_
  rintro en w6 ⟨rfl, hB⟩
  have HB6 : Hid (Below w.heap.size w w6) := Lib.hid (HB5.out.trans (hB.mono HB5.out.size))
  clear hB HB5
  have H15 := Lib.hid (f15 w6 (tabs_below HB6.out h2 HT.out) (by have := HB6.out.size; omega))
  go_wp2_with (go_at_call 15; refine H15.out.mono ?_; rintro en w9 ⟨rfl, hB⟩; have HB9 := Lib.hid hB; clear hB)
  go_ret
  exact ⟨rfl, HB6.out.trans (HB9.out.mono HB6.out.size)⟩

theorem f7 (s : ByteArray) (e : Int) (w : World) (hs : s.size ≤ 9223372036854775807) (he : (Lit.int .i64 e).wf = true) (hT : Lib.Utf8Tabs 0 1 w) (h2 : 2 ≤ w.heap.size) : Calls Tryd.prog 7 #[.string s, .int .i64 e] w fun en w' => en = .returned (.bool true) ∧ Below w.heap.size w w' := by
  by_cases hbig : 3000 < s.size
  · exact f7_sane s e w hs hbig hT h2
  · by_cases hee : e = 0 ∨ e = 1 ∨ e = 2
    · have hsu : (bs (mapL e (upI e) (str s))).size = s.size := by rw [← str_len, str_bs, mapL_len hee (chg_up hee), str_len]
      have hsl : (bs (mapL e (loI e) (str s))).size = s.size := by rw [← str_len, str_bs, mapL_len hee (chg_lo hee), str_len]
      refine f7_yes s (bs (mapL e (upI e) (str s))) (bs (mapL e (loI e) (str s))) e w (by omega) hsu (Lib.hid fun w hT h2 => f30 e hee s (by omega) w hT h2) (Lib.hid fun w hT h2 => f31 e hee s (by omega) w) (Lib.hid fun w hT h2 => f32 e hee s (by omega) w hT h2) (Lib.hid fun w hT h2 => f33 e hee s (by omega) w) (Lib.hid fun w hT h2 => ?_) (Lib.hid fun w hT h2 => ?_) hT h2
      · have h := f30 e hee (bs (mapL e (loI e) (str s))) (by omega) w hT h2
        rw [str_bs, twice hee (chg_up hee) (chg_lo hee) (up_lo e)] at h
        exact h
      · have h := f32 e hee (bs (mapL e (upI e) (str s))) (by omega) w hT h2
        rw [str_bs, twice hee (chg_lo hee) (chg_up hee) (lo_up e)] at h
        exact h
    · exact f7_no s ⟨#[]⟩ ⟨#[]⟩ e w (by omega) (Lib.hid fun w hT h2 => f30_bad e s (by omega) (.inl hee) w) (Lib.hid fun w hT h2 => f31_bad e s (by omega) (.inl hee) w) (Lib.hid fun w hT h2 => f32_bad e s (by omega) (.inl hee) w) (Lib.hid fun w hT h2 => f33_bad e s (by omega) (.inl hee) w) hT h2

end Go.Proofs.YtaanihidheccfaaDoor
