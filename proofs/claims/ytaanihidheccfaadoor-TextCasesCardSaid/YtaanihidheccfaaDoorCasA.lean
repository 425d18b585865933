/-
  The program's door: large, and the two changes of case.
-/
import Derived.Test.YtaanihidheccfaaDoorWalkK
import Derived.Test.YtaanihidheccfaaDoorWalkJ
namespace Go.Proofs.YtaanihidheccfaaDoor
open Go.Shelf Go.RowKit
set_option linter.unusedVariables false

/-- A code is a capital letter. -/
def largeP (c e : Int) : Prop := (65 ≤ c ∧ c ≤ 90) ∨ (e ≠ 0 ∧ 192 ≤ c ∧ c ≤ 222 ∧ c ≠ 215)
instance (c e : Int) : Decidable (largeP c e) := by unfold largeP; infer_instance

theorem f64 (c e : Int) (w : World) : Calls Tryd.prog 64 #[.int .i64 c, .int .i64 e] w fun en w' => en = .returned (.bool (decide (largeP c e))) ∧ w' = w := by
  have hw : (65 ≤ c ∧ c ≤ 90) ∨ ((c < 65 ∨ 90 < c) ∧ e = 0) ∨ (c < 65 ∧ e ≠ 0) ∨ (90 < c ∧ c < 192 ∧ e ≠ 0) ∨ (192 ≤ c ∧ c < 215 ∧ e ≠ 0) ∨ (c = 215 ∧ e ≠ 0) ∨ (215 < c ∧ c ≤ 222 ∧ e ≠ 0) ∨ (222 < c ∧ e ≠ 0) := by omega
  rcases hw with ⟨h1, h2⟩ | ⟨h1 | h1, rfl⟩ | ⟨h1, h2⟩ | ⟨h1, h2, h3⟩ | ⟨h1, h2, h3⟩ | ⟨rfl, h2⟩ | ⟨h1, h2, h3⟩ | ⟨h1, h2⟩
  · have HE : Hid (decide (largeP c e) = true) := Lib.hid (by rw [decide_eq_true_eq]; unfold largeP; omega)
    rw [HE.out]
    go_enter Tryd.func64, Tryd.ntmps64
    go_wp2_with fail
    go_ret
    exact ⟨rfl, rfl⟩
  · have HE : Hid (decide (largeP c 0) = false) := Lib.hid (by rw [decide_eq_false_iff_not]; unfold largeP; omega)
    rw [HE.out]
    go_enter Tryd.func64, Tryd.ntmps64
    go_wp2_with fail
    go_ret
    exact ⟨rfl, rfl⟩
  · have HE : Hid (decide (largeP c 0) = false) := Lib.hid (by rw [decide_eq_false_iff_not]; unfold largeP; omega)
    rw [HE.out]
    have d1 : decide (c ≤ 90) = false := by simp; omega
    go_enter Tryd.func64, Tryd.ntmps64
    go_wp2_with fail
    go_ret
    exact ⟨rfl, rfl⟩
  · have HE : Hid (decide (largeP c e) = false) := Lib.hid (by rw [decide_eq_false_iff_not]; unfold largeP; omega)
    rw [HE.out]
    have q : (e == 0) = false := by simp [h2]
    have q' : (e != 0) = true := by simp [h2]
    have d1 : decide (192 ≤ c) = false := by simp; omega
    clear h2
    go_enter Tryd.func64, Tryd.ntmps64
    go_wp2_with fail
    go_ret
    exact ⟨rfl, rfl⟩
  · have HE : Hid (decide (largeP c e) = false) := Lib.hid (by rw [decide_eq_false_iff_not]; unfold largeP; omega)
    rw [HE.out]
    have q : (e == 0) = false := by simp [h3]
    have q' : (e != 0) = true := by simp [h3]
    have d0 : decide (c ≤ 90) = false := by simp; omega
    have d1 : decide (192 ≤ c) = false := by simp; omega
    clear h3
    go_enter Tryd.func64, Tryd.ntmps64
    go_wp2_with fail
    go_ret
    exact ⟨rfl, rfl⟩
  · have HE : Hid (decide (largeP c e) = true) := Lib.hid (by rw [decide_eq_true_eq]; unfold largeP; omega)
    rw [HE.out]
    have q : (e == 0) = false := by simp [h3]
    have q' : (e != 0) = true := by simp [h3]
    have q2 : (c == 215) = false := by simp; omega
    have q2' : (c != 215) = true := by simp; omega
    have d0 : decide (c ≤ 90) = false := by simp; omega
    clear h3
    go_enter Tryd.func64, Tryd.ntmps64
    go_wp2_with fail
    go_ret
    exact ⟨rfl, rfl⟩
  · have HE : Hid (decide (largeP 215 e) = false) := Lib.hid (by rw [decide_eq_false_iff_not]; unfold largeP; omega)
    rw [HE.out]
    have q : (e == 0) = false := by simp [h2]
    have q' : (e != 0) = true := by simp [h2]
    clear h2
    go_enter Tryd.func64, Tryd.ntmps64
    go_wp2_with fail
    go_ret
    exact ⟨rfl, rfl⟩
  · have HE : Hid (decide (largeP c e) = true) := Lib.hid (by rw [decide_eq_true_eq]; unfold largeP; omega)
    rw [HE.out]
    have q : (e == 0) = false := by simp [h3]
    have q' : (e != 0) = true := by simp [h3]
    have q2 : (c == 215) = false := by simp; omega
    have q2' : (c != 215) = true := by simp; omega
    have d0 : decide (c ≤ 90) = false := by simp; omega
    clear h3
    go_enter Tryd.func64, Tryd.ntmps64
    go_wp2_with fail
    go_ret
    exact ⟨rfl, rfl⟩
  · have HE : Hid (decide (largeP c e) = false) := Lib.hid (by rw [decide_eq_false_iff_not]; unfold largeP; omega)
    rw [HE.out]
    have q : (e == 0) = false := by simp [h2]
    have q' : (e != 0) = true := by simp [h2]
    have d0 : decide (c ≤ 90) = false := by simp; omega
    have d1 : decide (c ≤ 222) = false := by simp; omega
    clear h2
    go_enter Tryd.func64, Tryd.ntmps64
    go_wp2_with fail
    go_ret
    exact ⟨rfl, rfl⟩

/-- The two changes. -/
def upI (e c : Int) : Int := if largeP (c - 32) e then c - 32 else c
def loI (e c : Int) : Int := if largeP c e then c + 32 else c

theorem f63 (e c : Int) (h1 : -1 ≤ c) (h2 : c ≤ 1114111) (bx : Nat) (w : World) (hb : w.cell? ⟨bx, 0, none⟩ = some (.int .i64 e)) : Calls Tryd.prog 63 #[.int .i64 c, .pointer (some ⟨bx, 0, none⟩)] w fun en w' => en = .returned (.int .i64 (upI e c)) ∧ w' = w := by
  have H64 := Lib.hid (f64 (c - 32) e w)
  unfold upI
  by_cases h : largeP (c - 32) e
  · rw [if_pos h]
    rw [decide_eq_true h] at H64
    clear h
    go_enter Tryd.func63, Tryd.ntmps63
    go_wp2_with (go_at_call 64; refine H64.out.mono ?_; rintro en w2 ⟨rfl, rfl⟩)
    go_ret
    exact ⟨rfl, rfl⟩
  · rw [if_neg h]
    rw [decide_eq_false h] at H64
    clear h
    go_enter Tryd.func63, Tryd.ntmps63
    go_wp2_with (go_at_call 64; refine H64.out.mono ?_; rintro en w2 ⟨rfl, rfl⟩)
    go_ret
    exact ⟨rfl, rfl⟩
theorem f66 (e c : Int) (h1 : -1 ≤ c) (h2 : c ≤ 1114111) (bx : Nat) (w : World) (hb : w.cell? ⟨bx, 0, none⟩ = some (.int .i64 e)) : Calls Tryd.prog 66 #[.int .i64 c, .pointer (some ⟨bx, 0, none⟩)] w fun en w' => en = .returned (.int .i64 (loI e c)) ∧ w' = w := by
  have H64 := Lib.hid (f64 c e w)
  unfold loI
  by_cases h : largeP c e
  · rw [if_pos h]
    rw [decide_eq_true h] at H64
    clear h
    go_enter Tryd.func66, Tryd.ntmps66
    go_wp2_with (go_at_call 64; refine H64.out.mono ?_; rintro en w2 ⟨rfl, rfl⟩)
    go_ret
    exact ⟨rfl, rfl⟩
  · rw [if_neg h]
    rw [decide_eq_false h] at H64
    clear h
    go_enter Tryd.func66, Tryd.ntmps66
    go_wp2_with (go_at_call 64; refine H64.out.mono ?_; rintro en w2 ⟨rfl, rfl⟩)
    go_ret
    exact ⟨rfl, rfl⟩

/-- A character, its code changed if the new one can be written. -/
def mapP (e : Int) (ch : Int → Int) (p : List UInt8 × Int) : List UInt8 := if 0 ≤ p.2 ∧ has e (ch p.2) then enc e (ch p.2) else p.1
def mapL (e : Int) (ch : Int → Int) (l : List UInt8) : List UInt8 := ((parts e l).map (mapP e ch)).flatten
theorem mapP_yes {e : Int} {ch : Int → Int} {p : List UInt8 × Int} (h1 : 0 ≤ p.2) (h2 : has e (ch p.2)) : mapP e ch p = enc e (ch p.2) := if_pos ⟨h1, h2⟩
theorem mapP_no {e : Int} {ch : Int → Int} {p : List UInt8 × Int} (h : ¬ (0 ≤ p.2 ∧ has e (ch p.2))) : mapP e ch p = p.1 := if_neg h
theorem cell_drew {w : World} {a : Addr} {v : Value} (h : w.cell? a = some v) : w.drew.cell? a = some v := h
theorem ext_size (t : ByteArray) (n : Nat) (h : n ≤ t.size) : (t.extract 0 n).size = n := by rw [ByteArray.size_extract]; omega

end Go.Proofs.YtaanihidheccfaaDoor
