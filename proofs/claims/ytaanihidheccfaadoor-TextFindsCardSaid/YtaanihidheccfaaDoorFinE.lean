/-
  Index of the document, all cases; the law TextFinds.
-/
import Derived.Test.YtaanihidheccfaaDoorFinD
import Derived.Test.YtaanihidheccfaaDoorCuts
namespace Go.Proofs.YtaanihidheccfaaDoor
open Go.Shelf Go.RowKit
set_option linter.unusedVariables false

set_option maxRecDepth 100000 in
set_option maxHeartbeats 1000000 in
theorem f21_nil0 (e : Int) (he : e = 0 ∨ e = 1 ∨ e = 2) (w : World) : Calls Tryd.prog 21 #[.string ⟨#[]⟩, .string ⟨#[]⟩, .int .i64 e, .int .i64 0] w fun en w' => en = .returned (ansI (0, 0)) ∧ Below w.heap.size w w' := by
  have HG := Lib.hid (f51twow e ⟨#[]⟩ ⟨#[]⟩ (by decide) (by decide) w)
  rw [badN_ok (xs := [⟨#[]⟩, ⟨#[]⟩]) he (by intro x hx; simp at hx; rcases hx with rfl | rfl <;> first | assumption | decide)] at HG
  have hA : Below w.heap.size w (w.alloc (.cells #[.string ⟨#[]⟩, .string ⟨#[]⟩] 9)) := (Below.refl _ _).alloc (Nat.le_refl _) _
  have HP := Lib.hid (f56 e he ⟨#[]⟩ (by decide) (w.alloc (.cells #[.string ⟨#[]⟩, .string ⟨#[]⟩] 9)))
  have HA := Lib.hid hA; clear hA
  unfold PartsPost at HP
  rw [show parts e (str ⟨#[]⟩) = [] from rfl] at HP
  clear he
  go_enter Tryd.func21, Tryd.ntmps21
  go_wp2_with (go_at_call 51; refine HG.out.mono ?_; rintro en w2 ⟨rfl, rfl⟩)
  refine HP.out.mono ?_
  rintro en w3 ⟨v, rfl, ho, hB⟩
  have hz3 := hB.size
  simp only [World.size_alloc] at hz3
  have HB : Hid (Below w.heap.size w w3) := Lib.hid (HA.out.trans (hB.mono (by simp)))
  clear hB
  rcases ho.2 with ⟨rfl, h0⟩ | ⟨g, cap, cur, rfl, hB1, hgg, hcap, hcm, hcs, htk⟩
  all_goals
    clear ho
    go_wp2_with fail
    refine (f57_nil _ _ _).mono ?_
    rintro en w4 ⟨rfl, hB⟩
    have HBE : Hid (Below w.heap.size w w4) := Lib.hid (HB.out.trans (hB.mono (by omega)))
    clear hB
    go_wp2_with fail
    go_loop [11, 12] (fun a k => a = .int .i64 0 ∧ k = .int .i64 0) (fun _ _ => 0)
    case atStart => exact ⟨rfl, rfl⟩
    case round =>
      obtain ⟨rfl, rfl⟩ := hrel
      go_wp2_with fail
      go_ret2
      exact ⟨rfl, HBE.out⟩

set_option maxRecDepth 100000 in
set_option maxHeartbeats 1000000 in
theorem f21_nil1 (e : Int) (he : e = 0 ∨ e = 1 ∨ e = 2) (t : ByteArray) (ht : t.size ≤ 100000) (htp : 0 < t.size) (w : World) : Calls Tryd.prog 21 #[.string ⟨#[]⟩, .string t, .int .i64 e, .int .i64 0] w fun en w' => en = .returned (ansI (0, 3)) ∧ Below w.heap.size w w' := by
  have HG := Lib.hid (f51twow e ⟨#[]⟩ t (by decide) (by omega) w)
  rw [badN_ok (xs := [⟨#[]⟩, t]) he (by intro x hx; simp at hx; rcases hx with rfl | rfl <;> first | assumption | decide)] at HG
  have hA : Below w.heap.size w (w.alloc (.cells #[.string ⟨#[]⟩, .string t] 9)) := (Below.refl _ _).alloc (Nat.le_refl _) _
  have HP := Lib.hid (f56 e he ⟨#[]⟩ (by decide) (w.alloc (.cells #[.string ⟨#[]⟩, .string t] 9)))
  have HA := Lib.hid hA; clear hA
  unfold PartsPost at HP
  rw [show parts e (str ⟨#[]⟩) = [] from rfl] at HP
  clear he
  go_enter Tryd.func21, Tryd.ntmps21
  go_wp2_with (go_at_call 51; refine HG.out.mono ?_; rintro en w2 ⟨rfl, rfl⟩)
  refine HP.out.mono ?_
  rintro en w3 ⟨v, rfl, ho, hB⟩
  have hz3 := hB.size
  simp only [World.size_alloc] at hz3
  have HB : Hid (Below w.heap.size w w3) := Lib.hid (HA.out.trans (hB.mono (by simp)))
  clear hB
  rcases ho.2 with ⟨rfl, h0⟩ | ⟨g, cap, cur, rfl, hB1, hgg, hcap, hcm, hcs, htk⟩
  all_goals
    clear ho
    go_wp2_with fail
    refine (f57_nil _ _ _).mono ?_
    rintro en w4 ⟨rfl, hB⟩
    have HBE : Hid (Below w.heap.size w w4) := Lib.hid (HB.out.trans (hB.mono (by omega)))
    clear hB
    go_wp2_with fail
    have q5 : decide ((t.size : Int) ≤ 0) = false := decide_eq_false (by omega)
    have q9 : ¬ t.size = 0 := by omega
    have q7 : decide (t.size = 0) = false := decide_eq_false q9
    have q8 : ¬ t = ByteArray.empty := fun h => by rw [h] at q9; exact q9 rfl
    have q6 : decide (t = ByteArray.empty) = false := decide_eq_false q8
    go_loop [11, 12] (fun a k => a = .int .i64 0 ∧ (k = .int .i64 0 ∨ k = .int .i64 1)) (fun _ k => 1 - (intOf k).toNat)
    case atStart => exact ⟨rfl, .inl rfl⟩
    case round =>
      obtain ⟨rfl, rfl | rfl⟩ := hrel
      · go_wp2_with fail
        go_round
        case rel => exact ⟨rfl, .inr rfl⟩
        case measure => simp [intOf]
      · go_wp2_with fail
        go_ret2
        exact ⟨rfl, HBE.out⟩


/-- Index, all cases. -/
def idxA (e fr : Int) (s t : ByteArray) : Int × Int := if ¬ (e = 0 ∨ e = 1 ∨ e = 2) ∨ 100000 < s.size ∨ 100000 < t.size then (0, 1) else if fr < 0 ∨ ((parts e (str s)).length : Int) < fr then (0, 1) else idxN (str t) fr 0 (parts e (str s))
theorem f20_all (e fr : Int) (s t : ByteArray) (hs : s.size ≤ 9223372036854775807) (ht : t.size ≤ 9223372036854775807) (w : World) (hT : Lib.Utf8Tabs 0 1 w) (h2 : 2 ≤ w.heap.size) : Calls Tryd.prog 20 #[.string s, .string t, .int .i64 e, .int .i64 fr] w fun en w' => en = .returned (ansI (idxA e fr s t)) ∧ Below w.heap.size w w' := by
  unfold idxA
  by_cases h : ¬ (e = 0 ∨ e = 1 ∨ e = 2) ∨ 100000 < s.size ∨ 100000 < t.size
  · rw [if_pos h]; exact f20_bad e fr s t hs ht h w
  · have he : e = 0 ∨ e = 1 ∨ e = 2 := Classical.byContradiction fun he => h (.inl he)
    rw [if_neg h]
    by_cases hf : fr < 0 ∨ ((parts e (str s)).length : Int) < fr
    · rw [if_pos hf]; exact f20_out e he s t (by omega) (by omega) fr hf w hT h2
    · rw [if_neg hf]; exact f20 e he s t (by omega) (by omega) fr (by omega) (by omega) w hT h2
theorem f21_all (e fr : Int) (s t : ByteArray) (hs : s.size ≤ 9223372036854775807) (ht : t.size ≤ 9223372036854775807) (w : World) (hT : Lib.Utf8Tabs 0 1 w) (h2 : 2 ≤ w.heap.size) : Calls Tryd.prog 21 #[.string s, .string t, .int .i64 e, .int .i64 fr] w fun en w' => en = .returned (ansI (idxA e fr s t)) ∧ Below w.heap.size w w' := by
  unfold idxA
  by_cases h : ¬ (e = 0 ∨ e = 1 ∨ e = 2) ∨ 100000 < s.size ∨ 100000 < t.size
  · rw [if_pos h]; exact f21_bad e fr s t hs ht h w
  · have he : e = 0 ∨ e = 1 ∨ e = 2 := Classical.byContradiction fun he => h (.inl he)
    rw [if_neg h]
    by_cases hf : fr < 0 ∨ ((parts e (str s)).length : Int) < fr
    · rw [if_pos hf]; exact f21_out e he s t (by omega) (by omega) fr hf w hT h2
    · rw [if_neg hf]
      obtain ⟨m, rfl⟩ : ∃ m : Nat, fr = (m : Int) := ⟨fr.toNat, by omega⟩
      by_cases hne : parts e (str s) = []
      · have hz : s.size = 0 := by rw [← str_len, ← parts_join e (str s), hne]; rfl
        obtain rfl := empty_of hz
        rw [hne] at hf ⊢
        obtain rfl : m = 0 := by simp at hf; omega
        by_cases htz : t.size = 0
        · obtain rfl := empty_of htz
          exact f21_nil0 e he w
        · have h1 := f21_nil1 e he t (by omega) (by omega) w
          have h2 : idxN (str t) ((0 : Nat) : Int) 0 [] = (0, 3) := if_neg (fun h => hp_short ⟨#[]⟩ t 0 (by show 0 < _; omega) (Nat.le_refl _) h.2)
          rw [h2]
          exact h1
      · exact f21_some e he s t (by omega) (by omega) m (by omega) hne w

set_option maxRecDepth 100000 in
theorem f4 (s t : ByteArray) (e fr : Int) (w : World) (hs : s.size ≤ 9223372036854775807) (ht : t.size ≤ 9223372036854775807) (he : (Lit.int .i64 e).wf = true) (hi : (Lit.int .i64 fr).wf = true) (hT : Lib.Utf8Tabs 0 1 w) (h2 : 2 ≤ w.heap.size) : Calls Tryd.prog 4 #[.agg #[.string s, .string t, .int .i64 e, .int .i64 fr]] w fun en w' => en = .returned (.bool true) ∧ Below w.heap.size w w' := by
  clear he hi
  have hA : Below w.heap.size w (w.alloc (.cells #[.string s, .string t, .int .i64 e, .int .i64 fr] 32)) := (Below.refl _ _).alloc (Nat.le_refl _) _
  have HT1 := Lib.hid (tabs_below hA h2 hT)
  by_cases hbig : 3000 < s.size
  · have H15 := Lib.hid (f15 _ HT1.out (by simp; omega))
    have HA := Lib.hid hA; clear hA
    clear hT
    go_enter Tryd.func4, Tryd.ntmps4
    go_wp2_with (go_at_call 15; refine H15.out.mono ?_; rintro en w4 ⟨rfl, hB⟩; have HB4 := Lib.hid hB; clear hB)
    go_ret
    exact ⟨rfl, HA.out.trans (HB4.out.mono (by simp))⟩
  · have hs3 : s.size ≤ 3000 := by omega
    have H20 := Lib.hid (f20_all e fr s t hs ht (w.alloc (.cells #[.string s, .string t, .int .i64 e, .int .i64 fr] 32)) HT1.out (by simp; omega))
    have H21 := Lib.hid (fun w hT h2 => f21_all e fr s t hs ht w hT h2)
    unfold ansI at H20 H21
    generalize idxA e fr s t = r at *
    obtain ⟨r1, r2⟩ := r
    simp only at H20 H21
    have HA := Lib.hid hA; clear hA
    clear hT hbig hs
    go_enter Tryd.func4, Tryd.ntmps4
    go_wp2_with fail
    refine H20.out.mono ?_
    rintro en w2 ⟨rfl, hB⟩
    have hz2 := hB.size
    simp only [World.size_alloc] at hz2
    have k0 : w2.cell? ⟨w.heap.size, 0, none⟩ = some (.string s) := (hB.cell (by simp)).trans (by simp)
    have k1 : w2.cell? ⟨w.heap.size, 1, none⟩ = some (.string t) := (hB.cell (by simp)).trans (by simp)
    have k2 : w2.cell? ⟨w.heap.size, 2, none⟩ = some (.int .i64 e) := (hB.cell (by simp)).trans (by simp)
    have k3 : w2.cell? ⟨w.heap.size, 3, none⟩ = some (.int .i64 fr) := (hB.cell (by simp)).trans (by simp)
    have HT2 := Lib.hid (tabs_below hB (by simp; omega) HT1.out)
    have HB2 := Lib.hid hB; clear hB
    go_wp2_with fail
    refine (H21.out w2 HT2.out (by omega)).mono ?_
    rintro en w3 ⟨rfl, hB⟩
    have hz3 := hB.size
    have H15 := Lib.hid (f15 w3 (tabs_below hB (by omega) HT2.out) (by omega))
    have HB3 := Lib.hid hB; clear hB
    go_wp2_with fail
    refine H15.out.mono ?_
    rintro en w6 ⟨rfl, hB⟩
    have HB6 := Lib.hid hB; clear hB
    go_wp2_with fail
    go_ret
    exact ⟨rfl, ((HA.out.trans (HB2.out.mono (by simp))).trans (HB3.out.mono (by omega))).trans (HB6.out.mono (by omega))⟩

end Go.Proofs.YtaanihidheccfaaDoor
