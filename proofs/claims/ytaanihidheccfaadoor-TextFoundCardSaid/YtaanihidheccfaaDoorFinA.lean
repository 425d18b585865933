/-
  The program's door: asked and bad, whatever the lengths (a struct's field is bounded by int alone).
-/
import Derived.Test.YtaanihidheccfaaDoorWalkM
import Derived.Test.YtaanihidheccfaaDoorRefA
namespace Go.Proofs.YtaanihidheccfaaDoor
open Go.Shelf Go.RowKit
set_option linter.unusedVariables false

theorem f71w (s : ByteArray) (hs : s.size ≤ 9223372036854775807) (w : World) : Calls Tryd.prog 71 #[.string s] w fun e w' => e = .returned (.bool (longB s)) ∧ w' = w := by
  go_enter Tryd.func71, Tryd.ntmps71
  go_wp2_with fail
  go_ret
  exact ⟨rfl, rfl⟩

theorem f86w (bk o c : Nat) (xs : List ByteArray) (w : World) (hcells : ∀ (j : Nat) x, xs[j]? = some x → w.cell? ⟨bk, o + j, none⟩ = some (.string x)) (hbk : bk < w.heap.size) (hN : xs.length ≤ 140737488355328) (hl : ∀ x ∈ xs, x.size ≤ 9223372036854775807) : Calls Tryd.prog 86 #[.slice (some ⟨bk, o, none⟩) xs.length c, .func (.func 71) #[] #[]] w fun e w' => e = .returned (.int .i64 (foundI (xs.findIdx? longB))) ∧ w' = w := by
  go_enter Tryd.func86, Tryd.ntmps86
  go_wp2_with fail
  go_loopw [8] (fun i wr => ∃ j : Nat, j ≤ xs.length ∧ i = .int .i64 j ∧ Hid (∀ x ∈ xs.take j, longB x = false) ∧ wr = w) (fun i _ => xs.length - (intOf i).toNat)
  case atStart => exact ⟨0, Nat.zero_le _, rfl, Lib.hid (by simp), rfl⟩
  case round =>
    obtain ⟨j, hj, rfl, HF, rfl⟩ := hrel
    by_cases hlt : j < xs.length
    · obtain ⟨x, hx⟩ : ∃ x, xs[j]? = some x := ⟨xs[j], by simp [hlt]⟩
      have hc := hcells j x hx
      have H71 := Lib.hid (f71w x (hl x (List.mem_of_getElem? hx)) wr)
      have HS := Lib.hid (found_step HF.out hx)
      clear hcells hl hx
      cases hb : longB x with
      | false =>
        rw [hb] at H71 HS
        go_wp2_with (go_at_call 71; refine H71.out.mono ?_; rintro e w2 ⟨rfl, rfl⟩)
        go_roundw
        case rel => exact ⟨j + 1, by omega, by go_num, HS.out.2 trivial, trivial⟩
        case measure => simp [intOf]; omega
      | true =>
        rw [hb] at H71 HS
        go_wp2_with (go_at_call 71; refine H71.out.mono ?_; rintro e w2 ⟨rfl, rfl⟩)
        go_ret
        rw [HS.out.1 trivial]
        exact ⟨rfl, rfl⟩
    · have HE : Hid (xs.findIdx? longB = none) := by
        show _ = _
        rw [List.findIdx?_eq_none_iff]
        intro x hx
        exact HF.out x (by rw [List.take_of_length_le (by omega)]; exact hx)
      clear hcells hl
      go_wp2_with fail
      go_ret
      rw [HE.out]
      exact ⟨rfl, rfl⟩

theorem f70w (bk o c : Nat) (xs : List ByteArray) (w : World) (hcells : ∀ (j : Nat) x, xs[j]? = some x → w.cell? ⟨bk, o + j, none⟩ = some (.string x)) (hbk : bk < w.heap.size) (hN : xs.length ≤ 140737488355328) (hl : ∀ x ∈ xs, x.size ≤ 9223372036854775807) : Calls Tryd.prog 70 #[.slice (some ⟨bk, o, none⟩) xs.length c, .func (.func 71) #[] #[]] w fun e w' => e = .returned (.bool (xs.any longB)) ∧ w' = w := by
  have H86 := Lib.hid (f86w bk o c xs w hcells hbk hN hl)
  have HA := Lib.hid (found_any xs)
  clear hcells hl
  obtain ⟨v, hv⟩ : ∃ v, foundI (xs.findIdx? longB) = v := ⟨_, rfl⟩
  rw [hv] at H86 HA
  clear hv
  go_enter Tryd.func70, Tryd.ntmps70
  go_wp2_with (go_at_call 86; refine H86.out.mono ?_; rintro e w2 ⟨rfl, rfl⟩)
  go_ret
  rw [← HA.out]
  exact ⟨rfl, rfl⟩

theorem f47w (f : Int) (bk o c : Nat) (xs : List ByteArray) (w : World) (hcells : ∀ (j : Nat) x, xs[j]? = some x → w.cell? ⟨bk, o + j, none⟩ = some (.string x)) (hbk : bk < w.heap.size) (hN : xs.length ≤ 140737488355328) (hl : ∀ x ∈ xs, x.size ≤ 9223372036854775807) : Calls Tryd.prog 47 #[.int .i64 f, .slice (some ⟨bk, o, none⟩) xs.length c] w fun e w' => e = .returned (.int .i64 (askedN f xs)) ∧ w' = w := by
  have H70 := Lib.hid (f70w bk o c xs w hcells hbk hN hl)
  clear hcells hl
  by_cases h1 : f < 0
  · have HE : Hid (askedN f xs = 1) := by show _ = _; simp [askedN, h1]
    go_enter Tryd.func47, Tryd.ntmps47
    go_wp2_with fail
    go_ret
    rw [HE.out]
    exact ⟨rfl, rfl⟩
  · by_cases h2 : 2 < f
    · have HE : Hid (askedN f xs = 1) := by show _ = _; simp [askedN, h2]
      go_enter Tryd.func47, Tryd.ntmps47
      go_wp2_with fail
      go_ret
      rw [HE.out]
      exact ⟨rfl, rfl⟩
    · cases ha : xs.any longB with
      | false =>
        rw [ha] at H70
        have HE : Hid (askedN f xs = 0) := by show _ = _; simp [askedN, h1, h2, ha]
        go_enter Tryd.func47, Tryd.ntmps47
        go_wp2_with (go_at_call 70; refine H70.out.mono ?_; rintro e w2 ⟨rfl, rfl⟩)
        go_ret
        rw [HE.out]
        exact ⟨rfl, rfl⟩
      | true =>
        rw [ha] at H70
        have HE : Hid (askedN f xs = 1) := by show _ = _; simp [askedN, h1, h2, ha]
        go_enter Tryd.func47, Tryd.ntmps47
        go_wp2_with (go_at_call 70; refine H70.out.mono ?_; rintro e w2 ⟨rfl, rfl⟩)
        go_ret
        rw [HE.out]
        exact ⟨rfl, rfl⟩

theorem f47twow (e : Int) (s t : ByteArray) (hs : s.size ≤ 9223372036854775807) (ht : t.size ≤ 9223372036854775807) (w : World) : Calls Tryd.prog 47 #[.int .i64 e, .slice (some ⟨w.heap.size, 0, none⟩) 2 2] (w.alloc (.cells #[.string s, .string t] 9)) fun en w' => en = .returned (.int .i64 (askedN e [s, t])) ∧ w' = w.alloc (.cells #[.string s, .string t] 9) := by
  have h := f47w e w.heap.size 0 2 [s, t] (w.alloc (.cells #[.string s, .string t] 9)) (by
    intro j x hx
    have hj : j = 0 ∨ j = 1 := by have := (List.getElem?_eq_some_iff.1 hx).1; simp at this; omega
    rcases hj with rfl | rfl
    · simp at hx
      subst hx
      simp
    · simp at hx
      subst hx
      simp) (by simp) (by simp) (by intro x hx; simp at hx; rcases hx with rfl | rfl <;> assumption)
  exact h

theorem f51w (e : Int) (bk o c : Nat) (xs : List ByteArray) (w : World) (hcells : ∀ (j : Nat) x, xs[j]? = some x → w.cell? ⟨bk, o + j, none⟩ = some (.string x)) (hbk : bk < w.heap.size) (hN : xs.length ≤ 140737488355328) (hl : ∀ x ∈ xs, x.size ≤ 9223372036854775807) : Calls Tryd.prog 51 #[.int .i64 e, .slice (some ⟨bk, o, none⟩) xs.length c] w fun en w' => en = .returned (.bool (badN e xs)) ∧ w' = w := by
  cases hi : isN e with
  | false =>
    have hb : badN e xs = true := by unfold badN; rw [hi]; rfl
    rw [hb]
    exact f51_not e _ w hi
  | true =>
    have H79 := Lib.hid (f79 e w)
    rw [hi] at H79
    have HB : Hid (badN e xs = xs.any longB) := Lib.hid (by unfold badN; rw [hi]; rfl)
    clear hi
    have HC := Lib.hid hcells; clear hcells
    have HL := Lib.hid hl; clear hl
    go_enter Tryd.func51, Tryd.ntmps51
    go_wp2_with (go_at_call 79; refine H79.out.mono ?_; rintro en w2 ⟨rfl, rfl⟩)
    go_loop [5] (fun i => ∃ j : Nat, j ≤ xs.length ∧ i = .int .i64 j ∧ Hid (∀ x ∈ xs.take j, longB x = false)) (fun i => xs.length - (intOf i).toNat)
    case atStart => exact ⟨0, Nat.zero_le _, rfl, Lib.hid (by simp)⟩
    case round =>
      obtain ⟨j, hj, rfl, HF⟩ := hrel
      by_cases hlt : j < xs.length
      · obtain ⟨x, hx⟩ : ∃ x, xs[j]? = some x := ⟨xs[j], by simp [hlt]⟩
        have hc := HC.out j x hx
        have hxl := HL.out x (List.mem_of_getElem? hx)
        have HS := Lib.hid (found_step HF.out hx)
        have HM : Hid (x ∈ xs) := Lib.hid (List.mem_of_getElem? hx)
        clear hx
        by_cases hb : 100000 < x.size
        · have HE : Hid (badN e xs = true) := Lib.hid (badN_bad (.inr ⟨x, HM.out, hb⟩))
          go_wp2_with fail
          go_ret
          rw [HE.out]
          exact ⟨rfl, rfl⟩
        · have HLB : Hid (longB x = false) := Lib.hid (by unfold longB; simp; omega)
          go_wp2_with fail
          go_round
          case rel => exact ⟨j + 1, by omega, by go_num, Lib.hid (HS.out.2 HLB.out)⟩
          case measure => simp [intOf]; omega
      · have HE : Hid (badN e xs = false) := Lib.hid (by
          rw [HB.out, List.any_eq_false]
          intro x hx
          have := HF.out x (by rw [List.take_of_length_le (by omega)]; exact hx)
          simp [this])
        go_wp2_with fail
        go_ret
        rw [HE.out]
        exact ⟨rfl, rfl⟩

theorem f51twow (e : Int) (s t : ByteArray) (hs : s.size ≤ 9223372036854775807) (ht : t.size ≤ 9223372036854775807) (w : World) : Calls Tryd.prog 51 #[.int .i64 e, .slice (some ⟨w.heap.size, 0, none⟩) 2 2] (w.alloc (.cells #[.string s, .string t] 9)) fun en w' => en = .returned (.bool (badN e [s, t])) ∧ w' = w.alloc (.cells #[.string s, .string t] 9) := by
  have h := f51w e w.heap.size 0 2 [s, t] (w.alloc (.cells #[.string s, .string t] 9)) (by
    intro j x hx
    have hj : j = 0 ∨ j = 1 := by have := (List.getElem?_eq_some_iff.1 hx).1; simp at this; omega
    rcases hj with rfl | rfl
    · simp at hx
      subst hx
      simp
    · simp at hx
      subst hx
      simp) (by simp) (by simp) (by intro x hx; simp at hx; rcases hx with rfl | rfl <;> assumption)
  exact h

end Go.Proofs.YtaanihidheccfaaDoor
