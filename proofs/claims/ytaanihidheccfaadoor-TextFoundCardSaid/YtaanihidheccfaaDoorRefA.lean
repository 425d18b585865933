/-
  The document: Is, bad, within, Compare.
-/
import Derived.Test.YtaanihidheccfaaDoorWalkN
import Derived.Deep.QuietTactic
import Derived.BigQuiet
namespace Go.Proofs.YtaanihidheccfaaDoor
open Go.Shelf Go.RowKit
set_option linter.unusedVariables false

def isN (e : Int) : Bool := decide (0 ≤ e) && decide (e ≤ 2)
theorem f79 (e : Int) (w : World) : Calls Tryd.prog 79 #[.int .i64 e] w fun en w' => en = .returned (.bool (isN e)) ∧ w' = w := by
  by_cases h1 : 0 ≤ e
  · by_cases h2 : e ≤ 2
    · have HE : Hid (isN e = true) := Lib.hid (by simp [isN, h1, h2])
      go_enter Tryd.func79, Tryd.ntmps79
      go_wp2_with fail
      go_ret
      rw [HE.out]; exact ⟨rfl, rfl⟩
    · have HE : Hid (isN e = false) := Lib.hid (by simp [isN, h2])
      go_enter Tryd.func79, Tryd.ntmps79
      go_wp2_with fail
      go_ret
      rw [HE.out]; exact ⟨rfl, rfl⟩
  · have HE : Hid (isN e = false) := Lib.hid (by simp [isN, h1])
    go_enter Tryd.func79, Tryd.ntmps79
    go_wp2_with fail
    go_ret
    rw [HE.out]; exact ⟨rfl, rfl⟩

theorem isN_iff (e : Int) : isN e = true ↔ (e = 0 ∨ e = 1 ∨ e = 2) := by
  unfold isN
  simp
  omega

/-- bad of the document. -/
def badN (e : Int) (xs : List ByteArray) : Bool := !isN e || xs.any longB
theorem badN_ok {e : Int} (he : e = 0 ∨ e = 1 ∨ e = 2) {xs : List ByteArray} (hl : ∀ x ∈ xs, x.size ≤ 100000) : badN e xs = false := by
  unfold badN
  rw [(isN_iff e).2 he]
  simp
  intro x hx
  have := hl x hx
  unfold longB
  simp
  omega
theorem badN_bad {e : Int} {xs : List ByteArray} (h : ¬ (e = 0 ∨ e = 1 ∨ e = 2) ∨ ∃ x ∈ xs, 100000 < x.size) : badN e xs = true := by
  unfold badN
  rcases h with h | ⟨x, hx, h⟩
  · cases hb : isN e with
    | true => exact absurd ((isN_iff e).1 hb) h
    | false => rfl
  · have : xs.any longB = true := List.any_eq_true.2 ⟨x, hx, by unfold longB; simp; omega⟩
    rw [this]
    simp

theorem f51_not (e : Int) (v : Value) (w : World) (h : isN e = false) : Calls Tryd.prog 51 #[.int .i64 e, v] w fun en w' => en = .returned (.bool true) ∧ w' = w := by
  have H79 := Lib.hid (f79 e w)
  rw [h] at H79
  clear h
  go_enter Tryd.func51, Tryd.ntmps51
  go_wp2_with (go_at_call 79; refine H79.out.mono ?_; rintro en w2 ⟨rfl, rfl⟩)
  go_ret
  exact ⟨rfl, rfl⟩

theorem f51 (e : Int) (bk o c : Nat) (xs : List ByteArray) (w : World) (hcells : ∀ (j : Nat) x, xs[j]? = some x → w.cell? ⟨bk, o + j, none⟩ = some (.string x)) (hbk : bk < w.heap.size) (hN : xs.length ≤ 140737488355328) (hl : ∀ x ∈ xs, x.size ≤ 140737488355328) : Calls Tryd.prog 51 #[.int .i64 e, .slice (some ⟨bk, o, none⟩) xs.length c] w fun en w' => en = .returned (.bool (badN e xs)) ∧ w' = w := by
  cases hi : isN e with
  | false =>
    have hb : badN e xs = true := by unfold badN; rw [hi]; rfl
    rw [hb]
    exact f51_not e _ w hi
  | true =>
    have H79 := Lib.hid (f79 e w)
    rw [hi] at H79
    have HB : Hid (badN e xs = xs.any longB) := Lib.hid (by unfold badN; rw [hi]; rfl)
    clear hi
    have HC := Lib.hid hcells; clear hcells
    have HL := Lib.hid hl; clear hl
    go_enter Tryd.func51, Tryd.ntmps51
    go_wp2_with (go_at_call 79; refine H79.out.mono ?_; rintro en w2 ⟨rfl, rfl⟩)
    go_loop [5] (fun i => ∃ j : Nat, j ≤ xs.length ∧ i = .int .i64 j ∧ Hid (∀ x ∈ xs.take j, longB x = false)) (fun i => xs.length - (intOf i).toNat)
    case atStart => exact ⟨0, Nat.zero_le _, rfl, Lib.hid (by simp)⟩
    case round =>
      obtain ⟨j, hj, rfl, HF⟩ := hrel
      by_cases hlt : j < xs.length
      · obtain ⟨x, hx⟩ : ∃ x, xs[j]? = some x := ⟨xs[j], by simp [hlt]⟩
        have hc := HC.out j x hx
        have hxl := HL.out x (List.mem_of_getElem? hx)
        have HS := Lib.hid (found_step HF.out hx)
        have HM : Hid (x ∈ xs) := Lib.hid (List.mem_of_getElem? hx)
        clear hx
        by_cases hb : 100000 < x.size
        · have HE : Hid (badN e xs = true) := Lib.hid (badN_bad (.inr ⟨x, HM.out, hb⟩))
          go_wp2_with fail
          go_ret
          rw [HE.out]
          exact ⟨rfl, rfl⟩
        · have HLB : Hid (longB x = false) := Lib.hid (by unfold longB; simp; omega)
          go_wp2_with fail
          go_round
          case rel => exact ⟨j + 1, by omega, by go_num, Lib.hid (HS.out.2 HLB.out)⟩
          case measure => simp [intOf]; omega
      · have HE : Hid (badN e xs = false) := Lib.hid (by
          rw [HB.out, List.any_eq_false]
          intro x hx
          have := HF.out x (by rw [List.take_of_length_le (by omega)]; exact hx)
          simp [this])
        go_wp2_with fail
        go_ret
        rw [HE.out]
        exact ⟨rfl, rfl⟩

theorem f51one (e : Int) (s : ByteArray) (hs : s.size ≤ 140737488355328) (w : World) : Calls Tryd.prog 51 #[.int .i64 e, .slice (some ⟨w.heap.size, 0, none⟩) 1 1] (w.alloc (.cells #[.string s] 9)) fun en w' => en = .returned (.bool (badN e [s])) ∧ w' = w.alloc (.cells #[.string s] 9) := by
  have h := f51 e w.heap.size 0 1 [s] (w.alloc (.cells #[.string s] 9)) (by
    intro j x hx
    have hj : j = 0 := by have := (List.getElem?_eq_some_iff.1 hx).1; simp at this; omega
    subst hj
    simp at hx
    subst hx
    simp) (by simp) (by simp) (by intro x hx; simp at hx; subst hx; exact hs)
  exact h
theorem f51two (e : Int) (s t : ByteArray) (hs : s.size ≤ 140737488355328) (ht : t.size ≤ 140737488355328) (w : World) : Calls Tryd.prog 51 #[.int .i64 e, .slice (some ⟨w.heap.size, 0, none⟩) 2 2] (w.alloc (.cells #[.string s, .string t] 9)) fun en w' => en = .returned (.bool (badN e [s, t])) ∧ w' = w.alloc (.cells #[.string s, .string t] 9) := by
  have h := f51 e w.heap.size 0 2 [s, t] (w.alloc (.cells #[.string s, .string t] 9)) (by
    intro j x hx
    have hj : j = 0 ∨ j = 1 := by have := (List.getElem?_eq_some_iff.1 hx).1; simp at this; omega
    rcases hj with rfl | rfl
    · simp at hx
      subst hx
      simp
    · simp at hx
      subst hx
      simp) (by simp) (by simp) (by intro x hx; simp at hx; rcases hx with rfl | rfl <;> assumption)
  exact h
/-- bad with no string. -/
theorem f51none (e : Int) (w : World) : Calls Tryd.prog 51 #[.int .i64 e, .slice none 0 0] w fun en w' => en = .returned (.bool (badN e [])) ∧ w' = w := by
  cases hi : isN e with
  | false =>
    have hb : badN e [] = true := by unfold badN; rw [hi]; rfl
    rw [hb]
    exact f51_not e _ w hi
  | true =>
    have H79 := Lib.hid (f79 e w)
    rw [hi] at H79
    have HB : Hid (badN e [] = false) := Lib.hid (by unfold badN; rw [hi]; rfl)
    clear hi
    go_enter Tryd.func51, Tryd.ntmps51
    go_wp2_with (go_at_call 79; refine H79.out.mono ?_; rintro en w2 ⟨rfl, rfl⟩)
    go_loop [5] (fun i => i = .int .i64 0) (fun i => 0)
    case atStart => rfl
    case round =>
      subst hrel
      go_wp2_with fail
      go_ret
      rw [HB.out]
      exact ⟨rfl, rfl⟩

theorem f59 (c : UInt8) (s : ByteArray) (hs : s.size ≤ 140737488355328) (w : World) : Calls Tryd.prog 59 #[.int .u8 c.toNat, .string s] w fun en w' => en = .returned (.bool (decide (c ∈ str s))) ∧ w' = w := by
  go_enter Tryd.func59, Tryd.ntmps59
  go_wp2_with fail
  go_loop [5] (fun i => ∃ j : Nat, j ≤ s.size ∧ i = .int .i64 j ∧ Hid (∀ x ∈ (str s).take j, x ≠ c)) (fun i => s.size - (intOf i).toNat)
  case atStart => exact ⟨0, Nat.zero_le _, rfl, Lib.hid (by simp)⟩
  case round =>
    obtain ⟨j, hj, rfl, HF⟩ := hrel
    by_cases hlt : j < s.size
    · have HX : Hid ((str s)[j]? = some (s[j]'hlt)) := Lib.hid (by
        unfold str
        rw [Array.getElem?_toList]
        exact Array.getElem?_eq_getElem (by exact hlt))
      by_cases hc : (s[j]'hlt) = c
      · have HE : Hid (decide (c ∈ str s) = true) := Lib.hid (by rw [decide_eq_true_eq, ← hc]; exact List.mem_of_getElem? HX.out)
        have hq : ((((s[j]'hlt).toNat : Int)) == (c.toNat : Int)) = true := by rw [hc]; simp
        clear hc
        go_wp2_with fail
        go_ret
        rw [HE.out]
        exact ⟨rfl, rfl⟩
      · have hq : ((((s[j]'hlt).toNat : Int)) == (c.toNat : Int)) = false := by
          simp
          intro h
          exact hc (UInt8.toNat_inj.1 (by omega))
        have HN : Hid (∀ x ∈ (str s).take (j + 1), x ≠ c) := Lib.hid (by
          intro x hx
          rw [List.take_add_one, HX.out] at hx
          simp only [Option.toList, List.mem_append, List.mem_singleton] at hx
          rcases hx with hx | rfl
          · exact HF.out x hx
          · exact hc)
        clear hc
        go_wp2_with fail
        go_round
        case rel => exact ⟨j + 1, by omega, by go_num, HN⟩
        case measure => simp [intOf]; omega
    · have HE : Hid (decide (c ∈ str s) = false) := Lib.hid (by
        rw [decide_eq_false_iff_not]
        intro hm
        exact HF.out c (by rw [List.take_of_length_le (by rw [str_len]; omega)]; exact hm) rfl)
      go_wp2_with fail
      go_ret
      rw [HE.out]
      exact ⟨rfl, rfl⟩

end Go.Proofs.YtaanihidheccfaaDoor
