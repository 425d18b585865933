/-
  The program's door: asked, and what it stands on.
-/
import Derived.Test.YtaanihidheccfaaDoorLayA
import Derived.Lib.Hide
namespace Go.Proofs.YtaanihidheccfaaDoor
open Go.Shelf Go.RowKit
set_option linter.unusedVariables false

def longB (s : ByteArray) : Bool := decide (((100000 : Nat) : Int) < (s.size : Int))

theorem f71 (s : ByteArray) (hs : s.size ≤ 140737488355328) (w : World) : Calls Tryd.prog 71 #[.string s] w fun e w' => e = .returned (.bool (longB s)) ∧ w' = w := by
  go_enter Tryd.func71, Tryd.ntmps71
  go_wp2_with fail
  go_ret
  exact ⟨rfl, rfl⟩

def foundI : Option Nat → Int
  | some i => (i : Int)
  | none => -1

theorem found_step {xs : List ByteArray} {j : Nat} (h : ∀ x ∈ xs.take j, longB x = false) {x : ByteArray} (hx : xs[j]? = some x) : (longB x = true → foundI (xs.findIdx? longB) = (j : Int)) ∧ (longB x = false → ∀ y ∈ xs.take (j + 1), longB y = false) := by
  obtain ⟨hj, hxe⟩ := List.getElem?_eq_some_iff.1 hx
  constructor
  · intro hl
    have e : xs.findIdx? longB = some j := by
      rw [List.findIdx?_eq_some_iff_getElem]
      refine ⟨hj, by rw [hxe]; exact hl, fun i hi => ?_⟩
      rw [h _ (List.mem_take_iff_getElem.2 ⟨i, by omega, rfl⟩)]
      simp
    rw [e]; rfl
  · intro hl y hy
    rw [List.take_add_one, hx] at hy
    simp only [Option.toList, List.mem_append, List.mem_singleton] at hy
    rcases hy with hy | rfl
    · exact h y hy
    · exact hl

theorem f86 (bk o c : Nat) (xs : List ByteArray) (w : World) (hcells : ∀ (j : Nat) x, xs[j]? = some x → w.cell? ⟨bk, o + j, none⟩ = some (.string x)) (hbk : bk < w.heap.size) (hN : xs.length ≤ 140737488355328) (hl : ∀ x ∈ xs, x.size ≤ 140737488355328) : Calls Tryd.prog 86 #[.slice (some ⟨bk, o, none⟩) xs.length c, .func (.func 71) #[] #[]] w fun e w' => e = .returned (.int .i64 (foundI (xs.findIdx? longB))) ∧ w' = w := by
  go_enter Tryd.func86, Tryd.ntmps86
  go_wp2_with fail
  go_loopw [8] (fun i wr => ∃ j : Nat, j ≤ xs.length ∧ i = .int .i64 j ∧ Hid (∀ x ∈ xs.take j, longB x = false) ∧ wr = w) (fun i _ => xs.length - (intOf i).toNat)
  case atStart => exact ⟨0, Nat.zero_le _, rfl, Lib.hid (by simp), rfl⟩
  case round =>
    obtain ⟨j, hj, rfl, HF, rfl⟩ := hrel
    by_cases hlt : j < xs.length
    · obtain ⟨x, hx⟩ : ∃ x, xs[j]? = some x := ⟨xs[j], by simp [hlt]⟩
      have hc := hcells j x hx
      have H71 := Lib.hid (f71 x (hl x (List.mem_of_getElem? hx)) wr)
      have HS := Lib.hid (found_step HF.out hx)
      clear hcells hl hx
      cases hb : longB x with
      | false =>
        rw [hb] at H71 HS
        go_wp2_with (go_at_call 71; refine H71.out.mono ?_; rintro e w2 ⟨rfl, rfl⟩)
        go_roundw
        case rel => exact ⟨j + 1, by omega, by go_num, HS.out.2 trivial, trivial⟩
        case measure => simp [intOf]; omega
      | true =>
        rw [hb] at H71 HS
        go_wp2_with (go_at_call 71; refine H71.out.mono ?_; rintro e w2 ⟨rfl, rfl⟩)
        go_ret
        rw [HS.out.1 trivial]
        exact ⟨rfl, rfl⟩
    · have HE : Hid (xs.findIdx? longB = none) := by
        show _ = _
        rw [List.findIdx?_eq_none_iff]
        intro x hx
        exact HF.out x (by rw [List.take_of_length_le (by omega)]; exact hx)
      clear hcells hl
      go_wp2_with fail
      go_ret
      rw [HE.out]
      exact ⟨rfl, rfl⟩

theorem found_any (xs : List ByteArray) : decide (0 ≤ foundI (xs.findIdx? longB)) = xs.any longB := by
  cases h : xs.findIdx? longB with
  | none =>
    rw [List.findIdx?_eq_none_iff] at h
    have : xs.any longB = false := by
      rw [List.any_eq_false]
      intro x hx
      simp [h x hx]
    rw [this]; rfl
  | some i =>
    rw [List.findIdx?_eq_some_iff_getElem] at h
    obtain ⟨hi, hp, -⟩ := h
    have : xs.any longB = true := List.any_eq_true.2 ⟨xs[i], List.getElem_mem hi, hp⟩
    rw [this]
    show decide (0 ≤ (i : Int)) = true
    simp

theorem f70 (bk o c : Nat) (xs : List ByteArray) (w : World) (hcells : ∀ (j : Nat) x, xs[j]? = some x → w.cell? ⟨bk, o + j, none⟩ = some (.string x)) (hbk : bk < w.heap.size) (hN : xs.length ≤ 140737488355328) (hl : ∀ x ∈ xs, x.size ≤ 140737488355328) : Calls Tryd.prog 70 #[.slice (some ⟨bk, o, none⟩) xs.length c, .func (.func 71) #[] #[]] w fun e w' => e = .returned (.bool (xs.any longB)) ∧ w' = w := by
  have H86 := Lib.hid (f86 bk o c xs w hcells hbk hN hl)
  have HA := Lib.hid (found_any xs)
  clear hcells hl
  obtain ⟨v, hv⟩ : ∃ v, foundI (xs.findIdx? longB) = v := ⟨_, rfl⟩
  rw [hv] at H86 HA
  clear hv
  go_enter Tryd.func70, Tryd.ntmps70
  go_wp2_with (go_at_call 86; refine H86.out.mono ?_; rintro e w2 ⟨rfl, rfl⟩)
  go_ret
  rw [← HA.out]
  exact ⟨rfl, rfl⟩

def askedN (f : Int) (xs : List ByteArray) : Int := if f < 0 ∨ 2 < f ∨ xs.any longB = true then 1 else 0

theorem f47 (f : Int) (bk o c : Nat) (xs : List ByteArray) (w : World) (hcells : ∀ (j : Nat) x, xs[j]? = some x → w.cell? ⟨bk, o + j, none⟩ = some (.string x)) (hbk : bk < w.heap.size) (hN : xs.length ≤ 140737488355328) (hl : ∀ x ∈ xs, x.size ≤ 140737488355328) : Calls Tryd.prog 47 #[.int .i64 f, .slice (some ⟨bk, o, none⟩) xs.length c] w fun e w' => e = .returned (.int .i64 (askedN f xs)) ∧ w' = w := by
  have H70 := Lib.hid (f70 bk o c xs w hcells hbk hN hl)
  clear hcells hl
  by_cases h1 : f < 0
  · have HE : Hid (askedN f xs = 1) := by show _ = _; simp [askedN, h1]
    go_enter Tryd.func47, Tryd.ntmps47
    go_wp2_with fail
    go_ret
    rw [HE.out]
    exact ⟨rfl, rfl⟩
  · by_cases h2 : 2 < f
    · have HE : Hid (askedN f xs = 1) := by show _ = _; simp [askedN, h2]
      go_enter Tryd.func47, Tryd.ntmps47
      go_wp2_with fail
      go_ret
      rw [HE.out]
      exact ⟨rfl, rfl⟩
    · cases ha : xs.any longB with
      | false =>
        rw [ha] at H70
        have HE : Hid (askedN f xs = 0) := by show _ = _; simp [askedN, h1, h2, ha]
        go_enter Tryd.func47, Tryd.ntmps47
        go_wp2_with (go_at_call 70; refine H70.out.mono ?_; rintro e w2 ⟨rfl, rfl⟩)
        go_ret
        rw [HE.out]
        exact ⟨rfl, rfl⟩
      | true =>
        rw [ha] at H70
        have HE : Hid (askedN f xs = 1) := by show _ = _; simp [askedN, h1, h2, ha]
        go_enter Tryd.func47, Tryd.ntmps47
        go_wp2_with (go_at_call 70; refine H70.out.mono ?_; rintro e w2 ⟨rfl, rfl⟩)
        go_ret
        rw [HE.out]
        exact ⟨rfl, rfl⟩

end Go.Proofs.YtaanihidheccfaaDoor
