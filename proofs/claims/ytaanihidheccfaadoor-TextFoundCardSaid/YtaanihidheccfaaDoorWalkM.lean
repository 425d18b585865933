/-
  The program's door: Scrub, Length, At.
-/
import Derived.Test.YtaanihidheccfaaDoorWalkJ
import Derived.Test.YtaanihidheccfaaDoorWalkL
namespace Go.Proofs.YtaanihidheccfaaDoor
open Go.Shelf Go.RowKit
set_option linter.unusedVariables false

/-- asked with two strings. -/
theorem f47two (e : Int) (s t : ByteArray) (hs : s.size ≤ 140737488355328) (ht : t.size ≤ 140737488355328) (w : World) : Calls Tryd.prog 47 #[.int .i64 e, .slice (some ⟨w.heap.size, 0, none⟩) 2 2] (w.alloc (.cells #[.string s, .string t] 9)) fun en w' => en = .returned (.int .i64 (askedN e [s, t])) ∧ w' = w.alloc (.cells #[.string s, .string t] 9) := by
  have h := f47 e w.heap.size 0 2 [s, t] (w.alloc (.cells #[.string s, .string t] 9)) (by
    intro j x hx
    have hj : j = 0 ∨ j = 1 := by have := (List.getElem?_eq_some_iff.1 hx).1; simp at this; omega
    rcases hj with rfl | rfl
    · simp at hx
      subst hx
      simp
    · simp at hx
      subst hx
      simp) (by simp) (by simp) (by intro x hx; simp at hx; rcases hx with rfl | rfl <;> assumption)
  exact h

theorem f34_bad (s t : ByteArray) (hs : s.size ≤ 140737488355328) (ht : t.size ≤ 140737488355328) (h : 100000 < s.size ∨ 100000 < t.size) (w : World) : Calls Tryd.prog 34 #[.string s, .string t] w fun en w' => en = .returned (.tuple #[.string ⟨#[]⟩, .int .i64 1]) ∧ Below w.heap.size w w' := by
  have H47 := Lib.hid (f47two 2 s t hs ht w)
  rw [asked_bad (xs := [s, t]) (.inr (h.elim (fun h => ⟨s, by simp, h⟩) (fun h => ⟨t, by simp, h⟩)))] at H47
  clear h
  go_enter Tryd.func34, Tryd.ntmps34
  go_wp2_with (go_at_call 47; refine H47.out.mono ?_; rintro en w2 ⟨rfl, rfl⟩)
  go_ret2
  exact ⟨rfl, (Below.refl _ _).alloc (Nat.le_refl _) _⟩

theorem f34 (s t : ByteArray) (hs : s.size ≤ 100000) (ht : t.size ≤ 100000) (w : World) (hT : Lib.Utf8Tabs 0 1 w) (h2 : 2 ≤ w.heap.size) : Calls Tryd.prog 34 #[.string s, .string t] w fun en w' => en = .returned (.tuple #[.string (bs (lossyL 2 2 (str t) (str s))), .int .i64 0]) ∧ Below w.heap.size w w' := by
  have H47 := Lib.hid (f47two 2 s t (by omega) (by omega) w)
  rw [asked_ok (xs := [s, t]) (by decide) (by intro x hx; simp at hx; rcases hx with rfl | rfl <;> assumption)] at H47
  have hA : Below w.heap.size w (w.alloc (.cells #[.string s, .string t] 9)) := (Below.refl _ _).alloc (Nat.le_refl _) _
  have H61 := Lib.hid (f61_22 s t hs ht (w.alloc (.cells #[.string s, .string t] 9)) (tabs_below hA h2 hT) (by simp; omega))
  have HA := Lib.hid hA; clear hA
  clear hT
  go_enter Tryd.func34, Tryd.ntmps34
  go_wp2_with (first | (go_at_call 47; refine H47.out.mono ?_; rintro en w2 ⟨rfl, rfl⟩) | (go_at_call 61; refine H61.out.mono ?_; rintro en w3 ⟨rfl, hB⟩; have HB := Lib.hid hB; clear hB))
  go_ret2
  exact ⟨rfl, HA.out.trans (HB.out.mono (by simp))⟩

theorem f41_bad (e : Int) (s : ByteArray) (hs : s.size ≤ 140737488355328) (h : ¬ (e = 0 ∨ e = 1 ∨ e = 2) ∨ 100000 < s.size) (w : World) : Calls Tryd.prog 41 #[.string s, .int .i64 e] w fun en w' => en = .returned (.tuple #[.int .i64 0, .int .i64 1]) ∧ Below w.heap.size w w' := by
  have H47 := Lib.hid (f47one e s hs w)
  rw [asked_bad (xs := [s]) (h.imp_right fun h => ⟨s, by simp, h⟩)] at H47
  clear h
  go_enter Tryd.func41, Tryd.ntmps41
  go_wp2_with (go_at_call 47; refine H47.out.mono ?_; rintro en w2 ⟨rfl, rfl⟩)
  go_ret2
  exact ⟨rfl, (Below.refl _ _).alloc (Nat.le_refl _) _⟩

/-- A slice of the texts of some characters. -/
theorem owns_slice {w : World} {B : Nat} {v : Value} {ps : List (List UInt8 × Int)} (h : w.ownsRow B 9 1 v ps.length (texts ps)) : ∃ a cap, v = .slice a ps.length cap ∧ (a = none → ps = []) ∧ ps.length ≤ cap ∧ ∀ g o, a = some ⟨g, o, none⟩ → o = 0 ∧ B ≤ g ∧ g < w.heap.size ∧ ∀ (j : Nat) p, ps[j]? = some p → w.cell? ⟨g, j, none⟩ = some (.string (bs p.1)) := by
  obtain ⟨h1, h2⟩ := h
  rcases h2 with ⟨rfl, h2⟩ | ⟨g, cap, cur, rfl, hB, hg, hn, hm, hs, ht⟩
  · exact ⟨none, 0, by rw [h2], fun _ => List.eq_nil_of_length_eq_zero h2, by omega, by intro g o h; cases h⟩
  · refine ⟨some ⟨g, 0, none⟩, cap, rfl, by simp, hn, ?_⟩
    intro g' o hg'
    injection hg' with e
    injection e with e1 e2
    subst e1 e2
    refine ⟨rfl, hB, (Array.getElem?_eq_some_iff.1 hg).1, ?_⟩
    intro j p hp
    have hj := (List.getElem?_eq_some_iff.1 hp).1
    rw [cell_blk hg, ← Array.getElem?_toList]
    have h3 : (texts ps)[j]? = some (.string (bs p.1)) := by unfold texts; rw [List.getElem?_map, hp]; rfl
    rw [← ht, List.getElem?_take_of_lt (by omega)] at h3
    exact h3

theorem f41 (e : Int) (he : e = 0 ∨ e = 1 ∨ e = 2) (s : ByteArray) (hs : s.size ≤ 100000) (w : World) (hT : Lib.Utf8Tabs 0 1 w) (h2 : 2 ≤ w.heap.size) : Calls Tryd.prog 41 #[.string s, .int .i64 e] w fun en w' => en = .returned (.tuple #[.int .i64 (parts e (str s)).length, .int .i64 0]) ∧ Below w.heap.size w w' := by
  have H47 := Lib.hid (f47one e s (by omega) w)
  rw [asked_ok (xs := [s]) he (by intro x hx; simp at hx; subst hx; exact hs)] at H47
  have hA : Below w.heap.size w (w.alloc (.cells #[.string s] 9)) := (Below.refl _ _).alloc (Nat.le_refl _) _
  have H54 := Lib.hid (f54 e he s (by omega) (w.alloc (.cells #[.string s] 9)) (tabs_below hA h2 hT) (by simp; omega))
  have HA := Lib.hid hA; clear hA
  clear hT he
  go_enter Tryd.func41, Tryd.ntmps41
  go_wp2_with (first | (go_at_call 47; refine H47.out.mono ?_; rintro en w2 ⟨rfl, rfl⟩) | (go_at_call 54; refine H54.out.mono ?_; rintro en w3 ⟨v, rfl, ho, hB⟩; have HB := Lib.hid hB; clear hB; obtain ⟨a, cap, rfl, -⟩ := owns_slice ho; clear ho))
  go_ret2
  exact ⟨rfl, HA.out.trans (HB.out.mono (by simp))⟩

theorem f37_bad (e i : Int) (s : ByteArray) (hs : s.size ≤ 140737488355328) (h : ¬ (e = 0 ∨ e = 1 ∨ e = 2) ∨ 100000 < s.size) (w : World) : Calls Tryd.prog 37 #[.string s, .int .i64 e, .int .i64 i] w fun en w' => en = .returned (.tuple #[.string ⟨#[]⟩, .int .i64 1]) ∧ Below w.heap.size w w' := by
  have H47 := Lib.hid (f47one e s hs w)
  rw [asked_bad (xs := [s]) (h.imp_right fun h => ⟨s, by simp, h⟩)] at H47
  clear h
  go_enter Tryd.func37, Tryd.ntmps37
  go_wp2_with (go_at_call 47; refine H47.out.mono ?_; rintro en w2 ⟨rfl, rfl⟩)
  go_ret2
  exact ⟨rfl, (Below.refl _ _).alloc (Nat.le_refl _) _⟩

/-- The place that an index names. -/
def place (n : Nat) (i : Int) : Int := if i < 0 then i + n else i

theorem owns_some {w : World} {B : Nat} {v : Value} {ps : List (List UInt8 × Int)} (h : w.ownsRow B 9 1 v ps.length (texts ps)) (h0 : ps ≠ []) : ∃ g cap, v = .slice (some ⟨g, 0, none⟩) ps.length cap ∧ ps.length ≤ cap ∧ B ≤ g ∧ g < w.heap.size ∧ ∀ (j : Nat) p, ps[j]? = some p → w.cell? ⟨g, j, none⟩ = some (.string (bs p.1)) := by
  obtain ⟨a, cap, rfl, hn, hc, hr⟩ := owns_slice h
  rcases h.2 with ⟨h3, -⟩ | ⟨g, cap', cur, h3, -⟩
  · injection h3 with h3; exact absurd (hn h3) h0
  · injection h3 with h4 h5 h6
    subst h4
    exact ⟨g, cap, rfl, hc, (hr g 0 rfl).2⟩

set_option maxRecDepth 100000 in
theorem f37_in (e i : Int) (he : e = 0 ∨ e = 1 ∨ e = 2) (s : ByteArray) (hs : s.size ≤ 100000) (w : World) (hT : Lib.Utf8Tabs 0 1 w) (h2 : 2 ≤ w.heap.size) (k : Nat) (p : List UInt8 × Int) (hi : place (parts e (str s)).length i = k) (hp : (parts e (str s))[k]? = some p) : Calls Tryd.prog 37 #[.string s, .int .i64 e, .int .i64 i] w fun en w' => en = .returned (.tuple #[.string (bs p.1), .int .i64 0]) ∧ Below w.heap.size w w' := by
  have H47 := Lib.hid (f47one e s (by omega) w)
  rw [asked_ok (xs := [s]) he (by intro x hx; simp at hx; subst hx; exact hs)] at H47
  have hA : Below w.heap.size w (w.alloc (.cells #[.string s] 9)) := (Below.refl _ _).alloc (Nat.le_refl _) _
  have H54 := Lib.hid (f54 e he s (by omega) (w.alloc (.cells #[.string s] 9)) (tabs_below hA h2 hT) (by simp; omega))
  have HA := Lib.hid hA; clear hA
  have hl := parts_len e (str s)
  rw [str_len] at hl
  unfold PiecesPost at H54
  have hk := (List.getElem?_eq_some_iff.1 hp).1
  generalize parts e (str s) = ps at *
  have HP := Lib.hid hp; clear hp
  have HN : Hid (ps ≠ []) := Lib.hid (by intro h; rw [h] at hk; simp at hk)
  clear hT he
  have harm : True := trivial
  by_cases hneg : i < 0
  · unfold place at hi; rw [if_pos hneg] at hi
    have hge : -(ps.length : Int) ≤ i := by omega
    have hlt2 : decide ((ps.length : Int) ≤ (k : Int)) = false := by simp; omega
    go_enter Tryd.func37, Tryd.ntmps37
    go_wp2_with (go_at_call 47; refine H47.out.mono ?_; rintro en w2 ⟨rfl, rfl⟩)
    refine H54.out.mono ?_
    rintro en w3 ⟨v, rfl, ho, hB⟩
    have HB := Lib.hid hB; clear hB
    obtain ⟨g, cap, rfl, hcap, hg1, hg2, hcl⟩ := owns_some ho HN.out
    clear ho
    have hcell := hcl k p HP.out
    clear hcl
    go_wp2_with fail
    go_ret2
    exact ⟨rfl, HA.out.trans (HB.out.mono (by simp))⟩
  · unfold place at hi; rw [if_neg hneg] at hi
    subst hi
    go_enter Tryd.func37, Tryd.ntmps37
    go_wp2_with (go_at_call 47; refine H47.out.mono ?_; rintro en w2 ⟨rfl, rfl⟩)
    refine H54.out.mono ?_
    rintro en w3 ⟨v, rfl, ho, hB⟩
    have HB := Lib.hid hB; clear hB
    obtain ⟨g, cap, rfl, hcap, hg1, hg2, hcl⟩ := owns_some ho HN.out
    clear ho
    have hcell := hcl k p HP.out
    clear hcl
    go_wp2_with fail
    go_ret2
    exact ⟨rfl, HA.out.trans (HB.out.mono (by simp))⟩

set_option maxRecDepth 100000 in
theorem f37_out (e i : Int) (he : e = 0 ∨ e = 1 ∨ e = 2) (s : ByteArray) (hs : s.size ≤ 100000) (w : World) (hT : Lib.Utf8Tabs 0 1 w) (h2 : 2 ≤ w.heap.size) (hi : place (parts e (str s)).length i < 0 ∨ (parts e (str s)).length ≤ place (parts e (str s)).length i) : Calls Tryd.prog 37 #[.string s, .int .i64 e, .int .i64 i] w fun en w' => en = .returned (.tuple #[.string ⟨#[]⟩, .int .i64 3]) ∧ Below w.heap.size w w' := by
  have H47 := Lib.hid (f47one e s (by omega) w)
  rw [asked_ok (xs := [s]) he (by intro x hx; simp at hx; subst hx; exact hs)] at H47
  have hA : Below w.heap.size w (w.alloc (.cells #[.string s] 9)) := (Below.refl _ _).alloc (Nat.le_refl _) _
  have H54 := Lib.hid (f54 e he s (by omega) (w.alloc (.cells #[.string s] 9)) (tabs_below hA h2 hT) (by simp; omega))
  have HA := Lib.hid hA; clear hA
  have hl := parts_len e (str s)
  rw [str_len] at hl
  unfold PiecesPost at H54
  generalize parts e (str s) = ps at *
  clear hT he
  by_cases hneg : i < 0
  · have hge : i < -(ps.length : Int) := by unfold place at hi; rw [if_pos hneg] at hi; omega
    clear hi
    go_enter Tryd.func37, Tryd.ntmps37
    go_wp2_with (go_at_call 47; refine H47.out.mono ?_; rintro en w2 ⟨rfl, rfl⟩)
    refine H54.out.mono ?_
    rintro en w3 ⟨v, rfl, ho, hB⟩
    have HB := Lib.hid hB; clear hB
    obtain ⟨a, cap, rfl, -⟩ := owns_slice ho
    clear ho
    go_wp2_with fail
    go_ret2
    exact ⟨rfl, HA.out.trans (HB.out.mono (by simp))⟩
  · have hge : (ps.length : Int) ≤ i := by unfold place at hi; rw [if_neg hneg] at hi; omega
    clear hi
    go_enter Tryd.func37, Tryd.ntmps37
    go_wp2_with (go_at_call 47; refine H47.out.mono ?_; rintro en w2 ⟨rfl, rfl⟩)
    refine H54.out.mono ?_
    rintro en w3 ⟨v, rfl, ho, hB⟩
    have HB := Lib.hid hB; clear hB
    obtain ⟨a, cap, rfl, -⟩ := owns_slice ho
    clear ho
    go_wp2_with fail
    go_ret2
    exact ⟨rfl, HA.out.trans (HB.out.mono (by simp))⟩

end Go.Proofs.YtaanihidheccfaaDoor
