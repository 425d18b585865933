/-
  The statement TextCuts walked.
-/
import Derived.Test.YtaanihidheccfaaDoorWalkQ
namespace Go.Proofs.YtaanihidheccfaaDoor
open Go.Shelf Go.RowKit
set_option linter.unusedVariables false

def resT (o : Option (List UInt8)) : ByteArray := match o with | none => ⟨#[]⟩ | some l => bs l
def resC (err : Int) (o : Option (List UInt8)) : Int := match o with | none => err | some _ => 0
/-- A string and an error. -/
def ans (t : ByteArray) (c : Int) : Value := .tuple #[.string t, .int .i64 c]
theorem opt_ans {P : Program} {w : World} {f : FuncId} {args : Array Value} {err : Int} {o : Option (List UInt8)} (h : Calls P f args w (OptPost w err o)) : Calls P f args w fun en w' => en = .returned (ans (resT o) (resC err o)) ∧ Below w.heap.size w w' := by
  refine h.mono ?_
  rintro en w' ⟨h1, h2⟩
  cases o with
  | none => exact ⟨h1, h2⟩
  | some l => exact ⟨h1, h2⟩

instance (e : Int) : Decidable (e = 0 ∨ e = 1 ∨ e = 2) := inferInstance
/-- The text of a character, if it is there. -/
def atO (ps : List (List UInt8 × Int)) (i : Int) : Option (List UInt8) := if place ps.length i < 0 then none else (ps[(place ps.length i).toNat]?).map (·.1)
def atT (e : Int) (s : ByteArray) (i : Int) : ByteArray := if e = 0 ∨ e = 1 ∨ e = 2 then resT (atO (parts e (str s)) i) else ⟨#[]⟩
def atC (e : Int) (s : ByteArray) (i : Int) : Int := if e = 0 ∨ e = 1 ∨ e = 2 then resC 3 (atO (parts e (str s)) i) else 1
def slT (e : Int) (s : ByteArray) (i n : Int) : ByteArray := if (e = 0 ∨ e = 1 ∨ e = 2) ∧ 0 ≤ n then resT (sliceO (parts e (str s)) i n) else ⟨#[]⟩
def slC (e : Int) (s : ByteArray) (i n : Int) : Int := if (e = 0 ∨ e = 1 ∨ e = 2) ∧ 0 ≤ n then resC 3 (sliceO (parts e (str s)) i n) else 1

theorem atO_out {ps : List (List UInt8 × Int)} {i : Int} (h : place ps.length i < 0 ∨ ps.length ≤ place ps.length i) : atO ps i = none := by
  unfold atO
  split
  · rfl
  · rw [List.getElem?_eq_none (by omega)]; rfl
theorem atO_in {ps : List (List UInt8 × Int)} {i : Int} {k : Nat} {p : List UInt8 × Int} (h : place ps.length i = k) (hp : ps[k]? = some p) : atO ps i = some p.1 := by
  unfold atO
  rw [h, if_neg (by omega), show ((k : Int)).toNat = k from rfl, hp]
  rfl

theorem f37_all (e i : Int) (hwf : -9223372036854775808 ≤ i) (s : ByteArray) (hs : s.size ≤ 100000) (w : World) (hT : Lib.Utf8Tabs 0 1 w) (h2 : 2 ≤ w.heap.size) : Calls Tryd.prog 37 #[.string s, .int .i64 e, .int .i64 i] w fun en w' => en = .returned (ans (atT e s i) (atC e s i)) ∧ Below w.heap.size w w' := by
  unfold atT atC
  by_cases he : e = 0 ∨ e = 1 ∨ e = 2
  · rw [if_pos he, if_pos he]
    by_cases ho : place (parts e (str s)).length i < 0 ∨ (parts e (str s)).length ≤ place (parts e (str s)).length i
    · rw [atO_out ho]; exact f37_out e i he s hs w hT h2 ho
    · obtain ⟨k, hk⟩ : ∃ k : Nat, place (parts e (str s)).length i = k := ⟨(place (parts e (str s)).length i).toNat, by omega⟩
      obtain ⟨p, hp⟩ : ∃ p, (parts e (str s))[k]? = some p := ⟨(parts e (str s))[k]'(by omega), List.getElem?_eq_getElem (by omega)⟩
      rw [atO_in hk hp]; exact f37_in e i he s hs w hT h2 k p hk hp
  · rw [if_neg he, if_neg he]; exact f37_bad e i s (by omega) (.inl he) w
theorem f38_all (e i : Int) (hwf : -9223372036854775808 ≤ i) (s : ByteArray) (hs : s.size ≤ 100000) (w : World) : Calls Tryd.prog 38 #[.string s, .int .i64 e, .int .i64 i] w fun en w' => en = .returned (ans (atT e s i) (atC e s i)) ∧ Below w.heap.size w w' := by
  unfold atT atC
  by_cases he : e = 0 ∨ e = 1 ∨ e = 2
  · rw [if_pos he, if_pos he]
    by_cases ho : place (parts e (str s)).length i < 0 ∨ (parts e (str s)).length ≤ place (parts e (str s)).length i
    · rw [atO_out ho]; exact f38_out e i he hwf s hs w ho
    · obtain ⟨k, hk⟩ : ∃ k : Nat, place (parts e (str s)).length i = k := ⟨(place (parts e (str s)).length i).toNat, by omega⟩
      obtain ⟨p, hp⟩ : ∃ p, (parts e (str s))[k]? = some p := ⟨(parts e (str s))[k]'(by omega), List.getElem?_eq_getElem (by omega)⟩
      rw [atO_in hk hp]; exact f38_in e i he s hs w k p hk hp
  · rw [if_neg he, if_neg he]; exact f38_bad e i s (by omega) (.inl he) w
theorem f39_all (e i n : Int) (hwf : -9223372036854775808 ≤ i) (s : ByteArray) (hs : s.size ≤ 100000) (w : World) (hT : Lib.Utf8Tabs 0 1 w) (h2 : 2 ≤ w.heap.size) : Calls Tryd.prog 39 #[.string s, .int .i64 e, .int .i64 i, .int .i64 n] w fun en w' => en = .returned (ans (slT e s i n) (slC e s i n)) ∧ Below w.heap.size w w' := by
  unfold slT slC
  by_cases he : e = 0 ∨ e = 1 ∨ e = 2
  · by_cases hn : 0 ≤ n
    · rw [if_pos ⟨he, hn⟩, if_pos ⟨he, hn⟩]; exact opt_ans (f39 e i n he hwf s hs hn w hT h2)
    · rw [if_neg (fun h => hn h.2), if_neg (fun h => hn h.2)]; exact f39_neg e i n he s hs (by omega) w
  · rw [if_neg (fun h => he h.1), if_neg (fun h => he h.1)]; exact f39_bad e i n s (by omega) (.inl he) w
theorem f40_all (e i n : Int) (hwf : -9223372036854775808 ≤ i) (s : ByteArray) (hs : s.size ≤ 100000) (w : World) : Calls Tryd.prog 40 #[.string s, .int .i64 e, .int .i64 i, .int .i64 n] w fun en w' => en = .returned (ans (slT e s i n) (slC e s i n)) ∧ Below w.heap.size w w' := by
  unfold slT slC
  by_cases he : e = 0 ∨ e = 1 ∨ e = 2
  · by_cases hn : 0 ≤ n
    · rw [if_pos ⟨he, hn⟩, if_pos ⟨he, hn⟩]; exact opt_ans (f40 e i n he hwf s hs hn w)
    · rw [if_neg (fun h => hn h.2), if_neg (fun h => hn h.2)]; exact f40_neg e i n he s hs (by omega) w
  · rw [if_neg (fun h => he h.1), if_neg (fun h => he h.1)]; exact f40_bad e i n s (by omega) (.inl he) w

theorem wf_lo {i : Int} (h : (Lit.int .i64 i).wf = true) : -9223372036854775808 ≤ i ∧ i ≤ 9223372036854775807 := by
  simpa [Lit.wf, IntKind.min, IntKind.max, IntKind.signed, IntKind.bits] using h

set_option maxRecDepth 100000 in
set_option maxHeartbeats 1000000 in
theorem f9 (s : ByteArray) (e i n : Int) (w : World) (hs : s.size ≤ 9223372036854775807) (he : (Lit.int .i64 e).wf = true) (hi : (Lit.int .i64 i).wf = true) (hn : (Lit.int .i64 n).wf = true) (hT : Lib.Utf8Tabs 0 1 w) (h2 : 2 ≤ w.heap.size) : Calls Tryd.prog 9 #[.agg #[.string s, .int .i64 e, .int .i64 i, .int .i64 n]] w fun en w' => en = .returned (.bool true) ∧ Below w.heap.size w w' := by
  have hwf := (wf_lo hi).1
  clear he hi hn
  have hA : Below w.heap.size w (w.alloc (.cells #[.string s, .int .i64 e, .int .i64 i, .int .i64 n] 49)) := (Below.refl _ _).alloc (Nat.le_refl _) _
  have HT1 := Lib.hid (tabs_below hA h2 hT)
  by_cases hbig : 3000 < s.size
  · have H15 := Lib.hid (f15 _ HT1.out (by simp; omega))
    have HA := Lib.hid hA; clear hA
    clear hT
    go_enter Tryd.func9, Tryd.ntmps9
    go_wp2_with (go_at_call 15; refine H15.out.mono ?_; rintro en w4 ⟨rfl, hB⟩; have HB4 := Lib.hid hB; clear hB)
    go_ret
    exact ⟨rfl, HA.out.trans (HB4.out.mono (by simp))⟩
  · have hs3 : s.size ≤ 3000 := by omega
    have H37 := Lib.hid (f37_all e i hwf s (by omega) (w.alloc (.cells #[.string s, .int .i64 e, .int .i64 i, .int .i64 n] 49)) HT1.out (by simp; omega))
    have H38 := Lib.hid (fun w => f38_all e i hwf s (by omega) w)
    have H39 := Lib.hid (fun w hT h2 => f39_all e i n hwf s (by omega) w hT h2)
    have H40 := Lib.hid (fun w => f40_all e i n hwf s (by omega) w)
    unfold ans at H37 H38 H39 H40
    generalize atT e s i = a1 at *
    generalize atC e s i = a2 at *
    generalize slT e s i n = b1 at *
    generalize slC e s i n = b2 at *
    have HA := Lib.hid hA; clear hA
    clear hT hbig hs
    go_enter Tryd.func9, Tryd.ntmps9
    go_wp2_with fail
    refine H37.out.mono ?_
    rintro en w2 ⟨rfl, hB⟩
    have hz2 := hB.size
    simp only [World.size_alloc] at hz2
    have k0 : w2.cell? ⟨w.heap.size, 0, none⟩ = some (.string s) := (hB.cell (by simp)).trans (by simp)
    have k1 : w2.cell? ⟨w.heap.size, 1, none⟩ = some (.int .i64 e) := (hB.cell (by simp)).trans (by simp)
    have k2 : w2.cell? ⟨w.heap.size, 2, none⟩ = some (.int .i64 i) := (hB.cell (by simp)).trans (by simp)
    have k3 : w2.cell? ⟨w.heap.size, 3, none⟩ = some (.int .i64 n) := (hB.cell (by simp)).trans (by simp)
    have HT2 := Lib.hid (tabs_below hB (by simp; omega) HT1.out)
    have HB2 := Lib.hid hB; clear hB
    go_wp2_with fail
    refine (H38.out w2).mono ?_
    rintro en w3 ⟨rfl, hB⟩
    have hz3 := hB.size
    have m0 := (hB.cell (p := ⟨w.heap.size, 0, none⟩) (by show w.heap.size < _; omega)).trans k0
    have m1 := (hB.cell (p := ⟨w.heap.size, 1, none⟩) (by show w.heap.size < _; omega)).trans k1
    have m2 := (hB.cell (p := ⟨w.heap.size, 2, none⟩) (by show w.heap.size < _; omega)).trans k2
    have m3 := (hB.cell (p := ⟨w.heap.size, 3, none⟩) (by show w.heap.size < _; omega)).trans k3
    have HT3 := Lib.hid (tabs_below hB (by omega) HT2.out)
    have HB3 := Lib.hid hB; clear hB k0 k1 k2 k3
    go_wp2_with fail
    refine (H39.out w3 HT3.out (by omega)).mono ?_
    rintro en w4 ⟨rfl, hB⟩
    have hz4 := hB.size
    have k0 := (hB.cell (p := ⟨w.heap.size, 0, none⟩) (by show w.heap.size < _; omega)).trans m0
    have k1 := (hB.cell (p := ⟨w.heap.size, 1, none⟩) (by show w.heap.size < _; omega)).trans m1
    have k2 := (hB.cell (p := ⟨w.heap.size, 2, none⟩) (by show w.heap.size < _; omega)).trans m2
    have k3 := (hB.cell (p := ⟨w.heap.size, 3, none⟩) (by show w.heap.size < _; omega)).trans m3
    have HT4 := Lib.hid (tabs_below hB (by omega) HT3.out)
    have HB4 := Lib.hid hB; clear hB m0 m1 m2 m3
    go_wp2_with fail
    refine (H40.out w4).mono ?_
    rintro en w5 ⟨rfl, hB⟩
    have hz5 := hB.size
    have H15 := Lib.hid (f15 w5 (tabs_below hB (by omega) HT4.out) (by omega))
    have HB5 := Lib.hid hB; clear hB
    go_wp2_with fail
    refine H15.out.mono ?_
    rintro en w6 ⟨rfl, hB⟩
    have HB6 := Lib.hid hB; clear hB
    go_wp2_with fail
    go_ret
    exact ⟨rfl, ((((HA.out.trans (HB2.out.mono (by simp))).trans (HB3.out.mono (by omega))).trans (HB4.out.mono (by omega))).trans (HB5.out.mono (by omega))).trans (HB6.out.mono (by omega))⟩

end Go.Proofs.YtaanihidheccfaaDoor
