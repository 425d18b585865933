/-
  The statement TextValid walked.
-/
import Derived.Test.YtaanihidheccfaaDoorRefI
import Derived.Test.YtaanihidheccfaaDoorWalkO
import Derived.Test.YtaanihidheccfaaDoorOfs
namespace Go.Proofs.YtaanihidheccfaaDoor
open Go.Shelf Go.RowKit
set_option linter.unusedVariables false

/-- Valid of the program, at the characters. -/
theorem f36 (e : Int) (he : e = 0 ∨ e = 1 ∨ e = 2) (s : ByteArray) (hs : s.size ≤ 100000) (w : World) (hT : Lib.Utf8Tabs 0 1 w) (h2 : 2 ≤ w.heap.size) : Calls Tryd.prog 36 #[.string s, .int .i64 e] w fun en w' => en = .returned (.tuple #[.bool (validN e (parts e (str s))), .int .i64 0]) ∧ Below w.heap.size w w' := by
  by_cases h : e = 2
  · subst h
    have e1 : validN 2 (parts 2 (str s)) = Lib.validD (str s) := by
      rw [valid_parts]
      unfold validN
      rw [decide_eq_decide]
      exact ⟨fun h => h rfl, fun h _ => h⟩
    rw [e1]
    exact f36_utf s hs w hT h2
  · have e1 : validN e (parts e (str s)) = true := by
      unfold validN
      exact decide_eq_true fun h2 => absurd h2 h
    rw [e1]
    exact f36_byte e (by omega) s hs w

theorem codes_some {e : Int} (he : e = 0 ∨ e = 1 ∨ e = 2) {l : List UInt8} {cs : List Int} (h : codesL e l = some cs) : ofL e cs = some l ∧ cs.length = (parts e l).length ∧ validN e (parts e l) = true := by
  unfold codesL at h
  split at h
  · rename_i hh
    injection h with h
    subst h
    have hc := codes_of he hh
    refine ⟨?_, by simp, decide_eq_true fun _ => hh⟩
    rw [ofL_all hc.1, hc.2]
  · cases h

theorem f12_sane (s : ByteArray) (e : Int) (w : World) (hs : s.size ≤ 9223372036854775807) (hbig : 3000 < s.size) (hT : Lib.Utf8Tabs 0 1 w) (h2 : 2 ≤ w.heap.size) : Calls Tryd.prog 12 #[.string s, .int .i64 e] w fun en w' => en = .returned (.bool true) ∧ Below w.heap.size w w' := by
  have H15 := Lib.hid (f15 w hT h2)
  clear hT
  go_enter Tryd.func12, Tryd.ntmps12
  go_wp2_with (go_at_call 15; refine H15.out.mono ?_; rintro en w4 ⟨rfl, hB⟩; have HB4 := Lib.hid hB; clear hB)
  go_ret
  exact ⟨rfl, HB4.out⟩

set_option maxRecDepth 100000 in
set_option maxHeartbeats 4000000 in
theorem f12_bad (s : ByteArray) (e : Int) (w : World) (hs : s.size ≤ 3000) (hee : ¬ (e = 0 ∨ e = 1 ∨ e = 2)) (hT : Lib.Utf8Tabs 0 1 w) (h2 : 2 ≤ w.heap.size) : Calls Tryd.prog 12 #[.string s, .int .i64 e] w fun en w' => en = .returned (.bool true) ∧ Below w.heap.size w w' := by
  have HT := Lib.hid hT; clear hT
  have H36 := Lib.hid (fun w => f36_bad e s (by omega) (.inl hee) w)
  have H42 := Lib.hid (fun w => f42_bad e s (by omega) (.inl hee) w)
  have H18 := Lib.hid (fun w => f18_bad e s (by omega) (.inl hee) w)
  have H43 := Lib.hid (fun w => f43_bad e s (by omega) (.inl hee) w)
  have H41 := Lib.hid (fun w => f41_bad e s (by omega) (.inl hee) w)
  have H44 := Lib.hid (fun w => f44_bad e s (by omega) (.inl hee) w)
  clear hee
  go_enter Tryd.func12, Tryd.ntmps12
  go_wp2_with fail
  refine (H36.out w).mono ?_
  rintro en w2 ⟨rfl, hB⟩
  have HB : Hid (Below w.heap.size w w2) := Lib.hid hB
  clear hB
  go_wp2_with fail
  refine (H42.out w2).mono ?_
  rintro en w3 ⟨rfl, hB⟩
  have HB3 : Hid (Below w.heap.size w w3) := Lib.hid (HB.out.trans (hB.mono HB.out.size))
  clear hB HB
  go_wp2_with fail
  refine (H18.out w3).mono ?_
  rintro en w4 ⟨rfl, hB⟩
  have HB4 : Hid (Below w.heap.size w w4) := Lib.hid (HB3.out.trans (hB.mono HB3.out.size))
  clear hB HB3
  go_wp2_with fail
  refine (H43.out w4).mono ?_
  rintro en w5 ⟨rfl, hB⟩
  have HB5 : Hid (Below w.heap.size w w5) := Lib.hid (HB4.out.trans (hB.mono HB4.out.size))
  clear hB HB4
  go_wp2_with fail
  refine (H41.out w5).mono ?_
  rintro en w6 ⟨rfl, hB⟩
  have HB6 : Hid (Below w.heap.size w w6) := Lib.hid (HB5.out.trans (hB.mono HB5.out.size))
  clear hB HB5
  go_wp2_with fail
  refine (H44.out w6).mono ?_
  rintro en w7 ⟨rfl, hB⟩
  have HB7 : Hid (Below w.heap.size w w7) := Lib.hid (HB6.out.trans (hB.mono HB6.out.size))
  clear hB HB6
  have H19 := Lib.hid (f19_nil none none 0 0 w7)
  go_wp2_with fail
  refine H19.out.mono ?_
  rintro en w8 ⟨rfl, hB⟩
  have HB8 : Hid (Below w.heap.size w w8) := Lib.hid (HB7.out.trans (hB.mono HB7.out.size))
  clear hB HB7
  have H15 := Lib.hid (f15 w8 (tabs_below HB8.out h2 HT.out) (by have := HB8.out.size; omega))
  go_wp2_with fail
  refine H15.out.mono ?_
  rintro en w9 ⟨rfl, hB⟩
  have HB9 := Lib.hid hB; clear hB
  go_wp2_with fail
  go_ret
  exact ⟨rfl, HB8.out.trans (HB9.out.mono HB8.out.size)⟩

set_option maxRecDepth 100000 in
set_option maxHeartbeats 4000000 in
theorem f12_none (s : ByteArray) (e : Int) (w : World) (hs : s.size ≤ 3000) (hee : e = 0 ∨ e = 1 ∨ e = 2) (hc : codesL e (str s) = none) (hT : Lib.Utf8Tabs 0 1 w) (h2 : 2 ≤ w.heap.size) : Calls Tryd.prog 12 #[.string s, .int .i64 e] w fun en w' => en = .returned (.bool true) ∧ Below w.heap.size w w' := by
  have HT := Lib.hid hT; clear hT
  have H36 := Lib.hid (f36 e hee s (by omega) w HT.out h2)
  have H42 := Lib.hid (fun w => f42 e hee s (by omega) w)
  have H18 := Lib.hid (fun w hT h2 => f18 e hee s (by omega) w hT h2)
  have H43 := Lib.hid (fun w => f43 e hee s (by omega) w)
  have H41 := Lib.hid (fun w hT h2 => f41 e hee s (by omega) w hT h2)
  have H44 := Lib.hid (fun w => f44 e hee s (by omega) w)
  unfold CodesPost at H18 H43
  rw [hc] at H18 H43
  generalize validN e (parts e (str s)) = b at *
  generalize (parts e (str s)).length = n at *
  clear hee hc
  go_enter Tryd.func12, Tryd.ntmps12
  go_wp2_with fail
  refine H36.out.mono ?_
  rintro en w2 ⟨rfl, hB⟩
  have HB : Hid (Below w.heap.size w w2) := Lib.hid hB
  clear hB
  go_wp2_with fail
  refine (H42.out w2).mono ?_
  rintro en w3 ⟨rfl, hB⟩
  have HB3 : Hid (Below w.heap.size w w3) := Lib.hid (HB.out.trans (hB.mono HB.out.size))
  clear hB HB
  go_wp2_with fail
  refine (H18.out w3 (tabs_below HB3.out h2 HT.out) (by have := HB3.out.size; omega)).mono ?_
  rintro en w4 ⟨rfl, hB⟩
  have HB4 : Hid (Below w.heap.size w w4) := Lib.hid (HB3.out.trans (hB.mono HB3.out.size))
  clear hB HB3
  go_wp2_with fail
  refine (H43.out w4).mono ?_
  rintro en w5 ⟨rfl, hB⟩
  have HB5 : Hid (Below w.heap.size w w5) := Lib.hid (HB4.out.trans (hB.mono HB4.out.size))
  clear hB HB4
  go_wp2_with fail
  refine (H41.out w5 (tabs_below HB5.out h2 HT.out) (by have := HB5.out.size; omega)).mono ?_
  rintro en w6 ⟨rfl, hB⟩
  have HB6 : Hid (Below w.heap.size w w6) := Lib.hid (HB5.out.trans (hB.mono HB5.out.size))
  clear hB HB5
  go_wp2_with fail
  refine (H44.out w6).mono ?_
  rintro en w7 ⟨rfl, hB⟩
  have HB7 : Hid (Below w.heap.size w w7) := Lib.hid (HB6.out.trans (hB.mono HB6.out.size))
  clear hB HB6
  have H19 := Lib.hid (f19_nil none none 0 0 w7)
  go_wp2_with fail
  refine H19.out.mono ?_
  rintro en w8 ⟨rfl, hB⟩
  have HB8 : Hid (Below w.heap.size w w8) := Lib.hid (HB7.out.trans (hB.mono HB7.out.size))
  clear hB HB7
  have H15 := Lib.hid (f15 w8 (tabs_below HB8.out h2 HT.out) (by have := HB8.out.size; omega))
  go_wp2_with fail
  refine H15.out.mono ?_
  rintro en w9 ⟨rfl, hB⟩
  have HB9 := Lib.hid hB; clear hB
  go_wp2_with fail
  go_ret
  exact ⟨rfl, HB8.out.trans (HB9.out.mono HB8.out.size)⟩

set_option maxRecDepth 100000 in
set_option maxHeartbeats 4000000 in
theorem f12_some (s : ByteArray) (e : Int) (w : World) (hs : s.size ≤ 3000) (hee : e = 0 ∨ e = 1 ∨ e = 2) (cs : List Int) (hc : codesL e (str s) = some cs) (hT : Lib.Utf8Tabs 0 1 w) (h2 : 2 ≤ w.heap.size) : Calls Tryd.prog 12 #[.string s, .int .i64 e] w fun en w' => en = .returned (.bool true) ∧ Below w.heap.size w w' := by
  have HT := Lib.hid hT; clear hT
  have H36 := Lib.hid (f36 e hee s (by omega) w HT.out h2)
  have H42 := Lib.hid (fun w => f42 e hee s (by omega) w)
  have H18 := Lib.hid (fun w hT h2 => f18 e hee s (by omega) w hT h2)
  have H43 := Lib.hid (fun w => f43 e hee s (by omega) w)
  have H41 := Lib.hid (fun w hT h2 => f41 e hee s (by omega) w hT h2)
  have H44 := Lib.hid (fun w => f44 e hee s (by omega) w)
  unfold CodesPost at H18 H43
  rw [hc] at H18 H43
  obtain ⟨ho, hlen, hv⟩ := codes_some hee hc
  rw [hv] at H36 H42
  have hle := parts_len e (str s)
  rw [str_len] at hle
  rw [← hlen] at H41 H44 hle
  have H16 : Hid (∀ (v : Value) (w : World), 2 ≤ w.heap.size → IntsIn w v cs → Calls Tryd.prog 16 #[v, .int .i64 e] w fun en w' => en = .returned (.tuple #[.string s, .int .i64 0]) ∧ Below w.heap.size w w') := Lib.hid (fun v w h2 hv => by
    have h := f16 e hee v cs (by omega) w h2 hv
    unfold OfPost at h
    rw [ho] at h
    exact h)
  clear hee hc hv hlen ho
  go_enter Tryd.func12, Tryd.ntmps12
  go_wp2_with fail
  refine H36.out.mono ?_
  rintro en w2 ⟨rfl, hB⟩
  have HB : Hid (Below w.heap.size w w2) := Lib.hid hB
  clear hB
  go_wp2_with fail
  refine (H42.out w2).mono ?_
  rintro en w3 ⟨rfl, hB⟩
  have HB3 : Hid (Below w.heap.size w w3) := Lib.hid (HB.out.trans (hB.mono HB.out.size))
  clear hB HB
  go_wp2_with fail
  refine (H18.out w3 (tabs_below HB3.out h2 HT.out) (by have := HB3.out.size; omega)).mono ?_
  rintro en w4 ⟨⟨v, rfl, hv⟩, hB⟩
  have HB4 : Hid (Below w.heap.size w w4) := Lib.hid (HB3.out.trans (hB.mono HB3.out.size))
  have HV4 := Lib.hid (ints_in rfl (by omega) hv)
  clear hB HB3 hv
  obtain ⟨va, vc, rfl⟩ : ∃ a c, v = .slice a cs.length c := let ⟨a, c, h, _⟩ := HV4.out; ⟨a, c, h⟩
  go_wp2_with fail
  refine (H43.out w4).mono ?_
  rintro en w5 ⟨⟨u, rfl, hu⟩, hB⟩
  have HB5 : Hid (Below w.heap.size w w5) := Lib.hid (HB4.out.trans (hB.mono HB4.out.size))
  have HV5 := Lib.hid (HV4.out.below hB)
  have HU5 := Lib.hid (ints_in rfl (by omega) hu)
  clear hB HB4 hu HV4
  obtain ⟨ua, uc, rfl⟩ : ∃ a c, u = .slice a cs.length c := let ⟨a, c, h, _⟩ := HU5.out; ⟨a, c, h⟩
  go_wp2_with fail
  refine (H41.out w5 (tabs_below HB5.out h2 HT.out) (by have := HB5.out.size; omega)).mono ?_
  rintro en w6 ⟨rfl, hB⟩
  have HB6 : Hid (Below w.heap.size w w6) := Lib.hid (HB5.out.trans (hB.mono HB5.out.size))
  have HV6 := Lib.hid (HV5.out.below hB)
  have HU6 := Lib.hid (HU5.out.below hB)
  clear hB HB5 HV5 HU5
  go_wp2_with fail
  refine (H44.out w6).mono ?_
  rintro en w7 ⟨rfl, hB⟩
  have HB7 : Hid (Below w.heap.size w w7) := Lib.hid (HB6.out.trans (hB.mono HB6.out.size))
  have HV7 := Lib.hid (HV6.out.below hB)
  have HU7 := Lib.hid (HU6.out.below hB)
  clear hB HB6 HV6 HU6
  have H19 := Lib.hid (f19 _ _ cs w7 HV7.out HU7.out)
  go_wp2_with fail
  refine H19.out.mono ?_
  rintro en w8 ⟨rfl, hB⟩
  have HB8 : Hid (Below w.heap.size w w8) := Lib.hid (HB7.out.trans (hB.mono HB7.out.size))
  have HV8 := Lib.hid (HV7.out.below hB)
  clear hB HB7 HV7 HU7
  go_wp2_with fail
  refine (H16.out _ w8 (by have := HB8.out.size; omega) HV8.out).mono ?_
  rintro en w9 ⟨rfl, hB⟩
  have HB9 : Hid (Below w.heap.size w w9) := Lib.hid (HB8.out.trans (hB.mono HB8.out.size))
  clear hB HB8
  have H15 := Lib.hid (f15 w9 (tabs_below HB9.out h2 HT.out) (by have := HB9.out.size; omega))
  go_wp2_with fail
  refine H15.out.mono ?_
  rintro en w10 ⟨rfl, hB⟩
  have HB10 := Lib.hid hB; clear hB
  go_wp2_with fail
  go_ret
  exact ⟨rfl, HB9.out.trans (HB10.out.mono HB9.out.size)⟩

theorem f12 (s : ByteArray) (e : Int) (w : World) (hs : s.size ≤ 9223372036854775807) (he : (Lit.int .i64 e).wf = true) (hT : Lib.Utf8Tabs 0 1 w) (h2 : 2 ≤ w.heap.size) : Calls Tryd.prog 12 #[.string s, .int .i64 e] w fun en w' => en = .returned (.bool true) ∧ Below w.heap.size w w' := by
  by_cases hbig : 3000 < s.size
  · exact f12_sane s e w hs hbig hT h2
  · by_cases hee : e = 0 ∨ e = 1 ∨ e = 2
    · cases hc : codesL e (str s) with
      | none => exact f12_none s e w (by omega) hee hc hT h2
      | some cs => exact f12_some s e w (by omega) hee cs hc hT h2
    · exact f12_bad s e w (by omega) hee hT h2

end Go.Proofs.YtaanihidheccfaaDoor
