/-
  The statement TextScrubs walked.
-/
import Derived.Test.YtaanihidheccfaaDoorRefJ
import Derived.Test.YtaanihidheccfaaDoorValids
namespace Go.Proofs.YtaanihidheccfaaDoor
open Go.Shelf Go.RowKit
set_option linter.unusedVariables false

theorem lossy_same {s by' : List UInt8} (h : ∀ p ∈ parts 2 s, 0 ≤ p.2) : lossyL 2 2 by' s = s := by
  conv => rhs; rw [← parts_join 2 s]
  unfold lossyL
  congr 1
  apply List.map_congr_left
  intro p hp
  have hb := parts_back 2 (by decide) s p hp (h p hp)
  unfold lossyP
  rw [if_pos hb.1]
  exact hb.2.symm

theorem lossy_codes (tt : Int) (by' : List UInt8) (cb : List Int) (hb : by' = (cb.map (enc tt)).flatten) (ps : List (List UInt8 × Int)) : (ps.map (lossyP tt by')).flatten = ((ps.map fun p => if has tt p.2 then [p.2] else cb).flatten.map (enc tt)).flatten := by
  induction ps with
  | nil => rfl
  | cons p ps ih =>
    rw [List.map_cons, List.flatten_cons, ih, List.map_cons, List.flatten_cons, List.map_append, List.flatten_append]
    congr 1
    unfold lossyP
    by_cases h : has tt p.2
    · rw [if_pos h, if_pos h]; simp
    · rw [if_neg h, if_neg h]; exact hb

theorem lossy_valid {s by' : List UInt8} (h : ∀ p ∈ parts 2 by', 0 ≤ p.2) : ∀ p ∈ parts 2 (lossyL 2 2 by' s), 0 ≤ p.2 := by
  obtain ⟨hb1, hb2⟩ := codes_of (e := 2) (by decide) h
  unfold lossyL
  rw [lossy_codes 2 by' _ hb2.symm (parts 2 s)]
  rw [parts_of 2 (by decide)]
  · intro p hp
    obtain ⟨c, hc, rfl⟩ := List.mem_map.1 hp
    obtain ⟨l, hl, hcl⟩ := List.mem_flatten.1 hc
    obtain ⟨q, hq, rfl⟩ := List.mem_map.1 hl
    by_cases hh : has 2 q.2
    · rw [if_pos hh] at hcl
      simp at hcl
      subst hcl
      exact (has_pos hh).1
    · rw [if_neg hh] at hcl
      exact (has_pos (hb1 c hcl)).1
  · intro c hc
    obtain ⟨l, hl, hcl⟩ := List.mem_flatten.1 hc
    obtain ⟨q, hq, rfl⟩ := List.mem_map.1 hl
    by_cases hh : has 2 q.2
    · rw [if_pos hh] at hcl
      simp at hcl
      subst hcl
      exact hh
    · rw [if_neg hh] at hcl
      exact hb1 c hcl

theorem lossy_len (f tt : Int) (by' s : List UInt8) (hb : by'.length ≤ 100) (hs : s.length ≤ 3000) : (lossyL f tt by' s).length ≤ 300000 := by
  unfold lossyL
  have h1 : ∀ ps : List (List UInt8 × Int), ((ps.map (lossyP tt by')).flatten).length ≤ ps.length * 100 := by
    intro ps
    induction ps with
    | nil => simp
    | cons p ps ih =>
      rw [List.map_cons, List.flatten_cons, List.length_append, List.length_cons]
      have : (lossyP tt by' p).length ≤ 100 := by
        unfold lossyP
        split
        · have := (enc_len tt p.2).2; omega
        · exact hb
      omega
  have := h1 (parts f s)
  have := parts_len f s
  omega

theorem f8_sane (s t : ByteArray) (w : World) (hs : s.size ≤ 9223372036854775807) (ht : t.size ≤ 9223372036854775807) (h : 3000 < s.size ∨ 100 < t.size) (hT : Lib.Utf8Tabs 0 1 w) (h2 : 2 ≤ w.heap.size) : Calls Tryd.prog 8 #[.string s, .string t] w fun en w' => en = .returned (.bool true) ∧ Below w.heap.size w w' := by
  have H15 := Lib.hid (f15 w hT h2)
  clear hT
  by_cases h1 : 3000 < s.size
  · clear h
    go_enter Tryd.func8, Tryd.ntmps8
    go_wp2_with (go_at_call 15; refine H15.out.mono ?_; rintro en w4 ⟨rfl, hB⟩; have HB4 := Lib.hid hB; clear hB)
    go_ret
    exact ⟨rfl, HB4.out⟩
  · have h3 : 100 < t.size := by omega
    have h4 : s.size ≤ 3000 := by omega
    clear h h1
    go_enter Tryd.func8, Tryd.ntmps8
    go_wp2_with (go_at_call 15; refine H15.out.mono ?_; rintro en w4 ⟨rfl, hB⟩; have HB4 := Lib.hid hB; clear hB)
    go_ret
    exact ⟨rfl, HB4.out⟩

/-- The walk, whatever the answers are, if they fit each other. -/
def Says (f : FuncId) (args : Array Value) (v : Value) : Prop := ∀ w : World, Lib.Utf8Tabs 0 1 w → 2 ≤ w.heap.size → Calls Tryd.prog f args w fun en w' => en = .returned v ∧ Below w.heap.size w w'

set_option maxRecDepth 100000 in
set_option maxHeartbeats 4000000 in
theorem f8_ways (s t a : ByteArray) (is fine now : Bool) (w : World) (hs : s.size ≤ 3000) (ht : t.size ≤ 100) (ha : a.size ≤ 100000) (h1 : is = true → a = s) (h3 : fine = true → now = true)
    (H34 : Hid (Says 34 #[.string s, .string t] (.tuple #[.string a, .int .i64 0]))) (H35 : Hid (Says 35 #[.string s, .string t] (.tuple #[.string a, .int .i64 0])))
    (H36s : Hid (Says 36 #[.string s, .int .i64 2] (.tuple #[.bool is, .int .i64 0]))) (H36t : Hid (Says 36 #[.string t, .int .i64 2] (.tuple #[.bool fine, .int .i64 0]))) (H36a : Hid (Says 36 #[.string a, .int .i64 2] (.tuple #[.bool now, .int .i64 0])))
    (hT : Lib.Utf8Tabs 0 1 w) (h2 : 2 ≤ w.heap.size) : Calls Tryd.prog 8 #[.string s, .string t] w fun en w' => en = .returned (.bool true) ∧ Below w.heap.size w w' := by
  have HT := Lib.hid hT; clear hT
  have hcase : (is = true ∧ a = s) ∨ is = false := by cases is with | true => exact .inl ⟨rfl, h1 rfl⟩ | false => exact .inr rfl
  have hcase2 : (fine = true ∧ now = true) ∨ fine = false := by cases fine with | true => exact .inl ⟨rfl, h3 rfl⟩ | false => exact .inr rfl
  clear h1 h3
  rcases hcase with ⟨rfl, rfl⟩ | rfl <;> rcases hcase2 with ⟨rfl, rfl⟩ | rfl
  all_goals
    go_enter Tryd.func8, Tryd.ntmps8
    go_wp2_with fail
    refine (H34.out w HT.out h2).mono ?_
    rintro en w2 ⟨rfl, hB⟩
    have HB : Hid (Below w.heap.size w w2) := Lib.hid hB
    clear hB
    go_wp2_with fail
    refine (H35.out w2 (tabs_below HB.out h2 HT.out) (by have := HB.out.size; omega)).mono ?_
    rintro en w3 ⟨rfl, hB⟩
    have HB3 : Hid (Below w.heap.size w w3) := Lib.hid (HB.out.trans (hB.mono HB.out.size))
    clear hB HB
    go_wp2_with fail
    refine (H36s.out w3 (tabs_below HB3.out h2 HT.out) (by have := HB3.out.size; omega)).mono ?_
    rintro en w4 ⟨rfl, hB⟩
    have HB4 : Hid (Below w.heap.size w w4) := Lib.hid (HB3.out.trans (hB.mono HB3.out.size))
    clear hB HB3
    go_wp2_with fail
    refine (H36t.out w4 (tabs_below HB4.out h2 HT.out) (by have := HB4.out.size; omega)).mono ?_
    rintro en w5 ⟨rfl, hB⟩
    have HB5 : Hid (Below w.heap.size w w5) := Lib.hid (HB4.out.trans (hB.mono HB4.out.size))
    clear hB HB4
    go_wp2_with fail
    refine (H36a.out w5 (tabs_below HB5.out h2 HT.out) (by have := HB5.out.size; omega)).mono ?_
    rintro en w6 ⟨rfl, hB⟩
    have HB6 : Hid (Below w.heap.size w w6) := Lib.hid (HB5.out.trans (hB.mono HB5.out.size))
    clear hB HB5
    have H15 := Lib.hid (f15 w6 (tabs_below HB6.out h2 HT.out) (by have := HB6.out.size; omega))
    go_wp2_with (go_at_call 15; refine H15.out.mono ?_; rintro en w9 ⟨rfl, hB⟩; have HB9 := Lib.hid hB; clear hB)
    go_ret
    exact ⟨rfl, HB6.out.trans (HB9.out.mono HB6.out.size)⟩

set_option maxRecDepth 100000 in
set_option maxHeartbeats 4000000 in
theorem f8_long (s t a : ByteArray) (is fine : Bool) (w : World) (hs : s.size ≤ 3000) (ht : t.size ≤ 100) (ha : 100000 < a.size) (ha2 : a.size ≤ 300000)
    (H34 : Hid (Says 34 #[.string s, .string t] (.tuple #[.string a, .int .i64 0]))) (H35 : Hid (Says 35 #[.string s, .string t] (.tuple #[.string a, .int .i64 0])))
    (H36s : Hid (Says 36 #[.string s, .int .i64 2] (.tuple #[.bool is, .int .i64 0]))) (H36t : Hid (Says 36 #[.string t, .int .i64 2] (.tuple #[.bool fine, .int .i64 0]))) (H36a : Hid (Says 36 #[.string a, .int .i64 2] (.tuple #[.bool false, .int .i64 1])))
    (hT : Lib.Utf8Tabs 0 1 w) (h2 : 2 ≤ w.heap.size) : Calls Tryd.prog 8 #[.string s, .string t] w fun en w' => en = .returned (.bool true) ∧ Below w.heap.size w w' := by
  have HT := Lib.hid hT; clear hT
  go_enter Tryd.func8, Tryd.ntmps8
  go_wp2_with fail
  refine (H34.out w HT.out h2).mono ?_
  rintro en w2 ⟨rfl, hB⟩
  have HB : Hid (Below w.heap.size w w2) := Lib.hid hB
  clear hB
  go_wp2_with fail
  refine (H35.out w2 (tabs_below HB.out h2 HT.out) (by have := HB.out.size; omega)).mono ?_
  rintro en w3 ⟨rfl, hB⟩
  have HB3 : Hid (Below w.heap.size w w3) := Lib.hid (HB.out.trans (hB.mono HB.out.size))
  clear hB HB
  go_wp2_with fail
  refine (H36s.out w3 (tabs_below HB3.out h2 HT.out) (by have := HB3.out.size; omega)).mono ?_
  rintro en w4 ⟨rfl, hB⟩
  have HB4 : Hid (Below w.heap.size w w4) := Lib.hid (HB3.out.trans (hB.mono HB3.out.size))
  clear hB HB3
  go_wp2_with fail
  refine (H36t.out w4 (tabs_below HB4.out h2 HT.out) (by have := HB4.out.size; omega)).mono ?_
  rintro en w5 ⟨rfl, hB⟩
  have HB5 : Hid (Below w.heap.size w w5) := Lib.hid (HB4.out.trans (hB.mono HB4.out.size))
  clear hB HB4
  go_wp2_with fail
  refine (H36a.out w5 (tabs_below HB5.out h2 HT.out) (by have := HB5.out.size; omega)).mono ?_
  rintro en w6 ⟨rfl, hB⟩
  have HB6 : Hid (Below w.heap.size w w6) := Lib.hid (HB5.out.trans (hB.mono HB5.out.size))
  clear hB HB5
  have H15 := Lib.hid (f15 w6 (tabs_below HB6.out h2 HT.out) (by have := HB6.out.size; omega))
  go_wp2_with (go_at_call 15; refine H15.out.mono ?_; rintro en w9 ⟨rfl, hB⟩; have HB9 := Lib.hid hB; clear hB)
  go_ret
  exact ⟨rfl, HB6.out.trans (HB9.out.mono HB6.out.size)⟩

theorem f8 (s t : ByteArray) (w : World) (hs : s.size ≤ 9223372036854775807) (ht : t.size ≤ 9223372036854775807) (hT : Lib.Utf8Tabs 0 1 w) (h2 : 2 ≤ w.heap.size) : Calls Tryd.prog 8 #[.string s, .string t] w fun en w' => en = .returned (.bool true) ∧ Below w.heap.size w w' := by
  by_cases hbig : 3000 < s.size ∨ 100 < t.size
  · exact f8_sane s t w hs ht hbig hT h2
  · have H34 : Hid (Says 34 #[.string s, .string t] (.tuple #[.string (bs (lossyL 2 2 (str t) (str s))), .int .i64 0])) := Lib.hid fun w hT h2 => f34 s t (by omega) (by omega) w hT h2
    have H35 : Hid (Says 35 #[.string s, .string t] (.tuple #[.string (bs (lossyL 2 2 (str t) (str s))), .int .i64 0])) := Lib.hid fun w hT h2 => by
      have h := f35 s t (by omega) (by omega) w
      rw [scrub_lossy] at h
      exact h
    have H36s : Hid (Says 36 #[.string s, .int .i64 2] (.tuple #[.bool (validN 2 (parts 2 (str s))), .int .i64 0])) := Lib.hid fun w hT h2 => f36 2 (by decide) s (by omega) w hT h2
    have H36t : Hid (Says 36 #[.string t, .int .i64 2] (.tuple #[.bool (validN 2 (parts 2 (str t))), .int .i64 0])) := Lib.hid fun w hT h2 => f36 2 (by decide) t (by omega) w hT h2
    have hlen : (bs (lossyL 2 2 (str t) (str s))).size ≤ 300000 := by
      rw [← str_len, str_bs]
      exact lossy_len 2 2 (str t) (str s) (by rw [str_len]; omega) (by rw [str_len]; omega)
    by_cases ha : 100000 < (bs (lossyL 2 2 (str t) (str s))).size
    · exact f8_long s t _ _ _ w (by omega) (by omega) ha hlen H34 H35 H36s H36t (Lib.hid fun w hT h2 => f36_bad 2 _ (by omega) (.inr ha) w) hT h2
    · refine f8_ways s t _ _ _ _ w (by omega) (by omega) (by omega) ?_ ?_ H34 H35 H36s H36t (Lib.hid fun w hT h2 => f36 2 (by decide) _ (by omega) w hT h2) hT h2
      · intro hv
        have hv2 := (of_decide_eq_true hv) rfl
        rw [lossy_same hv2, bs_str]
      · intro hv
        have hv2 := (of_decide_eq_true hv) rfl
        exact decide_eq_true fun _ => by rw [str_bs]; exact lossy_valid hv2

end Go.Proofs.YtaanihidheccfaaDoor
