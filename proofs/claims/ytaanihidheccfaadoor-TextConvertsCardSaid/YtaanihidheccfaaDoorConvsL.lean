/-
  The statement TextConverts walked.
-/
import Derived.Test.YtaanihidheccfaaDoorConvsB
namespace Go.Proofs.YtaanihidheccfaaDoor
open Go.Shelf Go.RowKit
set_option linter.unusedVariables false

/-- There and back is the string, and Lossy is the same. -/
theorem conv_back {f t : Int} {s by' : ByteArray} (hs : s.size ≤ 3000) (h : cvC f t s = 0) : (cvT f t s).size ≤ 12000 ∧ cvT t f (cvT f t s) = s ∧ cvC t f (cvT f t s) = 0 ∧ lsT f t s by' = cvT f t s ∧ lsC f t = 0 := by
  by_cases hg : (f = 0 ∨ f = 1 ∨ f = 2) ∧ (t = 0 ∨ t = 1 ∨ t = 2)
  · obtain ⟨hf, ht⟩ := hg
    have hg2 : (t = 0 ∨ t = 1 ∨ t = 2) ∧ (f = 0 ∨ f = 1 ∨ f = 2) := ⟨ht, hf⟩
    unfold cvC at h
    rw [if_pos ⟨hf, ht⟩] at h
    cases hc : codesL f (str s) with
    | none => rw [hc] at h; simp at h
    | some cs =>
      rw [hc] at h
      simp only at h
      cases ho : ofL t cs with
      | none => rw [ho] at h; simp [resC] at h
      | some l =>
        have e1 : cvT f t s = bs l := by
          unfold cvT
          rw [if_pos ⟨hf, ht⟩, hc]
          simp only
          rw [ho]
          rfl
        have h1 := of_codes ht ho
        have h2 := codes_some hf hc
        have h3 := parts_len f (str s)
        rw [str_len] at h3
        have e2 : codesL t (str (bs l)) = some cs := h1.1
        rw [e1]
        refine ⟨?_, ?_, ?_, ?_, ?_⟩
        · rw [← str_len, str_bs]; omega
        · unfold cvT
          rw [if_pos hg2, e2]
          simp only
          rw [h2.1]
          rfl
        · unfold cvC
          rw [if_pos hg2, e2]
          simp only
          rw [h2.1]
          rfl
        · unfold lsT
          rw [if_pos ⟨hf, ht⟩]
          congr 1
          unfold ofL at ho
          split at ho
          · rename_i hh
            injection ho with ho
            subst ho
            unfold codesL at hc
            split at hc
            · injection hc with hc
              subst hc
              unfold lossyL
              rw [List.map_map]
              congr 1
              apply List.map_congr_left
              intro p hp
              unfold lossyP
              rw [if_pos (hh p.2 (List.mem_map.2 ⟨p, hp, rfl⟩))]
              rfl
            · cases hc
          · cases ho
        · unfold lsC
          rw [if_pos ⟨hf, ht⟩]
  · unfold cvC at h
    rw [if_neg hg] at h
    simp at h

theorem f6_sane (s : ByteArray) (f t : Int) (by' : ByteArray) (w : World) (hs : s.size ≤ 9223372036854775807) (hby : by'.size ≤ 9223372036854775807) (h : 3000 < s.size ∨ 100 < by'.size) (hT : Lib.Utf8Tabs 0 1 w) (h2 : 2 ≤ w.heap.size) : Calls Tryd.prog 6 #[.agg #[.string s, .int .i64 f, .int .i64 t, .string by']] w fun en w' => en = .returned (.bool true) ∧ Below w.heap.size w w' := by
  have hA : Below w.heap.size w (w.alloc (.cells #[.string s, .int .i64 f, .int .i64 t, .string by'] 40)) := (Below.refl _ _).alloc (Nat.le_refl _) _
  have H15 := Lib.hid (f15 _ (tabs_below hA h2 hT) (by simp; omega))
  have HA := Lib.hid hA; clear hA hT
  by_cases h1 : 3000 < s.size
  · clear h
    go_enter Tryd.func6, Tryd.ntmps6
    go_wp2_with (go_at_call 15; refine H15.out.mono ?_; rintro en w4 ⟨rfl, hB⟩; have HB4 := Lib.hid hB; clear hB)
    go_ret
    exact ⟨rfl, HA.out.trans (HB4.out.mono (by simp))⟩
  · have h3 : 100 < by'.size := by omega
    have h4 : s.size ≤ 3000 := by omega
    clear h h1
    go_enter Tryd.func6, Tryd.ntmps6
    go_wp2_with (go_at_call 15; refine H15.out.mono ?_; rintro en w4 ⟨rfl, hB⟩; have HB4 := Lib.hid hB; clear hB)
    go_ret
    exact ⟨rfl, HA.out.trans (HB4.out.mono (by simp))⟩

set_option maxRecDepth 100000 in
set_option maxHeartbeats 4000000 in
theorem f6_no (s : ByteArray) (f t : Int) (by' a b : ByteArray) (c d : Int) (w : World) (hs : s.size ≤ 3000) (hby : by'.size ≤ 100) (hq : (c == 0) = false)
    (H26 : Hid (Says 26 #[.string s, .int .i64 f, .int .i64 t] (.tuple #[.string a, .int .i64 c]))) (H27 : Hid (Says 27 #[.string s, .int .i64 f, .int .i64 t] (.tuple #[.string a, .int .i64 c])))
    (H28 : Hid (Says 28 #[.string s, .int .i64 f, .int .i64 t, .string by'] (.tuple #[.string b, .int .i64 d]))) (H29 : Hid (Says 29 #[.string s, .int .i64 f, .int .i64 t, .string by'] (.tuple #[.string b, .int .i64 d]))) 
    (hT : Lib.Utf8Tabs 0 1 w) (h2 : 2 ≤ w.heap.size) : Calls Tryd.prog 6 #[.agg #[.string s, .int .i64 f, .int .i64 t, .string by']] w fun en w' => en = .returned (.bool true) ∧ Below w.heap.size w w' := by
  have hA : Below w.heap.size w (w.alloc (.cells #[.string s, .int .i64 f, .int .i64 t, .string by'] 40)) := (Below.refl _ _).alloc (Nat.le_refl _) _
  have HT0 := Lib.hid (tabs_below hA h2 hT)
  have HT := Lib.hid hT; clear hT
  have HA := Lib.hid hA; clear hA
  go_enter Tryd.func6, Tryd.ntmps6
  go_wp2_with fail
  refine (H26.out (w.alloc (.cells #[.string s, .int .i64 f, .int .i64 t, .string by'] 40)) HT0.out (by simp; omega)).mono ?_
  rintro en w2 ⟨rfl, hB⟩
  have HB2 : Hid (Below w.heap.size w w2) := Lib.hid (HA.out.trans (hB.mono (by simp)))
  have HX2 : Hid (Below (w.heap.size + 1) (w.alloc (.cells #[.string s, .int .i64 f, .int .i64 t, .string by'] 40)) w2) := Lib.hid (hB.mono (by simp))
  clear hB
  have k0 : w2.cell? ⟨w.heap.size, 0, none⟩ = some (.string s) := (HX2.out.cell (by simp)).trans (by simp)
  have k1 : w2.cell? ⟨w.heap.size, 1, none⟩ = some (.int .i64 f) := (HX2.out.cell (by simp)).trans (by simp)
  have k2 : w2.cell? ⟨w.heap.size, 2, none⟩ = some (.int .i64 t) := (HX2.out.cell (by simp)).trans (by simp)
  have k3 : w2.cell? ⟨w.heap.size, 3, none⟩ = some (.string by') := (HX2.out.cell (by simp)).trans (by simp)
  go_wp2_with fail
  refine (H27.out w2 (tabs_below HB2.out h2 HT.out) (by have := HB2.out.size; omega)).mono ?_
  rintro en w3 ⟨rfl, hB⟩
  have HB3 : Hid (Below w.heap.size w w3) := Lib.hid (HB2.out.trans (hB.mono HB2.out.size))
  have HX3 : Hid (Below (w.heap.size + 1) (w.alloc (.cells #[.string s, .int .i64 f, .int .i64 t, .string by'] 40)) w3) := Lib.hid (HX2.out.trans (hB.mono (by have := HX2.out.size; simp at this; omega)))
  clear k0 k1 k2 k3
  clear hB HB2 HX2
  have k0 : w3.cell? ⟨w.heap.size, 0, none⟩ = some (.string s) := (HX3.out.cell (by simp)).trans (by simp)
  have k1 : w3.cell? ⟨w.heap.size, 1, none⟩ = some (.int .i64 f) := (HX3.out.cell (by simp)).trans (by simp)
  have k2 : w3.cell? ⟨w.heap.size, 2, none⟩ = some (.int .i64 t) := (HX3.out.cell (by simp)).trans (by simp)
  have k3 : w3.cell? ⟨w.heap.size, 3, none⟩ = some (.string by') := (HX3.out.cell (by simp)).trans (by simp)
  go_wp2_with fail
  refine (H28.out w3 (tabs_below HB3.out h2 HT.out) (by have := HB3.out.size; omega)).mono ?_
  rintro en w4 ⟨rfl, hB⟩
  have HB4 : Hid (Below w.heap.size w w4) := Lib.hid (HB3.out.trans (hB.mono HB3.out.size))
  have HX4 : Hid (Below (w.heap.size + 1) (w.alloc (.cells #[.string s, .int .i64 f, .int .i64 t, .string by'] 40)) w4) := Lib.hid (HX3.out.trans (hB.mono (by have := HX3.out.size; simp at this; omega)))
  clear k0 k1 k2 k3
  clear hB HB3 HX3
  have k0 : w4.cell? ⟨w.heap.size, 0, none⟩ = some (.string s) := (HX4.out.cell (by simp)).trans (by simp)
  have k1 : w4.cell? ⟨w.heap.size, 1, none⟩ = some (.int .i64 f) := (HX4.out.cell (by simp)).trans (by simp)
  have k2 : w4.cell? ⟨w.heap.size, 2, none⟩ = some (.int .i64 t) := (HX4.out.cell (by simp)).trans (by simp)
  have k3 : w4.cell? ⟨w.heap.size, 3, none⟩ = some (.string by') := (HX4.out.cell (by simp)).trans (by simp)
  go_wp2_with fail
  refine (H29.out w4 (tabs_below HB4.out h2 HT.out) (by have := HB4.out.size; omega)).mono ?_
  rintro en w5 ⟨rfl, hB⟩
  have HB5 : Hid (Below w.heap.size w w5) := Lib.hid (HB4.out.trans (hB.mono HB4.out.size))
  have HX5 : Hid (Below (w.heap.size + 1) (w.alloc (.cells #[.string s, .int .i64 f, .int .i64 t, .string by'] 40)) w5) := Lib.hid (HX4.out.trans (hB.mono (by have := HX4.out.size; simp at this; omega)))
  clear k0 k1 k2 k3
  clear hB HB4 HX4
  have k0 : w5.cell? ⟨w.heap.size, 0, none⟩ = some (.string s) := (HX5.out.cell (by simp)).trans (by simp)
  have k1 : w5.cell? ⟨w.heap.size, 1, none⟩ = some (.int .i64 f) := (HX5.out.cell (by simp)).trans (by simp)
  have k2 : w5.cell? ⟨w.heap.size, 2, none⟩ = some (.int .i64 t) := (HX5.out.cell (by simp)).trans (by simp)
  have k3 : w5.cell? ⟨w.heap.size, 3, none⟩ = some (.string by') := (HX5.out.cell (by simp)).trans (by simp)
  go_wp2_with fail
  have H15 := Lib.hid (f15 w5 (tabs_below HB5.out h2 HT.out) (by have := HB5.out.size; omega))
  refine H15.out.mono ?_
  rintro en w9 ⟨rfl, hB⟩
  have HB9 := Lib.hid hB; clear hB
  go_wp2_with fail
  go_ret
  exact ⟨rfl, HB5.out.trans (HB9.out.mono HB5.out.size)⟩

set_option maxRecDepth 100000 in
set_option maxHeartbeats 4000000 in
theorem f6_yes (s : ByteArray) (f t : Int) (by' a b : ByteArray) (w : World) (hs : s.size ≤ 3000) (hby : by'.size ≤ 100) 
    (H26 : Hid (Says 26 #[.string s, .int .i64 f, .int .i64 t] (.tuple #[.string a, .int .i64 0]))) (H27 : Hid (Says 27 #[.string s, .int .i64 f, .int .i64 t] (.tuple #[.string a, .int .i64 0])))
    (H28 : Hid (Says 28 #[.string s, .int .i64 f, .int .i64 t, .string by'] (.tuple #[.string a, .int .i64 0]))) (H29 : Hid (Says 29 #[.string s, .int .i64 f, .int .i64 t, .string by'] (.tuple #[.string a, .int .i64 0]))) (HBK : Hid (Says 26 #[.string a, .int .i64 t, .int .i64 f] (.tuple #[.string s, .int .i64 0])))
    (hT : Lib.Utf8Tabs 0 1 w) (h2 : 2 ≤ w.heap.size) : Calls Tryd.prog 6 #[.agg #[.string s, .int .i64 f, .int .i64 t, .string by']] w fun en w' => en = .returned (.bool true) ∧ Below w.heap.size w w' := by
  have hA : Below w.heap.size w (w.alloc (.cells #[.string s, .int .i64 f, .int .i64 t, .string by'] 40)) := (Below.refl _ _).alloc (Nat.le_refl _) _
  have HT0 := Lib.hid (tabs_below hA h2 hT)
  have HT := Lib.hid hT; clear hT
  have HA := Lib.hid hA; clear hA
  go_enter Tryd.func6, Tryd.ntmps6
  go_wp2_with fail
  refine (H26.out (w.alloc (.cells #[.string s, .int .i64 f, .int .i64 t, .string by'] 40)) HT0.out (by simp; omega)).mono ?_
  rintro en w2 ⟨rfl, hB⟩
  have HB2 : Hid (Below w.heap.size w w2) := Lib.hid (HA.out.trans (hB.mono (by simp)))
  have HX2 : Hid (Below (w.heap.size + 1) (w.alloc (.cells #[.string s, .int .i64 f, .int .i64 t, .string by'] 40)) w2) := Lib.hid (hB.mono (by simp))
  clear hB
  have k0 : w2.cell? ⟨w.heap.size, 0, none⟩ = some (.string s) := (HX2.out.cell (by simp)).trans (by simp)
  have k1 : w2.cell? ⟨w.heap.size, 1, none⟩ = some (.int .i64 f) := (HX2.out.cell (by simp)).trans (by simp)
  have k2 : w2.cell? ⟨w.heap.size, 2, none⟩ = some (.int .i64 t) := (HX2.out.cell (by simp)).trans (by simp)
  have k3 : w2.cell? ⟨w.heap.size, 3, none⟩ = some (.string by') := (HX2.out.cell (by simp)).trans (by simp)
  go_wp2_with fail
  refine (H27.out w2 (tabs_below HB2.out h2 HT.out) (by have := HB2.out.size; omega)).mono ?_
  rintro en w3 ⟨rfl, hB⟩
  have HB3 : Hid (Below w.heap.size w w3) := Lib.hid (HB2.out.trans (hB.mono HB2.out.size))
  have HX3 : Hid (Below (w.heap.size + 1) (w.alloc (.cells #[.string s, .int .i64 f, .int .i64 t, .string by'] 40)) w3) := Lib.hid (HX2.out.trans (hB.mono (by have := HX2.out.size; simp at this; omega)))
  clear k0 k1 k2 k3
  clear hB HB2 HX2
  have k0 : w3.cell? ⟨w.heap.size, 0, none⟩ = some (.string s) := (HX3.out.cell (by simp)).trans (by simp)
  have k1 : w3.cell? ⟨w.heap.size, 1, none⟩ = some (.int .i64 f) := (HX3.out.cell (by simp)).trans (by simp)
  have k2 : w3.cell? ⟨w.heap.size, 2, none⟩ = some (.int .i64 t) := (HX3.out.cell (by simp)).trans (by simp)
  have k3 : w3.cell? ⟨w.heap.size, 3, none⟩ = some (.string by') := (HX3.out.cell (by simp)).trans (by simp)
  go_wp2_with fail
  refine (H28.out w3 (tabs_below HB3.out h2 HT.out) (by have := HB3.out.size; omega)).mono ?_
  rintro en w4 ⟨rfl, hB⟩
  have HB4 : Hid (Below w.heap.size w w4) := Lib.hid (HB3.out.trans (hB.mono HB3.out.size))
  have HX4 : Hid (Below (w.heap.size + 1) (w.alloc (.cells #[.string s, .int .i64 f, .int .i64 t, .string by'] 40)) w4) := Lib.hid (HX3.out.trans (hB.mono (by have := HX3.out.size; simp at this; omega)))
  clear k0 k1 k2 k3
  clear hB HB3 HX3
  have k0 : w4.cell? ⟨w.heap.size, 0, none⟩ = some (.string s) := (HX4.out.cell (by simp)).trans (by simp)
  have k1 : w4.cell? ⟨w.heap.size, 1, none⟩ = some (.int .i64 f) := (HX4.out.cell (by simp)).trans (by simp)
  have k2 : w4.cell? ⟨w.heap.size, 2, none⟩ = some (.int .i64 t) := (HX4.out.cell (by simp)).trans (by simp)
  have k3 : w4.cell? ⟨w.heap.size, 3, none⟩ = some (.string by') := (HX4.out.cell (by simp)).trans (by simp)
  go_wp2_with fail
  refine (H29.out w4 (tabs_below HB4.out h2 HT.out) (by have := HB4.out.size; omega)).mono ?_
  rintro en w5 ⟨rfl, hB⟩
  have HB5 : Hid (Below w.heap.size w w5) := Lib.hid (HB4.out.trans (hB.mono HB4.out.size))
  have HX5 : Hid (Below (w.heap.size + 1) (w.alloc (.cells #[.string s, .int .i64 f, .int .i64 t, .string by'] 40)) w5) := Lib.hid (HX4.out.trans (hB.mono (by have := HX4.out.size; simp at this; omega)))
  clear k0 k1 k2 k3
  clear hB HB4 HX4
  have k0 : w5.cell? ⟨w.heap.size, 0, none⟩ = some (.string s) := (HX5.out.cell (by simp)).trans (by simp)
  have k1 : w5.cell? ⟨w.heap.size, 1, none⟩ = some (.int .i64 f) := (HX5.out.cell (by simp)).trans (by simp)
  have k2 : w5.cell? ⟨w.heap.size, 2, none⟩ = some (.int .i64 t) := (HX5.out.cell (by simp)).trans (by simp)
  have k3 : w5.cell? ⟨w.heap.size, 3, none⟩ = some (.string by') := (HX5.out.cell (by simp)).trans (by simp)
  go_wp2_with fail
  refine (HBK.out w5 (tabs_below HB5.out h2 HT.out) (by have := HB5.out.size; omega)).mono ?_
  rintro en w6 ⟨rfl, hB⟩
  have HB6 : Hid (Below w.heap.size w w6) := Lib.hid (HB5.out.trans (hB.mono HB5.out.size))
  have HX6 : Hid (Below (w.heap.size + 1) (w.alloc (.cells #[.string s, .int .i64 f, .int .i64 t, .string by'] 40)) w6) := Lib.hid (HX5.out.trans (hB.mono (by have := HX5.out.size; simp at this; omega)))
  clear k0 k1 k2 k3
  clear hB HB5 HX5
  have k0 : w6.cell? ⟨w.heap.size, 0, none⟩ = some (.string s) := (HX6.out.cell (by simp)).trans (by simp)
  have k1 : w6.cell? ⟨w.heap.size, 1, none⟩ = some (.int .i64 f) := (HX6.out.cell (by simp)).trans (by simp)
  have k2 : w6.cell? ⟨w.heap.size, 2, none⟩ = some (.int .i64 t) := (HX6.out.cell (by simp)).trans (by simp)
  have k3 : w6.cell? ⟨w.heap.size, 3, none⟩ = some (.string by') := (HX6.out.cell (by simp)).trans (by simp)
  go_wp2_with fail
  have H15 := Lib.hid (f15 w6 (tabs_below HB6.out h2 HT.out) (by have := HB6.out.size; omega))
  refine H15.out.mono ?_
  rintro en w9 ⟨rfl, hB⟩
  have HB9 := Lib.hid hB; clear hB
  go_wp2_with fail
  go_ret
  exact ⟨rfl, HB6.out.trans (HB9.out.mono HB6.out.size)⟩

theorem f6 (s : ByteArray) (f t : Int) (by' : ByteArray) (w : World) (hs : s.size ≤ 9223372036854775807) (hf : (Lit.int .i64 f).wf = true) (ht : (Lit.int .i64 t).wf = true) (hby : by'.size ≤ 9223372036854775807) (hT : Lib.Utf8Tabs 0 1 w) (h2 : 2 ≤ w.heap.size) : Calls Tryd.prog 6 #[.agg #[.string s, .int .i64 f, .int .i64 t, .string by']] w fun en w' => en = .returned (.bool true) ∧ Below w.heap.size w w' := by
  by_cases hbig : 3000 < s.size ∨ 100 < by'.size
  · exact f6_sane s f t by' w hs hby hbig hT h2
  · have H26 := f26_all f t s (by omega)
    have H27 := f27_all f t s (by omega)
    have H28 := f28_all f t s by' (by omega) (by omega)
    have H29 := f29_all f t s by' (by omega) (by omega)
    by_cases hc : cvC f t s = 0
    · obtain ⟨h1, h3, h4, h5, h6⟩ := conv_back (by' := by') (by omega) hc
      have HBK := f26_all t f (cvT f t s) (by omega)
      rw [h3, h4] at HBK
      rw [hc] at H26 H27
      rw [h5, h6] at H28 H29
      exact f6_yes s f t by' (cvT f t s) (cvT f t s) w (by omega) (by omega) (Lib.hid H26) (Lib.hid H27) (Lib.hid H28) (Lib.hid H29) (Lib.hid HBK) hT h2
    · exact f6_no s f t by' _ _ _ _ w (by omega) (by omega) (by simp [hc]) (Lib.hid H26) (Lib.hid H27) (Lib.hid H28) (Lib.hid H29) hT h2

end Go.Proofs.YtaanihidheccfaaDoor
