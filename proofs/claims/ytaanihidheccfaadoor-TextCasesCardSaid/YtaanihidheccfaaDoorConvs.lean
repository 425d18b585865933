/-
  Convert and Lossy, the program's and the document's; the statement TextConverts walked.
-/
import Derived.Test.YtaanihidheccfaaDoorScrubs
import Derived.Test.YtaanihidheccfaaDoorCuts
import Derived.Test.YtaanihidheccfaaDoorWalkL0
import Derived.Test.YtaanihidheccfaaDoorWalkL1
namespace Go.Proofs.YtaanihidheccfaaDoor
open Go.Shelf Go.RowKit
set_option linter.unusedVariables false

theorem f61 (f t : Int) (hf : f = 0 ∨ f = 1 ∨ f = 2) (ht : t = 0 ∨ t = 1 ∨ t = 2) (s by' : ByteArray) (hs : s.size ≤ 100000) (hby : by'.size ≤ 100000) (w : World) (hT : Lib.Utf8Tabs 0 1 w) (h2 : 2 ≤ w.heap.size) : Calls Tryd.prog 61 #[.string s, .int .i64 f, .int .i64 t, .string by'] w (LossyPost w (lossyL f t (str by') (str s))) := by
  rcases hf with rfl | rfl | rfl <;> rcases ht with rfl | rfl | rfl
  · exact f61_00 s by' hs hby w hT h2
  · exact f61_01 s by' hs hby w hT h2
  · exact f61_02 s by' hs hby w hT h2
  · exact f61_10 s by' hs hby w hT h2
  · exact f61_11 s by' hs hby w hT h2
  · exact f61_12 s by' hs hby w hT h2
  · exact f61_20 s by' hs hby w hT h2
  · exact f61_21 s by' hs hby w hT h2
  · exact f61_22 s by' hs hby w hT h2

/-! ### Lossy -/

theorem f28_bad1 (f t : Int) (hf : ¬ (f = 0 ∨ f = 1 ∨ f = 2)) (s by' : ByteArray) (hs : s.size ≤ 100000) (hby : by'.size ≤ 100000) (w : World) : Calls Tryd.prog 28 #[.string s, .int .i64 f, .int .i64 t, .string by'] w fun en w' => en = .returned (ans ⟨#[]⟩ 1) ∧ Below w.heap.size w w' := by
  have H47 := Lib.hid (f47two f s by' (by omega) (by omega) w)
  rw [asked_bad (xs := [s, by']) (.inl hf)] at H47
  clear hf
  go_enter Tryd.func28, Tryd.ntmps28
  go_wp2_with (go_at_call 47; refine H47.out.mono ?_; rintro en w2 ⟨rfl, rfl⟩)
  go_ret2
  exact ⟨rfl, (Below.refl _ _).alloc (Nat.le_refl _) _⟩
theorem f28_bad2 (f t : Int) (hf : f = 0 ∨ f = 1 ∨ f = 2) (ht : ¬ (t = 0 ∨ t = 1 ∨ t = 2)) (s by' : ByteArray) (hs : s.size ≤ 100000) (hby : by'.size ≤ 100000) (w : World) : Calls Tryd.prog 28 #[.string s, .int .i64 f, .int .i64 t, .string by'] w fun en w' => en = .returned (ans ⟨#[]⟩ 1) ∧ Below w.heap.size w w' := by
  have H47 := Lib.hid (f47two f s by' (by omega) (by omega) w)
  rw [asked_ok (xs := [s, by']) hf (by intro x hx; simp at hx; rcases hx with rfl | rfl <;> assumption)] at H47
  have H47b := Lib.hid (fun w => f47nil t w)
  rw [asked_bad (xs := []) (.inl ht)] at H47b
  clear hf ht
  go_enter Tryd.func28, Tryd.ntmps28
  go_wp2_with fail
  refine H47.out.mono ?_
  rintro en w2 ⟨rfl, rfl⟩
  go_wp2_with fail
  refine (H47b.out _).mono ?_
  rintro en w3 ⟨rfl, rfl⟩
  go_wp2_with fail
  go_ret2
  exact ⟨rfl, (Below.refl _ _).alloc (Nat.le_refl _) _⟩
theorem f28_ok (f t : Int) (hf : f = 0 ∨ f = 1 ∨ f = 2) (ht : t = 0 ∨ t = 1 ∨ t = 2) (s by' : ByteArray) (hs : s.size ≤ 100000) (hby : by'.size ≤ 100000) (w : World) (hT : Lib.Utf8Tabs 0 1 w) (h2 : 2 ≤ w.heap.size) : Calls Tryd.prog 28 #[.string s, .int .i64 f, .int .i64 t, .string by'] w fun en w' => en = .returned (ans (bs (lossyL f t (str by') (str s))) 0) ∧ Below w.heap.size w w' := by
  have H47 := Lib.hid (f47two f s by' (by omega) (by omega) w)
  rw [asked_ok (xs := [s, by']) hf (by intro x hx; simp at hx; rcases hx with rfl | rfl <;> assumption)] at H47
  have H47b := Lib.hid (fun w => f47nil t w)
  rw [asked_ok (xs := []) ht (by simp)] at H47b
  have hA : Below w.heap.size w (w.alloc (.cells #[.string s, .string by'] 9)) := (Below.refl _ _).alloc (Nat.le_refl _) _
  have H61 := Lib.hid (f61 f t hf ht s by' hs hby (w.alloc (.cells #[.string s, .string by'] 9)) (tabs_below hA h2 hT) (by simp; omega))
  have HA := Lib.hid hA; clear hA hT
  unfold LossyPost at H61
  generalize bs (lossyL f t (str by') (str s)) = r at *
  clear hf ht
  go_enter Tryd.func28, Tryd.ntmps28
  go_wp2_with fail
  refine H47.out.mono ?_
  rintro en w2 ⟨rfl, rfl⟩
  go_wp2_with fail
  refine (H47b.out _).mono ?_
  rintro en w3 ⟨rfl, rfl⟩
  go_wp2_with fail
  refine H61.out.mono ?_
  rintro en w4 ⟨rfl, hB⟩
  have HB := Lib.hid hB; clear hB
  go_wp2_with fail
  go_ret2
  exact ⟨rfl, HA.out.trans (HB.out.mono (by simp))⟩

theorem f29_bad1 (f t : Int) (hf : ¬ (f = 0 ∨ f = 1 ∨ f = 2)) (s by' : ByteArray) (hs : s.size ≤ 100000) (hby : by'.size ≤ 100000) (w : World) : Calls Tryd.prog 29 #[.string s, .int .i64 f, .int .i64 t, .string by'] w fun en w' => en = .returned (ans ⟨#[]⟩ 1) ∧ Below w.heap.size w w' := by
  have H51 := Lib.hid (f51two f s by' (by omega) (by omega) w)
  rw [badN_bad (xs := [s, by']) (.inl hf)] at H51
  clear hf
  go_enter Tryd.func29, Tryd.ntmps29
  go_wp2_with (go_at_call 51; refine H51.out.mono ?_; rintro en w2 ⟨rfl, rfl⟩)
  go_ret2
  exact ⟨rfl, (Below.refl _ _).alloc (Nat.le_refl _) _⟩
theorem f29_bad2 (f t : Int) (hf : f = 0 ∨ f = 1 ∨ f = 2) (ht : ¬ (t = 0 ∨ t = 1 ∨ t = 2)) (s by' : ByteArray) (hs : s.size ≤ 100000) (hby : by'.size ≤ 100000) (w : World) : Calls Tryd.prog 29 #[.string s, .int .i64 f, .int .i64 t, .string by'] w fun en w' => en = .returned (ans ⟨#[]⟩ 1) ∧ Below w.heap.size w w' := by
  have H51 := Lib.hid (f51two f s by' (by omega) (by omega) w)
  rw [badN_ok (xs := [s, by']) hf (by intro x hx; simp at hx; rcases hx with rfl | rfl <;> assumption)] at H51
  have H51b := Lib.hid (fun w => f51none t w)
  rw [badN_bad (xs := []) (.inl ht)] at H51b
  clear hf ht
  go_enter Tryd.func29, Tryd.ntmps29
  go_wp2_with fail
  refine H51.out.mono ?_
  rintro en w2 ⟨rfl, rfl⟩
  go_wp2_with fail
  refine (H51b.out _).mono ?_
  rintro en w3 ⟨rfl, rfl⟩
  go_wp2_with fail
  go_ret2
  exact ⟨rfl, (Below.refl _ _).alloc (Nat.le_refl _) _⟩

/-- What cannot be written, replaced. -/
def losP (tt : Int) (by' : List UInt8) (p : List UInt8 × Int) : List UInt8 × Int := (lossyP tt by' p, p.2)
theorem losP_yes {tt : Int} {by' : List UInt8} {p : List UInt8 × Int} (h : has tt p.2) : losP tt by' p = (enc tt p.2, p.2) := by unfold losP lossyP; rw [if_pos h]
theorem losP_no {tt : Int} {by' : List UInt8} {p : List UInt8 × Int} (h : ¬ has tt p.2) : losP tt by' p = (by', p.2) := by unfold losP lossyP; rw [if_neg h]
theorem losP_join (f tt : Int) (by' l : List UInt8) : joinP ((parts f l).map (losP tt by')) = lossyL f tt by' l := by
  unfold joinP lossyL
  rw [List.map_map]
  rfl

set_option maxRecDepth 100000 in
set_option maxHeartbeats 1000000 in
theorem f29_ok (f t : Int) (hf : f = 0 ∨ f = 1 ∨ f = 2) (ht : t = 0 ∨ t = 1 ∨ t = 2) (s by' : ByteArray) (hs : s.size ≤ 100000) (hby : by'.size ≤ 100000) (w : World) : Calls Tryd.prog 29 #[.string s, .int .i64 f, .int .i64 t, .string by'] w fun en w' => en = .returned (ans (bs (lossyL f t (str by') (str s))) 0) ∧ Below w.heap.size w w' := by
  have H51 := Lib.hid (f51two f s by' (by omega) (by omega) w)
  rw [badN_ok (xs := [s, by']) hf (by intro x hx; simp at hx; rcases hx with rfl | rfl <;> assumption)] at H51
  have H51b := Lib.hid (fun w => f51none t w)
  rw [badN_ok (xs := []) ht (by simp)] at H51b
  have hA : Below w.heap.size w (w.alloc (.cells #[.string s, .string by'] 9)) := (Below.refl _ _).alloc (Nat.le_refl _) _
  have H56 := Lib.hid (f56 f hf s (by omega) (w.alloc (.cells #[.string s, .string by'] 9)))
  have HA := Lib.hid hA; clear hA
  have hl := parts_len f (str s)
  rw [str_len] at hl
  rw [← losP_join f t (str by') (str s)]
  unfold PartsPost at H56
  generalize parts f (str s) = ps at *
  have HTT := Lib.hid ht; clear ht hf
  go_enter Tryd.func29, Tryd.ntmps29
  go_wp2_with fail
  refine H51.out.mono ?_
  rintro en w2 ⟨rfl, rfl⟩
  go_wp2_with fail
  refine (H51b.out _).mono ?_
  rintro en w3 ⟨rfl, rfl⟩
  go_wp2_with fail
  refine H56.out.mono ?_
  rintro en w3 ⟨v, rfl, ho, hB⟩
  have hz3 := hB.size
  simp only [World.size_alloc] at hz3
  have HB : Hid (Below w.heap.size w w3) := Lib.hid (HA.out.trans (hB.mono (by simp)))
  clear hB
  by_cases h0 : ps = []
  · subst h0
    obtain ⟨⟨a, cap, rfl, -⟩, -⟩ := parts_in ho
    clear ho
    have H57 := Lib.hid (f57_nil a cap w3)
    go_wp2_with fail
    go_loop [11] (fun i => i = .int .i64 0) (fun _ => 0)
    case atStart => rfl
    case round =>
      subst hrel
      go_wp2_with (go_at_call 57; refine H57.out.mono ?_; rintro en w4 ⟨rfl, hB⟩; have HB4 := Lib.hid hB; clear hB)
      go_ret2
      exact ⟨rfl, HB.out.trans (HB4.out.mono (by omega))⟩
  · obtain ⟨g, cap, rfl, hcap, hg0, hg, hpb⟩ := PB.of_owns ho h0
    simp only [World.size_alloc] at hg0
    have HPB := Lib.hid hpb; clear hpb ho h0
    go_wp2_with fail
    go_loopw [11] (fun i wr => ∃ j : Nat, i = .int .i64 j ∧ j ≤ ps.length ∧ Hid (PB wr g ((ps.take j).map (losP t (str by')) ++ ps.drop j)) ∧ Hid (Below w.heap.size w wr)) (fun i _ => ps.length - (intOf i).toNat)
    case atStart => exact ⟨0, rfl, Nat.zero_le _, HPB, HB⟩
    case round =>
      obtain ⟨j, rfl, hj, HR, HBR⟩ := hrel
      have hbr := HBR.out.size
      have hglt := HR.out.lt
      by_cases hlt : j < ps.length
      · obtain ⟨p, hp⟩ : ∃ p, ps[j]? = some p := ⟨ps[j], by simp [hlt]⟩
        have hpc := HR.out.cell ((step_at _ ps j).trans hp)
        obtain ⟨hc1, hc2⟩ := hpc
        have hfr := HR.out.free (j * 2)
        have HP := Lib.hid hp; clear hp
        have H52 := Lib.hid (f52 t p.2 HTT.out wr)
        by_cases hh : has t p.2
        · have hpos : 0 ≤ p.2 := (has_pos hh).1
          rw [decide_eq_true hh] at H52
          have H53 := Lib.hid (f53 t p.2 HTT.out hh wr)
          have HN : Hid (∀ w5, Below wr.heap.size wr w5 → PB (w5.setCell ⟨g, j * 2, none⟩ (.string (bs (enc t p.2)))) g ((ps.take (j + 1)).map (losP t (str by')) ++ ps.drop (j + 1))) := Lib.hid (fun w5 hb => by
            have h1 := (HR.out.below hb).set ((step_at _ ps j).trans HP.out) (enc t p.2)
            rw [← losP_yes (by' := str by') hh, step_set _ _ _ _ HP.out] at h1
            exact h1)
          generalize bs (enc t p.2) = x at *
          clear hh
          go_wp2_with (go_at_call 52; refine H52.out.mono ?_; rintro en w5 ⟨rfl, rfl⟩)
          refine H53.out.mono ?_
          rintro en w5 ⟨rfl, hB5⟩
          have hz5 := hB5.size
          have hd1 := (hB5.cell (p := ⟨g, j * 2, none⟩) hglt).trans hc1
          have hd2 := (hB5.frozen (p := ⟨g, j * 2, none⟩) hglt).trans hfr
          have HB5 := Lib.hid hB5; clear hB5
          go_wp2_with fail
          go_roundw
          case rel => exact ⟨j + 1, by go_num, by omega, Lib.hid (HN.out w5 HB5.out), Lib.hid ((HBR.out.trans (HB5.out.mono hbr)).setCell (by show w.heap.size ≤ g; omega) _)⟩
          case measure => simp [intOf]; omega
        · rw [decide_eq_false hh] at H52
          have HN : Hid (PB (wr.setCell ⟨g, j * 2, none⟩ (.string by')) g ((ps.take (j + 1)).map (losP t (str by')) ++ ps.drop (j + 1))) := Lib.hid (by
            have h1 := HR.out.set ((step_at _ ps j).trans HP.out) (str by')
            rw [bs_str, ← losP_no (by' := str by') hh, step_set _ _ _ _ HP.out] at h1
            exact h1)
          clear hh
          by_cases hcn : p.2 < 0
          · go_wp2_with fail
            go_roundw
            case rel => exact ⟨j + 1, by go_num, by omega, HN, Lib.hid (HBR.out.setCell (by show w.heap.size ≤ g; omega) _)⟩
            case measure => simp [intOf]; omega
          · have hpos : 0 ≤ p.2 := by omega
            clear hcn
            go_wp2_with (go_at_call 52; refine H52.out.mono ?_; rintro en w5 ⟨rfl, rfl⟩)
            go_roundw
            case rel => exact ⟨j + 1, by go_num, by omega, HN, Lib.hid (HBR.out.setCell (by show w.heap.size ≤ g; omega) _)⟩
            case measure => simp [intOf]; omega
      · obtain rfl : j = ps.length := by omega
        have HF : Hid (PB wr g (ps.map (losP t (str by')))) := Lib.hid (by
          have := HR.out
          rw [List.take_length, List.drop_length, List.append_nil] at this
          exact this)
        have H57 := Lib.hid (f57 (.slice (some ⟨g, 0, none⟩) (ps.map (losP t (str by'))).length cap) (ps.map (losP t (str by'))) (by rw [List.length_map]; omega) (by
          intro q hq
          obtain ⟨p, hp, rfl⟩ := List.mem_map.1 hq
          exact lossyP_len t (str by') p (by rw [str_len]; exact hby)) wr (HF.out.parts (by rw [List.length_map]; exact hcap)))
        rw [List.length_map] at H57
        go_wp2_with (go_at_call 57; refine H57.out.mono ?_; rintro en w4 ⟨rfl, hB⟩; have HB4 := Lib.hid hB; clear hB)
        go_ret2
        exact ⟨rfl, HBR.out.trans (HB4.out.mono hbr)⟩

end Go.Proofs.YtaanihidheccfaaDoor
