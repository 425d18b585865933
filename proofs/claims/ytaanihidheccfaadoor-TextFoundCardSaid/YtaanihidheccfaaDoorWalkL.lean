/-
  The program's door: a string in another encoding, out of utf-8.
-/
import Derived.Test.YtaanihidheccfaaDoorWalkK
namespace Go.Proofs.YtaanihidheccfaaDoor
open Go.Shelf Go.RowKit
set_option linter.unusedVariables false

/-- What lossy hands out. -/
def LossyPost (w : World) (l : List UInt8) (en : Ending) (w' : World) : Prop := en = .returned (.string (bs l)) ∧ Below w.heap.size w w'

set_option maxRecDepth 100000 in
theorem f61_22 (s by' : ByteArray) (hs : s.size ≤ 100000) (hby : by'.size ≤ 100000) (w : World) (hT : Lib.Utf8Tabs 0 1 w) (h2 : 2 ≤ w.heap.size) : Calls Tryd.prog 61 #[.string s, .int .i64 2, .int .i64 2, .string by'] w (LossyPost w (lossyL 2 2 (str by') (str s))) := by
  have H48 := Lib.hid (f48u 2 (by decide) (by decide) (w.alloc (.cells #[.pointer none, .slice none 0 0] 63)))
  have HT := Lib.hid hT; clear hT
  go_enter Tryd.func61, Tryd.ntmps61
  go_wp2_with fail
  refine H48.out.mono ?_
  rintro en w2 ⟨rfl, hB⟩
  have HB := Lib.hid hB
  clear hB
  have H48B := Lib.hid (f48u 2 (by decide) (by decide) w2)
  go_wp2_with fail
  refine H48B.out.mono ?_
  rintro en w3 ⟨rfl, hB⟩
  have HBB := Lib.hid hB
  clear hB
  have hz2 : w.heap.size + 1 ≤ w2.heap.size := by have := HB.out.size; simp at this; omega
  have hz3 : w2.heap.size ≤ w3.heap.size := HBB.out.size
  have HA2 : Hid (Below w.heap.size w w2) := Lib.hid (((Below.refl _ _).alloc (Nat.le_refl _) _).trans (HB.out.mono (by simp)))
  have HW : Hid (Below w.heap.size w ((w3.alloc (.cells #[.func (.func 73) #[] #[], .func (.func 76) #[] #[]] 67)).alloc (.cells #[.func (.func 73) #[] #[], .func (.func 76) #[] #[]] 67))) := Lib.hid (((HA2.out.trans (HBB.out.mono (by omega))).alloc (by omega) _).alloc (by simp; omega) _)
  have HBL : Hid (Bld w.heap.size w.heap.size [] ((w3.alloc (.cells #[.func (.func 73) #[] #[], .func (.func 76) #[] #[]] 67)).alloc (.cells #[.func (.func 73) #[] #[], .func (.func 76) #[] #[]] 67))) := Lib.hid (bld_below (bld_below (bld_below (bld_below (bld_new w) HB.out) HBB.out) ((Below.refl _ _).alloc (Nat.le_refl _) _)) ((Below.refl _ _).alloc (Nat.le_refl _) _))
  have HCA : Hid (((w3.alloc (.cells #[.func (.func 73) #[] #[], .func (.func 76) #[] #[]] 67)).alloc (.cells #[.func (.func 73) #[] #[], .func (.func 76) #[] #[]] 67)).heap[w3.heap.size]? = some (.cells #[.func (.func 73) #[] #[], .func (.func 76) #[] #[]] 67)) := Lib.hid ((Below.heap_alloc _ _ _ (by simp)).trans (heap_alloc_new w3 _))
  have HCB : Hid (((w3.alloc (.cells #[.func (.func 73) #[] #[], .func (.func 76) #[] #[]] 67)).alloc (.cells #[.func (.func 73) #[] #[], .func (.func 76) #[] #[]] 67)).heap[w3.heap.size + 1]? = some (.cells #[.func (.func 73) #[] #[], .func (.func 76) #[] #[]] 67)) := Lib.hid (by have := heap_alloc_new (w3.alloc (.cells #[.func (.func 73) #[] #[], .func (.func 76) #[] #[]] 67)) (.cells #[.func (.func 73) #[] #[], .func (.func 76) #[] #[]] 67); simpa using this)
  go_wp2_with fail
  generalize hW0 : ((w3.alloc (.cells #[.func (.func 73) #[] #[], .func (.func 76) #[] #[]] 67)).alloc (.cells #[.func (.func 73) #[] #[], .func (.func 76) #[] #[]] 67)) = W0 at *
  clear hW0
  go_loopw [0] (fun a wr => ∃ (t : ByteArray) (done : List (List UInt8 × Int)) (out : List UInt8), a = .string t ∧ t.size ≤ s.size ∧ done.length + t.size ≤ s.size ∧ out.length ≤ done.length * 100000 ∧ Hid (parts 2 (str s) = done ++ parts 2 (str t)) ∧ Hid (out = (done.map (lossyP 2 (str by'))).flatten) ∧ Hid (Bld w.heap.size w.heap.size out wr) ∧ Hid (Below w.heap.size w wr) ∧ Hid (Lib.OthersKept 5 (some w.heap.size) W0 wr)) (fun a _ => strLen a)
  case atStart => exact ⟨s, [], [], rfl, Nat.le_refl _, by simp, by simp, Lib.hid rfl, Lib.hid rfl, HBL, HW, Lib.hid (Lib.OthersKept.refl _ _ _)⟩
  case round =>
    obtain ⟨t, done, out, rfl, ht, hd, hol, HP, HOUT, HBR, HWR, HOR⟩ := hrel
    by_cases hz : t.size = 0
    · obtain rfl := empty_of hz
      have HE := Lib.hid (parts_done HP.out)
      clear hz
      have H50 := Lib.hid (f50 _ _ _ _ HBR.out HWR.out.size)
      go_wp2_with (go_at_call 50; refine H50.out.mono ?_; rintro en w6 ⟨rfl, hB6⟩; have HB6 := Lib.hid hB6; clear hB6)
      go_ret
      refine ⟨?_, HWR.out.trans HB6.out⟩
      rw [HOUT.out, ← HE.out]
      rfl
    · have hpos : 0 < t.size := by omega
      clear hz
      have hemp := notEmpty_of hpos
      have hbw := HWR.out.size
      have HRA := Lib.hid (others_blk HOR.out HCA.out (by omega) (by decide))
      have HRB := Lib.hid (others_blk HOR.out HCB.out (by omega) (by decide))
      have hltA := (Array.getElem?_eq_some_iff.1 HRA.out).1
      have hltB := (Array.getElem?_eq_some_iff.1 HRB.out).1
      have hcA : wr.cell? ⟨w3.heap.size, 0, none⟩ = some (.func (.func 73) #[] #[]) := cell_blk HRA.out 0
      have HTr := Lib.hid (tabs_below HWR.out h2 HT.out)
      have HCUT := Lib.hid (f73 2 (by decide) (by decide) t hpos (by omega) wr HTr.out)
      have hcb := cutL_bounds 2 (str t) (str_ne hpos)
      unfold cutV at HCUT
      generalize hk : cutL 2 (str t) = k at *
      obtain ⟨n, c⟩ := k
      have HS := Lib.hid (parts_step HP.out hpos hk)
      rw [str_len] at hcb
      clear hk
      simp only at HCUT hcb
      obtain ⟨hn1, hn2, -, -, -⟩ := hcb
      by_cases hh : has 2 c
      · have HX : Hid (str (bs (enc 2 c)) = lossyP 2 (str by') ((str t).take n, c)) := Lib.hid (by unfold lossyP; rw [if_pos hh]; rfl)
        have hxl : (bs (enc 2 c)).size ≤ 100000 := by rw [← str_len, HX.out]; exact lossyP_len _ _ _ (by rw [str_len]; exact hby)
        have HBK := Lib.hid (backV_yes hh)
        clear hh
        obtain ⟨x, hx⟩ : ∃ x, x = bs (enc 2 c) := ⟨_, rfl⟩
        rw [← hx] at HX hxl HBK
        clear hx
        go_wp2_with (first | (go_at_call 73; refine HCUT.out.mono ?_; rintro en w4 ⟨rfl, hB4⟩; have HB4 := Lib.hid hB4; clear hB4; have hc4 : w4.cell? ⟨w3.heap.size + 1, 1, none⟩ = some (.func (.func 76) #[] #[]) := (HB4.out.cell (p := ⟨w3.heap.size + 1, 1, none⟩) hltB).trans (cell_blk HRB.out 1); have HWC := Lib.hid (f76d c w4); rw [HBK.out] at HWC) | (go_at_call 76; refine HWC.out.mono ?_; rintro en w5 ⟨rfl, hB5⟩; have HB5 := Lib.hid hB5; clear hB5; have H49 := Lib.hid (f49 w.heap.size w.heap.size out x w5 (bld_below (bld_below HBR.out HB4.out) HB5.out) (by omega) (by have := HB4.out.size; have := HB5.out.size; omega))) | (go_at_call 49; refine H49.out.mono ?_; rintro en w6 ⟨rfl, hBl6, hB6, hO6⟩; have HBl6 := Lib.hid hBl6; clear hBl6; have HB6 := Lib.hid hB6; clear hB6; have HO6 := Lib.hid hO6; clear hO6))
        have h4 := HB4.out.size
        have h5 := HB5.out.size
        have HR : Hid (Below w.heap.size w w6 ∧ Lib.OthersKept 5 (some w.heap.size) W0 w6) := Lib.hid ⟨((HWR.out.trans (HB4.out.mono hbw)).trans (HB5.out.mono (by omega))).trans HB6.out, ((HOR.out.trans (others_of_below HB4.out)).trans (others_of_below HB5.out)).trans HO6.out⟩
        have HX2 : Hid (out ++ str x = ((done ++ [((str t).take n, c)]).map (lossyP 2 (str by'))).flatten) := Lib.hid (by rw [List.map_append, List.flatten_append, ← HOUT.out]; exact congrArg (fun z => out ++ z) (HX.out.trans (List.append_nil _).symm))
        have hxs := str_len x
        go_roundw
        case rel => exact ⟨_, _, _, rfl, by simp; omega, by simp; omega, by simp only [List.length_append, List.length_cons, List.length_nil]; omega, HS, HX2, HBl6, Lib.hid HR.out.1, Lib.hid HR.out.2⟩
        case measure => simp [strLen]; omega
      · have HX : Hid (str (by') = lossyP 2 (str by') ((str t).take n, c)) := Lib.hid (by unfold lossyP; rw [if_neg hh])
        have hxl : (by').size ≤ 100000 := by rw [← str_len, HX.out]; exact lossyP_len _ _ _ (by rw [str_len]; exact hby)
        have HBK := Lib.hid (backV_no hh)
        clear hh
        go_wp2_with (first | (go_at_call 73; refine HCUT.out.mono ?_; rintro en w4 ⟨rfl, hB4⟩; have HB4 := Lib.hid hB4; clear hB4; have hc4 : w4.cell? ⟨w3.heap.size + 1, 1, none⟩ = some (.func (.func 76) #[] #[]) := (HB4.out.cell (p := ⟨w3.heap.size + 1, 1, none⟩) hltB).trans (cell_blk HRB.out 1); have HWC := Lib.hid (f76d c w4); rw [HBK.out] at HWC) | (go_at_call 76; refine HWC.out.mono ?_; rintro en w5 ⟨rfl, hB5⟩; have HB5 := Lib.hid hB5; clear hB5; have H49 := Lib.hid (f49 w.heap.size w.heap.size out by' w5 (bld_below (bld_below HBR.out HB4.out) HB5.out) (by omega) (by have := HB4.out.size; have := HB5.out.size; omega))) | (go_at_call 49; refine H49.out.mono ?_; rintro en w6 ⟨rfl, hBl6, hB6, hO6⟩; have HBl6 := Lib.hid hBl6; clear hBl6; have HB6 := Lib.hid hB6; clear hB6; have HO6 := Lib.hid hO6; clear hO6))
        have h4 := HB4.out.size
        have h5 := HB5.out.size
        have HR : Hid (Below w.heap.size w w6 ∧ Lib.OthersKept 5 (some w.heap.size) W0 w6) := Lib.hid ⟨((HWR.out.trans (HB4.out.mono hbw)).trans (HB5.out.mono (by omega))).trans HB6.out, ((HOR.out.trans (others_of_below HB4.out)).trans (others_of_below HB5.out)).trans HO6.out⟩
        have HX2 : Hid (out ++ str by' = ((done ++ [((str t).take n, c)]).map (lossyP 2 (str by'))).flatten) := Lib.hid (by rw [List.map_append, List.flatten_append, ← HOUT.out]; exact congrArg (fun z => out ++ z) (HX.out.trans (List.append_nil _).symm))
        have hxs := str_len by'
        go_roundw
        case rel => exact ⟨_, _, _, rfl, by simp; omega, by simp; omega, by simp only [List.length_append, List.length_cons, List.length_nil]; omega, HS, HX2, HBl6, Lib.hid HR.out.1, Lib.hid HR.out.2⟩
        case measure => simp [strLen]; omega

set_option maxRecDepth 100000 in
theorem f61_20 (s by' : ByteArray) (hs : s.size ≤ 100000) (hby : by'.size ≤ 100000) (w : World) (hT : Lib.Utf8Tabs 0 1 w) (h2 : 2 ≤ w.heap.size) : Calls Tryd.prog 61 #[.string s, .int .i64 2, .int .i64 0, .string by'] w (LossyPost w (lossyL 2 0 (str by') (str s))) := by
  have H48 := Lib.hid (f48u 2 (by decide) (by decide) (w.alloc (.cells #[.pointer none, .slice none 0 0] 63)))
  have HT := Lib.hid hT; clear hT
  go_enter Tryd.func61, Tryd.ntmps61
  go_wp2_with fail
  refine H48.out.mono ?_
  rintro en w2 ⟨rfl, hB⟩
  have HB := Lib.hid hB
  clear hB
  have H48B := Lib.hid (f48a w2)
  go_wp2_with fail
  refine H48B.out.mono ?_
  rintro en w3 ⟨bB, rfl, hloB, hltB, hbd, hB⟩
  have HBB := Lib.hid hB
  clear hB
  have HBDB := Lib.hid hbd
  clear hbd
  simp only [oneByte]
  have hz2 : w.heap.size + 1 ≤ w2.heap.size := by have := HB.out.size; simp at this; omega
  have hz3 : w2.heap.size ≤ w3.heap.size := HBB.out.size
  have HA2 : Hid (Below w.heap.size w w2) := Lib.hid (((Below.refl _ _).alloc (Nat.le_refl _) _).trans (HB.out.mono (by simp)))
  have HW : Hid (Below w.heap.size w ((w3.alloc (.cells #[.func (.func 73) #[] #[], .func (.func 76) #[] #[]] 67)).alloc (.cells #[.func (.func 87) #[] #[.pointer (some ⟨bB, 0, none⟩)], .func (.func 88) #[] #[.pointer (some ⟨bB, 0, none⟩)]] 67))) := Lib.hid (((HA2.out.trans (HBB.out.mono (by omega))).alloc (by omega) _).alloc (by simp; omega) _)
  have HBL : Hid (Bld w.heap.size w.heap.size [] ((w3.alloc (.cells #[.func (.func 73) #[] #[], .func (.func 76) #[] #[]] 67)).alloc (.cells #[.func (.func 87) #[] #[.pointer (some ⟨bB, 0, none⟩)], .func (.func 88) #[] #[.pointer (some ⟨bB, 0, none⟩)]] 67))) := Lib.hid (bld_below (bld_below (bld_below (bld_below (bld_new w) HB.out) HBB.out) ((Below.refl _ _).alloc (Nat.le_refl _) _)) ((Below.refl _ _).alloc (Nat.le_refl _) _))
  have HCA : Hid (((w3.alloc (.cells #[.func (.func 73) #[] #[], .func (.func 76) #[] #[]] 67)).alloc (.cells #[.func (.func 87) #[] #[.pointer (some ⟨bB, 0, none⟩)], .func (.func 88) #[] #[.pointer (some ⟨bB, 0, none⟩)]] 67)).heap[w3.heap.size]? = some (.cells #[.func (.func 73) #[] #[], .func (.func 76) #[] #[]] 67)) := Lib.hid ((Below.heap_alloc _ _ _ (by simp)).trans (heap_alloc_new w3 _))
  have HCB : Hid (((w3.alloc (.cells #[.func (.func 73) #[] #[], .func (.func 76) #[] #[]] 67)).alloc (.cells #[.func (.func 87) #[] #[.pointer (some ⟨bB, 0, none⟩)], .func (.func 88) #[] #[.pointer (some ⟨bB, 0, none⟩)]] 67)).heap[w3.heap.size + 1]? = some (.cells #[.func (.func 87) #[] #[.pointer (some ⟨bB, 0, none⟩)], .func (.func 88) #[] #[.pointer (some ⟨bB, 0, none⟩)]] 67)) := Lib.hid (by have := heap_alloc_new (w3.alloc (.cells #[.func (.func 73) #[] #[], .func (.func 76) #[] #[]] 67)) (.cells #[.func (.func 87) #[] #[.pointer (some ⟨bB, 0, none⟩)], .func (.func 88) #[] #[.pointer (some ⟨bB, 0, none⟩)]] 67); simpa using this)
  have HDB : Hid (((w3.alloc (.cells #[.func (.func 73) #[] #[], .func (.func 76) #[] #[]] 67)).alloc (.cells #[.func (.func 87) #[] #[.pointer (some ⟨bB, 0, none⟩)], .func (.func 88) #[] #[.pointer (some ⟨bB, 0, none⟩)]] 67)).heap[bB]? = some (.cells #[.int .i64 128] 3 (0, 0))) := Lib.hid (((Below.heap_alloc _ _ _ (by simp; omega)).trans (Below.heap_alloc _ _ _ (by omega))).trans HBDB.out)
  go_wp2_with fail
  generalize hW0 : ((w3.alloc (.cells #[.func (.func 73) #[] #[], .func (.func 76) #[] #[]] 67)).alloc (.cells #[.func (.func 87) #[] #[.pointer (some ⟨bB, 0, none⟩)], .func (.func 88) #[] #[.pointer (some ⟨bB, 0, none⟩)]] 67)) = W0 at *
  clear hW0
  go_loopw [0] (fun a wr => ∃ (t : ByteArray) (done : List (List UInt8 × Int)) (out : List UInt8), a = .string t ∧ t.size ≤ s.size ∧ done.length + t.size ≤ s.size ∧ out.length ≤ done.length * 100000 ∧ Hid (parts 2 (str s) = done ++ parts 2 (str t)) ∧ Hid (out = (done.map (lossyP 0 (str by'))).flatten) ∧ Hid (Bld w.heap.size w.heap.size out wr) ∧ Hid (Below w.heap.size w wr) ∧ Hid (Lib.OthersKept 5 (some w.heap.size) W0 wr)) (fun a _ => strLen a)
  case atStart => exact ⟨s, [], [], rfl, Nat.le_refl _, by simp, by simp, Lib.hid rfl, Lib.hid rfl, HBL, HW, Lib.hid (Lib.OthersKept.refl _ _ _)⟩
  case round =>
    obtain ⟨t, done, out, rfl, ht, hd, hol, HP, HOUT, HBR, HWR, HOR⟩ := hrel
    by_cases hz : t.size = 0
    · obtain rfl := empty_of hz
      have HE := Lib.hid (parts_done HP.out)
      clear hz
      have H50 := Lib.hid (f50 _ _ _ _ HBR.out HWR.out.size)
      go_wp2_with (go_at_call 50; refine H50.out.mono ?_; rintro en w6 ⟨rfl, hB6⟩; have HB6 := Lib.hid hB6; clear hB6)
      go_ret
      refine ⟨?_, HWR.out.trans HB6.out⟩
      rw [HOUT.out, ← HE.out]
      rfl
    · have hpos : 0 < t.size := by omega
      clear hz
      have hemp := notEmpty_of hpos
      have hbw := HWR.out.size
      have HRA := Lib.hid (others_blk HOR.out HCA.out (by omega) (by decide))
      have HRB := Lib.hid (others_blk HOR.out HCB.out (by omega) (by decide))
      have hltA := (Array.getElem?_eq_some_iff.1 HRA.out).1
      have hltB := (Array.getElem?_eq_some_iff.1 HRB.out).1
      have hcA : wr.cell? ⟨w3.heap.size, 0, none⟩ = some (.func (.func 73) #[] #[]) := cell_blk HRA.out 0
      have HTr := Lib.hid (tabs_below HWR.out h2 HT.out)
      have HCUT := Lib.hid (f73 2 (by decide) (by decide) t hpos (by omega) wr HTr.out)
      have HRDB := Lib.hid (others_blk HOR.out HDB.out (by omega) (by decide))
      have hltD := (Array.getElem?_eq_some_iff.1 HRDB.out).1
      have hcb := cutL_bounds 2 (str t) (str_ne hpos)
      unfold cutV at HCUT
      generalize hk : cutL 2 (str t) = k at *
      obtain ⟨n, c⟩ := k
      have HS := Lib.hid (parts_step HP.out hpos hk)
      rw [str_len] at hcb
      clear hk
      simp only at HCUT hcb
      obtain ⟨hn1, hn2, -, -, -⟩ := hcb
      by_cases hh : has 0 c
      · have HX : Hid (str (bs (enc 0 c)) = lossyP 0 (str by') ((str t).take n, c)) := Lib.hid (by unfold lossyP; rw [if_pos hh]; rfl)
        have hxl : (bs (enc 0 c)).size ≤ 100000 := by rw [← str_len, HX.out]; exact lossyP_len _ _ _ (by rw [str_len]; exact hby)
        have HBK := Lib.hid (backV_yes hh)
        clear hh
        obtain ⟨x, hx⟩ : ∃ x, x = bs (enc 0 c) := ⟨_, rfl⟩
        rw [← hx] at HX hxl HBK
        clear hx
        go_wp2_with (first | (go_at_call 73; refine HCUT.out.mono ?_; rintro en w4 ⟨rfl, hB4⟩; have HB4 := Lib.hid hB4; clear hB4; have hc4 : w4.cell? ⟨w3.heap.size + 1, 1, none⟩ = some (.func (.func 88) #[] #[.pointer (some ⟨bB, 0, none⟩)]) := (HB4.out.cell (p := ⟨w3.heap.size + 1, 1, none⟩) hltB).trans (cell_blk HRB.out 1); have HWC := Lib.hid (f88d 128 0 (.inl ⟨rfl, rfl⟩) c bB w4 ((HB4.out.cell (p := ⟨bB, 0, none⟩) hltD).trans (cell_blk HRDB.out 0)) (by have := HB4.out.size; omega)); rw [HBK.out] at HWC) | (go_at_call 88; refine HWC.out.mono ?_; rintro en w5 ⟨rfl, hB5⟩; have HB5 := Lib.hid hB5; clear hB5; have H49 := Lib.hid (f49 w.heap.size w.heap.size out x w5 (bld_below (bld_below HBR.out HB4.out) HB5.out) (by omega) (by have := HB4.out.size; have := HB5.out.size; omega))) | (go_at_call 49; refine H49.out.mono ?_; rintro en w6 ⟨rfl, hBl6, hB6, hO6⟩; have HBl6 := Lib.hid hBl6; clear hBl6; have HB6 := Lib.hid hB6; clear hB6; have HO6 := Lib.hid hO6; clear hO6))
        have h4 := HB4.out.size
        have h5 := HB5.out.size
        have HR : Hid (Below w.heap.size w w6 ∧ Lib.OthersKept 5 (some w.heap.size) W0 w6) := Lib.hid ⟨((HWR.out.trans (HB4.out.mono hbw)).trans (HB5.out.mono (by omega))).trans HB6.out, ((HOR.out.trans (others_of_below HB4.out)).trans (others_of_below HB5.out)).trans HO6.out⟩
        have HX2 : Hid (out ++ str x = ((done ++ [((str t).take n, c)]).map (lossyP 0 (str by'))).flatten) := Lib.hid (by rw [List.map_append, List.flatten_append, ← HOUT.out]; exact congrArg (fun z => out ++ z) (HX.out.trans (List.append_nil _).symm))
        have hxs := str_len x
        go_roundw
        case rel => exact ⟨_, _, _, rfl, by simp; omega, by simp; omega, by simp only [List.length_append, List.length_cons, List.length_nil]; omega, HS, HX2, HBl6, Lib.hid HR.out.1, Lib.hid HR.out.2⟩
        case measure => simp [strLen]; omega
      · have HX : Hid (str (by') = lossyP 0 (str by') ((str t).take n, c)) := Lib.hid (by unfold lossyP; rw [if_neg hh])
        have hxl : (by').size ≤ 100000 := by rw [← str_len, HX.out]; exact lossyP_len _ _ _ (by rw [str_len]; exact hby)
        have HBK := Lib.hid (backV_no hh)
        clear hh
        go_wp2_with (first | (go_at_call 73; refine HCUT.out.mono ?_; rintro en w4 ⟨rfl, hB4⟩; have HB4 := Lib.hid hB4; clear hB4; have hc4 : w4.cell? ⟨w3.heap.size + 1, 1, none⟩ = some (.func (.func 88) #[] #[.pointer (some ⟨bB, 0, none⟩)]) := (HB4.out.cell (p := ⟨w3.heap.size + 1, 1, none⟩) hltB).trans (cell_blk HRB.out 1); have HWC := Lib.hid (f88d 128 0 (.inl ⟨rfl, rfl⟩) c bB w4 ((HB4.out.cell (p := ⟨bB, 0, none⟩) hltD).trans (cell_blk HRDB.out 0)) (by have := HB4.out.size; omega)); rw [HBK.out] at HWC) | (go_at_call 88; refine HWC.out.mono ?_; rintro en w5 ⟨rfl, hB5⟩; have HB5 := Lib.hid hB5; clear hB5; have H49 := Lib.hid (f49 w.heap.size w.heap.size out by' w5 (bld_below (bld_below HBR.out HB4.out) HB5.out) (by omega) (by have := HB4.out.size; have := HB5.out.size; omega))) | (go_at_call 49; refine H49.out.mono ?_; rintro en w6 ⟨rfl, hBl6, hB6, hO6⟩; have HBl6 := Lib.hid hBl6; clear hBl6; have HB6 := Lib.hid hB6; clear hB6; have HO6 := Lib.hid hO6; clear hO6))
        have h4 := HB4.out.size
        have h5 := HB5.out.size
        have HR : Hid (Below w.heap.size w w6 ∧ Lib.OthersKept 5 (some w.heap.size) W0 w6) := Lib.hid ⟨((HWR.out.trans (HB4.out.mono hbw)).trans (HB5.out.mono (by omega))).trans HB6.out, ((HOR.out.trans (others_of_below HB4.out)).trans (others_of_below HB5.out)).trans HO6.out⟩
        have HX2 : Hid (out ++ str by' = ((done ++ [((str t).take n, c)]).map (lossyP 0 (str by'))).flatten) := Lib.hid (by rw [List.map_append, List.flatten_append, ← HOUT.out]; exact congrArg (fun z => out ++ z) (HX.out.trans (List.append_nil _).symm))
        have hxs := str_len by'
        go_roundw
        case rel => exact ⟨_, _, _, rfl, by simp; omega, by simp; omega, by simp only [List.length_append, List.length_cons, List.length_nil]; omega, HS, HX2, HBl6, Lib.hid HR.out.1, Lib.hid HR.out.2⟩
        case measure => simp [strLen]; omega

set_option maxRecDepth 100000 in
theorem f61_21 (s by' : ByteArray) (hs : s.size ≤ 100000) (hby : by'.size ≤ 100000) (w : World) (hT : Lib.Utf8Tabs 0 1 w) (h2 : 2 ≤ w.heap.size) : Calls Tryd.prog 61 #[.string s, .int .i64 2, .int .i64 1, .string by'] w (LossyPost w (lossyL 2 1 (str by') (str s))) := by
  have H48 := Lib.hid (f48u 2 (by decide) (by decide) (w.alloc (.cells #[.pointer none, .slice none 0 0] 63)))
  have HT := Lib.hid hT; clear hT
  go_enter Tryd.func61, Tryd.ntmps61
  go_wp2_with fail
  refine H48.out.mono ?_
  rintro en w2 ⟨rfl, hB⟩
  have HB := Lib.hid hB
  clear hB
  have H48B := Lib.hid (f48b w2)
  go_wp2_with fail
  refine H48B.out.mono ?_
  rintro en w3 ⟨bB, rfl, hloB, hltB, hbd, hB⟩
  have HBB := Lib.hid hB
  clear hB
  have HBDB := Lib.hid hbd
  clear hbd
  simp only [oneByte]
  have hz2 : w.heap.size + 1 ≤ w2.heap.size := by have := HB.out.size; simp at this; omega
  have hz3 : w2.heap.size ≤ w3.heap.size := HBB.out.size
  have HA2 : Hid (Below w.heap.size w w2) := Lib.hid (((Below.refl _ _).alloc (Nat.le_refl _) _).trans (HB.out.mono (by simp)))
  have HW : Hid (Below w.heap.size w ((w3.alloc (.cells #[.func (.func 73) #[] #[], .func (.func 76) #[] #[]] 67)).alloc (.cells #[.func (.func 87) #[] #[.pointer (some ⟨bB, 0, none⟩)], .func (.func 88) #[] #[.pointer (some ⟨bB, 0, none⟩)]] 67))) := Lib.hid (((HA2.out.trans (HBB.out.mono (by omega))).alloc (by omega) _).alloc (by simp; omega) _)
  have HBL : Hid (Bld w.heap.size w.heap.size [] ((w3.alloc (.cells #[.func (.func 73) #[] #[], .func (.func 76) #[] #[]] 67)).alloc (.cells #[.func (.func 87) #[] #[.pointer (some ⟨bB, 0, none⟩)], .func (.func 88) #[] #[.pointer (some ⟨bB, 0, none⟩)]] 67))) := Lib.hid (bld_below (bld_below (bld_below (bld_below (bld_new w) HB.out) HBB.out) ((Below.refl _ _).alloc (Nat.le_refl _) _)) ((Below.refl _ _).alloc (Nat.le_refl _) _))
  have HCA : Hid (((w3.alloc (.cells #[.func (.func 73) #[] #[], .func (.func 76) #[] #[]] 67)).alloc (.cells #[.func (.func 87) #[] #[.pointer (some ⟨bB, 0, none⟩)], .func (.func 88) #[] #[.pointer (some ⟨bB, 0, none⟩)]] 67)).heap[w3.heap.size]? = some (.cells #[.func (.func 73) #[] #[], .func (.func 76) #[] #[]] 67)) := Lib.hid ((Below.heap_alloc _ _ _ (by simp)).trans (heap_alloc_new w3 _))
  have HCB : Hid (((w3.alloc (.cells #[.func (.func 73) #[] #[], .func (.func 76) #[] #[]] 67)).alloc (.cells #[.func (.func 87) #[] #[.pointer (some ⟨bB, 0, none⟩)], .func (.func 88) #[] #[.pointer (some ⟨bB, 0, none⟩)]] 67)).heap[w3.heap.size + 1]? = some (.cells #[.func (.func 87) #[] #[.pointer (some ⟨bB, 0, none⟩)], .func (.func 88) #[] #[.pointer (some ⟨bB, 0, none⟩)]] 67)) := Lib.hid (by have := heap_alloc_new (w3.alloc (.cells #[.func (.func 73) #[] #[], .func (.func 76) #[] #[]] 67)) (.cells #[.func (.func 87) #[] #[.pointer (some ⟨bB, 0, none⟩)], .func (.func 88) #[] #[.pointer (some ⟨bB, 0, none⟩)]] 67); simpa using this)
  have HDB : Hid (((w3.alloc (.cells #[.func (.func 73) #[] #[], .func (.func 76) #[] #[]] 67)).alloc (.cells #[.func (.func 87) #[] #[.pointer (some ⟨bB, 0, none⟩)], .func (.func 88) #[] #[.pointer (some ⟨bB, 0, none⟩)]] 67)).heap[bB]? = some (.cells #[.int .i64 256] 3 (0, 0))) := Lib.hid (((Below.heap_alloc _ _ _ (by simp; omega)).trans (Below.heap_alloc _ _ _ (by omega))).trans HBDB.out)
  go_wp2_with fail
  generalize hW0 : ((w3.alloc (.cells #[.func (.func 73) #[] #[], .func (.func 76) #[] #[]] 67)).alloc (.cells #[.func (.func 87) #[] #[.pointer (some ⟨bB, 0, none⟩)], .func (.func 88) #[] #[.pointer (some ⟨bB, 0, none⟩)]] 67)) = W0 at *
  clear hW0
  go_loopw [0] (fun a wr => ∃ (t : ByteArray) (done : List (List UInt8 × Int)) (out : List UInt8), a = .string t ∧ t.size ≤ s.size ∧ done.length + t.size ≤ s.size ∧ out.length ≤ done.length * 100000 ∧ Hid (parts 2 (str s) = done ++ parts 2 (str t)) ∧ Hid (out = (done.map (lossyP 1 (str by'))).flatten) ∧ Hid (Bld w.heap.size w.heap.size out wr) ∧ Hid (Below w.heap.size w wr) ∧ Hid (Lib.OthersKept 5 (some w.heap.size) W0 wr)) (fun a _ => strLen a)
  case atStart => exact ⟨s, [], [], rfl, Nat.le_refl _, by simp, by simp, Lib.hid rfl, Lib.hid rfl, HBL, HW, Lib.hid (Lib.OthersKept.refl _ _ _)⟩
  case round =>
    obtain ⟨t, done, out, rfl, ht, hd, hol, HP, HOUT, HBR, HWR, HOR⟩ := hrel
    by_cases hz : t.size = 0
    · obtain rfl := empty_of hz
      have HE := Lib.hid (parts_done HP.out)
      clear hz
      have H50 := Lib.hid (f50 _ _ _ _ HBR.out HWR.out.size)
      go_wp2_with (go_at_call 50; refine H50.out.mono ?_; rintro en w6 ⟨rfl, hB6⟩; have HB6 := Lib.hid hB6; clear hB6)
      go_ret
      refine ⟨?_, HWR.out.trans HB6.out⟩
      rw [HOUT.out, ← HE.out]
      rfl
    · have hpos : 0 < t.size := by omega
      clear hz
      have hemp := notEmpty_of hpos
      have hbw := HWR.out.size
      have HRA := Lib.hid (others_blk HOR.out HCA.out (by omega) (by decide))
      have HRB := Lib.hid (others_blk HOR.out HCB.out (by omega) (by decide))
      have hltA := (Array.getElem?_eq_some_iff.1 HRA.out).1
      have hltB := (Array.getElem?_eq_some_iff.1 HRB.out).1
      have hcA : wr.cell? ⟨w3.heap.size, 0, none⟩ = some (.func (.func 73) #[] #[]) := cell_blk HRA.out 0
      have HTr := Lib.hid (tabs_below HWR.out h2 HT.out)
      have HCUT := Lib.hid (f73 2 (by decide) (by decide) t hpos (by omega) wr HTr.out)
      have HRDB := Lib.hid (others_blk HOR.out HDB.out (by omega) (by decide))
      have hltD := (Array.getElem?_eq_some_iff.1 HRDB.out).1
      have hcb := cutL_bounds 2 (str t) (str_ne hpos)
      unfold cutV at HCUT
      generalize hk : cutL 2 (str t) = k at *
      obtain ⟨n, c⟩ := k
      have HS := Lib.hid (parts_step HP.out hpos hk)
      rw [str_len] at hcb
      clear hk
      simp only at HCUT hcb
      obtain ⟨hn1, hn2, -, -, -⟩ := hcb
      by_cases hh : has 1 c
      · have HX : Hid (str (bs (enc 1 c)) = lossyP 1 (str by') ((str t).take n, c)) := Lib.hid (by unfold lossyP; rw [if_pos hh]; rfl)
        have hxl : (bs (enc 1 c)).size ≤ 100000 := by rw [← str_len, HX.out]; exact lossyP_len _ _ _ (by rw [str_len]; exact hby)
        have HBK := Lib.hid (backV_yes hh)
        clear hh
        obtain ⟨x, hx⟩ : ∃ x, x = bs (enc 1 c) := ⟨_, rfl⟩
        rw [← hx] at HX hxl HBK
        clear hx
        go_wp2_with (first | (go_at_call 73; refine HCUT.out.mono ?_; rintro en w4 ⟨rfl, hB4⟩; have HB4 := Lib.hid hB4; clear hB4; have hc4 : w4.cell? ⟨w3.heap.size + 1, 1, none⟩ = some (.func (.func 88) #[] #[.pointer (some ⟨bB, 0, none⟩)]) := (HB4.out.cell (p := ⟨w3.heap.size + 1, 1, none⟩) hltB).trans (cell_blk HRB.out 1); have HWC := Lib.hid (f88d 256 1 (.inr ⟨rfl, rfl⟩) c bB w4 ((HB4.out.cell (p := ⟨bB, 0, none⟩) hltD).trans (cell_blk HRDB.out 0)) (by have := HB4.out.size; omega)); rw [HBK.out] at HWC) | (go_at_call 88; refine HWC.out.mono ?_; rintro en w5 ⟨rfl, hB5⟩; have HB5 := Lib.hid hB5; clear hB5; have H49 := Lib.hid (f49 w.heap.size w.heap.size out x w5 (bld_below (bld_below HBR.out HB4.out) HB5.out) (by omega) (by have := HB4.out.size; have := HB5.out.size; omega))) | (go_at_call 49; refine H49.out.mono ?_; rintro en w6 ⟨rfl, hBl6, hB6, hO6⟩; have HBl6 := Lib.hid hBl6; clear hBl6; have HB6 := Lib.hid hB6; clear hB6; have HO6 := Lib.hid hO6; clear hO6))
        have h4 := HB4.out.size
        have h5 := HB5.out.size
        have HR : Hid (Below w.heap.size w w6 ∧ Lib.OthersKept 5 (some w.heap.size) W0 w6) := Lib.hid ⟨((HWR.out.trans (HB4.out.mono hbw)).trans (HB5.out.mono (by omega))).trans HB6.out, ((HOR.out.trans (others_of_below HB4.out)).trans (others_of_below HB5.out)).trans HO6.out⟩
        have HX2 : Hid (out ++ str x = ((done ++ [((str t).take n, c)]).map (lossyP 1 (str by'))).flatten) := Lib.hid (by rw [List.map_append, List.flatten_append, ← HOUT.out]; exact congrArg (fun z => out ++ z) (HX.out.trans (List.append_nil _).symm))
        have hxs := str_len x
        go_roundw
        case rel => exact ⟨_, _, _, rfl, by simp; omega, by simp; omega, by simp only [List.length_append, List.length_cons, List.length_nil]; omega, HS, HX2, HBl6, Lib.hid HR.out.1, Lib.hid HR.out.2⟩
        case measure => simp [strLen]; omega
      · have HX : Hid (str (by') = lossyP 1 (str by') ((str t).take n, c)) := Lib.hid (by unfold lossyP; rw [if_neg hh])
        have hxl : (by').size ≤ 100000 := by rw [← str_len, HX.out]; exact lossyP_len _ _ _ (by rw [str_len]; exact hby)
        have HBK := Lib.hid (backV_no hh)
        clear hh
        go_wp2_with (first | (go_at_call 73; refine HCUT.out.mono ?_; rintro en w4 ⟨rfl, hB4⟩; have HB4 := Lib.hid hB4; clear hB4; have hc4 : w4.cell? ⟨w3.heap.size + 1, 1, none⟩ = some (.func (.func 88) #[] #[.pointer (some ⟨bB, 0, none⟩)]) := (HB4.out.cell (p := ⟨w3.heap.size + 1, 1, none⟩) hltB).trans (cell_blk HRB.out 1); have HWC := Lib.hid (f88d 256 1 (.inr ⟨rfl, rfl⟩) c bB w4 ((HB4.out.cell (p := ⟨bB, 0, none⟩) hltD).trans (cell_blk HRDB.out 0)) (by have := HB4.out.size; omega)); rw [HBK.out] at HWC) | (go_at_call 88; refine HWC.out.mono ?_; rintro en w5 ⟨rfl, hB5⟩; have HB5 := Lib.hid hB5; clear hB5; have H49 := Lib.hid (f49 w.heap.size w.heap.size out by' w5 (bld_below (bld_below HBR.out HB4.out) HB5.out) (by omega) (by have := HB4.out.size; have := HB5.out.size; omega))) | (go_at_call 49; refine H49.out.mono ?_; rintro en w6 ⟨rfl, hBl6, hB6, hO6⟩; have HBl6 := Lib.hid hBl6; clear hBl6; have HB6 := Lib.hid hB6; clear hB6; have HO6 := Lib.hid hO6; clear hO6))
        have h4 := HB4.out.size
        have h5 := HB5.out.size
        have HR : Hid (Below w.heap.size w w6 ∧ Lib.OthersKept 5 (some w.heap.size) W0 w6) := Lib.hid ⟨((HWR.out.trans (HB4.out.mono hbw)).trans (HB5.out.mono (by omega))).trans HB6.out, ((HOR.out.trans (others_of_below HB4.out)).trans (others_of_below HB5.out)).trans HO6.out⟩
        have HX2 : Hid (out ++ str by' = ((done ++ [((str t).take n, c)]).map (lossyP 1 (str by'))).flatten) := Lib.hid (by rw [List.map_append, List.flatten_append, ← HOUT.out]; exact congrArg (fun z => out ++ z) (HX.out.trans (List.append_nil _).symm))
        have hxs := str_len by'
        go_roundw
        case rel => exact ⟨_, _, _, rfl, by simp; omega, by simp; omega, by simp only [List.length_append, List.length_cons, List.length_nil]; omega, HS, HX2, HBl6, Lib.hid HR.out.1, Lib.hid HR.out.2⟩
        case measure => simp [strLen]; omega

end Go.Proofs.YtaanihidheccfaaDoor
