/-
  The program's door: the codes of a string changed (mapped), by Lower.
-/
import Derived.Test.YtaanihidheccfaaDoorCasA
import Derived.Deep.RegionHeld3
import Derived.Deep.DrawnRows
namespace Go.Proofs.YtaanihidheccfaaDoor
open Go.Shelf Go.RowKit
set_option linter.unusedVariables false
attribute [local go_sem ↓] Go.wp_at_zero Go.wp_at_succ

set_option maxRecDepth 100000 in
set_option maxHeartbeats 4000000 in
theorem f62_266 (s : ByteArray) (hs : s.size ≤ 100000) (bx : Nat) (w : World) (hbx : bx < w.heap.size) (hbc : w.cell? ⟨bx, 0, none⟩ = some (.int .i64 2)) (hT : Lib.Utf8Tabs 0 1 w) (h2 : 2 ≤ w.heap.size) : Calls Tryd.prog 62 #[.string s, .int .i64 2, .func (.func 66) #[] #[.pointer (some ⟨bx, 0, none⟩)]] w fun en w' => en = .returned (.tuple #[.string (bs (mapL 2 (loI 2) (str s))), .int .i64 0]) ∧ Below w.heap.size w w' := by
  have H47 := Lib.hid (f47one 2 s (by omega) w)
  rw [asked_ok (xs := [s]) (by decide) (by intro x hx; simp at hx; subst hx; exact hs)] at H47
  have H48B := Lib.hid (f48u 2 (by decide) (by decide) ((w.alloc (.cells #[.string s] 9)).alloc (.cells #[.pointer none, .slice none 0 0] 63)))
  have HBC := Lib.hid hbc; clear hbc
  have HT := Lib.hid hT; clear hT
  go_enter Tryd.func62, Tryd.ntmps62
  go_wp2_with (go_at_call 47; refine H47.out.mono ?_; rintro en w9 ⟨rfl, rfl⟩)
  refine H48B.out.mono ?_
  rintro en w3 ⟨rfl, hB⟩
  have HBB := Lib.hid hB
  clear hB
  have hz3 : w.heap.size + 2 ≤ w3.heap.size := by have := HBB.out.size; simp at this; omega
  have HA3 : Hid (Below w.heap.size w w3) := Lib.hid ((((Below.refl _ _).alloc (Nat.le_refl _) _).alloc (by simp) _).trans (HBB.out.mono (by simp; omega)))
  have HW : Hid (Below w.heap.size w (w3.alloc (.cells #[.func (.func 73) #[] #[], .func (.func 76) #[] #[]] 67))) := Lib.hid (HA3.out.alloc (by omega) _)
  have HBL : Hid (Bld (w.heap.size + 1) (w.heap.size + 1) [] (w3.alloc (.cells #[.func (.func 73) #[] #[], .func (.func 76) #[] #[]] 67))) := Lib.hid (bld_below (bld_below (by have := bld_new (w.alloc (.cells #[.string s] 9)); simpa using this) HBB.out) ((Below.refl _ _).alloc (Nat.le_refl _) _))
  have HCB : Hid ((w3.alloc (.cells #[.func (.func 73) #[] #[], .func (.func 76) #[] #[]] 67)).heap[w3.heap.size]? = some (.cells #[.func (.func 73) #[] #[], .func (.func 76) #[] #[]] 67)) := Lib.hid (heap_alloc_new w3 _)
  have hzW : w.heap.size + 3 ≤ (w3.alloc (.cells #[.func (.func 73) #[] #[], .func (.func 76) #[] #[]] 67)).heap.size := by simp; omega
  go_wp2_with fail
  generalize hW0 : (w3.alloc (.cells #[.func (.func 73) #[] #[], .func (.func 76) #[] #[]] 67)) = W0 at *
  clear hW0
  go_loopw [0] (fun a wr => ∃ (t : ByteArray) (done : List (List UInt8 × Int)) (out : List UInt8), a = .string t ∧ t.size ≤ s.size ∧ done.length + t.size ≤ s.size ∧ out.length ≤ done.length * 100000 ∧ Hid (parts 2 (str s) = done ++ parts 2 (str t)) ∧ Hid (out = (done.map (mapP 2 (loI 2))).flatten) ∧ Hid (Bld (w.heap.size + 1) (w.heap.size + 1) out wr) ∧ Hid (Below w.heap.size w wr) ∧ Hid (Lib.OthersKept 5 (some (w.heap.size + 1)) W0 wr) ∧ Hid (W0.heap.size ≤ wr.heap.size)) (fun a _ => strLen a)
  case atStart => exact ⟨s, [], [], rfl, Nat.le_refl _, by simp, by simp, Lib.hid rfl, Lib.hid rfl, HBL, HW, Lib.hid (Lib.OthersKept.refl _ _ _), Lib.hid (Nat.le_refl _)⟩
  case round =>
    obtain ⟨t, done, out, rfl, ht, hd, hol, HP, HOUT, HBR, HWR, HOR, HZR⟩ := hrel
    have hzr := HZR.out
    by_cases hz : t.size = 0
    · obtain rfl := empty_of hz
      have HE := Lib.hid (parts_done HP.out)
      clear hz
      have H50 := Lib.hid (f50 _ _ _ _ HBR.out (by omega))
      go_wp2_with (go_at_call 50; refine H50.out.mono ?_; rintro en w6 ⟨rfl, hB6⟩; have HB6 := Lib.hid hB6; clear hB6)
      go_ret2
      refine ⟨?_, HWR.out.trans (HB6.out.mono (by omega))⟩
      unfold mapL
      rw [HOUT.out, ← HE.out]
      rfl
    · have hpos : 0 < t.size := by omega
      clear hz
      have hemp := notEmpty_of hpos
      have hbw := HWR.out.size
      have HRB := Lib.hid (others_blk HOR.out HCB.out (by omega) (by decide))
      have hltB' := (Array.getElem?_eq_some_iff.1 HRB.out).1
      have hcA : wr.cell? ⟨w3.heap.size, 0, none⟩ = some (.func (.func 73) #[] #[]) := cell_blk HRB.out 0
      have HTr := Lib.hid (tabs_below HWR.out h2 HT.out)
      have hbxr := (HWR.out.cell (p := ⟨bx, 0, none⟩) hbx).trans HBC.out
      have HBXR := Lib.hid hbxr; clear hbxr
      have HCUT := Lib.hid (f73 2 (by decide) (by decide) t hpos (by omega) wr HTr.out)
      have hcb := cutL_bounds 2 (str t) (str_ne hpos)
      unfold cutV at HCUT
      generalize hk : cutL 2 (str t) = k at *
      obtain ⟨n, c⟩ := k
      have HS := Lib.hid (parts_step HP.out hpos hk)
      rw [str_len] at hcb
      clear hk
      simp only at HCUT hcb
      obtain ⟨hn1, hn2, hn4, hcm1, hcm2⟩ := hcb
      have HCH := Lib.hid (fun w hb => f66 2 c hcm1 hcm2 bx w hb)
      have HWC := Lib.hid (fun w (_ : True) (_ : True) => f76d (loI 2 c) w)
      go_wp2_with (go_at_call 73; refine HCUT.out.mono ?_; rintro en w4 ⟨rfl, hB4⟩)
      have hz4 := hB4.size
      have k1 : w4.cell? ⟨w3.heap.size, 1, none⟩ = some (.func (.func 76) #[] #[]) := (hB4.cell (p := ⟨w3.heap.size, 1, none⟩) hltB').trans (cell_blk HRB.out 1)
      have k2 : w4.cell? ⟨bx, 0, none⟩ = some (.int .i64 2) := (hB4.cell (p := ⟨bx, 0, none⟩) (by show bx < _; omega)).trans HBXR.out
      have HB4 := Lib.hid hB4; clear hB4
      by_cases hh : has 2 (loI 2 c)
      · by_cases hc0 : 0 ≤ c
        · have HX : Hid (str (bs (enc 2 (loI 2 c))) = mapP 2 (loI 2) ((str t).take n, c)) := Lib.hid (by rw [mapP_yes hc0 hh]; rfl)
          have hxl : (bs (enc 2 (loI 2 c))).size ≤ 100000 := by rw [← str_len, str_bs]; have := (enc_len 2 (loI 2 c)).2; omega
          rw [backV_yes hh] at HWC
          clear hh
          generalize bs (enc 2 (loI 2 c)) = x at *
          go_region_held3 (fun w' => w'.cell? ⟨w3.heap.size, 1, none⟩ = some (.func (.func 76) #[] #[])) (go_keep)
            (first
              | (go_at_call 66; refine (HCH.out _ (cell_drew k2)).mono ?_; rintro en w5 ⟨rfl, rfl⟩)
              | (go_at_call 76; refine (HWC.out _ trivial trivial).mono ?_; rintro en w6 ⟨rfl, hB6⟩; have j1 : w6.cell? ⟨w3.heap.size, 1, none⟩ = some (.func (.func 76) #[] #[]) := (hB6.cell (p := ⟨w3.heap.size, 1, none⟩) (by show w3.heap.size < _; simp; omega)).trans (cell_drew k1); have HB6 := Lib.hid hB6; clear hB6))
          go_wp2_with fail
          have hz6 : w4.heap.size ≤ w6.heap.size := HB6.out.size
          have HB46 : Hid (Below w4.heap.size w4 w6) := Lib.hid ((Below.refl w4.heap.size w4).drew.trans HB6.out)
          have H49 := Lib.hid (f49 (w.heap.size + 1) (w.heap.size + 1) out x w6 (bld_below (bld_below HBR.out HB4.out) HB46.out) (by omega) (by omega))
          refine H49.out.mono ?_
          rintro en w7 ⟨rfl, hBl7, hB7, hO7⟩
          have hz7 := hB7.size
          have HBl7 := Lib.hid hBl7; clear hBl7
          have HR : Hid (Below w.heap.size w w7 ∧ Lib.OthersKept 5 (some (w.heap.size + 1)) W0 w7) := Lib.hid ⟨((HWR.out.trans (HB4.out.mono hbw)).trans (HB46.out.mono (by omega))).trans (hB7.mono (by omega)), ((HOR.out.trans (others_of_below HB4.out)).trans (others_of_below HB46.out)).trans hO7⟩
          have HZ7 : Hid (W0.heap.size ≤ w7.heap.size) := Lib.hid (by
            have h1 := HR.out.2
            have h2 := HB4.out.size
            omega)
          clear hB7 hO7
          have HX2 : Hid (out ++ str x = ((done ++ [((str t).take n, c)]).map (mapP 2 (loI 2))).flatten) := Lib.hid (by rw [List.map_append, List.flatten_append, ← HOUT.out]; exact congrArg (fun z => out ++ z) (HX.out.trans (List.append_nil _).symm))
          have hxs := str_len x
          go_wp2_with fail
          go_roundw
          case rel => exact ⟨_, _, _, rfl, by simp; omega, by simp; omega, by simp only [List.length_append, List.length_cons, List.length_nil]; omega, HS, HX2, HBl7, Lib.hid HR.out.1, Lib.hid HR.out.2, HZ7⟩
          case measure => simp [strLen]; omega
        · have HX : Hid (str (t.extract 0 n) = mapP 2 (loI 2) ((str t).take n, c)) := Lib.hid (by rw [mapP_no (fun h => hc0 h.1), ext_front]; rfl)
          have hxl : (t.extract 0 n).size ≤ 100000 := by rw [ext_size t n hn2]; omega
          rw [backV_yes hh] at HWC
          clear hh
          have hcn : c < 0 := by omega
          clear hc0
          go_region_held3 (fun w' => w'.cell? ⟨w3.heap.size, 1, none⟩ = some (.func (.func 76) #[] #[])) (go_keep)
            (first
              | (go_at_call 66; refine (HCH.out _ (cell_drew k2)).mono ?_; rintro en w5 ⟨rfl, rfl⟩)
              | (go_at_call 76; refine (HWC.out _ trivial trivial).mono ?_; rintro en w6 ⟨rfl, hB6⟩; have j1 : w6.cell? ⟨w3.heap.size, 1, none⟩ = some (.func (.func 76) #[] #[]) := (hB6.cell (p := ⟨w3.heap.size, 1, none⟩) (by show w3.heap.size < _; simp; omega)).trans (cell_drew k1); have HB6 := Lib.hid hB6; clear hB6))
          go_wp2_with fail
          have hz6 : w4.heap.size ≤ w6.heap.size := HB6.out.size
          have HB46 : Hid (Below w4.heap.size w4 w6) := Lib.hid ((Below.refl w4.heap.size w4).drew.trans HB6.out)
          have H49 := Lib.hid (f49 (w.heap.size + 1) (w.heap.size + 1) out (t.extract 0 n) w6 (bld_below (bld_below HBR.out HB4.out) HB46.out) (by omega) (by omega))
          refine H49.out.mono ?_
          rintro en w7 ⟨rfl, hBl7, hB7, hO7⟩
          have hz7 := hB7.size
          have HBl7 := Lib.hid hBl7; clear hBl7
          have HR : Hid (Below w.heap.size w w7 ∧ Lib.OthersKept 5 (some (w.heap.size + 1)) W0 w7) := Lib.hid ⟨((HWR.out.trans (HB4.out.mono hbw)).trans (HB46.out.mono (by omega))).trans (hB7.mono (by omega)), ((HOR.out.trans (others_of_below HB4.out)).trans (others_of_below HB46.out)).trans hO7⟩
          have HZ7 : Hid (W0.heap.size ≤ w7.heap.size) := Lib.hid (by
            have h1 := HR.out.2
            have h2 := HB4.out.size
            omega)
          clear hB7 hO7
          have HX2 : Hid (out ++ str (t.extract 0 n) = ((done ++ [((str t).take n, c)]).map (mapP 2 (loI 2))).flatten) := Lib.hid (by rw [List.map_append, List.flatten_append, ← HOUT.out]; exact congrArg (fun z => out ++ z) (HX.out.trans (List.append_nil _).symm))
          have hxs := str_len (t.extract 0 n)
          go_wp2_with fail
          go_roundw
          case rel => exact ⟨_, _, _, rfl, by simp; omega, by simp; omega, by simp only [List.length_append, List.length_cons, List.length_nil]; omega, HS, HX2, HBl7, Lib.hid HR.out.1, Lib.hid HR.out.2, HZ7⟩
          case measure => simp [strLen]; omega
      · have HX : Hid (str (t.extract 0 n) = mapP 2 (loI 2) ((str t).take n, c)) := Lib.hid (by rw [mapP_no (fun h => hh h.2), ext_front]; rfl)
        have hxl : (t.extract 0 n).size ≤ 100000 := by rw [ext_size t n hn2]; omega
        rw [backV_no hh] at HWC
        clear hh
        by_cases hcn : c < 0
        · go_region_held3 (fun w' => w'.cell? ⟨w3.heap.size, 1, none⟩ = some (.func (.func 76) #[] #[])) (go_keep)
            (first
              | (go_at_call 66; refine (HCH.out _ (cell_drew k2)).mono ?_; rintro en w5 ⟨rfl, rfl⟩)
              | (go_at_call 76; refine (HWC.out _ trivial trivial).mono ?_; rintro en w6 ⟨rfl, hB6⟩; have j1 : w6.cell? ⟨w3.heap.size, 1, none⟩ = some (.func (.func 76) #[] #[]) := (hB6.cell (p := ⟨w3.heap.size, 1, none⟩) (by show w3.heap.size < _; simp; omega)).trans (cell_drew k1); have HB6 := Lib.hid hB6; clear hB6))
          go_wp2_with fail
          have hz6 : w4.heap.size ≤ w6.heap.size := HB6.out.size
          have HB46 : Hid (Below w4.heap.size w4 w6) := Lib.hid ((Below.refl w4.heap.size w4).drew.trans HB6.out)
          have H49 := Lib.hid (f49 (w.heap.size + 1) (w.heap.size + 1) out (t.extract 0 n) w6 (bld_below (bld_below HBR.out HB4.out) HB46.out) (by omega) (by omega))
          refine H49.out.mono ?_
          rintro en w7 ⟨rfl, hBl7, hB7, hO7⟩
          have hz7 := hB7.size
          have HBl7 := Lib.hid hBl7; clear hBl7
          have HR : Hid (Below w.heap.size w w7 ∧ Lib.OthersKept 5 (some (w.heap.size + 1)) W0 w7) := Lib.hid ⟨((HWR.out.trans (HB4.out.mono hbw)).trans (HB46.out.mono (by omega))).trans (hB7.mono (by omega)), ((HOR.out.trans (others_of_below HB4.out)).trans (others_of_below HB46.out)).trans hO7⟩
          have HZ7 : Hid (W0.heap.size ≤ w7.heap.size) := Lib.hid (by
            have h1 := HR.out.2
            have h2 := HB4.out.size
            omega)
          clear hB7 hO7
          have HX2 : Hid (out ++ str (t.extract 0 n) = ((done ++ [((str t).take n, c)]).map (mapP 2 (loI 2))).flatten) := Lib.hid (by rw [List.map_append, List.flatten_append, ← HOUT.out]; exact congrArg (fun z => out ++ z) (HX.out.trans (List.append_nil _).symm))
          have hxs := str_len (t.extract 0 n)
          go_wp2_with fail
          go_roundw
          case rel => exact ⟨_, _, _, rfl, by simp; omega, by simp; omega, by simp only [List.length_append, List.length_cons, List.length_nil]; omega, HS, HX2, HBl7, Lib.hid HR.out.1, Lib.hid HR.out.2, HZ7⟩
          case measure => simp [strLen]; omega
        · have hc0 : 0 ≤ c := by omega
          clear hcn
          go_region_held3 (fun w' => w'.cell? ⟨w3.heap.size, 1, none⟩ = some (.func (.func 76) #[] #[])) (go_keep)
            (first
              | (go_at_call 66; refine (HCH.out _ (cell_drew k2)).mono ?_; rintro en w5 ⟨rfl, rfl⟩)
              | (go_at_call 76; refine (HWC.out _ trivial trivial).mono ?_; rintro en w6 ⟨rfl, hB6⟩; have j1 : w6.cell? ⟨w3.heap.size, 1, none⟩ = some (.func (.func 76) #[] #[]) := (hB6.cell (p := ⟨w3.heap.size, 1, none⟩) (by show w3.heap.size < _; simp; omega)).trans (cell_drew k1); have HB6 := Lib.hid hB6; clear hB6))
          go_wp2_with fail
          have hz6 : w4.heap.size ≤ w6.heap.size := HB6.out.size
          have HB46 : Hid (Below w4.heap.size w4 w6) := Lib.hid ((Below.refl w4.heap.size w4).drew.trans HB6.out)
          have H49 := Lib.hid (f49 (w.heap.size + 1) (w.heap.size + 1) out (t.extract 0 n) w6 (bld_below (bld_below HBR.out HB4.out) HB46.out) (by omega) (by omega))
          refine H49.out.mono ?_
          rintro en w7 ⟨rfl, hBl7, hB7, hO7⟩
          have hz7 := hB7.size
          have HBl7 := Lib.hid hBl7; clear hBl7
          have HR : Hid (Below w.heap.size w w7 ∧ Lib.OthersKept 5 (some (w.heap.size + 1)) W0 w7) := Lib.hid ⟨((HWR.out.trans (HB4.out.mono hbw)).trans (HB46.out.mono (by omega))).trans (hB7.mono (by omega)), ((HOR.out.trans (others_of_below HB4.out)).trans (others_of_below HB46.out)).trans hO7⟩
          have HZ7 : Hid (W0.heap.size ≤ w7.heap.size) := Lib.hid (by
            have h1 := HR.out.2
            have h2 := HB4.out.size
            omega)
          clear hB7 hO7
          have HX2 : Hid (out ++ str (t.extract 0 n) = ((done ++ [((str t).take n, c)]).map (mapP 2 (loI 2))).flatten) := Lib.hid (by rw [List.map_append, List.flatten_append, ← HOUT.out]; exact congrArg (fun z => out ++ z) (HX.out.trans (List.append_nil _).symm))
          have hxs := str_len (t.extract 0 n)
          go_wp2_with fail
          go_roundw
          case rel => exact ⟨_, _, _, rfl, by simp; omega, by simp; omega, by simp only [List.length_append, List.length_cons, List.length_nil]; omega, HS, HX2, HBl7, Lib.hid HR.out.1, Lib.hid HR.out.2, HZ7⟩
          case measure => simp [strLen]; omega

set_option maxRecDepth 100000 in
set_option maxHeartbeats 4000000 in
theorem f62_066 (s : ByteArray) (hs : s.size ≤ 100000) (bx : Nat) (w : World) (hbx : bx < w.heap.size) (hbc : w.cell? ⟨bx, 0, none⟩ = some (.int .i64 0)) (hT : Lib.Utf8Tabs 0 1 w) (h2 : 2 ≤ w.heap.size) : Calls Tryd.prog 62 #[.string s, .int .i64 0, .func (.func 66) #[] #[.pointer (some ⟨bx, 0, none⟩)]] w fun en w' => en = .returned (.tuple #[.string (bs (mapL 0 (loI 0) (str s))), .int .i64 0]) ∧ Below w.heap.size w w' := by
  have H47 := Lib.hid (f47one 0 s (by omega) w)
  rw [asked_ok (xs := [s]) (by decide) (by intro x hx; simp at hx; subst hx; exact hs)] at H47
  have H48B := Lib.hid (f48a ((w.alloc (.cells #[.string s] 9)).alloc (.cells #[.pointer none, .slice none 0 0] 63)))
  have HBC := Lib.hid hbc; clear hbc
  have HT := Lib.hid hT; clear hT
  go_enter Tryd.func62, Tryd.ntmps62
  go_wp2_with (go_at_call 47; refine H47.out.mono ?_; rintro en w9 ⟨rfl, rfl⟩)
  refine H48B.out.mono ?_
  rintro en w3 ⟨bB, rfl, hloB, hltB, hbd, hB⟩
  have HBB := Lib.hid hB
  clear hB
  have HBDB := Lib.hid hbd
  clear hbd
  simp only [World.size_alloc] at hloB
  simp only [oneByte]
  have hz3 : w.heap.size + 2 ≤ w3.heap.size := by have := HBB.out.size; simp at this; omega
  have HA3 : Hid (Below w.heap.size w w3) := Lib.hid ((((Below.refl _ _).alloc (Nat.le_refl _) _).alloc (by simp) _).trans (HBB.out.mono (by simp; omega)))
  have HW : Hid (Below w.heap.size w (w3.alloc (.cells #[.func (.func 87) #[] #[.pointer (some ⟨bB, 0, none⟩)], .func (.func 88) #[] #[.pointer (some ⟨bB, 0, none⟩)]] 67))) := Lib.hid (HA3.out.alloc (by omega) _)
  have HBL : Hid (Bld (w.heap.size + 1) (w.heap.size + 1) [] (w3.alloc (.cells #[.func (.func 87) #[] #[.pointer (some ⟨bB, 0, none⟩)], .func (.func 88) #[] #[.pointer (some ⟨bB, 0, none⟩)]] 67))) := Lib.hid (bld_below (bld_below (by have := bld_new (w.alloc (.cells #[.string s] 9)); simpa using this) HBB.out) ((Below.refl _ _).alloc (Nat.le_refl _) _))
  have HCB : Hid ((w3.alloc (.cells #[.func (.func 87) #[] #[.pointer (some ⟨bB, 0, none⟩)], .func (.func 88) #[] #[.pointer (some ⟨bB, 0, none⟩)]] 67)).heap[w3.heap.size]? = some (.cells #[.func (.func 87) #[] #[.pointer (some ⟨bB, 0, none⟩)], .func (.func 88) #[] #[.pointer (some ⟨bB, 0, none⟩)]] 67)) := Lib.hid (heap_alloc_new w3 _)
  have HDB : Hid ((w3.alloc (.cells #[.func (.func 87) #[] #[.pointer (some ⟨bB, 0, none⟩)], .func (.func 88) #[] #[.pointer (some ⟨bB, 0, none⟩)]] 67)).heap[bB]? = some (.cells #[.int .i64 128] 3 (0, 0))) := Lib.hid ((Below.heap_alloc _ _ _ hltB).trans HBDB.out)
  have hzW : w.heap.size + 3 ≤ (w3.alloc (.cells #[.func (.func 87) #[] #[.pointer (some ⟨bB, 0, none⟩)], .func (.func 88) #[] #[.pointer (some ⟨bB, 0, none⟩)]] 67)).heap.size := by simp; omega
  go_wp2_with fail
  generalize hW0 : (w3.alloc (.cells #[.func (.func 87) #[] #[.pointer (some ⟨bB, 0, none⟩)], .func (.func 88) #[] #[.pointer (some ⟨bB, 0, none⟩)]] 67)) = W0 at *
  clear hW0
  go_loopw [0] (fun a wr => ∃ (t : ByteArray) (done : List (List UInt8 × Int)) (out : List UInt8), a = .string t ∧ t.size ≤ s.size ∧ done.length + t.size ≤ s.size ∧ out.length ≤ done.length * 100000 ∧ Hid (parts 0 (str s) = done ++ parts 0 (str t)) ∧ Hid (out = (done.map (mapP 0 (loI 0))).flatten) ∧ Hid (Bld (w.heap.size + 1) (w.heap.size + 1) out wr) ∧ Hid (Below w.heap.size w wr) ∧ Hid (Lib.OthersKept 5 (some (w.heap.size + 1)) W0 wr) ∧ Hid (W0.heap.size ≤ wr.heap.size)) (fun a _ => strLen a)
  case atStart => exact ⟨s, [], [], rfl, Nat.le_refl _, by simp, by simp, Lib.hid rfl, Lib.hid rfl, HBL, HW, Lib.hid (Lib.OthersKept.refl _ _ _), Lib.hid (Nat.le_refl _)⟩
  case round =>
    obtain ⟨t, done, out, rfl, ht, hd, hol, HP, HOUT, HBR, HWR, HOR, HZR⟩ := hrel
    have hzr := HZR.out
    by_cases hz : t.size = 0
    · obtain rfl := empty_of hz
      have HE := Lib.hid (parts_done HP.out)
      clear hz
      have H50 := Lib.hid (f50 _ _ _ _ HBR.out (by omega))
      go_wp2_with (go_at_call 50; refine H50.out.mono ?_; rintro en w6 ⟨rfl, hB6⟩; have HB6 := Lib.hid hB6; clear hB6)
      go_ret2
      refine ⟨?_, HWR.out.trans (HB6.out.mono (by omega))⟩
      unfold mapL
      rw [HOUT.out, ← HE.out]
      rfl
    · have hpos : 0 < t.size := by omega
      clear hz
      have hemp := notEmpty_of hpos
      have hbw := HWR.out.size
      have HRB := Lib.hid (others_blk HOR.out HCB.out (by omega) (by decide))
      have hltB' := (Array.getElem?_eq_some_iff.1 HRB.out).1
      have hcA : wr.cell? ⟨w3.heap.size, 0, none⟩ = some (.func (.func 87) #[] #[.pointer (some ⟨bB, 0, none⟩)]) := cell_blk HRB.out 0
      have HTr := Lib.hid (tabs_below HWR.out h2 HT.out)
      have hbxr := (HWR.out.cell (p := ⟨bx, 0, none⟩) hbx).trans HBC.out
      have HBXR := Lib.hid hbxr; clear hbxr
      have HRDB := Lib.hid (others_blk HOR.out HDB.out (by omega) (by decide))
      have hltD := (Array.getElem?_eq_some_iff.1 HRDB.out).1
      have HCUT := Lib.hid (f87d 128 0 (.inl ⟨rfl, rfl⟩) t bB wr hpos (cell_blk HRDB.out 0) hltD)
      have hcb := cutL_bounds 0 (str t) (str_ne hpos)
      unfold cutV at HCUT
      generalize hk : cutL 0 (str t) = k at *
      obtain ⟨n, c⟩ := k
      have HS := Lib.hid (parts_step HP.out hpos hk)
      rw [str_len] at hcb
      clear hk
      simp only at HCUT hcb
      obtain ⟨hn1, hn2, hn4, hcm1, hcm2⟩ := hcb
      have HCH := Lib.hid (fun w hb => f66 0 c hcm1 hcm2 bx w hb)
      have HWC := Lib.hid (fun w hc hlt => f88d 128 0 (.inl ⟨rfl, rfl⟩) (loI 0 c) bB w hc hlt)
      go_wp2_with (go_at_call 87; refine HCUT.out.mono ?_; rintro en w4 ⟨rfl, hB4⟩)
      have hz4 := hB4.size
      have k1 : w4.cell? ⟨w3.heap.size, 1, none⟩ = some (.func (.func 88) #[] #[.pointer (some ⟨bB, 0, none⟩)]) := (hB4.cell (p := ⟨w3.heap.size, 1, none⟩) hltB').trans (cell_blk HRB.out 1)
      have k2 : w4.cell? ⟨bx, 0, none⟩ = some (.int .i64 0) := (hB4.cell (p := ⟨bx, 0, none⟩) (by show bx < _; omega)).trans HBXR.out
      have kD : w4.cell? ⟨bB, 0, none⟩ = some (.int .i64 128) := (hB4.cell (p := ⟨bB, 0, none⟩) hltD).trans (cell_blk HRDB.out 0)
      have HB4 := Lib.hid hB4; clear hB4
      by_cases hh : has 0 (loI 0 c)
      · by_cases hc0 : 0 ≤ c
        · have HX : Hid (str (bs (enc 0 (loI 0 c))) = mapP 0 (loI 0) ((str t).take n, c)) := Lib.hid (by rw [mapP_yes hc0 hh]; rfl)
          have hxl : (bs (enc 0 (loI 0 c))).size ≤ 100000 := by rw [← str_len, str_bs]; have := (enc_len 0 (loI 0 c)).2; omega
          rw [backV_yes hh] at HWC
          clear hh
          generalize bs (enc 0 (loI 0 c)) = x at *
          go_region_held3 (fun w' => w'.cell? ⟨w3.heap.size, 1, none⟩ = some (.func (.func 88) #[] #[.pointer (some ⟨bB, 0, none⟩)])) (go_keep)
            (first
              | (go_at_call 66; refine (HCH.out _ (cell_drew k2)).mono ?_; rintro en w5 ⟨rfl, rfl⟩)
              | (go_at_call 88; refine (HWC.out _ (cell_drew kD) (by simp; omega)).mono ?_; rintro en w6 ⟨rfl, hB6⟩; have j1 : w6.cell? ⟨w3.heap.size, 1, none⟩ = some (.func (.func 88) #[] #[.pointer (some ⟨bB, 0, none⟩)]) := (hB6.cell (p := ⟨w3.heap.size, 1, none⟩) (by show w3.heap.size < _; simp; omega)).trans (cell_drew k1); have HB6 := Lib.hid hB6; clear hB6))
          go_wp2_with fail
          have hz6 : w4.heap.size ≤ w6.heap.size := HB6.out.size
          have HB46 : Hid (Below w4.heap.size w4 w6) := Lib.hid ((Below.refl w4.heap.size w4).drew.trans HB6.out)
          have H49 := Lib.hid (f49 (w.heap.size + 1) (w.heap.size + 1) out x w6 (bld_below (bld_below HBR.out HB4.out) HB46.out) (by omega) (by omega))
          refine H49.out.mono ?_
          rintro en w7 ⟨rfl, hBl7, hB7, hO7⟩
          have hz7 := hB7.size
          have HBl7 := Lib.hid hBl7; clear hBl7
          have HR : Hid (Below w.heap.size w w7 ∧ Lib.OthersKept 5 (some (w.heap.size + 1)) W0 w7) := Lib.hid ⟨((HWR.out.trans (HB4.out.mono hbw)).trans (HB46.out.mono (by omega))).trans (hB7.mono (by omega)), ((HOR.out.trans (others_of_below HB4.out)).trans (others_of_below HB46.out)).trans hO7⟩
          have HZ7 : Hid (W0.heap.size ≤ w7.heap.size) := Lib.hid (by
            have h1 := HR.out.2
            have h2 := HB4.out.size
            omega)
          clear hB7 hO7
          have HX2 : Hid (out ++ str x = ((done ++ [((str t).take n, c)]).map (mapP 0 (loI 0))).flatten) := Lib.hid (by rw [List.map_append, List.flatten_append, ← HOUT.out]; exact congrArg (fun z => out ++ z) (HX.out.trans (List.append_nil _).symm))
          have hxs := str_len x
          go_wp2_with fail
          go_roundw
          case rel => exact ⟨_, _, _, rfl, by simp; omega, by simp; omega, by simp only [List.length_append, List.length_cons, List.length_nil]; omega, HS, HX2, HBl7, Lib.hid HR.out.1, Lib.hid HR.out.2, HZ7⟩
          case measure => simp [strLen]; omega
        · have HX : Hid (str (t.extract 0 n) = mapP 0 (loI 0) ((str t).take n, c)) := Lib.hid (by rw [mapP_no (fun h => hc0 h.1), ext_front]; rfl)
          have hxl : (t.extract 0 n).size ≤ 100000 := by rw [ext_size t n hn2]; omega
          rw [backV_yes hh] at HWC
          clear hh
          have hcn : c < 0 := by omega
          clear hc0
          go_region_held3 (fun w' => w'.cell? ⟨w3.heap.size, 1, none⟩ = some (.func (.func 88) #[] #[.pointer (some ⟨bB, 0, none⟩)])) (go_keep)
            (first
              | (go_at_call 66; refine (HCH.out _ (cell_drew k2)).mono ?_; rintro en w5 ⟨rfl, rfl⟩)
              | (go_at_call 88; refine (HWC.out _ (cell_drew kD) (by simp; omega)).mono ?_; rintro en w6 ⟨rfl, hB6⟩; have j1 : w6.cell? ⟨w3.heap.size, 1, none⟩ = some (.func (.func 88) #[] #[.pointer (some ⟨bB, 0, none⟩)]) := (hB6.cell (p := ⟨w3.heap.size, 1, none⟩) (by show w3.heap.size < _; simp; omega)).trans (cell_drew k1); have HB6 := Lib.hid hB6; clear hB6))
          go_wp2_with fail
          have hz6 : w4.heap.size ≤ w6.heap.size := HB6.out.size
          have HB46 : Hid (Below w4.heap.size w4 w6) := Lib.hid ((Below.refl w4.heap.size w4).drew.trans HB6.out)
          have H49 := Lib.hid (f49 (w.heap.size + 1) (w.heap.size + 1) out (t.extract 0 n) w6 (bld_below (bld_below HBR.out HB4.out) HB46.out) (by omega) (by omega))
          refine H49.out.mono ?_
          rintro en w7 ⟨rfl, hBl7, hB7, hO7⟩
          have hz7 := hB7.size
          have HBl7 := Lib.hid hBl7; clear hBl7
          have HR : Hid (Below w.heap.size w w7 ∧ Lib.OthersKept 5 (some (w.heap.size + 1)) W0 w7) := Lib.hid ⟨((HWR.out.trans (HB4.out.mono hbw)).trans (HB46.out.mono (by omega))).trans (hB7.mono (by omega)), ((HOR.out.trans (others_of_below HB4.out)).trans (others_of_below HB46.out)).trans hO7⟩
          have HZ7 : Hid (W0.heap.size ≤ w7.heap.size) := Lib.hid (by
            have h1 := HR.out.2
            have h2 := HB4.out.size
            omega)
          clear hB7 hO7
          have HX2 : Hid (out ++ str (t.extract 0 n) = ((done ++ [((str t).take n, c)]).map (mapP 0 (loI 0))).flatten) := Lib.hid (by rw [List.map_append, List.flatten_append, ← HOUT.out]; exact congrArg (fun z => out ++ z) (HX.out.trans (List.append_nil _).symm))
          have hxs := str_len (t.extract 0 n)
          go_wp2_with fail
          go_roundw
          case rel => exact ⟨_, _, _, rfl, by simp; omega, by simp; omega, by simp only [List.length_append, List.length_cons, List.length_nil]; omega, HS, HX2, HBl7, Lib.hid HR.out.1, Lib.hid HR.out.2, HZ7⟩
          case measure => simp [strLen]; omega
      · have HX : Hid (str (t.extract 0 n) = mapP 0 (loI 0) ((str t).take n, c)) := Lib.hid (by rw [mapP_no (fun h => hh h.2), ext_front]; rfl)
        have hxl : (t.extract 0 n).size ≤ 100000 := by rw [ext_size t n hn2]; omega
        rw [backV_no hh] at HWC
        clear hh
        by_cases hcn : c < 0
        · go_region_held3 (fun w' => w'.cell? ⟨w3.heap.size, 1, none⟩ = some (.func (.func 88) #[] #[.pointer (some ⟨bB, 0, none⟩)])) (go_keep)
            (first
              | (go_at_call 66; refine (HCH.out _ (cell_drew k2)).mono ?_; rintro en w5 ⟨rfl, rfl⟩)
              | (go_at_call 88; refine (HWC.out _ (cell_drew kD) (by simp; omega)).mono ?_; rintro en w6 ⟨rfl, hB6⟩; have j1 : w6.cell? ⟨w3.heap.size, 1, none⟩ = some (.func (.func 88) #[] #[.pointer (some ⟨bB, 0, none⟩)]) := (hB6.cell (p := ⟨w3.heap.size, 1, none⟩) (by show w3.heap.size < _; simp; omega)).trans (cell_drew k1); have HB6 := Lib.hid hB6; clear hB6))
          go_wp2_with fail
          have hz6 : w4.heap.size ≤ w6.heap.size := HB6.out.size
          have HB46 : Hid (Below w4.heap.size w4 w6) := Lib.hid ((Below.refl w4.heap.size w4).drew.trans HB6.out)
          have H49 := Lib.hid (f49 (w.heap.size + 1) (w.heap.size + 1) out (t.extract 0 n) w6 (bld_below (bld_below HBR.out HB4.out) HB46.out) (by omega) (by omega))
          refine H49.out.mono ?_
          rintro en w7 ⟨rfl, hBl7, hB7, hO7⟩
          have hz7 := hB7.size
          have HBl7 := Lib.hid hBl7; clear hBl7
          have HR : Hid (Below w.heap.size w w7 ∧ Lib.OthersKept 5 (some (w.heap.size + 1)) W0 w7) := Lib.hid ⟨((HWR.out.trans (HB4.out.mono hbw)).trans (HB46.out.mono (by omega))).trans (hB7.mono (by omega)), ((HOR.out.trans (others_of_below HB4.out)).trans (others_of_below HB46.out)).trans hO7⟩
          have HZ7 : Hid (W0.heap.size ≤ w7.heap.size) := Lib.hid (by
            have h1 := HR.out.2
            have h2 := HB4.out.size
            omega)
          clear hB7 hO7
          have HX2 : Hid (out ++ str (t.extract 0 n) = ((done ++ [((str t).take n, c)]).map (mapP 0 (loI 0))).flatten) := Lib.hid (by rw [List.map_append, List.flatten_append, ← HOUT.out]; exact congrArg (fun z => out ++ z) (HX.out.trans (List.append_nil _).symm))
          have hxs := str_len (t.extract 0 n)
          go_wp2_with fail
          go_roundw
          case rel => exact ⟨_, _, _, rfl, by simp; omega, by simp; omega, by simp only [List.length_append, List.length_cons, List.length_nil]; omega, HS, HX2, HBl7, Lib.hid HR.out.1, Lib.hid HR.out.2, HZ7⟩
          case measure => simp [strLen]; omega
        · have hc0 : 0 ≤ c := by omega
          clear hcn
          go_region_held3 (fun w' => w'.cell? ⟨w3.heap.size, 1, none⟩ = some (.func (.func 88) #[] #[.pointer (some ⟨bB, 0, none⟩)])) (go_keep)
            (first
              | (go_at_call 66; refine (HCH.out _ (cell_drew k2)).mono ?_; rintro en w5 ⟨rfl, rfl⟩)
              | (go_at_call 88; refine (HWC.out _ (cell_drew kD) (by simp; omega)).mono ?_; rintro en w6 ⟨rfl, hB6⟩; have j1 : w6.cell? ⟨w3.heap.size, 1, none⟩ = some (.func (.func 88) #[] #[.pointer (some ⟨bB, 0, none⟩)]) := (hB6.cell (p := ⟨w3.heap.size, 1, none⟩) (by show w3.heap.size < _; simp; omega)).trans (cell_drew k1); have HB6 := Lib.hid hB6; clear hB6))
          go_wp2_with fail
          have hz6 : w4.heap.size ≤ w6.heap.size := HB6.out.size
          have HB46 : Hid (Below w4.heap.size w4 w6) := Lib.hid ((Below.refl w4.heap.size w4).drew.trans HB6.out)
          have H49 := Lib.hid (f49 (w.heap.size + 1) (w.heap.size + 1) out (t.extract 0 n) w6 (bld_below (bld_below HBR.out HB4.out) HB46.out) (by omega) (by omega))
          refine H49.out.mono ?_
          rintro en w7 ⟨rfl, hBl7, hB7, hO7⟩
          have hz7 := hB7.size
          have HBl7 := Lib.hid hBl7; clear hBl7
          have HR : Hid (Below w.heap.size w w7 ∧ Lib.OthersKept 5 (some (w.heap.size + 1)) W0 w7) := Lib.hid ⟨((HWR.out.trans (HB4.out.mono hbw)).trans (HB46.out.mono (by omega))).trans (hB7.mono (by omega)), ((HOR.out.trans (others_of_below HB4.out)).trans (others_of_below HB46.out)).trans hO7⟩
          have HZ7 : Hid (W0.heap.size ≤ w7.heap.size) := Lib.hid (by
            have h1 := HR.out.2
            have h2 := HB4.out.size
            omega)
          clear hB7 hO7
          have HX2 : Hid (out ++ str (t.extract 0 n) = ((done ++ [((str t).take n, c)]).map (mapP 0 (loI 0))).flatten) := Lib.hid (by rw [List.map_append, List.flatten_append, ← HOUT.out]; exact congrArg (fun z => out ++ z) (HX.out.trans (List.append_nil _).symm))
          have hxs := str_len (t.extract 0 n)
          go_wp2_with fail
          go_roundw
          case rel => exact ⟨_, _, _, rfl, by simp; omega, by simp; omega, by simp only [List.length_append, List.length_cons, List.length_nil]; omega, HS, HX2, HBl7, Lib.hid HR.out.1, Lib.hid HR.out.2, HZ7⟩
          case measure => simp [strLen]; omega

set_option maxRecDepth 100000 in
set_option maxHeartbeats 4000000 in
theorem f62_166 (s : ByteArray) (hs : s.size ≤ 100000) (bx : Nat) (w : World) (hbx : bx < w.heap.size) (hbc : w.cell? ⟨bx, 0, none⟩ = some (.int .i64 1)) (hT : Lib.Utf8Tabs 0 1 w) (h2 : 2 ≤ w.heap.size) : Calls Tryd.prog 62 #[.string s, .int .i64 1, .func (.func 66) #[] #[.pointer (some ⟨bx, 0, none⟩)]] w fun en w' => en = .returned (.tuple #[.string (bs (mapL 1 (loI 1) (str s))), .int .i64 0]) ∧ Below w.heap.size w w' := by
  have H47 := Lib.hid (f47one 1 s (by omega) w)
  rw [asked_ok (xs := [s]) (by decide) (by intro x hx; simp at hx; subst hx; exact hs)] at H47
  have H48B := Lib.hid (f48b ((w.alloc (.cells #[.string s] 9)).alloc (.cells #[.pointer none, .slice none 0 0] 63)))
  have HBC := Lib.hid hbc; clear hbc
  have HT := Lib.hid hT; clear hT
  go_enter Tryd.func62, Tryd.ntmps62
  go_wp2_with (go_at_call 47; refine H47.out.mono ?_; rintro en w9 ⟨rfl, rfl⟩)
  refine H48B.out.mono ?_
  rintro en w3 ⟨bB, rfl, hloB, hltB, hbd, hB⟩
  have HBB := Lib.hid hB
  clear hB
  have HBDB := Lib.hid hbd
  clear hbd
  simp only [World.size_alloc] at hloB
  simp only [oneByte]
  have hz3 : w.heap.size + 2 ≤ w3.heap.size := by have := HBB.out.size; simp at this; omega
  have HA3 : Hid (Below w.heap.size w w3) := Lib.hid ((((Below.refl _ _).alloc (Nat.le_refl _) _).alloc (by simp) _).trans (HBB.out.mono (by simp; omega)))
  have HW : Hid (Below w.heap.size w (w3.alloc (.cells #[.func (.func 87) #[] #[.pointer (some ⟨bB, 0, none⟩)], .func (.func 88) #[] #[.pointer (some ⟨bB, 0, none⟩)]] 67))) := Lib.hid (HA3.out.alloc (by omega) _)
  have HBL : Hid (Bld (w.heap.size + 1) (w.heap.size + 1) [] (w3.alloc (.cells #[.func (.func 87) #[] #[.pointer (some ⟨bB, 0, none⟩)], .func (.func 88) #[] #[.pointer (some ⟨bB, 0, none⟩)]] 67))) := Lib.hid (bld_below (bld_below (by have := bld_new (w.alloc (.cells #[.string s] 9)); simpa using this) HBB.out) ((Below.refl _ _).alloc (Nat.le_refl _) _))
  have HCB : Hid ((w3.alloc (.cells #[.func (.func 87) #[] #[.pointer (some ⟨bB, 0, none⟩)], .func (.func 88) #[] #[.pointer (some ⟨bB, 0, none⟩)]] 67)).heap[w3.heap.size]? = some (.cells #[.func (.func 87) #[] #[.pointer (some ⟨bB, 0, none⟩)], .func (.func 88) #[] #[.pointer (some ⟨bB, 0, none⟩)]] 67)) := Lib.hid (heap_alloc_new w3 _)
  have HDB : Hid ((w3.alloc (.cells #[.func (.func 87) #[] #[.pointer (some ⟨bB, 0, none⟩)], .func (.func 88) #[] #[.pointer (some ⟨bB, 0, none⟩)]] 67)).heap[bB]? = some (.cells #[.int .i64 256] 3 (0, 0))) := Lib.hid ((Below.heap_alloc _ _ _ hltB).trans HBDB.out)
  have hzW : w.heap.size + 3 ≤ (w3.alloc (.cells #[.func (.func 87) #[] #[.pointer (some ⟨bB, 0, none⟩)], .func (.func 88) #[] #[.pointer (some ⟨bB, 0, none⟩)]] 67)).heap.size := by simp; omega
  go_wp2_with fail
  generalize hW0 : (w3.alloc (.cells #[.func (.func 87) #[] #[.pointer (some ⟨bB, 0, none⟩)], .func (.func 88) #[] #[.pointer (some ⟨bB, 0, none⟩)]] 67)) = W0 at *
  clear hW0
  go_loopw [0] (fun a wr => ∃ (t : ByteArray) (done : List (List UInt8 × Int)) (out : List UInt8), a = .string t ∧ t.size ≤ s.size ∧ done.length + t.size ≤ s.size ∧ out.length ≤ done.length * 100000 ∧ Hid (parts 1 (str s) = done ++ parts 1 (str t)) ∧ Hid (out = (done.map (mapP 1 (loI 1))).flatten) ∧ Hid (Bld (w.heap.size + 1) (w.heap.size + 1) out wr) ∧ Hid (Below w.heap.size w wr) ∧ Hid (Lib.OthersKept 5 (some (w.heap.size + 1)) W0 wr) ∧ Hid (W0.heap.size ≤ wr.heap.size)) (fun a _ => strLen a)
  case atStart => exact ⟨s, [], [], rfl, Nat.le_refl _, by simp, by simp, Lib.hid rfl, Lib.hid rfl, HBL, HW, Lib.hid (Lib.OthersKept.refl _ _ _), Lib.hid (Nat.le_refl _)⟩
  case round =>
    obtain ⟨t, done, out, rfl, ht, hd, hol, HP, HOUT, HBR, HWR, HOR, HZR⟩ := hrel
    have hzr := HZR.out
    by_cases hz : t.size = 0
    · obtain rfl := empty_of hz
      have HE := Lib.hid (parts_done HP.out)
      clear hz
      have H50 := Lib.hid (f50 _ _ _ _ HBR.out (by omega))
      go_wp2_with (go_at_call 50; refine H50.out.mono ?_; rintro en w6 ⟨rfl, hB6⟩; have HB6 := Lib.hid hB6; clear hB6)
      go_ret2
      refine ⟨?_, HWR.out.trans (HB6.out.mono (by omega))⟩
      unfold mapL
      rw [HOUT.out, ← HE.out]
      rfl
    · have hpos : 0 < t.size := by omega
      clear hz
      have hemp := notEmpty_of hpos
      have hbw := HWR.out.size
      have HRB := Lib.hid (others_blk HOR.out HCB.out (by omega) (by decide))
      have hltB' := (Array.getElem?_eq_some_iff.1 HRB.out).1
      have hcA : wr.cell? ⟨w3.heap.size, 0, none⟩ = some (.func (.func 87) #[] #[.pointer (some ⟨bB, 0, none⟩)]) := cell_blk HRB.out 0
      have HTr := Lib.hid (tabs_below HWR.out h2 HT.out)
      have hbxr := (HWR.out.cell (p := ⟨bx, 0, none⟩) hbx).trans HBC.out
      have HBXR := Lib.hid hbxr; clear hbxr
      have HRDB := Lib.hid (others_blk HOR.out HDB.out (by omega) (by decide))
      have hltD := (Array.getElem?_eq_some_iff.1 HRDB.out).1
      have HCUT := Lib.hid (f87d 256 1 (.inr ⟨rfl, rfl⟩) t bB wr hpos (cell_blk HRDB.out 0) hltD)
      have hcb := cutL_bounds 1 (str t) (str_ne hpos)
      unfold cutV at HCUT
      generalize hk : cutL 1 (str t) = k at *
      obtain ⟨n, c⟩ := k
      have HS := Lib.hid (parts_step HP.out hpos hk)
      rw [str_len] at hcb
      clear hk
      simp only at HCUT hcb
      obtain ⟨hn1, hn2, hn4, hcm1, hcm2⟩ := hcb
      have HCH := Lib.hid (fun w hb => f66 1 c hcm1 hcm2 bx w hb)
      have HWC := Lib.hid (fun w hc hlt => f88d 256 1 (.inr ⟨rfl, rfl⟩) (loI 1 c) bB w hc hlt)
      go_wp2_with (go_at_call 87; refine HCUT.out.mono ?_; rintro en w4 ⟨rfl, hB4⟩)
      have hz4 := hB4.size
      have k1 : w4.cell? ⟨w3.heap.size, 1, none⟩ = some (.func (.func 88) #[] #[.pointer (some ⟨bB, 0, none⟩)]) := (hB4.cell (p := ⟨w3.heap.size, 1, none⟩) hltB').trans (cell_blk HRB.out 1)
      have k2 : w4.cell? ⟨bx, 0, none⟩ = some (.int .i64 1) := (hB4.cell (p := ⟨bx, 0, none⟩) (by show bx < _; omega)).trans HBXR.out
      have kD : w4.cell? ⟨bB, 0, none⟩ = some (.int .i64 256) := (hB4.cell (p := ⟨bB, 0, none⟩) hltD).trans (cell_blk HRDB.out 0)
      have HB4 := Lib.hid hB4; clear hB4
      by_cases hh : has 1 (loI 1 c)
      · by_cases hc0 : 0 ≤ c
        · have HX : Hid (str (bs (enc 1 (loI 1 c))) = mapP 1 (loI 1) ((str t).take n, c)) := Lib.hid (by rw [mapP_yes hc0 hh]; rfl)
          have hxl : (bs (enc 1 (loI 1 c))).size ≤ 100000 := by rw [← str_len, str_bs]; have := (enc_len 1 (loI 1 c)).2; omega
          rw [backV_yes hh] at HWC
          clear hh
          generalize bs (enc 1 (loI 1 c)) = x at *
          go_region_held3 (fun w' => w'.cell? ⟨w3.heap.size, 1, none⟩ = some (.func (.func 88) #[] #[.pointer (some ⟨bB, 0, none⟩)])) (go_keep)
            (first
              | (go_at_call 66; refine (HCH.out _ (cell_drew k2)).mono ?_; rintro en w5 ⟨rfl, rfl⟩)
              | (go_at_call 88; refine (HWC.out _ (cell_drew kD) (by simp; omega)).mono ?_; rintro en w6 ⟨rfl, hB6⟩; have j1 : w6.cell? ⟨w3.heap.size, 1, none⟩ = some (.func (.func 88) #[] #[.pointer (some ⟨bB, 0, none⟩)]) := (hB6.cell (p := ⟨w3.heap.size, 1, none⟩) (by show w3.heap.size < _; simp; omega)).trans (cell_drew k1); have HB6 := Lib.hid hB6; clear hB6))
          go_wp2_with fail
          have hz6 : w4.heap.size ≤ w6.heap.size := HB6.out.size
          have HB46 : Hid (Below w4.heap.size w4 w6) := Lib.hid ((Below.refl w4.heap.size w4).drew.trans HB6.out)
          have H49 := Lib.hid (f49 (w.heap.size + 1) (w.heap.size + 1) out x w6 (bld_below (bld_below HBR.out HB4.out) HB46.out) (by omega) (by omega))
          refine H49.out.mono ?_
          rintro en w7 ⟨rfl, hBl7, hB7, hO7⟩
          have hz7 := hB7.size
          have HBl7 := Lib.hid hBl7; clear hBl7
          have HR : Hid (Below w.heap.size w w7 ∧ Lib.OthersKept 5 (some (w.heap.size + 1)) W0 w7) := Lib.hid ⟨((HWR.out.trans (HB4.out.mono hbw)).trans (HB46.out.mono (by omega))).trans (hB7.mono (by omega)), ((HOR.out.trans (others_of_below HB4.out)).trans (others_of_below HB46.out)).trans hO7⟩
          have HZ7 : Hid (W0.heap.size ≤ w7.heap.size) := Lib.hid (by
            have h1 := HR.out.2
            have h2 := HB4.out.size
            omega)
          clear hB7 hO7
          have HX2 : Hid (out ++ str x = ((done ++ [((str t).take n, c)]).map (mapP 1 (loI 1))).flatten) := Lib.hid (by rw [List.map_append, List.flatten_append, ← HOUT.out]; exact congrArg (fun z => out ++ z) (HX.out.trans (List.append_nil _).symm))
          have hxs := str_len x
          go_wp2_with fail
          go_roundw
          case rel => exact ⟨_, _, _, rfl, by simp; omega, by simp; omega, by simp only [List.length_append, List.length_cons, List.length_nil]; omega, HS, HX2, HBl7, Lib.hid HR.out.1, Lib.hid HR.out.2, HZ7⟩
          case measure => simp [strLen]; omega
        · have HX : Hid (str (t.extract 0 n) = mapP 1 (loI 1) ((str t).take n, c)) := Lib.hid (by rw [mapP_no (fun h => hc0 h.1), ext_front]; rfl)
          have hxl : (t.extract 0 n).size ≤ 100000 := by rw [ext_size t n hn2]; omega
          rw [backV_yes hh] at HWC
          clear hh
          have hcn : c < 0 := by omega
          clear hc0
          go_region_held3 (fun w' => w'.cell? ⟨w3.heap.size, 1, none⟩ = some (.func (.func 88) #[] #[.pointer (some ⟨bB, 0, none⟩)])) (go_keep)
            (first
              | (go_at_call 66; refine (HCH.out _ (cell_drew k2)).mono ?_; rintro en w5 ⟨rfl, rfl⟩)
              | (go_at_call 88; refine (HWC.out _ (cell_drew kD) (by simp; omega)).mono ?_; rintro en w6 ⟨rfl, hB6⟩; have j1 : w6.cell? ⟨w3.heap.size, 1, none⟩ = some (.func (.func 88) #[] #[.pointer (some ⟨bB, 0, none⟩)]) := (hB6.cell (p := ⟨w3.heap.size, 1, none⟩) (by show w3.heap.size < _; simp; omega)).trans (cell_drew k1); have HB6 := Lib.hid hB6; clear hB6))
          go_wp2_with fail
          have hz6 : w4.heap.size ≤ w6.heap.size := HB6.out.size
          have HB46 : Hid (Below w4.heap.size w4 w6) := Lib.hid ((Below.refl w4.heap.size w4).drew.trans HB6.out)
          have H49 := Lib.hid (f49 (w.heap.size + 1) (w.heap.size + 1) out (t.extract 0 n) w6 (bld_below (bld_below HBR.out HB4.out) HB46.out) (by omega) (by omega))
          refine H49.out.mono ?_
          rintro en w7 ⟨rfl, hBl7, hB7, hO7⟩
          have hz7 := hB7.size
          have HBl7 := Lib.hid hBl7; clear hBl7
          have HR : Hid (Below w.heap.size w w7 ∧ Lib.OthersKept 5 (some (w.heap.size + 1)) W0 w7) := Lib.hid ⟨((HWR.out.trans (HB4.out.mono hbw)).trans (HB46.out.mono (by omega))).trans (hB7.mono (by omega)), ((HOR.out.trans (others_of_below HB4.out)).trans (others_of_below HB46.out)).trans hO7⟩
          have HZ7 : Hid (W0.heap.size ≤ w7.heap.size) := Lib.hid (by
            have h1 := HR.out.2
            have h2 := HB4.out.size
            omega)
          clear hB7 hO7
          have HX2 : Hid (out ++ str (t.extract 0 n) = ((done ++ [((str t).take n, c)]).map (mapP 1 (loI 1))).flatten) := Lib.hid (by rw [List.map_append, List.flatten_append, ← HOUT.out]; exact congrArg (fun z => out ++ z) (HX.out.trans (List.append_nil _).symm))
          have hxs := str_len (t.extract 0 n)
          go_wp2_with fail
          go_roundw
          case rel => exact ⟨_, _, _, rfl, by simp; omega, by simp; omega, by simp only [List.length_append, List.length_cons, List.length_nil]; omega, HS, HX2, HBl7, Lib.hid HR.out.1, Lib.hid HR.out.2, HZ7⟩
          case measure => simp [strLen]; omega
      · have HX : Hid (str (t.extract 0 n) = mapP 1 (loI 1) ((str t).take n, c)) := Lib.hid (by rw [mapP_no (fun h => hh h.2), ext_front]; rfl)
        have hxl : (t.extract 0 n).size ≤ 100000 := by rw [ext_size t n hn2]; omega
        rw [backV_no hh] at HWC
        clear hh
        by_cases hcn : c < 0
        · go_region_held3 (fun w' => w'.cell? ⟨w3.heap.size, 1, none⟩ = some (.func (.func 88) #[] #[.pointer (some ⟨bB, 0, none⟩)])) (go_keep)
            (first
              | (go_at_call 66; refine (HCH.out _ (cell_drew k2)).mono ?_; rintro en w5 ⟨rfl, rfl⟩)
              | (go_at_call 88; refine (HWC.out _ (cell_drew kD) (by simp; omega)).mono ?_; rintro en w6 ⟨rfl, hB6⟩; have j1 : w6.cell? ⟨w3.heap.size, 1, none⟩ = some (.func (.func 88) #[] #[.pointer (some ⟨bB, 0, none⟩)]) := (hB6.cell (p := ⟨w3.heap.size, 1, none⟩) (by show w3.heap.size < _; simp; omega)).trans (cell_drew k1); have HB6 := Lib.hid hB6; clear hB6))
          go_wp2_with fail
          have hz6 : w4.heap.size ≤ w6.heap.size := HB6.out.size
          have HB46 : Hid (Below w4.heap.size w4 w6) := Lib.hid ((Below.refl w4.heap.size w4).drew.trans HB6.out)
          have H49 := Lib.hid (f49 (w.heap.size + 1) (w.heap.size + 1) out (t.extract 0 n) w6 (bld_below (bld_below HBR.out HB4.out) HB46.out) (by omega) (by omega))
          refine H49.out.mono ?_
          rintro en w7 ⟨rfl, hBl7, hB7, hO7⟩
          have hz7 := hB7.size
          have HBl7 := Lib.hid hBl7; clear hBl7
          have HR : Hid (Below w.heap.size w w7 ∧ Lib.OthersKept 5 (some (w.heap.size + 1)) W0 w7) := Lib.hid ⟨((HWR.out.trans (HB4.out.mono hbw)).trans (HB46.out.mono (by omega))).trans (hB7.mono (by omega)), ((HOR.out.trans (others_of_below HB4.out)).trans (others_of_below HB46.out)).trans hO7⟩
          have HZ7 : Hid (W0.heap.size ≤ w7.heap.size) := Lib.hid (by
            have h1 := HR.out.2
            have h2 := HB4.out.size
            omega)
          clear hB7 hO7
          have HX2 : Hid (out ++ str (t.extract 0 n) = ((done ++ [((str t).take n, c)]).map (mapP 1 (loI 1))).flatten) := Lib.hid (by rw [List.map_append, List.flatten_append, ← HOUT.out]; exact congrArg (fun z => out ++ z) (HX.out.trans (List.append_nil _).symm))
          have hxs := str_len (t.extract 0 n)
          go_wp2_with fail
          go_roundw
          case rel => exact ⟨_, _, _, rfl, by simp; omega, by simp; omega, by simp only [List.length_append, List.length_cons, List.length_nil]; omega, HS, HX2, HBl7, Lib.hid HR.out.1, Lib.hid HR.out.2, HZ7⟩
          case measure => simp [strLen]; omega
        · have hc0 : 0 ≤ c := by omega
          clear hcn
          go_region_held3 (fun w' => w'.cell? ⟨w3.heap.size, 1, none⟩ = some (.func (.func 88) #[] #[.pointer (some ⟨bB, 0, none⟩)])) (go_keep)
            (first
              | (go_at_call 66; refine (HCH.out _ (cell_drew k2)).mono ?_; rintro en w5 ⟨rfl, rfl⟩)
              | (go_at_call 88; refine (HWC.out _ (cell_drew kD) (by simp; omega)).mono ?_; rintro en w6 ⟨rfl, hB6⟩; have j1 : w6.cell? ⟨w3.heap.size, 1, none⟩ = some (.func (.func 88) #[] #[.pointer (some ⟨bB, 0, none⟩)]) := (hB6.cell (p := ⟨w3.heap.size, 1, none⟩) (by show w3.heap.size < _; simp; omega)).trans (cell_drew k1); have HB6 := Lib.hid hB6; clear hB6))
          go_wp2_with fail
          have hz6 : w4.heap.size ≤ w6.heap.size := HB6.out.size
          have HB46 : Hid (Below w4.heap.size w4 w6) := Lib.hid ((Below.refl w4.heap.size w4).drew.trans HB6.out)
          have H49 := Lib.hid (f49 (w.heap.size + 1) (w.heap.size + 1) out (t.extract 0 n) w6 (bld_below (bld_below HBR.out HB4.out) HB46.out) (by omega) (by omega))
          refine H49.out.mono ?_
          rintro en w7 ⟨rfl, hBl7, hB7, hO7⟩
          have hz7 := hB7.size
          have HBl7 := Lib.hid hBl7; clear hBl7
          have HR : Hid (Below w.heap.size w w7 ∧ Lib.OthersKept 5 (some (w.heap.size + 1)) W0 w7) := Lib.hid ⟨((HWR.out.trans (HB4.out.mono hbw)).trans (HB46.out.mono (by omega))).trans (hB7.mono (by omega)), ((HOR.out.trans (others_of_below HB4.out)).trans (others_of_below HB46.out)).trans hO7⟩
          have HZ7 : Hid (W0.heap.size ≤ w7.heap.size) := Lib.hid (by
            have h1 := HR.out.2
            have h2 := HB4.out.size
            omega)
          clear hB7 hO7
          have HX2 : Hid (out ++ str (t.extract 0 n) = ((done ++ [((str t).take n, c)]).map (mapP 1 (loI 1))).flatten) := Lib.hid (by rw [List.map_append, List.flatten_append, ← HOUT.out]; exact congrArg (fun z => out ++ z) (HX.out.trans (List.append_nil _).symm))
          have hxs := str_len (t.extract 0 n)
          go_wp2_with fail
          go_roundw
          case rel => exact ⟨_, _, _, rfl, by simp; omega, by simp; omega, by simp only [List.length_append, List.length_cons, List.length_nil]; omega, HS, HX2, HBl7, Lib.hid HR.out.1, Lib.hid HR.out.2, HZ7⟩
          case measure => simp [strLen]; omega

end Go.Proofs.YtaanihidheccfaaDoor
