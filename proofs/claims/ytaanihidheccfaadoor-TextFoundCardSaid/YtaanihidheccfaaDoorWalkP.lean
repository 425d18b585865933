/-
  The program's door: Of makes a string of codes.
-/
import Derived.Test.YtaanihidheccfaaDoorWalkM
namespace Go.Proofs.YtaanihidheccfaaDoor
open Go.Shelf Go.RowKit
set_option linter.unusedVariables false

theorem f86nil (w : World) : Calls Tryd.prog 86 #[.slice none 0 0, .func (.func 71) #[] #[]] w fun e w' => e = .returned (.int .i64 (-1)) ∧ w' = w := by
  go_enter Tryd.func86, Tryd.ntmps86
  go_wp2_with fail
  go_loop [8] (fun i => i = .int .i64 0) (fun _ => 0)
  case atStart => rfl
  case round =>
    subst hrel
    go_wp2_with fail
    go_ret
    exact ⟨rfl, rfl⟩
theorem f70nil (w : World) : Calls Tryd.prog 70 #[.slice none 0 0, .func (.func 71) #[] #[]] w fun e w' => e = .returned (.bool false) ∧ w' = w := by
  have H86 := Lib.hid (f86nil w)
  go_enter Tryd.func70, Tryd.ntmps70
  go_wp2_with (go_at_call 86; refine H86.out.mono ?_; rintro e w2 ⟨rfl, rfl⟩)
  go_ret
  exact ⟨rfl, rfl⟩
/-- asked with no string. -/
theorem f47nil (e : Int) (w : World) : Calls Tryd.prog 47 #[.int .i64 e, .slice none 0 0] w fun en w' => en = .returned (.int .i64 (askedN e [])) ∧ w' = w := by
  have H70 := Lib.hid (f70nil w)
  by_cases h1 : e < 0
  · have HE : Hid (askedN e [] = 1) := Lib.hid (asked_bad (.inl (by omega)))
    go_enter Tryd.func47, Tryd.ntmps47
    go_wp2_with fail
    go_ret
    rw [HE.out]
    exact ⟨rfl, rfl⟩
  · by_cases h2 : 2 < e
    · have HE : Hid (askedN e [] = 1) := Lib.hid (asked_bad (.inl (by omega)))
      go_enter Tryd.func47, Tryd.ntmps47
      go_wp2_with fail
      go_ret
      rw [HE.out]
      exact ⟨rfl, rfl⟩
    · have HE : Hid (askedN e [] = 0) := Lib.hid (asked_ok (by omega) (by simp))
      go_enter Tryd.func47, Tryd.ntmps47
      go_wp2_with (go_at_call 70; refine H70.out.mono ?_; rintro e w2 ⟨rfl, rfl⟩)
      go_ret
      rw [HE.out]
      exact ⟨rfl, rfl⟩

/-- A slice of ints that reads as a list. -/
def IntsIn (w : World) (v : Value) (l : List Int) : Prop := ∃ a cap, v = .slice a l.length cap ∧ l.length ≤ 9223372036854775807 ∧ ∀ (j : Nat) x, l[j]? = some x → ∃ b o, a = some ⟨b, o, none⟩ ∧ b < w.heap.size ∧ w.cell? ⟨b, o + j, none⟩ = some (.int .i64 x)
theorem IntsIn.below {w w' : World} {v : Value} {l : List Int} (h : IntsIn w v l) (hb : Below w.heap.size w w') : IntsIn w' v l := by
  obtain ⟨a, cap, hv, hl, hc⟩ := h
  refine ⟨a, cap, hv, hl, fun j x hx => ?_⟩
  obtain ⟨b, o, ha, hlt, hcell⟩ := hc j x hx
  exact ⟨b, o, ha, Nat.lt_of_lt_of_le hlt hb.size, (hb.cell (p := ⟨b, o + j, none⟩) hlt).trans hcell⟩
theorem IntsIn.some {w : World} {v : Value} {l : List Int} (h : IntsIn w v l) (h0 : l ≠ []) : ∃ b o cap, v = .slice (some ⟨b, o, none⟩) l.length cap ∧ l.length ≤ 9223372036854775807 ∧ b < w.heap.size ∧ ∀ (j : Nat) x, l[j]? = some x → w.cell? ⟨b, o + j, none⟩ = some (.int .i64 x) := by
  obtain ⟨a, cap, hv, hl, hc⟩ := h
  cases l with
  | nil => exact absurd rfl h0
  | cons x r =>
    obtain ⟨b, o, ha, hlt, -⟩ := hc 0 x rfl
    refine ⟨b, o, cap, by rw [hv, ha], hl, hlt, fun j y hy => ?_⟩
    obtain ⟨b', o', ha', -, hcell⟩ := hc j y hy
    rw [ha] at ha'
    injection ha' with e
    injection e with e1 e2
    subst e1 e2
    exact hcell

/-- A string of codes, if each has a character. -/
def ofL (e : Int) (cs : List Int) : Option (List UInt8) := if ∀ c ∈ cs, has e c then some ((cs.map (enc e)).flatten) else none
theorem ofL_none {e : Int} {cs : List Int} {j : Nat} {c : Int} (h : cs[j]? = some c) (hc : ¬ has e c) : ofL e cs = none := if_neg fun h2 => hc (h2 c (List.mem_of_getElem? h))
theorem ofL_all {e : Int} {cs : List Int} (h : ∀ c ∈ cs, has e c) : ofL e cs = some ((cs.map (enc e)).flatten) := if_pos h

/-- What Of hands out. -/
def OfPost (w : World) (o : Option (List UInt8)) (en : Ending) (w' : World) : Prop :=
  (match o with
    | none => en = .returned (.tuple #[.string ⟨#[]⟩, .int .i64 5])
    | some l => en = .returned (.tuple #[.string (bs l), .int .i64 0])) ∧ Below w.heap.size w w'

theorem f16_bad (e : Int) (v : Value) (h : ¬ (e = 0 ∨ e = 1 ∨ e = 2)) (w : World) : Calls Tryd.prog 16 #[v, .int .i64 e] w fun en w' => en = .returned (.tuple #[.string ⟨#[]⟩, .int .i64 1]) ∧ w' = w := by
  have H47 := Lib.hid (f47nil e w)
  rw [asked_bad (xs := []) (.inl h)] at H47
  clear h
  go_enter Tryd.func16, Tryd.ntmps16
  go_wp2_with (go_at_call 47; refine H47.out.mono ?_; rintro en w2 ⟨rfl, rfl⟩)
  go_ret2
  exact ⟨rfl, rfl⟩

set_option maxRecDepth 100000 in
theorem f16_2n (a : Option Addr) (cap : Nat) (w : World) (h2 : 2 ≤ w.heap.size) : Calls Tryd.prog 16 #[.slice a 0 cap, .int .i64 2] w (OfPost w (ofL 2 [])) := by
  have H47 := Lib.hid (f47nil 2 w)
  rw [asked_ok (xs := []) (by decide) (by simp)] at H47
  have H48B := Lib.hid (f48u 2 (by decide) (by decide) (w.alloc (.cells #[.pointer none, .slice none 0 0] 63)))
  go_enter Tryd.func16, Tryd.ntmps16
  go_wp2_with (go_at_call 47; refine H47.out.mono ?_; rintro en w2 ⟨rfl, rfl⟩)
  refine H48B.out.mono ?_
  rintro en w3 ⟨rfl, hB⟩
  have HBB := Lib.hid hB
  clear hB
  have hz3 : w2.heap.size + 1 ≤ w3.heap.size := by have := HBB.out.size; simp at this; omega
  have HA3 : Hid (Below w2.heap.size w2 w3) := Lib.hid (((Below.refl _ _).alloc (Nat.le_refl _) _).trans (HBB.out.mono (by simp)))
  have HW : Hid (Below w2.heap.size w2 (w3.alloc (.cells #[.func (.func 73) #[] #[], .func (.func 76) #[] #[]] 67))) := Lib.hid (HA3.out.alloc (by omega) _)
  have HBL : Hid (Bld w2.heap.size w2.heap.size [] (w3.alloc (.cells #[.func (.func 73) #[] #[], .func (.func 76) #[] #[]] 67))) := Lib.hid (bld_below (bld_below (bld_new w2) HBB.out) ((Below.refl _ _).alloc (Nat.le_refl _) _))
  have HCB : Hid ((w3.alloc (.cells #[.func (.func 73) #[] #[], .func (.func 76) #[] #[]] 67)).heap[w3.heap.size]? = some (.cells #[.func (.func 73) #[] #[], .func (.func 76) #[] #[]] 67)) := Lib.hid (heap_alloc_new w3 _)
  go_wp2_with fail
  generalize hW0 : (w3.alloc (.cells #[.func (.func 73) #[] #[], .func (.func 76) #[] #[]] 67)) = W0 at *
  clear hW0
  go_loopw [22] (fun i wr => i = .int .i64 0 ∧ wr = W0) (fun _ _ => 0)
  case atStart => exact ⟨rfl, rfl⟩
  case round =>
    obtain ⟨rfl, rfl⟩ := hrel
    have H50 := Lib.hid (f50 _ _ _ _ HBL.out HW.out.size)
    go_wp2_with (go_at_call 50; refine H50.out.mono ?_; rintro en w6 ⟨rfl, hB6⟩; have HB6 := Lib.hid hB6; clear hB6)
    go_ret2
    rw [ofL_all (by simp)]
    exact ⟨rfl, HW.out.trans HB6.out⟩

set_option maxRecDepth 100000 in
theorem f16_0n (a : Option Addr) (cap : Nat) (w : World) (h2 : 2 ≤ w.heap.size) : Calls Tryd.prog 16 #[.slice a 0 cap, .int .i64 0] w (OfPost w (ofL 0 [])) := by
  have H47 := Lib.hid (f47nil 0 w)
  rw [asked_ok (xs := []) (by decide) (by simp)] at H47
  have H48B := Lib.hid (f48a (w.alloc (.cells #[.pointer none, .slice none 0 0] 63)))
  go_enter Tryd.func16, Tryd.ntmps16
  go_wp2_with (go_at_call 47; refine H47.out.mono ?_; rintro en w2 ⟨rfl, rfl⟩)
  refine H48B.out.mono ?_
  rintro en w3 ⟨bB, rfl, hloB, hltB, hbd, hB⟩
  have HBB := Lib.hid hB
  clear hB
  have HBDB := Lib.hid hbd
  clear hbd
  simp only [World.size_alloc] at hloB
  simp only [oneByte]
  have hz3 : w2.heap.size + 1 ≤ w3.heap.size := by have := HBB.out.size; simp at this; omega
  have HA3 : Hid (Below w2.heap.size w2 w3) := Lib.hid (((Below.refl _ _).alloc (Nat.le_refl _) _).trans (HBB.out.mono (by simp)))
  have HW : Hid (Below w2.heap.size w2 (w3.alloc (.cells #[.func (.func 87) #[] #[.pointer (some ⟨bB, 0, none⟩)], .func (.func 88) #[] #[.pointer (some ⟨bB, 0, none⟩)]] 67))) := Lib.hid (HA3.out.alloc (by omega) _)
  have HBL : Hid (Bld w2.heap.size w2.heap.size [] (w3.alloc (.cells #[.func (.func 87) #[] #[.pointer (some ⟨bB, 0, none⟩)], .func (.func 88) #[] #[.pointer (some ⟨bB, 0, none⟩)]] 67))) := Lib.hid (bld_below (bld_below (bld_new w2) HBB.out) ((Below.refl _ _).alloc (Nat.le_refl _) _))
  have HCB : Hid ((w3.alloc (.cells #[.func (.func 87) #[] #[.pointer (some ⟨bB, 0, none⟩)], .func (.func 88) #[] #[.pointer (some ⟨bB, 0, none⟩)]] 67)).heap[w3.heap.size]? = some (.cells #[.func (.func 87) #[] #[.pointer (some ⟨bB, 0, none⟩)], .func (.func 88) #[] #[.pointer (some ⟨bB, 0, none⟩)]] 67)) := Lib.hid (heap_alloc_new w3 _)
  have HDB : Hid ((w3.alloc (.cells #[.func (.func 87) #[] #[.pointer (some ⟨bB, 0, none⟩)], .func (.func 88) #[] #[.pointer (some ⟨bB, 0, none⟩)]] 67)).heap[bB]? = some (.cells #[.int .i64 128] 3 (0, 0))) := Lib.hid ((Below.heap_alloc _ _ _ hltB).trans HBDB.out)
  go_wp2_with fail
  generalize hW0 : (w3.alloc (.cells #[.func (.func 87) #[] #[.pointer (some ⟨bB, 0, none⟩)], .func (.func 88) #[] #[.pointer (some ⟨bB, 0, none⟩)]] 67)) = W0 at *
  clear hW0
  go_loopw [22] (fun i wr => i = .int .i64 0 ∧ wr = W0) (fun _ _ => 0)
  case atStart => exact ⟨rfl, rfl⟩
  case round =>
    obtain ⟨rfl, rfl⟩ := hrel
    have H50 := Lib.hid (f50 _ _ _ _ HBL.out HW.out.size)
    go_wp2_with (go_at_call 50; refine H50.out.mono ?_; rintro en w6 ⟨rfl, hB6⟩; have HB6 := Lib.hid hB6; clear hB6)
    go_ret2
    rw [ofL_all (by simp)]
    exact ⟨rfl, HW.out.trans HB6.out⟩

set_option maxRecDepth 100000 in
theorem f16_1n (a : Option Addr) (cap : Nat) (w : World) (h2 : 2 ≤ w.heap.size) : Calls Tryd.prog 16 #[.slice a 0 cap, .int .i64 1] w (OfPost w (ofL 1 [])) := by
  have H47 := Lib.hid (f47nil 1 w)
  rw [asked_ok (xs := []) (by decide) (by simp)] at H47
  have H48B := Lib.hid (f48b (w.alloc (.cells #[.pointer none, .slice none 0 0] 63)))
  go_enter Tryd.func16, Tryd.ntmps16
  go_wp2_with (go_at_call 47; refine H47.out.mono ?_; rintro en w2 ⟨rfl, rfl⟩)
  refine H48B.out.mono ?_
  rintro en w3 ⟨bB, rfl, hloB, hltB, hbd, hB⟩
  have HBB := Lib.hid hB
  clear hB
  have HBDB := Lib.hid hbd
  clear hbd
  simp only [World.size_alloc] at hloB
  simp only [oneByte]
  have hz3 : w2.heap.size + 1 ≤ w3.heap.size := by have := HBB.out.size; simp at this; omega
  have HA3 : Hid (Below w2.heap.size w2 w3) := Lib.hid (((Below.refl _ _).alloc (Nat.le_refl _) _).trans (HBB.out.mono (by simp)))
  have HW : Hid (Below w2.heap.size w2 (w3.alloc (.cells #[.func (.func 87) #[] #[.pointer (some ⟨bB, 0, none⟩)], .func (.func 88) #[] #[.pointer (some ⟨bB, 0, none⟩)]] 67))) := Lib.hid (HA3.out.alloc (by omega) _)
  have HBL : Hid (Bld w2.heap.size w2.heap.size [] (w3.alloc (.cells #[.func (.func 87) #[] #[.pointer (some ⟨bB, 0, none⟩)], .func (.func 88) #[] #[.pointer (some ⟨bB, 0, none⟩)]] 67))) := Lib.hid (bld_below (bld_below (bld_new w2) HBB.out) ((Below.refl _ _).alloc (Nat.le_refl _) _))
  have HCB : Hid ((w3.alloc (.cells #[.func (.func 87) #[] #[.pointer (some ⟨bB, 0, none⟩)], .func (.func 88) #[] #[.pointer (some ⟨bB, 0, none⟩)]] 67)).heap[w3.heap.size]? = some (.cells #[.func (.func 87) #[] #[.pointer (some ⟨bB, 0, none⟩)], .func (.func 88) #[] #[.pointer (some ⟨bB, 0, none⟩)]] 67)) := Lib.hid (heap_alloc_new w3 _)
  have HDB : Hid ((w3.alloc (.cells #[.func (.func 87) #[] #[.pointer (some ⟨bB, 0, none⟩)], .func (.func 88) #[] #[.pointer (some ⟨bB, 0, none⟩)]] 67)).heap[bB]? = some (.cells #[.int .i64 256] 3 (0, 0))) := Lib.hid ((Below.heap_alloc _ _ _ hltB).trans HBDB.out)
  go_wp2_with fail
  generalize hW0 : (w3.alloc (.cells #[.func (.func 87) #[] #[.pointer (some ⟨bB, 0, none⟩)], .func (.func 88) #[] #[.pointer (some ⟨bB, 0, none⟩)]] 67)) = W0 at *
  clear hW0
  go_loopw [22] (fun i wr => i = .int .i64 0 ∧ wr = W0) (fun _ _ => 0)
  case atStart => exact ⟨rfl, rfl⟩
  case round =>
    obtain ⟨rfl, rfl⟩ := hrel
    have H50 := Lib.hid (f50 _ _ _ _ HBL.out HW.out.size)
    go_wp2_with (go_at_call 50; refine H50.out.mono ?_; rintro en w6 ⟨rfl, hB6⟩; have HB6 := Lib.hid hB6; clear hB6)
    go_ret2
    rw [ofL_all (by simp)]
    exact ⟨rfl, HW.out.trans HB6.out⟩

set_option maxRecDepth 100000 in
theorem f16_2 (b o cap : Nat) (cs : List Int) (hcs : cs.length ≤ 100000) (w : World) (h2 : 2 ≤ w.heap.size) (hb : b < w.heap.size) (hcell : ∀ (j : Nat) x, cs[j]? = some x → w.cell? ⟨b, o + j, none⟩ = some (.int .i64 x)) : Calls Tryd.prog 16 #[.slice (some ⟨b, o, none⟩) cs.length cap, .int .i64 2] w (OfPost w (ofL 2 cs)) := by
  have H47 := Lib.hid (f47nil 2 w)
  rw [asked_ok (xs := []) (by decide) (by simp)] at H47
  have H48B := Lib.hid (f48u 2 (by decide) (by decide) (w.alloc (.cells #[.pointer none, .slice none 0 0] 63)))
  have HCELL := Lib.hid hcell; clear hcell
  go_enter Tryd.func16, Tryd.ntmps16
  go_wp2_with (go_at_call 47; refine H47.out.mono ?_; rintro en w2 ⟨rfl, rfl⟩)
  refine H48B.out.mono ?_
  rintro en w3 ⟨rfl, hB⟩
  have HBB := Lib.hid hB
  clear hB
  have hz3 : w2.heap.size + 1 ≤ w3.heap.size := by have := HBB.out.size; simp at this; omega
  have HA3 : Hid (Below w2.heap.size w2 w3) := Lib.hid (((Below.refl _ _).alloc (Nat.le_refl _) _).trans (HBB.out.mono (by simp)))
  have HW : Hid (Below w2.heap.size w2 (w3.alloc (.cells #[.func (.func 73) #[] #[], .func (.func 76) #[] #[]] 67))) := Lib.hid (HA3.out.alloc (by omega) _)
  have HBL : Hid (Bld w2.heap.size w2.heap.size [] (w3.alloc (.cells #[.func (.func 73) #[] #[], .func (.func 76) #[] #[]] 67))) := Lib.hid (bld_below (bld_below (bld_new w2) HBB.out) ((Below.refl _ _).alloc (Nat.le_refl _) _))
  have HCB : Hid ((w3.alloc (.cells #[.func (.func 73) #[] #[], .func (.func 76) #[] #[]] 67)).heap[w3.heap.size]? = some (.cells #[.func (.func 73) #[] #[], .func (.func 76) #[] #[]] 67)) := Lib.hid (heap_alloc_new w3 _)
  go_wp2_with fail
  generalize hW0 : (w3.alloc (.cells #[.func (.func 73) #[] #[], .func (.func 76) #[] #[]] 67)) = W0 at *
  clear hW0
  go_loopw [22] (fun i wr => ∃ (j : Nat) (out : List UInt8), i = .int .i64 j ∧ j ≤ cs.length ∧ out.length ≤ j * 4 ∧ Hid (∀ c ∈ cs.take j, has 2 c) ∧ Hid (out = ((cs.take j).map (enc 2)).flatten) ∧ Hid (Bld w2.heap.size w2.heap.size out wr) ∧ Hid (Below w2.heap.size w2 wr) ∧ Hid (Lib.OthersKept 5 (some w2.heap.size) W0 wr)) (fun i _ => cs.length - (intOf i).toNat)
  case atStart => exact ⟨0, [], rfl, Nat.zero_le _, by simp, Lib.hid (by simp), Lib.hid rfl, HBL, HW, Lib.hid (Lib.OthersKept.refl _ _ _)⟩
  case round =>
    obtain ⟨j, out, rfl, hj, hol, HH, HOUT, HBR, HWR, HOR⟩ := hrel
    by_cases hlt : j < cs.length
    · obtain ⟨c, hc⟩ : ∃ c, cs[j]? = some c := ⟨cs[j], by simp [hlt]⟩
      have hbw := HWR.out.size
      have HRB := Lib.hid (others_blk HOR.out HCB.out (by omega) (by decide))
      have hltB' := (Array.getElem?_eq_some_iff.1 HRB.out).1
      have hcA : wr.cell? ⟨w3.heap.size, 1, none⟩ = some (.func (.func 76) #[] #[]) := cell_blk HRB.out 1
      have hcell := (HWR.out.cell (p := ⟨b, o + j, none⟩) hb).trans (HCELL.out j c hc)
      have HC := Lib.hid hc; clear hc
      have HWC := Lib.hid (f76d c wr)
      by_cases hh : has 2 c
      · rw [backV_yes hh] at HWC
        have hel := (enc_len 2 c).2
        have hxs : (bs (enc 2 c)).size = (enc 2 c).length := (str_len _).symm
        have HXS := Lib.hid hxs; clear hxs
        have HX : Hid (str (bs (enc 2 c)) = enc 2 c) := Lib.hid rfl
        generalize bs (enc 2 c) = x at *
        have hxl : x.size ≤ 4 := by rw [HXS.out]; exact hel
        go_wp2_with (first | (go_at_call 76; refine HWC.out.mono ?_; rintro en w5 ⟨rfl, hB5⟩; have HB5 := Lib.hid hB5; clear hB5; have H49 := Lib.hid (f49 w2.heap.size w2.heap.size out x w5 (bld_below HBR.out HB5.out) (by omega) (by have := HB5.out.size; omega))) | (go_at_call 49; refine H49.out.mono ?_; rintro en w6 ⟨rfl, hBl6, hB6, hO6⟩; have HBl6 := Lib.hid hBl6; clear hBl6; have HB6 := Lib.hid hB6; clear hB6; have HO6 := Lib.hid hO6; clear hO6))
        have HT1 : Hid (cs.take (j + 1) = cs.take j ++ [c]) := Lib.hid (by rw [List.take_add_one, HC.out]; rfl)
        have HR : Hid (Below w2.heap.size w2 w6 ∧ Lib.OthersKept 5 (some w2.heap.size) W0 w6) := Lib.hid ⟨(HWR.out.trans (HB5.out.mono hbw)).trans HB6.out, (HOR.out.trans (others_of_below HB5.out)).trans HO6.out⟩
        have HX2 : Hid (out ++ str x = ((cs.take (j + 1)).map (enc 2)).flatten) := Lib.hid (by rw [HT1.out, List.map_append, List.flatten_append, ← HOUT.out]; exact congrArg (fun z => out ++ z) (HX.out.trans (List.append_nil _).symm))
        have HH2 : Hid (∀ c ∈ cs.take (j + 1), has 2 c) := Lib.hid (by
          rw [HT1.out]
          intro y hy
          rw [List.mem_append, List.mem_singleton] at hy
          rcases hy with hy | rfl
          · exact HH.out y hy
          · exact hh)
        have hsx := str_len x
        go_roundw
        case rel => exact ⟨j + 1, _, by go_num, by omega, by rw [List.length_append]; omega, HH2, HX2, HBl6, Lib.hid HR.out.1, Lib.hid HR.out.2⟩
        case measure => simp [intOf]; omega
      · rw [backV_no hh] at HWC
        have HN := Lib.hid (ofL_none HC.out hh)
        clear hh
        go_wp2_with (go_at_call 76; refine HWC.out.mono ?_; rintro en w5 ⟨rfl, hB5⟩; have HB5 := Lib.hid hB5; clear hB5)
        go_ret2
        rw [HN.out]
        exact ⟨rfl, HWR.out.trans (HB5.out.mono hbw)⟩
    · obtain rfl : j = cs.length := by omega
      have HA : Hid (ofL 2 cs = some out) := Lib.hid (by
        have h := HH.out
        rw [List.take_length] at h
        rw [ofL_all h, HOUT.out, List.take_length])
      have H50 := Lib.hid (f50 _ _ _ _ HBR.out HWR.out.size)
      go_wp2_with (go_at_call 50; refine H50.out.mono ?_; rintro en w6 ⟨rfl, hB6⟩; have HB6 := Lib.hid hB6; clear hB6)
      go_ret2
      rw [HA.out]
      exact ⟨rfl, HWR.out.trans HB6.out⟩

set_option maxRecDepth 100000 in
theorem f16_0 (b o cap : Nat) (cs : List Int) (hcs : cs.length ≤ 100000) (w : World) (h2 : 2 ≤ w.heap.size) (hb : b < w.heap.size) (hcell : ∀ (j : Nat) x, cs[j]? = some x → w.cell? ⟨b, o + j, none⟩ = some (.int .i64 x)) : Calls Tryd.prog 16 #[.slice (some ⟨b, o, none⟩) cs.length cap, .int .i64 0] w (OfPost w (ofL 0 cs)) := by
  have H47 := Lib.hid (f47nil 0 w)
  rw [asked_ok (xs := []) (by decide) (by simp)] at H47
  have H48B := Lib.hid (f48a (w.alloc (.cells #[.pointer none, .slice none 0 0] 63)))
  have HCELL := Lib.hid hcell; clear hcell
  go_enter Tryd.func16, Tryd.ntmps16
  go_wp2_with (go_at_call 47; refine H47.out.mono ?_; rintro en w2 ⟨rfl, rfl⟩)
  refine H48B.out.mono ?_
  rintro en w3 ⟨bB, rfl, hloB, hltB, hbd, hB⟩
  have HBB := Lib.hid hB
  clear hB
  have HBDB := Lib.hid hbd
  clear hbd
  simp only [World.size_alloc] at hloB
  simp only [oneByte]
  have hz3 : w2.heap.size + 1 ≤ w3.heap.size := by have := HBB.out.size; simp at this; omega
  have HA3 : Hid (Below w2.heap.size w2 w3) := Lib.hid (((Below.refl _ _).alloc (Nat.le_refl _) _).trans (HBB.out.mono (by simp)))
  have HW : Hid (Below w2.heap.size w2 (w3.alloc (.cells #[.func (.func 87) #[] #[.pointer (some ⟨bB, 0, none⟩)], .func (.func 88) #[] #[.pointer (some ⟨bB, 0, none⟩)]] 67))) := Lib.hid (HA3.out.alloc (by omega) _)
  have HBL : Hid (Bld w2.heap.size w2.heap.size [] (w3.alloc (.cells #[.func (.func 87) #[] #[.pointer (some ⟨bB, 0, none⟩)], .func (.func 88) #[] #[.pointer (some ⟨bB, 0, none⟩)]] 67))) := Lib.hid (bld_below (bld_below (bld_new w2) HBB.out) ((Below.refl _ _).alloc (Nat.le_refl _) _))
  have HCB : Hid ((w3.alloc (.cells #[.func (.func 87) #[] #[.pointer (some ⟨bB, 0, none⟩)], .func (.func 88) #[] #[.pointer (some ⟨bB, 0, none⟩)]] 67)).heap[w3.heap.size]? = some (.cells #[.func (.func 87) #[] #[.pointer (some ⟨bB, 0, none⟩)], .func (.func 88) #[] #[.pointer (some ⟨bB, 0, none⟩)]] 67)) := Lib.hid (heap_alloc_new w3 _)
  have HDB : Hid ((w3.alloc (.cells #[.func (.func 87) #[] #[.pointer (some ⟨bB, 0, none⟩)], .func (.func 88) #[] #[.pointer (some ⟨bB, 0, none⟩)]] 67)).heap[bB]? = some (.cells #[.int .i64 128] 3 (0, 0))) := Lib.hid ((Below.heap_alloc _ _ _ hltB).trans HBDB.out)
  go_wp2_with fail
  generalize hW0 : (w3.alloc (.cells #[.func (.func 87) #[] #[.pointer (some ⟨bB, 0, none⟩)], .func (.func 88) #[] #[.pointer (some ⟨bB, 0, none⟩)]] 67)) = W0 at *
  clear hW0
  go_loopw [22] (fun i wr => ∃ (j : Nat) (out : List UInt8), i = .int .i64 j ∧ j ≤ cs.length ∧ out.length ≤ j * 4 ∧ Hid (∀ c ∈ cs.take j, has 0 c) ∧ Hid (out = ((cs.take j).map (enc 0)).flatten) ∧ Hid (Bld w2.heap.size w2.heap.size out wr) ∧ Hid (Below w2.heap.size w2 wr) ∧ Hid (Lib.OthersKept 5 (some w2.heap.size) W0 wr)) (fun i _ => cs.length - (intOf i).toNat)
  case atStart => exact ⟨0, [], rfl, Nat.zero_le _, by simp, Lib.hid (by simp), Lib.hid rfl, HBL, HW, Lib.hid (Lib.OthersKept.refl _ _ _)⟩
  case round =>
    obtain ⟨j, out, rfl, hj, hol, HH, HOUT, HBR, HWR, HOR⟩ := hrel
    by_cases hlt : j < cs.length
    · obtain ⟨c, hc⟩ : ∃ c, cs[j]? = some c := ⟨cs[j], by simp [hlt]⟩
      have hbw := HWR.out.size
      have HRB := Lib.hid (others_blk HOR.out HCB.out (by omega) (by decide))
      have hltB' := (Array.getElem?_eq_some_iff.1 HRB.out).1
      have hcA : wr.cell? ⟨w3.heap.size, 1, none⟩ = some (.func (.func 88) #[] #[.pointer (some ⟨bB, 0, none⟩)]) := cell_blk HRB.out 1
      have hcell := (HWR.out.cell (p := ⟨b, o + j, none⟩) hb).trans (HCELL.out j c hc)
      have HC := Lib.hid hc; clear hc
      have HRDB := Lib.hid (others_blk HOR.out HDB.out (by omega) (by decide))
      have HWC := Lib.hid (f88d 128 0 (.inl ⟨rfl, rfl⟩) c bB wr (cell_blk HRDB.out 0) (Array.getElem?_eq_some_iff.1 HRDB.out).1)
      by_cases hh : has 0 c
      · rw [backV_yes hh] at HWC
        have hel := (enc_len 0 c).2
        have hxs : (bs (enc 0 c)).size = (enc 0 c).length := (str_len _).symm
        have HXS := Lib.hid hxs; clear hxs
        have HX : Hid (str (bs (enc 0 c)) = enc 0 c) := Lib.hid rfl
        generalize bs (enc 0 c) = x at *
        have hxl : x.size ≤ 4 := by rw [HXS.out]; exact hel
        go_wp2_with (first | (go_at_call 88; refine HWC.out.mono ?_; rintro en w5 ⟨rfl, hB5⟩; have HB5 := Lib.hid hB5; clear hB5; have H49 := Lib.hid (f49 w2.heap.size w2.heap.size out x w5 (bld_below HBR.out HB5.out) (by omega) (by have := HB5.out.size; omega))) | (go_at_call 49; refine H49.out.mono ?_; rintro en w6 ⟨rfl, hBl6, hB6, hO6⟩; have HBl6 := Lib.hid hBl6; clear hBl6; have HB6 := Lib.hid hB6; clear hB6; have HO6 := Lib.hid hO6; clear hO6))
        have HT1 : Hid (cs.take (j + 1) = cs.take j ++ [c]) := Lib.hid (by rw [List.take_add_one, HC.out]; rfl)
        have HR : Hid (Below w2.heap.size w2 w6 ∧ Lib.OthersKept 5 (some w2.heap.size) W0 w6) := Lib.hid ⟨(HWR.out.trans (HB5.out.mono hbw)).trans HB6.out, (HOR.out.trans (others_of_below HB5.out)).trans HO6.out⟩
        have HX2 : Hid (out ++ str x = ((cs.take (j + 1)).map (enc 0)).flatten) := Lib.hid (by rw [HT1.out, List.map_append, List.flatten_append, ← HOUT.out]; exact congrArg (fun z => out ++ z) (HX.out.trans (List.append_nil _).symm))
        have HH2 : Hid (∀ c ∈ cs.take (j + 1), has 0 c) := Lib.hid (by
          rw [HT1.out]
          intro y hy
          rw [List.mem_append, List.mem_singleton] at hy
          rcases hy with hy | rfl
          · exact HH.out y hy
          · exact hh)
        have hsx := str_len x
        go_roundw
        case rel => exact ⟨j + 1, _, by go_num, by omega, by rw [List.length_append]; omega, HH2, HX2, HBl6, Lib.hid HR.out.1, Lib.hid HR.out.2⟩
        case measure => simp [intOf]; omega
      · rw [backV_no hh] at HWC
        have HN := Lib.hid (ofL_none HC.out hh)
        clear hh
        go_wp2_with (go_at_call 88; refine HWC.out.mono ?_; rintro en w5 ⟨rfl, hB5⟩; have HB5 := Lib.hid hB5; clear hB5)
        go_ret2
        rw [HN.out]
        exact ⟨rfl, HWR.out.trans (HB5.out.mono hbw)⟩
    · obtain rfl : j = cs.length := by omega
      have HA : Hid (ofL 0 cs = some out) := Lib.hid (by
        have h := HH.out
        rw [List.take_length] at h
        rw [ofL_all h, HOUT.out, List.take_length])
      have H50 := Lib.hid (f50 _ _ _ _ HBR.out HWR.out.size)
      go_wp2_with (go_at_call 50; refine H50.out.mono ?_; rintro en w6 ⟨rfl, hB6⟩; have HB6 := Lib.hid hB6; clear hB6)
      go_ret2
      rw [HA.out]
      exact ⟨rfl, HWR.out.trans HB6.out⟩

set_option maxRecDepth 100000 in
theorem f16_1 (b o cap : Nat) (cs : List Int) (hcs : cs.length ≤ 100000) (w : World) (h2 : 2 ≤ w.heap.size) (hb : b < w.heap.size) (hcell : ∀ (j : Nat) x, cs[j]? = some x → w.cell? ⟨b, o + j, none⟩ = some (.int .i64 x)) : Calls Tryd.prog 16 #[.slice (some ⟨b, o, none⟩) cs.length cap, .int .i64 1] w (OfPost w (ofL 1 cs)) := by
  have H47 := Lib.hid (f47nil 1 w)
  rw [asked_ok (xs := []) (by decide) (by simp)] at H47
  have H48B := Lib.hid (f48b (w.alloc (.cells #[.pointer none, .slice none 0 0] 63)))
  have HCELL := Lib.hid hcell; clear hcell
  go_enter Tryd.func16, Tryd.ntmps16
  go_wp2_with (go_at_call 47; refine H47.out.mono ?_; rintro en w2 ⟨rfl, rfl⟩)
  refine H48B.out.mono ?_
  rintro en w3 ⟨bB, rfl, hloB, hltB, hbd, hB⟩
  have HBB := Lib.hid hB
  clear hB
  have HBDB := Lib.hid hbd
  clear hbd
  simp only [World.size_alloc] at hloB
  simp only [oneByte]
  have hz3 : w2.heap.size + 1 ≤ w3.heap.size := by have := HBB.out.size; simp at this; omega
  have HA3 : Hid (Below w2.heap.size w2 w3) := Lib.hid (((Below.refl _ _).alloc (Nat.le_refl _) _).trans (HBB.out.mono (by simp)))
  have HW : Hid (Below w2.heap.size w2 (w3.alloc (.cells #[.func (.func 87) #[] #[.pointer (some ⟨bB, 0, none⟩)], .func (.func 88) #[] #[.pointer (some ⟨bB, 0, none⟩)]] 67))) := Lib.hid (HA3.out.alloc (by omega) _)
  have HBL : Hid (Bld w2.heap.size w2.heap.size [] (w3.alloc (.cells #[.func (.func 87) #[] #[.pointer (some ⟨bB, 0, none⟩)], .func (.func 88) #[] #[.pointer (some ⟨bB, 0, none⟩)]] 67))) := Lib.hid (bld_below (bld_below (bld_new w2) HBB.out) ((Below.refl _ _).alloc (Nat.le_refl _) _))
  have HCB : Hid ((w3.alloc (.cells #[.func (.func 87) #[] #[.pointer (some ⟨bB, 0, none⟩)], .func (.func 88) #[] #[.pointer (some ⟨bB, 0, none⟩)]] 67)).heap[w3.heap.size]? = some (.cells #[.func (.func 87) #[] #[.pointer (some ⟨bB, 0, none⟩)], .func (.func 88) #[] #[.pointer (some ⟨bB, 0, none⟩)]] 67)) := Lib.hid (heap_alloc_new w3 _)
  have HDB : Hid ((w3.alloc (.cells #[.func (.func 87) #[] #[.pointer (some ⟨bB, 0, none⟩)], .func (.func 88) #[] #[.pointer (some ⟨bB, 0, none⟩)]] 67)).heap[bB]? = some (.cells #[.int .i64 256] 3 (0, 0))) := Lib.hid ((Below.heap_alloc _ _ _ hltB).trans HBDB.out)
  go_wp2_with fail
  generalize hW0 : (w3.alloc (.cells #[.func (.func 87) #[] #[.pointer (some ⟨bB, 0, none⟩)], .func (.func 88) #[] #[.pointer (some ⟨bB, 0, none⟩)]] 67)) = W0 at *
  clear hW0
  go_loopw [22] (fun i wr => ∃ (j : Nat) (out : List UInt8), i = .int .i64 j ∧ j ≤ cs.length ∧ out.length ≤ j * 4 ∧ Hid (∀ c ∈ cs.take j, has 1 c) ∧ Hid (out = ((cs.take j).map (enc 1)).flatten) ∧ Hid (Bld w2.heap.size w2.heap.size out wr) ∧ Hid (Below w2.heap.size w2 wr) ∧ Hid (Lib.OthersKept 5 (some w2.heap.size) W0 wr)) (fun i _ => cs.length - (intOf i).toNat)
  case atStart => exact ⟨0, [], rfl, Nat.zero_le _, by simp, Lib.hid (by simp), Lib.hid rfl, HBL, HW, Lib.hid (Lib.OthersKept.refl _ _ _)⟩
  case round =>
    obtain ⟨j, out, rfl, hj, hol, HH, HOUT, HBR, HWR, HOR⟩ := hrel
    by_cases hlt : j < cs.length
    · obtain ⟨c, hc⟩ : ∃ c, cs[j]? = some c := ⟨cs[j], by simp [hlt]⟩
      have hbw := HWR.out.size
      have HRB := Lib.hid (others_blk HOR.out HCB.out (by omega) (by decide))
      have hltB' := (Array.getElem?_eq_some_iff.1 HRB.out).1
      have hcA : wr.cell? ⟨w3.heap.size, 1, none⟩ = some (.func (.func 88) #[] #[.pointer (some ⟨bB, 0, none⟩)]) := cell_blk HRB.out 1
      have hcell := (HWR.out.cell (p := ⟨b, o + j, none⟩) hb).trans (HCELL.out j c hc)
      have HC := Lib.hid hc; clear hc
      have HRDB := Lib.hid (others_blk HOR.out HDB.out (by omega) (by decide))
      have HWC := Lib.hid (f88d 256 1 (.inr ⟨rfl, rfl⟩) c bB wr (cell_blk HRDB.out 0) (Array.getElem?_eq_some_iff.1 HRDB.out).1)
      by_cases hh : has 1 c
      · rw [backV_yes hh] at HWC
        have hel := (enc_len 1 c).2
        have hxs : (bs (enc 1 c)).size = (enc 1 c).length := (str_len _).symm
        have HXS := Lib.hid hxs; clear hxs
        have HX : Hid (str (bs (enc 1 c)) = enc 1 c) := Lib.hid rfl
        generalize bs (enc 1 c) = x at *
        have hxl : x.size ≤ 4 := by rw [HXS.out]; exact hel
        go_wp2_with (first | (go_at_call 88; refine HWC.out.mono ?_; rintro en w5 ⟨rfl, hB5⟩; have HB5 := Lib.hid hB5; clear hB5; have H49 := Lib.hid (f49 w2.heap.size w2.heap.size out x w5 (bld_below HBR.out HB5.out) (by omega) (by have := HB5.out.size; omega))) | (go_at_call 49; refine H49.out.mono ?_; rintro en w6 ⟨rfl, hBl6, hB6, hO6⟩; have HBl6 := Lib.hid hBl6; clear hBl6; have HB6 := Lib.hid hB6; clear hB6; have HO6 := Lib.hid hO6; clear hO6))
        have HT1 : Hid (cs.take (j + 1) = cs.take j ++ [c]) := Lib.hid (by rw [List.take_add_one, HC.out]; rfl)
        have HR : Hid (Below w2.heap.size w2 w6 ∧ Lib.OthersKept 5 (some w2.heap.size) W0 w6) := Lib.hid ⟨(HWR.out.trans (HB5.out.mono hbw)).trans HB6.out, (HOR.out.trans (others_of_below HB5.out)).trans HO6.out⟩
        have HX2 : Hid (out ++ str x = ((cs.take (j + 1)).map (enc 1)).flatten) := Lib.hid (by rw [HT1.out, List.map_append, List.flatten_append, ← HOUT.out]; exact congrArg (fun z => out ++ z) (HX.out.trans (List.append_nil _).symm))
        have HH2 : Hid (∀ c ∈ cs.take (j + 1), has 1 c) := Lib.hid (by
          rw [HT1.out]
          intro y hy
          rw [List.mem_append, List.mem_singleton] at hy
          rcases hy with hy | rfl
          · exact HH.out y hy
          · exact hh)
        have hsx := str_len x
        go_roundw
        case rel => exact ⟨j + 1, _, by go_num, by omega, by rw [List.length_append]; omega, HH2, HX2, HBl6, Lib.hid HR.out.1, Lib.hid HR.out.2⟩
        case measure => simp [intOf]; omega
      · rw [backV_no hh] at HWC
        have HN := Lib.hid (ofL_none HC.out hh)
        clear hh
        go_wp2_with (go_at_call 88; refine HWC.out.mono ?_; rintro en w5 ⟨rfl, hB5⟩; have HB5 := Lib.hid hB5; clear hB5)
        go_ret2
        rw [HN.out]
        exact ⟨rfl, HWR.out.trans (HB5.out.mono hbw)⟩
    · obtain rfl : j = cs.length := by omega
      have HA : Hid (ofL 1 cs = some out) := Lib.hid (by
        have h := HH.out
        rw [List.take_length] at h
        rw [ofL_all h, HOUT.out, List.take_length])
      have H50 := Lib.hid (f50 _ _ _ _ HBR.out HWR.out.size)
      go_wp2_with (go_at_call 50; refine H50.out.mono ?_; rintro en w6 ⟨rfl, hB6⟩; have HB6 := Lib.hid hB6; clear hB6)
      go_ret2
      rw [HA.out]
      exact ⟨rfl, HWR.out.trans HB6.out⟩

theorem f16 (e : Int) (he : e = 0 ∨ e = 1 ∨ e = 2) (v : Value) (cs : List Int) (hcs : cs.length ≤ 100000) (w : World) (h2 : 2 ≤ w.heap.size) (hv : IntsIn w v cs) : Calls Tryd.prog 16 #[v, .int .i64 e] w (OfPost w (ofL e cs)) := by
  by_cases h0 : cs = []
  · subst h0
    obtain ⟨a, cap, rfl, -⟩ := hv
    rcases he with rfl | rfl | rfl
    · exact f16_0n a cap w h2
    · exact f16_1n a cap w h2
    · exact f16_2n a cap w h2
  · obtain ⟨b, o, cap, rfl, -, hb, hc⟩ := hv.some h0
    rcases he with rfl | rfl | rfl
    · exact f16_0 b o cap cs hcs w h2 hb hc
    · exact f16_1 b o cap cs hcs w h2 hb hc
    · exact f16_2 b o cap cs hcs w h2 hb hc

end Go.Proofs.YtaanihidheccfaaDoor
