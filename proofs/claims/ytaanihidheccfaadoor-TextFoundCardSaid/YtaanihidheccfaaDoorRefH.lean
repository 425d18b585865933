/-
  The document: Has, Bytes, Of.
-/
import Derived.Test.YtaanihidheccfaaDoorRefA
import Derived.Test.YtaanihidheccfaaDoorWalkP
import Derived.Lib.AppendStr
import Derived.Lib.BufferRead
namespace Go.Proofs.YtaanihidheccfaaDoor
open Go.Shelf Go.RowKit
set_option linter.unusedVariables false

/-- A slice of bytes that was just laid, as a string. -/
theorem conv_list (w : World) (l : List UInt8) (cells : Array Value) (n : Nat) (hn : n = l.length) (h : cells.toList = l.map fun b => Value.int .u8 (b.toNat : Int)) : (convert 53 9 (.slice (some ⟨w.heap.size, 0, none⟩) n n)).run Tryd.prog (w.alloc (.cells cells 5)) = .ok (.string (bs l)) (w.alloc (.cells cells 5)) := by
  subst hn
  have hsz : (bs l).size = l.length := (str_len (bs l)).symm
  have h2 := Go.Lib.run_convert_whole (P := Tryd.prog) (w.alloc (.cells cells 5)) 53 5 9 Tryd.underlying53 Tryd.underlying5 Tryd.underlying9 w.heap.size 0 (bs l) (by
    intro i hi
    rw [Nat.zero_add, cell_blk (heap_alloc_new w _), ← Array.getElem?_toList, h, List.getElem?_map]
    have hi' : i < l.length := by rw [← hsz]; exact hi
    rw [List.getElem?_eq_getElem hi']
    rfl) l.length
  rw [hsz] at h2
  exact h2
theorem b8_int (n : Nat) (h : n < 256) (z : Int) (hz : z = n) : Value.int IntKind.u8 z = Value.int IntKind.u8 ((b8 n).toNat : Int) := by
  rw [b8_toNat, hz, Nat.mod_eq_of_lt h]

theorem enc_1 (e c : Int) (h : e ≠ 2 ∨ c < 128) : enc e c = [b8 c.toNat] := by unfold enc; rw [if_pos h]
theorem enc_22 (c : Int) (h1 : 128 ≤ c) (h2 : c < 2048) : enc 2 c = [b8 (192 + c.toNat / 64), b8 (128 + c.toNat % 64)] := by
  unfold enc; rw [if_neg (by omega : ¬ ((2 : Int) ≠ 2 ∨ c < 128)), if_pos h2]
theorem enc_23 (c : Int) (h1 : 2048 ≤ c) (h2 : c < 65536) : enc 2 c = [b8 (224 + c.toNat / 4096), b8 (128 + c.toNat / 64 % 64), b8 (128 + c.toNat % 64)] := by
  unfold enc; rw [if_neg (by omega : ¬ ((2 : Int) ≠ 2 ∨ c < 128)), if_neg (by omega : ¬ c < 2048), if_pos h2]
theorem enc_24 (c : Int) (h1 : 65536 ≤ c) : enc 2 c = [b8 (240 + c.toNat / 262144), b8 (128 + c.toNat / 4096 % 64), b8 (128 + c.toNat / 64 % 64), b8 (128 + c.toNat % 64)] := by
  unfold enc; rw [if_neg (by omega : ¬ ((2 : Int) ≠ 2 ∨ c < 128)), if_neg (by omega : ¬ c < 2048), if_neg (by omega : ¬ c < 65536)]

set_option maxRecDepth 100000 in
theorem f53b (e c : Int) (he : e = 0 ∨ e = 1) (h0 : 0 ≤ c) (h1 : c ≤ 255) (w : World) : Calls Tryd.prog 53 #[.int .i64 c, .int .i64 e] w fun en w' => en = .returned (.string (bs (enc e c))) ∧ Below w.heap.size w w' := by
  rw [enc_1 e c (.inl (by omega))]
  have hcv := conv_list w [b8 c.toNat] #[.int .u8 c] 1 rfl (by
    show [Value.int .u8 c] = [Value.int .u8 ((b8 c.toNat).toNat : Int)]
    rw [← b8_int _ (by omega) c (by omega)])
  rcases he with rfl | rfl
  all_goals
    go_enter Tryd.func53, Tryd.ntmps53
    go_wp2_with fail
    go_ret
    exact ⟨rfl, (Below.refl _ _).alloc (Nat.le_refl _) _⟩

set_option maxRecDepth 100000 in
theorem f53u1 (c : Int) (h0 : 0 ≤ c) (h1 : c < 128) (w : World) : Calls Tryd.prog 53 #[.int .i64 c, .int .i64 2] w fun en w' => en = .returned (.string (bs (enc 2 c))) ∧ Below w.heap.size w w' := by
  rw [enc_1 2 c (.inr h1)]
  have hcv := conv_list w [b8 c.toNat] #[.int .u8 c] 1 rfl (by
    show [Value.int .u8 c] = [Value.int .u8 ((b8 c.toNat).toNat : Int)]
    rw [← b8_int _ (by omega) c (by omega)])
  go_enter Tryd.func53, Tryd.ntmps53
  go_wp2_with fail
  go_ret
  exact ⟨rfl, (Below.refl _ _).alloc (Nat.le_refl _) _⟩

set_option maxRecDepth 100000 in
theorem f53u2 (c : Int) (h0 : 128 ≤ c) (h1 : c < 2048) (w : World) : Calls Tryd.prog 53 #[.int .i64 c, .int .i64 2] w fun en w' => en = .returned (.string (bs (enc 2 c))) ∧ Below w.heap.size w w' := by
  rw [enc_22 c h0 h1]
  have hcv := conv_list w [b8 (192 + c.toNat / 64), b8 (128 + c.toNat % 64)] #[.int .u8 (192 + c / 64), .int .u8 (128 + c % 64)] 2 rfl (by
    show [Value.int .u8 (192 + c / 64), Value.int .u8 (128 + c % 64)] = [Value.int .u8 ((b8 (192 + c.toNat / 64)).toNat : Int), Value.int .u8 ((b8 (128 + c.toNat % 64)).toNat : Int)]
    rw [← b8_int _ (by omega) (192 + c / 64) (by omega), ← b8_int _ (by omega) (128 + c % 64) (by omega)])
  go_enter Tryd.func53, Tryd.ntmps53
  go_wp2_with fail
  go_ret
  exact ⟨rfl, (Below.refl _ _).alloc (Nat.le_refl _) _⟩

set_option maxRecDepth 100000 in
theorem f53u3 (c : Int) (h0 : 2048 ≤ c) (h1 : c < 65536) (w : World) : Calls Tryd.prog 53 #[.int .i64 c, .int .i64 2] w fun en w' => en = .returned (.string (bs (enc 2 c))) ∧ Below w.heap.size w w' := by
  rw [enc_23 c h0 h1]
  have hcv := conv_list w [b8 (224 + c.toNat / 4096), b8 (128 + c.toNat / 64 % 64), b8 (128 + c.toNat % 64)] #[.int .u8 (224 + c / 4096), .int .u8 (128 + c / 64 % 64), .int .u8 (128 + c % 64)] 3 rfl (by
    show [Value.int .u8 (224 + c / 4096), Value.int .u8 (128 + c / 64 % 64), Value.int .u8 (128 + c % 64)] = [Value.int .u8 ((b8 (224 + c.toNat / 4096)).toNat : Int), Value.int .u8 ((b8 (128 + c.toNat / 64 % 64)).toNat : Int), Value.int .u8 ((b8 (128 + c.toNat % 64)).toNat : Int)]
    rw [← b8_int _ (by omega) (224 + c / 4096) (by omega), ← b8_int _ (by omega) (128 + c / 64 % 64) (by omega), ← b8_int _ (by omega) (128 + c % 64) (by omega)])
  go_enter Tryd.func53, Tryd.ntmps53
  go_wp2_with fail
  go_ret
  exact ⟨rfl, (Below.refl _ _).alloc (Nat.le_refl _) _⟩

set_option maxRecDepth 100000 in
theorem f53u4 (c : Int) (h0 : 65536 ≤ c) (h1 : c ≤ 1114111) (w : World) : Calls Tryd.prog 53 #[.int .i64 c, .int .i64 2] w fun en w' => en = .returned (.string (bs (enc 2 c))) ∧ Below w.heap.size w w' := by
  rw [enc_24 c h0]
  have hcv := conv_list w [b8 (240 + c.toNat / 262144), b8 (128 + c.toNat / 4096 % 64), b8 (128 + c.toNat / 64 % 64), b8 (128 + c.toNat % 64)] #[.int .u8 (240 + c / 262144), .int .u8 (128 + c / 4096 % 64), .int .u8 (128 + c / 64 % 64), .int .u8 (128 + c % 64)] 4 rfl (by
    show [Value.int .u8 (240 + c / 262144), Value.int .u8 (128 + c / 4096 % 64), Value.int .u8 (128 + c / 64 % 64), Value.int .u8 (128 + c % 64)] = [Value.int .u8 ((b8 (240 + c.toNat / 262144)).toNat : Int), Value.int .u8 ((b8 (128 + c.toNat / 4096 % 64)).toNat : Int), Value.int .u8 ((b8 (128 + c.toNat / 64 % 64)).toNat : Int), Value.int .u8 ((b8 (128 + c.toNat % 64)).toNat : Int)]
    rw [← b8_int _ (by omega) (240 + c / 262144) (by omega), ← b8_int _ (by omega) (128 + c / 4096 % 64) (by omega), ← b8_int _ (by omega) (128 + c / 64 % 64) (by omega), ← b8_int _ (by omega) (128 + c % 64) (by omega)])
  go_enter Tryd.func53, Tryd.ntmps53
  go_wp2_with fail
  go_ret
  exact ⟨rfl, (Below.refl _ _).alloc (Nat.le_refl _) _⟩

/-- Bytes of the document, at a code that has a character. -/
theorem f53 (e c : Int) (he : e = 0 ∨ e = 1 ∨ e = 2) (h : has e c) (w : World) : Calls Tryd.prog 53 #[.int .i64 c, .int .i64 e] w fun en w' => en = .returned (.string (bs (enc e c))) ∧ Below w.heap.size w w' := by
  rcases he with rfl | rfl | rfl
  · rw [has_zero] at h; exact f53b 0 c (.inl rfl) h.1 (by omega) w
  · rw [has_one] at h; exact f53b 1 c (.inr rfl) h.1 (by omega) w
  · rw [has_two] at h
    by_cases c1 : c < 128
    · exact f53u1 c h.1 c1 w
    · by_cases c2 : c < 2048
      · exact f53u2 c (by omega) c2 w
      · by_cases c3 : c < 65536
        · exact f53u3 c (by omega) c3 w
        · exact f53u4 c (by omega) h.2.1 w

theorem f52_0 (c : Int) (w : World) : Calls Tryd.prog 52 #[.int .i64 c, .int .i64 0] w fun en w' => en = .returned (.bool (decide (has 0 c))) ∧ w' = w := by
  by_cases h1 : 0 ≤ c
  · by_cases h2 : c ≤ 127
    · have HE : Hid (decide (has 0 c) = true) := Lib.hid (by rw [decide_eq_true_eq, has_zero]; omega)
      rw [HE.out]
      go_enter Tryd.func52, Tryd.ntmps52
      go_wp2_with fail
      go_ret
      exact ⟨rfl, rfl⟩
    · have HE : Hid (decide (has 0 c) = false) := Lib.hid (by rw [decide_eq_false_iff_not, has_zero]; omega)
      rw [HE.out]
      have h2' : 127 < c := by omega
      go_enter Tryd.func52, Tryd.ntmps52
      go_wp2_with fail
      go_ret
      exact ⟨rfl, rfl⟩
  · have HE : Hid (decide (has 0 c) = false) := Lib.hid (by rw [decide_eq_false_iff_not, has_zero]; omega)
    rw [HE.out]
    have h1' : c < 0 := by omega
    go_enter Tryd.func52, Tryd.ntmps52
    go_wp2_with fail
    go_ret
    exact ⟨rfl, rfl⟩

theorem f52_1 (c : Int) (w : World) : Calls Tryd.prog 52 #[.int .i64 c, .int .i64 1] w fun en w' => en = .returned (.bool (decide (has 1 c))) ∧ w' = w := by
  by_cases h1 : 0 ≤ c
  · by_cases h2 : c ≤ 255
    · have HE : Hid (decide (has 1 c) = true) := Lib.hid (by rw [decide_eq_true_eq, has_one]; omega)
      rw [HE.out]
      go_enter Tryd.func52, Tryd.ntmps52
      go_wp2_with fail
      go_ret
      exact ⟨rfl, rfl⟩
    · have HE : Hid (decide (has 1 c) = false) := Lib.hid (by rw [decide_eq_false_iff_not, has_one]; omega)
      rw [HE.out]
      have h2' : 255 < c := by omega
      go_enter Tryd.func52, Tryd.ntmps52
      go_wp2_with fail
      go_ret
      exact ⟨rfl, rfl⟩
  · have HE : Hid (decide (has 1 c) = false) := Lib.hid (by rw [decide_eq_false_iff_not, has_one]; omega)
    rw [HE.out]
    have h1' : c < 0 := by omega
    go_enter Tryd.func52, Tryd.ntmps52
    go_wp2_with fail
    go_ret
    exact ⟨rfl, rfl⟩

set_option maxRecDepth 100000 in
theorem f52_2 (c : Int) (w : World) : Calls Tryd.prog 52 #[.int .i64 c, .int .i64 2] w fun en w' => en = .returned (.bool (decide (has 2 c))) ∧ w' = w := by
  have hw : (c < 0) ∨ (0 ≤ c ∧ c < 55296) ∨ (55296 ≤ c ∧ c ≤ 57343) ∨ (57343 < c ∧ c ≤ 1114111) ∨ (1114111 < c) := by omega
  rcases hw with h1 | ⟨h1, h2⟩ | ⟨h1, h2⟩ | ⟨h1, h2⟩ | h1
  · have HE : Hid (decide (has 2 c) = false) := Lib.hid (by rw [decide_eq_false_iff_not, has_two]; omega)
    rw [HE.out]
    go_enter Tryd.func52, Tryd.ntmps52
    go_wp2_with fail
    go_ret
    exact ⟨rfl, rfl⟩
  · have HE : Hid (decide (has 2 c) = true) := Lib.hid (by rw [decide_eq_true_eq, has_two]; omega)
    rw [HE.out]
    go_enter Tryd.func52, Tryd.ntmps52
    go_wp2_with fail
    go_ret
    exact ⟨rfl, rfl⟩
  · have HE : Hid (decide (has 2 c) = false) := Lib.hid (by rw [decide_eq_false_iff_not, has_two]; omega)
    rw [HE.out]
    have d1 : decide (c < 55296) = false := by simp; omega
    have d2 : decide (57343 < c) = false := by simp; omega
    go_enter Tryd.func52, Tryd.ntmps52
    go_wp2_with fail
    go_ret
    exact ⟨rfl, rfl⟩
  · have HE : Hid (decide (has 2 c) = true) := Lib.hid (by rw [decide_eq_true_eq, has_two]; omega)
    rw [HE.out]
    go_enter Tryd.func52, Tryd.ntmps52
    go_wp2_with fail
    go_ret
    exact ⟨rfl, rfl⟩
  · have HE : Hid (decide (has 2 c) = false) := Lib.hid (by rw [decide_eq_false_iff_not, has_two]; omega)
    rw [HE.out]
    go_enter Tryd.func52, Tryd.ntmps52
    go_wp2_with fail
    go_ret
    exact ⟨rfl, rfl⟩

theorem f52 (e c : Int) (he : e = 0 ∨ e = 1 ∨ e = 2) (w : World) : Calls Tryd.prog 52 #[.int .i64 c, .int .i64 e] w fun en w' => en = .returned (.bool (decide (has e c))) ∧ w' = w := by
  rcases he with rfl | rfl | rfl
  · exact f52_0 c w
  · exact f52_1 c w
  · exact f52_2 c w

theorem info5' : (Tryd.prog.info? 5).map (fun i => (i.zero, i.size, i.bytes)) = some (some (.int .u8 0), 1, 1) := by kernel_rfl

/-- A row of bytes that the call owns, as a string. -/
theorem conv_owned {w w' : World} {B n : Nat} {v : Value} {l : List UInt8} (hn : n = l.length) (h : w.ownsRow B 5 1 v n (Lib.byteCells l)) (hb : Below w.heap.size w w') : (convert 53 9 v).run Tryd.prog w' = .ok (.string (bs l)) w' := by
  subst hn
  rcases h.2 with ⟨rfl, h0⟩ | ⟨g, cap, cur, rfl, hB, hg, hn, hm, hs, ht⟩
  · have : l = [] := List.eq_nil_of_length_eq_zero h0
    subst this
    exact Go.Lib.run_convert_nil_bytes (P := Tryd.prog) w' 53 9 5 0 Tryd.underlying53 Tryd.underlying5 Tryd.underlying9
  · have hsz : (bs l).size = l.length := (str_len (bs l)).symm
    have h2 := Go.Lib.run_convert_whole (P := Tryd.prog) w' 53 5 9 Tryd.underlying53 Tryd.underlying5 Tryd.underlying9 g 0 (bs l) (by
      intro i hi
      have hi' : i < l.length := by rw [← hsz]; exact hi
      rw [Nat.zero_add, cell_blk ((hb.block g (Array.getElem?_eq_some_iff.1 hg).1).trans hg), ← Array.getElem?_toList]
      have h3 : (Lib.byteCells l)[i]? = some (Value.int .u8 ((l[i]'hi').toNat : Int)) := by
        unfold Lib.byteCells
        rw [List.getElem?_map, List.getElem?_eq_getElem hi']
        rfl
      rw [← ht, List.getElem?_take_of_lt (by omega)] at h3
      exact h3) cap
    rw [hsz] at h2
    exact h2

theorem f17_bad (e : Int) (v : Value) (h : ¬ (e = 0 ∨ e = 1 ∨ e = 2)) (w : World) : Calls Tryd.prog 17 #[v, .int .i64 e] w fun en w' => en = .returned (.tuple #[.string ⟨#[]⟩, .int .i64 1]) ∧ w' = w := by
  have H51 := Lib.hid (f51none e w)
  rw [badN_bad (xs := []) (.inl h)] at H51
  clear h
  go_enter Tryd.func17, Tryd.ntmps17
  go_wp2_with (go_at_call 51; refine H51.out.mono ?_; rintro en w2 ⟨rfl, rfl⟩)
  go_ret2
  exact ⟨rfl, rfl⟩

set_option maxRecDepth 100000 in
theorem f17_nil (e : Int) (he : e = 0 ∨ e = 1 ∨ e = 2) (a : Option Addr) (cap : Nat) (w : World) : Calls Tryd.prog 17 #[.slice a 0 cap, .int .i64 e] w (OfPost w (ofL e [])) := by
  have H51 := Lib.hid (f51none e w)
  rw [badN_ok (xs := []) he (by simp)] at H51
  clear he
  have hcv := conv_owned (w := w) (w' := w) (v := .slice none 0 0) (l := []) (B := 0) rfl (World.ownsRow_nil _ _ _ _) (Below.refl _ _)
  go_enter Tryd.func17, Tryd.ntmps17
  go_wp2_with (go_at_call 51; refine H51.out.mono ?_; rintro en w2 ⟨rfl, rfl⟩)
  go_loop [6, 7] (fun v i => v = .slice none 0 0 ∧ i = .int .i64 0) (fun _ _ => 0)
  case atStart => exact ⟨rfl, rfl⟩
  case round =>
    obtain ⟨rfl, rfl⟩ := hrel
    go_wp2_with fail
    go_ret2
    rw [ofL_all (by simp)]
    exact ⟨rfl, Below.refl _ _⟩

set_option maxRecDepth 100000 in
theorem f17_some (e : Int) (he : e = 0 ∨ e = 1 ∨ e = 2) (b o cap : Nat) (cs : List Int) (hcs : cs.length ≤ 100000) (w : World) (hb : b < w.heap.size) (hcell : ∀ (j : Nat) x, cs[j]? = some x → w.cell? ⟨b, o + j, none⟩ = some (.int .i64 x)) : Calls Tryd.prog 17 #[.slice (some ⟨b, o, none⟩) cs.length cap, .int .i64 e] w (OfPost w (ofL e cs)) := by
  have H51 := Lib.hid (f51none e w)
  rw [badN_ok (xs := []) he (by simp)] at H51
  have HCELL := Lib.hid hcell; clear hcell
  have HEE := Lib.hid he; clear he
  obtain ⟨i0, hi, hz0, hz1, hz2⟩ := info_parts info5'
  have HI := Lib.hid hi; clear hi
  go_enter Tryd.func17, Tryd.ntmps17
  go_wp2_with (go_at_call 51; refine H51.out.mono ?_; rintro en w2 ⟨rfl, rfl⟩)
  go_loopw [6, 7] (fun v i wr => ∃ (j : Nat) (out : List UInt8), i = .int .i64 j ∧ j ≤ cs.length ∧ out.length ≤ j * 4 ∧ Hid (∀ c ∈ cs.take j, has e c) ∧ Hid (out = ((cs.take j).map (enc e)).flatten) ∧ Hid (wr.ownsRow w2.heap.size 5 1 v out.length (Lib.byteCells out)) ∧ Hid (Below w2.heap.size w2 wr)) (fun _ i _ => cs.length - (intOf i).toNat)
  case atStart => exact ⟨0, [], rfl, Nat.zero_le _, by simp, Lib.hid (by simp), Lib.hid rfl, Lib.hid (World.ownsRow_nil _ _ _ _), Lib.hid (Below.refl _ _)⟩
  case round =>
    obtain ⟨j, out, rfl, hj, hol, HH, HOUT, HO, HWR⟩ := hrel
    have hbw := HWR.out.size
    by_cases hlt : j < cs.length
    · obtain ⟨c, hc⟩ : ∃ c, cs[j]? = some c := ⟨cs[j], by simp [hlt]⟩
      have hcell := (HWR.out.cell (p := ⟨b, o + j, none⟩) hb).trans (HCELL.out j c hc)
      have HC := Lib.hid hc; clear hc
      have H52 := Lib.hid (f52 e c HEE.out wr)
      by_cases hh : has e c
      · rw [decide_eq_true hh] at H52
        have hel := (enc_len e c).2
        have H53 := Lib.hid (f53 e c HEE.out hh wr)
        have hxs : (bs (enc e c)).size = (enc e c).length := (str_len _).symm
        have HXS := Lib.hid hxs; clear hxs
        have HX : Hid (str (bs (enc e c)) = enc e c) := Lib.hid rfl
        generalize bs (enc e c) = x at *
        have hxl : x.size ≤ 4 := by rw [HXS.out]; exact hel
        go_wp2_with (go_at_call 52; refine H52.out.mono ?_; rintro en w5 ⟨rfl, rfl⟩)
        refine H53.out.mono ?_
        rintro en w5 ⟨rfl, hB5⟩
        have HB5 := Lib.hid hB5; clear hB5
        have HO5 := Lib.hid (owns_below HO.out HB5.out)
        have hz5 := HB5.out.size
        go_wp2_with (at_builtin; refine Lib.wpList_append_own_string _ rfl (.tmp 23) (.tmp 29) 53 9 rfl w2.heap.size 5 i0 Tryd.underlying53 Tryd.underlying9 HI.out hz0 hz1 hz2 _ _ _ rfl HO5.out x rfl ?c1 ?c2 ?c3 ?_)
        case c1 => unfold maxLen; omega
        case c2 => omega
        case c3 => omega
        intro v' w6 hown' hgrow _
        have HT1 : Hid (cs.take (j + 1) = cs.take j ++ [c]) := Lib.hid (by rw [List.take_add_one, HC.out]; rfl)
        have HR : Hid (Below w2.heap.size w2 w6 ∧ w6.ownsRow w2.heap.size 5 1 v' (out ++ str x).length (Lib.byteCells (out ++ str x))) := by
          refine ⟨(HWR.out.trans (HB5.out.mono hbw)).grown hgrow (by omega) (fun k hk => (HO5.out.lt k hk).1), ?_⟩
          rw [Lib.byteCells_append, List.length_append, str_len]
          exact hown'
        clear hown' hgrow
        have HX2 : Hid (out ++ str x = ((cs.take (j + 1)).map (enc e)).flatten) := Lib.hid (by rw [HT1.out, List.map_append, List.flatten_append, ← HOUT.out]; exact congrArg (fun z => out ++ z) (HX.out.trans (List.append_nil _).symm))
        have HH2 : Hid (∀ c ∈ cs.take (j + 1), has e c) := Lib.hid (by
          rw [HT1.out]
          intro y hy
          rw [List.mem_append, List.mem_singleton] at hy
          rcases hy with hy | rfl
          · exact HH.out y hy
          · exact hh)
        have hsx := str_len x
        go_wp2_with fail
        go_roundw
        case rel => exact ⟨j + 1, _, by go_num, by omega, by rw [List.length_append]; omega, HH2, HX2, Lib.hid HR.out.2, Lib.hid HR.out.1⟩
        case measure => simp [intOf]; omega
      · rw [decide_eq_false hh] at H52
        have HN := Lib.hid (ofL_none HC.out hh)
        clear hh
        go_wp2_with (go_at_call 52; refine H52.out.mono ?_; rintro en w5 ⟨rfl, rfl⟩)
        go_ret2
        rw [HN.out]
        exact ⟨rfl, HWR.out⟩
    · obtain rfl : j = cs.length := by omega
      have HA : Hid (ofL e cs = some out) := Lib.hid (by
        have h := HH.out
        rw [List.take_length] at h
        rw [ofL_all h, HOUT.out, List.take_length])
      have hcv := conv_owned rfl HO.out (Below.refl _ _)
      go_wp2_with fail
      go_ret2
      rw [HA.out]
      exact ⟨rfl, HWR.out⟩

theorem f17 (e : Int) (he : e = 0 ∨ e = 1 ∨ e = 2) (v : Value) (cs : List Int) (hcs : cs.length ≤ 100000) (w : World) (hv : IntsIn w v cs) : Calls Tryd.prog 17 #[v, .int .i64 e] w (OfPost w (ofL e cs)) := by
  by_cases h0 : cs = []
  · subst h0
    obtain ⟨a, cap, rfl, -⟩ := hv
    exact f17_nil e he a cap w
  · obtain ⟨b, o, cap, rfl, -, hb, hc⟩ := hv.some h0
    exact f17_some e he b o cap cs hcs w hb hc

end Go.Proofs.YtaanihidheccfaaDoor
