/-
  The document: joined, Length, At, Codes, Valid.
-/
import Derived.Test.YtaanihidheccfaaDoorRefF
import Derived.Test.YtaanihidheccfaaDoorRefH
import Derived.Test.YtaanihidheccfaaDoorWalkM
namespace Go.Proofs.YtaanihidheccfaaDoor
open Go.Shelf Go.RowKit
set_option linter.unusedVariables false

/-- A slice of parts that reads as a list. -/
def PartsIn (w : World) (v : Value) (ps : List (List UInt8 × Int)) : Prop := ∃ a cap, v = .slice a ps.length cap ∧ (a = none → ps = []) ∧ ps.length ≤ cap ∧ ∀ (j : Nat) p, ps[j]? = some p → ∃ g o, a = some ⟨g, o, none⟩ ∧ g < w.heap.size ∧ w.cell? ⟨g, o + j * 2, none⟩ = some (.string (bs p.1)) ∧ w.cell? ⟨g, o + j * 2 + 1, none⟩ = some (.int .i64 p.2)

theorem PartsIn.some {w : World} {v : Value} {ps : List (List UInt8 × Int)} (h : PartsIn w v ps) (h0 : ps ≠ []) : ∃ g o cap, v = .slice (some ⟨g, o, none⟩) ps.length cap ∧ ps.length ≤ cap ∧ g < w.heap.size ∧ ∀ (j : Nat) p, ps[j]? = some p → w.cell? ⟨g, o + j * 2, none⟩ = some (.string (bs p.1)) ∧ w.cell? ⟨g, o + j * 2 + 1, none⟩ = some (.int .i64 p.2) := by
  obtain ⟨a, cap, hv, -, hcap, hc⟩ := h
  cases ps with
  | nil => exact absurd rfl h0
  | cons x r =>
    obtain ⟨b, o, ha, hlt, -⟩ := hc 0 x rfl
    refine ⟨b, o, cap, by rw [hv, ha], hcap, hlt, fun j y hy => ?_⟩
    obtain ⟨b', o', ha', -, hcell⟩ := hc j y hy
    rw [ha] at ha'
    injection ha' with e
    injection e with e1 e2
    subst e1 e2
    exact hcell

theorem parts_in {w : World} {B : Nat} {v : Value} {ps : List (List UInt8 × Int)} (h : w.ownsRow B 85 2 v ps.length (partCells ps)) : PartsIn w v ps ∧ (ps ≠ [] → ∃ g cap, v = .slice (some ⟨g, 0, none⟩) ps.length cap ∧ B ≤ g) := by
  rcases h.2 with ⟨rfl, h0⟩ | ⟨g, cap, cur, rfl, hB, hg, hn, hm, hs, ht⟩
  · have : ps = [] := List.eq_nil_of_length_eq_zero h0
    subst this
    exact ⟨⟨none, 0, rfl, fun _ => rfl, Nat.le_refl _, by intro j x h; simp at h⟩, fun h => absurd rfl h⟩
  · refine ⟨⟨_, cap, rfl, by simp, hn, fun j p hp => ⟨g, 0, rfl, (Array.getElem?_eq_some_iff.1 hg).1, ?_⟩⟩, fun _ => ⟨g, cap, rfl, hB⟩⟩
    have hj := (List.getElem?_eq_some_iff.1 hp).1
    obtain ⟨h1, h2⟩ := partCells_at ps j p hp
    rw [← ht, List.getElem?_take_of_lt (by omega)] at h1 h2
    rw [cell_blk hg, cell_blk hg, ← Array.getElem?_toList, ← Array.getElem?_toList, Nat.zero_add]
    exact ⟨h1, h2⟩

/-- The bytes of some parts. -/
def joinP (ps : List (List UInt8 × Int)) : List UInt8 := (ps.map (·.1)).flatten

theorem f57_nil (a : Option Addr) (c : Nat) (w : World) : Calls Tryd.prog 57 #[.slice a 0 c] w fun en w' => en = .returned (.string ⟨#[]⟩) ∧ Below w.heap.size w w' := by
  have hcv := conv_owned (w := w) (w' := w) (v := .slice none 0 0) (l := []) (B := 0) rfl (World.ownsRow_nil _ _ _ _) (Below.refl _ _)
  have hbs : bs [] = ⟨#[]⟩ := rfl
  rw [hbs] at hcv
  clear hbs
  go_enter Tryd.func57, Tryd.ntmps57
  go_wp2_with fail
  go_loop [3, 4] (fun v i => v = .slice none 0 0 ∧ i = .int .i64 0) (fun _ _ => 0)
  case atStart => exact ⟨rfl, rfl⟩
  case round =>
    obtain ⟨rfl, rfl⟩ := hrel
    go_wp2_with fail
    go_ret
    exact ⟨rfl, Below.refl _ _⟩

theorem f57_some (g o cap : Nat) (ps : List (List UInt8 × Int)) (hn : ps.length ≤ 100000) (hpl : ∀ p ∈ ps, p.1.length ≤ 100000) (w : World) (hg : g < w.heap.size) (hcell : ∀ (j : Nat) p, ps[j]? = some p → w.cell? ⟨g, o + j * 2, none⟩ = some (.string (bs p.1))) : Calls Tryd.prog 57 #[.slice (some ⟨g, o, none⟩) ps.length cap] w fun en w' => en = .returned (.string (bs (joinP ps))) ∧ Below w.heap.size w w' := by
  have HCELL := Lib.hid hcell; clear hcell
  have HPL := Lib.hid hpl; clear hpl
  obtain ⟨i0, hi, hz0, hz1, hz2⟩ := info_parts info5'
  have HI := Lib.hid hi; clear hi
  go_enter Tryd.func57, Tryd.ntmps57
  go_wp2_with fail
  go_loopw [3, 4] (fun v i wr => ∃ (j : Nat) (out : List UInt8), i = .int .i64 j ∧ j ≤ ps.length ∧ out.length ≤ j * 100000 ∧ Hid (out = joinP (ps.take j)) ∧ Hid (wr.ownsRow w.heap.size 5 1 v out.length (Lib.byteCells out)) ∧ Hid (Below w.heap.size w wr)) (fun _ i _ => ps.length - (intOf i).toNat)
  case atStart => exact ⟨0, [], rfl, Nat.zero_le _, by simp, Lib.hid rfl, Lib.hid (World.ownsRow_nil _ _ _ _), Lib.hid (Below.refl _ _)⟩
  case round =>
    obtain ⟨j, out, rfl, hj, hol, HOUT, HO, HWR⟩ := hrel
    have hbw := HWR.out.size
    by_cases hlt : j < ps.length
    · obtain ⟨p, hp⟩ : ∃ p, ps[j]? = some p := ⟨ps[j], by simp [hlt]⟩
      have hcell := (HWR.out.cell (p := ⟨g, o + j * 2, none⟩) hg).trans (HCELL.out j p hp)
      have hxl : (bs p.1).size ≤ 100000 := by
        have h1 := str_len (bs p.1)
        rw [str_bs] at h1
        have := HPL.out p (List.mem_of_getElem? hp)
        omega
      have HT1 : Hid (ps.take (j + 1) = ps.take j ++ [p]) := Lib.hid (by rw [List.take_add_one, hp]; rfl)
      have HX : Hid (str (bs p.1) = p.1) := Lib.hid rfl
      clear hp
      generalize bs p.1 = x at *
      go_wp2_with (at_builtin; refine Lib.wpList_append_own_string _ rfl (.tmp 11) (.tmp 16) 53 9 rfl w.heap.size 5 i0 Tryd.underlying53 Tryd.underlying9 HI.out hz0 hz1 hz2 _ _ _ rfl HO.out x rfl ?c1 ?c2 ?c3 ?_)
      case c1 => unfold maxLen; omega
      case c2 => omega
      case c3 => omega
      intro v' w6 hown' hgrow _
      have HR : Hid (Below w.heap.size w w6 ∧ w6.ownsRow w.heap.size 5 1 v' (out ++ str x).length (Lib.byteCells (out ++ str x))) := by
        refine ⟨HWR.out.grown hgrow (by omega) (fun k hk => (HO.out.lt k hk).1), ?_⟩
        rw [Lib.byteCells_append, List.length_append, str_len]
        exact hown'
      clear hown' hgrow
      have HX2 : Hid (out ++ str x = joinP (ps.take (j + 1))) := Lib.hid (by
        unfold joinP
        rw [HT1.out, List.map_append, List.flatten_append, HOUT.out]
        exact congrArg (fun z => joinP (ps.take j) ++ z) (HX.out.trans (List.append_nil _).symm))
      have hsx := str_len x
      go_wp2_with fail
      go_roundw
      case rel => exact ⟨j + 1, _, by go_num, by omega, by rw [List.length_append]; omega, HX2, Lib.hid HR.out.2, Lib.hid HR.out.1⟩
      case measure => simp [intOf]; omega
    · obtain rfl : j = ps.length := by omega
      have HA : Hid (joinP ps = out) := Lib.hid (by rw [HOUT.out, List.take_length])
      have hcv := conv_owned rfl HO.out (Below.refl _ _)
      go_wp2_with fail
      go_ret
      rw [HA.out]
      exact ⟨rfl, HWR.out⟩

theorem f57 (v : Value) (ps : List (List UInt8 × Int)) (hn : ps.length ≤ 100000) (hpl : ∀ p ∈ ps, p.1.length ≤ 100000) (w : World) (hv : PartsIn w v ps) : Calls Tryd.prog 57 #[v] w fun en w' => en = .returned (.string (bs (joinP ps))) ∧ Below w.heap.size w w' := by
  by_cases h0 : ps = []
  · subst h0
    obtain ⟨a, cap, rfl, -⟩ := hv
    exact f57_nil a cap w
  · obtain ⟨g, o, cap, rfl, -, hg, hc⟩ := hv.some h0
    exact f57_some g o cap ps hn hpl w hg (fun j p hp => (hc j p hp).1)

theorem f44_bad (e : Int) (s : ByteArray) (hs : s.size ≤ 140737488355328) (h : ¬ (e = 0 ∨ e = 1 ∨ e = 2) ∨ 100000 < s.size) (w : World) : Calls Tryd.prog 44 #[.string s, .int .i64 e] w fun en w' => en = .returned (.tuple #[.int .i64 0, .int .i64 1]) ∧ Below w.heap.size w w' := by
  have H51 := Lib.hid (f51one e s hs w)
  rw [badN_bad (xs := [s]) (h.imp_right fun h => ⟨s, by simp, h⟩)] at H51
  clear h
  go_enter Tryd.func44, Tryd.ntmps44
  go_wp2_with (go_at_call 51; refine H51.out.mono ?_; rintro en w2 ⟨rfl, rfl⟩)
  go_ret2
  exact ⟨rfl, (Below.refl _ _).alloc (Nat.le_refl _) _⟩

theorem f44 (e : Int) (he : e = 0 ∨ e = 1 ∨ e = 2) (s : ByteArray) (hs : s.size ≤ 100000) (w : World) : Calls Tryd.prog 44 #[.string s, .int .i64 e] w fun en w' => en = .returned (.tuple #[.int .i64 (parts e (str s)).length, .int .i64 0]) ∧ Below w.heap.size w w' := by
  have H51 := Lib.hid (f51one e s (by omega) w)
  rw [badN_ok (xs := [s]) he (by intro x hx; simp at hx; subst hx; exact hs)] at H51
  have hA : Below w.heap.size w (w.alloc (.cells #[.string s] 9)) := (Below.refl _ _).alloc (Nat.le_refl _) _
  have H56 := Lib.hid (f56 e he s (by omega) (w.alloc (.cells #[.string s] 9)))
  have HA := Lib.hid hA; clear hA
  clear he
  go_enter Tryd.func44, Tryd.ntmps44
  go_wp2_with (first | (go_at_call 51; refine H51.out.mono ?_; rintro en w2 ⟨rfl, rfl⟩) | (go_at_call 56; refine H56.out.mono ?_; rintro en w3 ⟨v, rfl, ho, hB⟩; have HB := Lib.hid hB; clear hB; obtain ⟨⟨a, cap, rfl, -⟩, -⟩ := parts_in ho; clear ho))
  go_ret2
  exact ⟨rfl, HA.out.trans (HB.out.mono (by simp))⟩

theorem f38_bad (e i : Int) (s : ByteArray) (hs : s.size ≤ 140737488355328) (h : ¬ (e = 0 ∨ e = 1 ∨ e = 2) ∨ 100000 < s.size) (w : World) : Calls Tryd.prog 38 #[.string s, .int .i64 e, .int .i64 i] w fun en w' => en = .returned (.tuple #[.string ⟨#[]⟩, .int .i64 1]) ∧ Below w.heap.size w w' := by
  have H51 := Lib.hid (f51one e s hs w)
  rw [badN_bad (xs := [s]) (h.imp_right fun h => ⟨s, by simp, h⟩)] at H51
  clear h
  go_enter Tryd.func38, Tryd.ntmps38
  go_wp2_with (go_at_call 51; refine H51.out.mono ?_; rintro en w2 ⟨rfl, rfl⟩)
  go_ret2
  exact ⟨rfl, (Below.refl _ _).alloc (Nat.le_refl _) _⟩

set_option maxRecDepth 100000 in
theorem f38_in (e i : Int) (he : e = 0 ∨ e = 1 ∨ e = 2) (s : ByteArray) (hs : s.size ≤ 100000) (w : World) (k : Nat) (p : List UInt8 × Int) (hi : place (parts e (str s)).length i = k) (hp : (parts e (str s))[k]? = some p) : Calls Tryd.prog 38 #[.string s, .int .i64 e, .int .i64 i] w fun en w' => en = .returned (.tuple #[.string (bs p.1), .int .i64 0]) ∧ Below w.heap.size w w' := by
  have H51 := Lib.hid (f51one e s (by omega) w)
  rw [badN_ok (xs := [s]) he (by intro x hx; simp at hx; subst hx; exact hs)] at H51
  have hA : Below w.heap.size w (w.alloc (.cells #[.string s] 9)) := (Below.refl _ _).alloc (Nat.le_refl _) _
  have H56 := Lib.hid (f56 e he s (by omega) (w.alloc (.cells #[.string s] 9)))
  have HA := Lib.hid hA; clear hA
  have hl := parts_len e (str s)
  rw [str_len] at hl
  unfold PartsPost at H56
  have hk := (List.getElem?_eq_some_iff.1 hp).1
  generalize parts e (str s) = ps at *
  have HP := Lib.hid hp; clear hp
  have HN : Hid (ps ≠ []) := Lib.hid (by intro h; rw [h] at hk; simp at hk)
  clear he
  by_cases hneg : i < 0
  · unfold place at hi; rw [if_pos hneg] at hi
    have hge : -(ps.length : Int) ≤ i := by omega
    have hlt2 : decide ((ps.length : Int) ≤ (k : Int)) = false := by simp; omega
    go_enter Tryd.func38, Tryd.ntmps38
    go_wp2_with (go_at_call 51; refine H51.out.mono ?_; rintro en w2 ⟨rfl, rfl⟩)
    refine H56.out.mono ?_
    rintro en w3 ⟨v, rfl, ho, hB⟩
    have HB := Lib.hid hB; clear hB
    have hpi := (parts_in ho).1.some HN.out
    obtain ⟨g, o, cap, rfl, hcap, hg2, hcl⟩ := hpi
    clear ho
    have hcell := (hcl k p HP.out).1
    clear hcl
    go_wp2_with fail
    go_ret2
    exact ⟨rfl, HA.out.trans (HB.out.mono (by simp))⟩
  · unfold place at hi; rw [if_neg hneg] at hi
    subst hi
    go_enter Tryd.func38, Tryd.ntmps38
    go_wp2_with (go_at_call 51; refine H51.out.mono ?_; rintro en w2 ⟨rfl, rfl⟩)
    refine H56.out.mono ?_
    rintro en w3 ⟨v, rfl, ho, hB⟩
    have HB := Lib.hid hB; clear hB
    have hpi := (parts_in ho).1.some HN.out
    obtain ⟨g, o, cap, rfl, hcap, hg2, hcl⟩ := hpi
    clear ho
    have hcell := (hcl k p HP.out).1
    clear hcl
    go_wp2_with fail
    go_ret2
    exact ⟨rfl, HA.out.trans (HB.out.mono (by simp))⟩

set_option maxRecDepth 100000 in
theorem f38_out (e i : Int) (he : e = 0 ∨ e = 1 ∨ e = 2) (hwf : -9223372036854775808 ≤ i) (s : ByteArray) (hs : s.size ≤ 100000) (w : World) (hi : place (parts e (str s)).length i < 0 ∨ (parts e (str s)).length ≤ place (parts e (str s)).length i) : Calls Tryd.prog 38 #[.string s, .int .i64 e, .int .i64 i] w fun en w' => en = .returned (.tuple #[.string ⟨#[]⟩, .int .i64 3]) ∧ Below w.heap.size w w' := by
  have H51 := Lib.hid (f51one e s (by omega) w)
  rw [badN_ok (xs := [s]) he (by intro x hx; simp at hx; subst hx; exact hs)] at H51
  have hA : Below w.heap.size w (w.alloc (.cells #[.string s] 9)) := (Below.refl _ _).alloc (Nat.le_refl _) _
  have H56 := Lib.hid (f56 e he s (by omega) (w.alloc (.cells #[.string s] 9)))
  have HA := Lib.hid hA; clear hA
  have hl := parts_len e (str s)
  rw [str_len] at hl
  unfold PartsPost at H56
  generalize parts e (str s) = ps at *
  clear he
  by_cases hneg : i < 0
  · have hge : i < -(ps.length : Int) := by unfold place at hi; rw [if_pos hneg] at hi; omega
    have hlt : i + (ps.length : Int) < 0 := by omega
    clear hi
    go_enter Tryd.func38, Tryd.ntmps38
    go_wp2_with (go_at_call 51; refine H51.out.mono ?_; rintro en w2 ⟨rfl, rfl⟩)
    refine H56.out.mono ?_
    rintro en w3 ⟨v, rfl, ho, hB⟩
    have HB := Lib.hid hB; clear hB
    obtain ⟨⟨a, cap, rfl, -⟩, -⟩ := parts_in ho
    clear ho
    go_wp2_with fail
    go_ret2
    exact ⟨rfl, HA.out.trans (HB.out.mono (by simp))⟩
  · have hge : (ps.length : Int) ≤ i := by unfold place at hi; rw [if_neg hneg] at hi; omega
    clear hi
    go_enter Tryd.func38, Tryd.ntmps38
    go_wp2_with (go_at_call 51; refine H51.out.mono ?_; rintro en w2 ⟨rfl, rfl⟩)
    refine H56.out.mono ?_
    rintro en w3 ⟨v, rfl, ho, hB⟩
    have HB := Lib.hid hB; clear hB
    obtain ⟨⟨a, cap, rfl, -⟩, -⟩ := parts_in ho
    clear ho
    go_wp2_with fail
    go_ret2
    exact ⟨rfl, HA.out.trans (HB.out.mono (by simp))⟩

end Go.Proofs.YtaanihidheccfaaDoor
