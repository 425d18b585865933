/-
  The document: Codes, Valid.
-/
import Derived.Test.YtaanihidheccfaaDoorRefG
import Derived.Test.YtaanihidheccfaaDoorWalkJ
import Derived.Test.YtaanihidheccfaaDoorPlainE
namespace Go.Proofs.YtaanihidheccfaaDoor
open Go.Shelf Go.RowKit
set_option linter.unusedVariables false

theorem codesL_none' {e : Int} {l : List UInt8} {j : Nat} {p : List UInt8 × Int} (h : (parts e l)[j]? = some p) (hc : p.2 < 0) : codesL e l = none := by
  unfold codesL
  rw [if_neg]
  intro h2
  have := h2 p (List.mem_of_getElem? h)
  omega
theorem codesL_some' {e : Int} {l : List UInt8} (hc : ∀ p ∈ parts e l, 0 ≤ p.2) : codesL e l = some ((parts e l).map (·.2)) := if_pos hc

theorem f43_bad (e : Int) (s : ByteArray) (hs : s.size ≤ 140737488355328) (h : ¬ (e = 0 ∨ e = 1 ∨ e = 2) ∨ 100000 < s.size) (w : World) : Calls Tryd.prog 43 #[.string s, .int .i64 e] w fun en w' => en = .returned (.tuple #[.slice none 0 0, .int .i64 1]) ∧ Below w.heap.size w w' := by
  have H51 := Lib.hid (f51one e s hs w)
  rw [badN_bad (xs := [s]) (h.imp_right fun h => ⟨s, by simp, h⟩)] at H51
  clear h
  go_enter Tryd.func43, Tryd.ntmps43
  go_wp2_with (go_at_call 51; refine H51.out.mono ?_; rintro en w2 ⟨rfl, rfl⟩)
  go_ret2
  exact ⟨rfl, (Below.refl _ _).alloc (Nat.le_refl _) _⟩

theorem f42_bad (e : Int) (s : ByteArray) (hs : s.size ≤ 140737488355328) (h : ¬ (e = 0 ∨ e = 1 ∨ e = 2) ∨ 100000 < s.size) (w : World) : Calls Tryd.prog 42 #[.string s, .int .i64 e] w fun en w' => en = .returned (.tuple #[.bool false, .int .i64 1]) ∧ Below w.heap.size w w' := by
  have H51 := Lib.hid (f51one e s hs w)
  rw [badN_bad (xs := [s]) (h.imp_right fun h => ⟨s, by simp, h⟩)] at H51
  clear h
  go_enter Tryd.func42, Tryd.ntmps42
  go_wp2_with (go_at_call 51; refine H51.out.mono ?_; rintro en w2 ⟨rfl, rfl⟩)
  go_ret2
  exact ⟨rfl, (Below.refl _ _).alloc (Nat.le_refl _) _⟩

set_option maxRecDepth 100000 in
theorem f43 (e : Int) (he : e = 0 ∨ e = 1 ∨ e = 2) (s : ByteArray) (hs : s.size ≤ 100000) (w : World) : Calls Tryd.prog 43 #[.string s, .int .i64 e] w (CodesPost w (codesL e (str s))) := by
  have H51 := Lib.hid (f51one e s (by omega) w)
  rw [badN_ok (xs := [s]) he (by intro x hx; simp at hx; subst hx; exact hs)] at H51
  have hA : Below w.heap.size w (w.alloc (.cells #[.string s] 9)) := (Below.refl _ _).alloc (Nat.le_refl _) _
  have H56 := Lib.hid (f56 e he s (by omega) (w.alloc (.cells #[.string s] 9)))
  have HA := Lib.hid hA; clear hA
  have hl := parts_len e (str s)
  rw [str_len] at hl
  have HN0 : Hid (∀ (j : Nat) p, (parts e (str s))[j]? = some p → p.2 < 0 → codesL e (str s) = none) := Lib.hid fun j p h hc => codesL_none' h hc
  have HS0 : Hid ((∀ p ∈ parts e (str s), 0 ≤ p.2) → codesL e (str s) = some ((parts e (str s)).map (·.2))) := Lib.hid codesL_some'
  unfold PartsPost at H56
  generalize parts e (str s) = ps at *
  generalize codesL e (str s) = o at *
  clear he
  obtain ⟨i0, hi, hz0, hz1, hz2⟩ := info_parts info3
  have HI := Lib.hid hi; clear hi
  go_enter Tryd.func43, Tryd.ntmps43
  go_wp2_with (go_at_call 51; refine H51.out.mono ?_; rintro en w2 ⟨rfl, rfl⟩)
  refine H56.out.mono ?_
  rintro en w3 ⟨v, rfl, ho, hB⟩
  have hz3 := hB.size
  simp only [World.size_alloc] at hz3
  have HB : Hid (Below w.heap.size w w3) := Lib.hid (HA.out.trans (hB.mono (by simp)))
  clear hB
  have hpi := (parts_in ho).1
  clear ho
  by_cases h0 : ps = []
  · subst h0
    obtain ⟨a, cap, rfl, -⟩ := hpi
    have HE : Hid (o = some []) := Lib.hid (HS0.out (by simp))
    go_wp2_with fail
    go_loop [7, 8] (fun v i => v = .slice none 0 0 ∧ i = .int .i64 0) (fun _ _ => 0)
    case atStart => exact ⟨rfl, rfl⟩
    case round =>
      obtain ⟨rfl, rfl⟩ := hrel
      go_wp2_with fail
      go_ret2
      rw [HE.out]
      exact ⟨⟨_, rfl, World.ownsRow_nil _ _ _ _⟩, HB.out⟩
  · obtain ⟨g, of, cap, rfl, hcap, hg, hc⟩ := hpi.some h0
    have HC := Lib.hid hc; clear hc hpi h0
    go_wp2_with fail
    go_loopw [7, 8] (fun v i wr => ∃ j : Nat, i = .int .i64 j ∧ j ≤ ps.length ∧ Hid (∀ p ∈ ps.take j, 0 ≤ p.2) ∧ Hid (wr.ownsRow w3.heap.size 3 1 v j (ints ((ps.take j).map (·.2)))) ∧ Hid (Below w3.heap.size w3 wr)) (fun _ i _ => ps.length - (intOf i).toNat)
    case atStart => exact ⟨0, rfl, Nat.zero_le _, Lib.hid (by simp), Lib.hid (World.ownsRow_nil _ _ _ _), Lib.hid (Below.refl _ _)⟩
    case round =>
      obtain ⟨j, rfl, hj, HH, HO, HBR⟩ := hrel
      have hbr := HBR.out.size
      by_cases hlt : j < ps.length
      · obtain ⟨p, hp⟩ : ∃ p, ps[j]? = some p := ⟨ps[j], by simp [hlt]⟩
        have hcell := (HBR.out.cell (p := ⟨g, of + j * 2 + 1, none⟩) hg).trans (HC.out j p hp).2
        have HT1 : Hid (ps.take (j + 1) = ps.take j ++ [p]) := Lib.hid (by rw [List.take_add_one, hp]; rfl)
        have HP := Lib.hid hp; clear hp
        by_cases hcn : p.2 < 0
        · have HE := Lib.hid (HN0.out j p HP.out hcn)
          go_wp2_with fail
          go_ret2
          rw [HE.out]
          exact ⟨rfl, HB.out.trans (HBR.out.mono (by omega))⟩
        · have hcp : 0 ≤ p.2 := by omega
          clear hcn
          go_wp2_with (at_builtin; refine wpList_append_own _ rfl (.tmp 28) (.tmp 34) 22 rfl w3.heap.size 3 i0 (.int .i64 0) 1 8 Tryd.underlying22 HI.out hz0 hz1 hz2 rfl (by decide) _ _ _ rfl (HO.out.alloc _) ⟨wr.heap.size, 0, none⟩ 1 1 [.int .i64 p.2] rfl rfl ?c1 ?c2 ?c3 ?c4 ?c5 ?_)
          case c1 => exact new1 _ _ _
          case c2 => intro u hu; simp at hu; subst hu; rfl
          case c3 => unfold maxLen; omega
          case c4 => omega
          case c5 => simp; omega
          intro v' w4 hown' hgrow _
          have HR : Hid (Below w3.heap.size w3 w4 ∧ w4.ownsRow w3.heap.size 3 1 v' (j + 1) (ints ((ps.take (j + 1)).map (·.2))) ∧ ∀ q ∈ ps.take (j + 1), 0 ≤ q.2) := by
            refine ⟨?_, ?_, ?_⟩
            · exact (HBR.out.alloc (by omega) _).grown hgrow (by simp; omega) (fun k hk => (HO.out.lt k hk).1)
            · rw [HT1.out, List.map_append, List.map_cons, List.map_nil, ints_snoc, List.map_take]
              exact hown'
            · rw [HT1.out]
              intro q hq
              rw [List.mem_append, List.mem_singleton] at hq
              rcases hq with hq | rfl
              · exact HH.out q hq
              · exact hcp
          clear hown' hgrow
          go_wp2_with fail
          go_roundw
          case rel => exact ⟨j + 1, by go_num, by omega, Lib.hid HR.out.2.2, Lib.hid HR.out.2.1, Lib.hid HR.out.1⟩
          case measure => simp [intOf]; omega
      · obtain rfl : j = ps.length := by omega
        have hh := HH.out
        rw [List.take_length] at hh
        have HE := Lib.hid (HS0.out hh)
        clear hh
        go_wp2_with fail
        go_ret2
        rw [HE.out]
        have ho := HO.out
        rw [List.take_length] at ho
        exact ⟨⟨_, rfl, by rw [List.length_map]; exact owns_mono ho (by omega)⟩, HB.out.trans (HBR.out.mono (by omega))⟩

/-- Valid, at the characters. -/
def validN (e : Int) (ps : List (List UInt8 × Int)) : Bool := decide (e = 2 → ∀ p ∈ ps, 0 ≤ p.2)

set_option maxRecDepth 100000 in
theorem f42 (e : Int) (he : e = 0 ∨ e = 1 ∨ e = 2) (s : ByteArray) (hs : s.size ≤ 100000) (w : World) : Calls Tryd.prog 42 #[.string s, .int .i64 e] w fun en w' => en = .returned (.tuple #[.bool (validN e (parts e (str s))), .int .i64 0]) ∧ Below w.heap.size w w' := by
  have H51 := Lib.hid (f51one e s (by omega) w)
  rw [badN_ok (xs := [s]) he (by intro x hx; simp at hx; subst hx; exact hs)] at H51
  have hA : Below w.heap.size w (w.alloc (.cells #[.string s] 9)) := (Below.refl _ _).alloc (Nat.le_refl _) _
  have H56 := Lib.hid (f56 e he s (by omega) (w.alloc (.cells #[.string s] 9)))
  have HA := Lib.hid hA; clear hA
  have hl := parts_len e (str s)
  rw [str_len] at hl
  unfold PartsPost at H56
  generalize parts e (str s) = ps at *
  have HY : Hid ((e = 2 → ∀ p ∈ ps, 0 ≤ p.2) → validN e ps = true) := Lib.hid fun h => decide_eq_true h
  have HNO : Hid (∀ (j : Nat) p, ps[j]? = some p → p.2 < 0 → e = 2 → validN e ps = false) := Lib.hid fun j p hp hc h2 => decide_eq_false fun h => by have := h h2 p (List.mem_of_getElem? hp); omega
  generalize validN e ps = o at *
  clear he
  go_enter Tryd.func42, Tryd.ntmps42
  go_wp2_with (go_at_call 51; refine H51.out.mono ?_; rintro en w2 ⟨rfl, rfl⟩)
  refine H56.out.mono ?_
  rintro en w3 ⟨v, rfl, ho, hB⟩
  have hz3 := hB.size
  simp only [World.size_alloc] at hz3
  have HB : Hid (Below w.heap.size w w3) := Lib.hid (HA.out.trans (hB.mono (by simp)))
  clear hB
  have hpi := (parts_in ho).1
  clear ho
  by_cases h0 : ps = []
  · subst h0
    obtain ⟨a, cap, rfl, -⟩ := hpi
    have HE : Hid (o = true) := Lib.hid (HY.out (by simp))
    go_wp2_with fail
    go_loop [7] (fun i => i = .int .i64 0) (fun _ => 0)
    case atStart => rfl
    case round =>
      subst hrel
      go_wp2_with fail
      go_ret2
      rw [HE.out]
      exact ⟨rfl, HB.out⟩
  · obtain ⟨g, of, cap, rfl, hcap, hg, hc⟩ := hpi.some h0
    have HC := Lib.hid hc; clear hc hpi h0
    go_wp2_with fail
    go_loop [7] (fun i => ∃ j : Nat, i = .int .i64 j ∧ j ≤ ps.length ∧ Hid (e = 2 → ∀ p ∈ ps.take j, 0 ≤ p.2)) (fun i => ps.length - (intOf i).toNat)
    case atStart => exact ⟨0, rfl, Nat.zero_le _, Lib.hid (by simp)⟩
    case round =>
      obtain ⟨j, rfl, hj, HH⟩ := hrel
      by_cases hlt : j < ps.length
      · obtain ⟨p, hp⟩ : ∃ p, ps[j]? = some p := ⟨ps[j], by simp [hlt]⟩
        have hcell := (HC.out j p hp).2
        have HT1 : Hid (ps.take (j + 1) = ps.take j ++ [p]) := Lib.hid (by rw [List.take_add_one, hp]; rfl)
        have HP := Lib.hid hp; clear hp
        by_cases hcn : p.2 < 0
        · by_cases h2 : e = 2
          · have HE := Lib.hid (HNO.out j p HP.out hcn h2)
            have hq : (e == 2) = true := by simp [h2]
            clear h2
            go_wp2_with fail
            go_ret2
            rw [HE.out]
            exact ⟨rfl, HB.out⟩
          · have hq : (e == 2) = false := by simp [h2]
            have HH2 : Hid (e = 2 → ∀ p ∈ ps.take (j + 1), 0 ≤ p.2) := Lib.hid fun h => absurd h h2
            clear h2
            go_wp2_with fail
            go_round
            case rel => exact ⟨j + 1, by go_num, by omega, HH2⟩
            case measure => simp [intOf]; omega
        · have hcp : 0 ≤ p.2 := by omega
          clear hcn
          have HH2 : Hid (e = 2 → ∀ p ∈ ps.take (j + 1), 0 ≤ p.2) := Lib.hid fun h => by
            rw [HT1.out]
            intro q hq
            rw [List.mem_append, List.mem_singleton] at hq
            rcases hq with hq | rfl
            · exact HH.out h q hq
            · exact hcp
          go_wp2_with fail
          go_round
          case rel => exact ⟨j + 1, by go_num, by omega, HH2⟩
          case measure => simp [intOf]; omega
      · obtain rfl : j = ps.length := by omega
        have hh := HH.out
        rw [List.take_length] at hh
        have HE := Lib.hid (HY.out hh)
        clear hh
        go_wp2_with fail
        go_ret2
        rw [HE.out]
        exact ⟨rfl, HB.out⟩

end Go.Proofs.YtaanihidheccfaaDoor
