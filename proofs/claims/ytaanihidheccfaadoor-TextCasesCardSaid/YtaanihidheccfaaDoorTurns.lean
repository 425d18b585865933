/-
  Reverse, the program's and the document's.
-/
import Derived.Test.YtaanihidheccfaaDoorCuts
import Derived.Test.YtaanihidheccfaaDoorValids
import Derived.Lib.RowBridge
namespace Go.Proofs.YtaanihidheccfaaDoor
open Go.Shelf Go.RowKit
set_option linter.unusedVariables false

theorem below_cells {B : Nat} {a : World} (b : Nat) (hb : B ≤ b) : ∀ (vs : List Value) (o : Nat) {w : World}, Below B a w → Below B a (w.setCells b o vs)
  | [], _, _, h => h
  | v :: r, o, _, h => below_cells b hb r (o + 1) (h.setCell (p := ⟨b, o, none⟩) hb v)

/-- slices.Reverse, over texts of characters. -/
theorem f69 (B g cap : Nat) (ps : List (List UInt8 × Int)) (hl : ps.length ≤ 100000) (w : World) (hB : B ≤ g) (hc : ∀ (j : Nat) p, ps[j]? = some p → w.cell? ⟨g, j, none⟩ = some (.string (bs p.1))) (hf : ∀ j, j < ps.length → w.frozen? ⟨g, j, none⟩ = false) :
    Calls Tryd.prog 69 #[.slice (some ⟨g, 0, none⟩) ps.length cap] w fun e w' => e = .returned (.tuple #[]) ∧ (∀ (j : Nat) p, ps.reverse[j]? = some p → w'.cell? ⟨g, 0 + j, none⟩ = some (.string (bs p.1))) ∧ Below B w w' := by
  have h := Tryd.slices_Reverse_string_cells g 0 ps.length cap (fun i => bs (ps.getD i ([], 0)).1) w (by omega) (by
    intro i hi
    obtain ⟨p, hp⟩ : ∃ p, ps[i]? = some p := ⟨ps[i], by simp [hi]⟩
    rw [Nat.zero_add, hc i p hp]
    simp [List.getD_eq_getElem?_getD, hp]) (by
    intro j hj
    rw [Nat.zero_add]
    exact hf j hj)
  refine h.mono ?_
  rintro e w' ⟨he, q, hw⟩
  have hS : Go.Lib.strsOf (fun i => bs (ps.getD i ([], 0)).1) ps.length = ps.map (·.1) := by
    apply List.ext_getElem?
    intro i
    unfold Go.Lib.strsOf
    rw [List.getElem?_map, List.getElem?_map]
    by_cases hi : i < ps.length
    · rw [List.getElem?_range hi, List.getElem?_eq_getElem hi]
      simp [List.getD_eq_getElem?_getD, hi, bs]
    · rw [List.getElem?_eq_none (by simp; omega), List.getElem?_eq_none (by omega)]
      rfl
  rw [hS] at hw
  have hlen : (((ps.map (·.1)).reverse).map encStr).length = ps.length := by simp
  refine ⟨he, ?_, ?_⟩
  · intro j p hp
    have hj : j < ps.length := by have := (List.getElem?_eq_some_iff.1 hp).1; simpa using this
    rw [hw, World.cell?_setCells_in g _ 0 (w.drewN q) (by
      intro i hi
      rw [hlen] at hi
      obtain ⟨p', hp'⟩ : ∃ p', ps[i]? = some p' := ⟨ps[i], by simp [hi]⟩
      have := hc i p' hp'
      rw [Nat.zero_add]
      show (w.cell? _).isSome = true
      rw [this]; rfl) j (by rw [hlen]; exact hj)]
    congr 1
    have e1 : (((ps.map (·.1)).reverse).map encStr)[j]? = some (.string (bs p.1)) := by
      rw [List.getElem?_map, ← List.map_reverse, List.getElem?_map, hp]
      rfl
    rw [List.getElem?_eq_getElem (by rw [hlen]; exact hj)] at e1
    exact Option.some.inj e1
  · rw [hw]
    exact below_cells g hB _ 0 (below_drewN' (Below.refl _ _) q)

theorem joinP_rev_len (ps : List (List UInt8 × Int)) : (joinP ps.reverse).length = (joinP ps).length := by
  unfold joinP
  induction ps with
  | nil => rfl
  | cons p ps ih =>
    rw [List.reverse_cons, List.map_append, List.flatten_append, List.length_append, ih, List.map_cons, List.flatten_cons, List.length_append]
    simp
    omega

theorem f45_bad (e : Int) (s : ByteArray) (hs : s.size ≤ 140737488355328) (h : ¬ (e = 0 ∨ e = 1 ∨ e = 2) ∨ 100000 < s.size) (w : World) : Calls Tryd.prog 45 #[.string s, .int .i64 e] w fun en w' => en = .returned (ans ⟨#[]⟩ 1) ∧ Below w.heap.size w w' := by
  have H47 := Lib.hid (f47one e s hs w)
  rw [asked_bad (xs := [s]) (h.imp_right fun h => ⟨s, by simp, h⟩)] at H47
  clear h
  go_enter Tryd.func45, Tryd.ntmps45
  go_wp2_with (go_at_call 47; refine H47.out.mono ?_; rintro en w2 ⟨rfl, rfl⟩)
  go_ret2
  exact ⟨rfl, (Below.refl _ _).alloc (Nat.le_refl _) _⟩
theorem f46_bad (e : Int) (s : ByteArray) (hs : s.size ≤ 140737488355328) (h : ¬ (e = 0 ∨ e = 1 ∨ e = 2) ∨ 100000 < s.size) (w : World) : Calls Tryd.prog 46 #[.string s, .int .i64 e] w fun en w' => en = .returned (ans ⟨#[]⟩ 1) ∧ Below w.heap.size w w' := by
  have H51 := Lib.hid (f51one e s hs w)
  rw [badN_bad (xs := [s]) (h.imp_right fun h => ⟨s, by simp, h⟩)] at H51
  clear h
  go_enter Tryd.func46, Tryd.ntmps46
  go_wp2_with (go_at_call 51; refine H51.out.mono ?_; rintro en w2 ⟨rfl, rfl⟩)
  go_ret2
  exact ⟨rfl, (Below.refl _ _).alloc (Nat.le_refl _) _⟩

set_option maxHeartbeats 1000000 in
theorem f45 (e : Int) (he : e = 0 ∨ e = 1 ∨ e = 2) (s : ByteArray) (hs : s.size ≤ 100000) (w : World) (hT : Lib.Utf8Tabs 0 1 w) (h2 : 2 ≤ w.heap.size) : Calls Tryd.prog 45 #[.string s, .int .i64 e] w fun en w' => en = .returned (ans (bs (joinP (parts e (str s)).reverse)) 0) ∧ Below w.heap.size w w' := by
  have HG := Lib.hid (f47one e s (by omega) w)
  rw [asked_ok (xs := [s]) he (by intro x hx; simp at hx; subst hx; exact hs)] at HG
  have hA : Below w.heap.size w (w.alloc (.cells #[.string s] 9)) := (Below.refl _ _).alloc (Nat.le_refl _) _
  have HP := Lib.hid (f54 e he s (by omega) (w.alloc (.cells #[.string s] 9)) (tabs_below hA h2 hT) (by simp; omega))
  have HA := Lib.hid hA; clear hA
  have hl := parts_len e (str s)
  rw [str_len] at hl
  have hjl : (joinP (parts e (str s)).reverse).length ≤ 100000 := by rw [joinP_rev_len]; unfold joinP; rw [parts_join, str_len]; exact hs
  unfold PiecesPost at HP
  generalize parts e (str s) = ps at *
  clear hT he
  go_enter Tryd.func45, Tryd.ntmps45
  go_wp2_with (go_at_call 47; refine HG.out.mono ?_; rintro en w2 ⟨rfl, rfl⟩)
  refine HP.out.mono ?_
  rintro en w3 ⟨v, rfl, ho, hB⟩
  have hz3 := hB.size
  simp only [World.size_alloc] at hz3
  have HB : Hid (Below w.heap.size w w3) := Lib.hid (HA.out.trans (hB.mono (by simp)))
  clear hB
  by_cases h0 : ps = []
  · subst h0
    obtain ⟨a, cap, rfl, -⟩ := owns_slice ho
    clear ho
    have H69 := Lib.hid (Tryd.slices_Reverse_string_empty a cap w3)
    have H68 := Lib.hid (f68nil a cap w3)
    go_wp2_with (first | (go_at_call 69; refine H69.out.mono ?_; rintro en w4 ⟨rfl, rfl⟩) | (go_at_call 68; refine H68.out.mono ?_; rintro en w5 ⟨rfl, hB⟩; have HB5 := Lib.hid hB; clear hB))
    go_ret2
    exact ⟨rfl, HB.out.trans (HB5.out.mono (by omega))⟩
  · obtain ⟨g, cap, rfl, hcap, hg1, hg2, hcl⟩ := owns_some ho h0
    have hfz : ∀ j, j < ps.length → w3.frozen? ⟨g, j, none⟩ = false := by
      intro j hj
      rcases ho.2 with ⟨hv, -⟩ | ⟨g', cap', cur, hv, hB', hgg, -⟩
      · cases hv
      · injection hv with e1
        injection e1 with e1
        injection e1 with e1
        subst e1
        simp [World.frozen?, hgg]
    simp only [World.size_alloc] at hg1
    have H69 := Lib.hid (f69 (w.heap.size + 1) g cap ps (by omega) w3 hg1 hcl hfz)
    clear ho hcl hfz
    go_wp2_with fail
    refine H69.out.mono ?_
    rintro en w4 ⟨rfl, hcl, hB⟩
    have hz4 : w3.heap.size ≤ w4.heap.size := hB.size
    have H68 := Lib.hid (f68 g 0 ps.length cap ps.reverse (by simp) hcap (by omega) (by omega) w4 (by omega) hcl)
    have HB4 : Hid (Below w.heap.size w w4) := Lib.hid (HB.out.trans (hB.mono (by omega)))
    clear hB hcl
    go_wp2_with fail
    refine H68.out.mono ?_
    rintro en w5 ⟨rfl, hB⟩
    have HB5 := Lib.hid hB; clear hB
    go_wp2_with fail
    go_ret2
    exact ⟨rfl, HB4.out.trans (HB5.out.mono (by omega))⟩

set_option maxRecDepth 100000 in
set_option maxHeartbeats 1000000 in
theorem f46 (e : Int) (he : e = 0 ∨ e = 1 ∨ e = 2) (s : ByteArray) (hs : s.size ≤ 100000) (w : World) : Calls Tryd.prog 46 #[.string s, .int .i64 e] w fun en w' => en = .returned (ans (bs (joinP (parts e (str s)).reverse)) 0) ∧ Below w.heap.size w w' := by
  have HG := Lib.hid (f51one e s (by omega) w)
  rw [badN_ok (xs := [s]) he (by intro x hx; simp at hx; subst hx; exact hs)] at HG
  have hA : Below w.heap.size w (w.alloc (.cells #[.string s] 9)) := (Below.refl _ _).alloc (Nat.le_refl _) _
  have HP := Lib.hid (f56 e he s (by omega) (w.alloc (.cells #[.string s] 9)))
  have HA := Lib.hid hA; clear hA
  have hl := parts_len e (str s)
  rw [str_len] at hl
  have HPL : Hid (∀ p ∈ parts e (str s), p.1.length ≤ 4) := Lib.hid fun p hp => (parts_part e (str s) p hp).2.1
  unfold PartsPost at HP
  generalize parts e (str s) = ps at *
  clear he
  obtain ⟨i0, hi, hz0, hz1, hz2⟩ := info_parts info85
  have HI := Lib.hid hi; clear hi
  go_enter Tryd.func46, Tryd.ntmps46
  go_wp2_with (go_at_call 51; refine HG.out.mono ?_; rintro en w2 ⟨rfl, rfl⟩)
  refine HP.out.mono ?_
  rintro en w3 ⟨v, rfl, ho, hB⟩
  have hz3 := hB.size
  simp only [World.size_alloc] at hz3
  have HB : Hid (Below w.heap.size w w3) := Lib.hid (HA.out.trans (hB.mono (by simp)))
  clear hB
  by_cases h0 : ps = []
  · subst h0
    obtain ⟨⟨a, cap, rfl, -⟩, -⟩ := parts_in ho
    clear ho
    have H57 := Lib.hid (f57_nil none 0 w3)
    go_wp2_with fail
    go_loop [7, 8] (fun v i => v = .slice none 0 0 ∧ i = .int .i64 (-1)) (fun _ _ => 0)
    case atStart => exact ⟨rfl, rfl⟩
    case round =>
      obtain ⟨rfl, rfl⟩ := hrel
      go_wp2_with (go_at_call 57; refine H57.out.mono ?_; rintro en w4 ⟨rfl, hB⟩; have HB4 := Lib.hid hB; clear hB)
      go_ret2
      exact ⟨rfl, HB.out.trans (HB4.out.mono (by omega))⟩
  · have hpi := (parts_in ho).1.some h0
    obtain ⟨g, o, cap, rfl, hcap, hg2, hcl⟩ := hpi
    have HCL := Lib.hid hcl; clear hcl ho
    have hpos : 1 ≤ ps.length := by cases ps with | nil => exact absurd rfl h0 | cons a l => simp
    clear h0
    go_wp2_with fail
    go_loopw [7, 8] (fun v i wr => ∃ j : Nat, i = .int .i64 ((ps.length : Int) - 1 - (j : Int)) ∧ j ≤ ps.length ∧ Hid (wr.ownsRow w3.heap.size 85 2 v j (partCells (ps.reverse.take j))) ∧ Hid (Below w3.heap.size w3 wr)) (fun _ i _ => (intOf i + 1).toNat)
    case atStart => exact ⟨0, by simp, Nat.zero_le _, Lib.hid (World.ownsRow_nil _ _ _ _), Lib.hid (Below.refl _ _)⟩
    case round =>
      obtain ⟨j, rfl, hj, HO, HBR⟩ := hrel
      have hbr := HBR.out.size
      by_cases hlt : j < ps.length
      · obtain ⟨k, hk⟩ : ∃ k : Nat, (ps.length : Int) - 1 - (j : Int) = (k : Int) := ⟨ps.length - 1 - j, by omega⟩
        have hkl : k < ps.length := by omega
        obtain ⟨p, hp⟩ : ∃ p, ps[k]? = some p := ⟨ps[k], by simp [hkl]⟩
        have hc1 := (HBR.out.cell (p := ⟨g, o + k * 2, none⟩) hg2).trans (HCL.out k p hp).1
        have hc2 := (HBR.out.cell (p := ⟨g, o + k * 2 + 1, none⟩) hg2).trans (HCL.out k p hp).2
        have HT1 : Hid (ps.reverse.take (j + 1) = ps.reverse.take j ++ [p]) := Lib.hid (by
          rw [List.take_add_one, List.getElem?_reverse (by omega), show ps.length - 1 - j = k by omega, hp]
          rfl)
        clear hp
        rw [hk]
        go_wp2_with (at_builtin; refine wpList_append_own _ rfl (.tmp 23) (.tmp 28) 81 rfl w3.heap.size 85 i0 (.agg #[.string ⟨#[]⟩, .int .i64 0]) 2 24 Tryd.underlying81 HI.out hz0 hz1 hz2 rfl (by decide) _ _ _ rfl (HO.out.alloc _) ⟨wr.heap.size, 0, none⟩ 1 1 [.string (bs p.1), .int .i64 p.2] rfl rfl ?c1 ?c2 ?c3 ?c4 ?c5 ?_)
        case c1 => exact new2 _ _ _ _
        case c2 => intro u hu; simp at hu; rcases hu with rfl | rfl <;> rfl
        case c3 => unfold maxLen; omega
        case c4 => omega
        case c5 => simp; omega
        intro v' w4 hown' hgrow _
        have HR : Hid (Below w3.heap.size w3 w4 ∧ w4.ownsRow w3.heap.size 85 2 v' (j + 1) (partCells (ps.reverse.take (j + 1)))) := by
          refine ⟨?_, ?_⟩
          · exact (HBR.out.alloc (by omega) _).grown hgrow (by simp; omega) (fun k hk => (HO.out.lt k hk).1)
          · rw [HT1.out, partCells_snoc]
            exact hown'
        clear hown' hgrow
        go_wp2_with fail
        go_roundw
        case rel => exact ⟨j + 1, by congr 1; omega, by omega, Lib.hid HR.out.2, Lib.hid HR.out.1⟩
        case measure => simp [intOf]
      · obtain rfl : j = ps.length := by omega
        have hneg : (ps.length : Int) - 1 - (ps.length : Int) = -1 := by omega
        rw [hneg]
        have hown := HO.out
        rw [show ps.reverse.take ps.length = ps.reverse from List.take_of_length_le (by simp)] at hown
        have hown2 : wr.ownsRow w3.heap.size 85 2 u7 ps.reverse.length (partCells ps.reverse) := by rw [List.length_reverse]; exact hown
        have H57 := Lib.hid (f57 u7 ps.reverse (by simp; omega) (fun p hp => by have := HPL.out p (List.mem_reverse.1 hp); omega) wr (parts_in hown2).1)
        clear hown hown2
        go_wp2_with (go_at_call 57; refine H57.out.mono ?_; rintro en w4 ⟨rfl, hB⟩; have HB4 := Lib.hid hB; clear hB)
        go_ret2
        exact ⟨rfl, (HB.out.trans (HBR.out.mono (by omega))).trans (HB4.out.mono (by omega))⟩

end Go.Proofs.YtaanihidheccfaaDoor
