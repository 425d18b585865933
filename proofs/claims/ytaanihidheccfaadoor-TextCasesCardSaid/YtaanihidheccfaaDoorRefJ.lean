/-
  The document: Scrub, Lossy: parts whose texts are written anew.
-/
import Derived.Test.YtaanihidheccfaaDoorRefG
import Derived.Test.YtaanihidheccfaaDoorPlainE
namespace Go.Proofs.YtaanihidheccfaaDoor
open Go.Shelf Go.RowKit
set_option linter.unusedVariables false

/-- A block that holds parts. -/
def PB (w : World) (g : Nat) (qs : List (List UInt8 × Int)) : Prop := ∃ cur, w.heap[g]? = some (.cells cur 85 (0, 0)) ∧ qs.length * 2 ≤ cur.size ∧ cur.toList.take (qs.length * 2) = partCells qs

theorem PB.of_owns {w : World} {B : Nat} {v : Value} {ps : List (List UInt8 × Int)} (h : w.ownsRow B 85 2 v ps.length (partCells ps)) (h0 : ps ≠ []) : ∃ g cap, v = .slice (some ⟨g, 0, none⟩) ps.length cap ∧ ps.length ≤ cap ∧ B ≤ g ∧ g < w.heap.size ∧ PB w g ps := by
  rcases h.2 with ⟨rfl, hz⟩ | ⟨g, cap, cur, rfl, hB, hg, hn, hm, hs, ht⟩
  · exact absurd (List.eq_nil_of_length_eq_zero hz) h0
  · exact ⟨g, cap, rfl, hn, hB, (Array.getElem?_eq_some_iff.1 hg).1, cur, hg, by omega, ht⟩
theorem PB.cell {w : World} {g : Nat} {qs : List (List UInt8 × Int)} (h : PB w g qs) {j : Nat} {p : List UInt8 × Int} (hq : qs[j]? = some p) : w.cell? ⟨g, j * 2, none⟩ = some (.string (bs p.1)) ∧ w.cell? ⟨g, j * 2 + 1, none⟩ = some (.int .i64 p.2) := by
  obtain ⟨cur, hg, hs, ht⟩ := h
  have hj := (List.getElem?_eq_some_iff.1 hq).1
  obtain ⟨h1, h2⟩ := partCells_at qs j p hq
  rw [← ht, List.getElem?_take_of_lt (by omega)] at h1 h2
  rw [cell_blk hg, cell_blk hg, ← Array.getElem?_toList, ← Array.getElem?_toList]
  exact ⟨h1, h2⟩
theorem PB.free {w : World} {g : Nat} {qs : List (List UInt8 × Int)} (h : PB w g qs) (i : Nat) : w.frozen? ⟨g, i, none⟩ = false := by
  obtain ⟨cur, hg, hs, ht⟩ := h
  simp [World.frozen?, hg]
theorem PB.lt {w : World} {g : Nat} {qs : List (List UInt8 × Int)} (h : PB w g qs) : g < w.heap.size := by
  obtain ⟨cur, hg, -⟩ := h
  exact (Array.getElem?_eq_some_iff.1 hg).1
theorem PB.below {w w' : World} {g : Nat} {qs : List (List UInt8 × Int)} (h : PB w g qs) (hb : Below w.heap.size w w') : PB w' g qs := by
  obtain ⟨cur, hg, hs, ht⟩ := h
  exact ⟨cur, (hb.block g (Array.getElem?_eq_some_iff.1 hg).1).trans hg, hs, ht⟩
theorem partCells_set : ∀ (qs : List (List UInt8 × Int)) (j : Nat) (p : List UInt8 × Int), qs[j]? = some p → ∀ x : List UInt8, partCells (qs.set j (x, p.2)) = (partCells qs).set (j * 2) (.string (bs x))
  | [], j, p, h, x => by simp at h
  | q :: l, 0, p, h, x => by
    simp at h
    subst h
    rfl
  | q :: l, j + 1, p, h, x => by
    have h' : l[j]? = some p := by simpa using h
    have ih := partCells_set l j p h' x
    rw [List.set_cons_succ, partCells_cons, ih, partCells_cons, show (j + 1) * 2 = j * 2 + 1 + 1 by omega, List.set_cons_succ, List.set_cons_succ]
theorem PB.set {w : World} {g : Nat} {qs : List (List UInt8 × Int)} (h : PB w g qs) {j : Nat} {p : List UInt8 × Int} (hq : qs[j]? = some p) (x : List UInt8) : PB (w.setCell ⟨g, j * 2, none⟩ (.string (bs x))) g (qs.set j (x, p.2)) := by
  obtain ⟨cur, hg, hs, ht⟩ := h
  refine ⟨_, heap_setCell_same w g (j * 2) cur 85 _ hg, ?_, ?_⟩
  · rw [List.length_set, Array.size_setIfInBounds]; exact hs
  · rw [List.length_set, partCells_set qs j p hq x, ← ht, Array.toList_setIfInBounds, List.take_set]
theorem PB.parts {w : World} {g cap : Nat} {qs : List (List UInt8 × Int)} (h : PB w g qs) (hc : qs.length ≤ cap) : PartsIn w (.slice (some ⟨g, 0, none⟩) qs.length cap) qs :=
  ⟨_, cap, rfl, by simp, hc, fun j p hp => ⟨g, 0, rfl, h.lt, by have := h.cell hp; rw [Nat.zero_add]; exact this⟩⟩

/-- One part's text written anew, along the parts. -/
theorem step_set {α : Type} (f : α → α) (ps : List α) (j : Nat) (p : α) (hp : ps[j]? = some p) : ((ps.take j).map f ++ ps.drop j).set j (f p) = (ps.take (j + 1)).map f ++ ps.drop (j + 1) := by
  obtain ⟨hj, he⟩ := List.getElem?_eq_some_iff.1 hp
  have h1 : ((ps.take j).map f).length = j := by rw [List.length_map, List.length_take]; omega
  rw [List.set_append_right _ _ (by omega), h1, Nat.sub_self, List.drop_eq_getElem_cons hj, he, List.set_cons_zero, List.take_add_one, hp, List.map_append]
  simp
theorem step_at {α : Type} (f : α → α) (ps : List α) (j : Nat) : ((ps.take j).map f ++ ps.drop j)[j]? = ps[j]? := by
  by_cases hj : j ≤ ps.length
  · have h1 : ((ps.take j).map f).length = j := by rw [List.length_map, List.length_take]; omega
    rw [List.getElem?_append_right (by omega), h1, Nat.sub_self, List.getElem?_drop]
    simp
  · rw [List.getElem?_eq_none (by simp; omega), List.getElem?_eq_none (by omega)]
theorem step_same {α : Type} (f : α → α) (ps : List α) (j : Nat) (p : α) (hp : ps[j]? = some p) (hf : f p = p) : (ps.take j).map f ++ ps.drop j = (ps.take (j + 1)).map f ++ ps.drop (j + 1) := by
  obtain ⟨hj, he⟩ := List.getElem?_eq_some_iff.1 hp
  rw [List.drop_eq_getElem_cons hj, he, List.take_add_one, hp, List.map_append]
  simp [hf]
theorem step_len {α : Type} (f : α → α) (ps : List α) (j : Nat) (hj : j ≤ ps.length) : ((ps.take j).map f ++ ps.drop j).length = ps.length := by
  rw [List.length_append, List.length_map, List.length_take, List.length_drop]; omega

/-- What is broken, replaced. -/
def scrubP (by' : List UInt8) (p : List UInt8 × Int) : List UInt8 × Int := if p.2 < 0 then (by', p.2) else p
theorem scrub_lossy (by' l : List UInt8) : joinP ((parts 2 l).map (scrubP by')) = lossyL 2 2 by' l := by
  unfold joinP lossyL
  rw [List.map_map]
  congr 1
  apply List.map_congr_left
  intro p hp
  show (scrubP by' p).1 = lossyP 2 by' p
  unfold scrubP lossyP
  by_cases h : p.2 < 0
  · rw [if_pos h, if_neg (fun hh => by have := (has_pos hh).1; omega)]
  · have hb := parts_back 2 (by decide) l p hp (by omega)
    rw [if_neg h, if_pos hb.1]
    exact hb.2

theorem f35_bad (s t : ByteArray) (hs : s.size ≤ 140737488355328) (ht : t.size ≤ 140737488355328) (h : 100000 < s.size ∨ 100000 < t.size) (w : World) : Calls Tryd.prog 35 #[.string s, .string t] w fun en w' => en = .returned (.tuple #[.string ⟨#[]⟩, .int .i64 1]) ∧ Below w.heap.size w w' := by
  have H51 := Lib.hid (f51two 2 s t hs ht w)
  rw [badN_bad (xs := [s, t]) (.inr (h.elim (fun h => ⟨s, by simp, h⟩) (fun h => ⟨t, by simp, h⟩)))] at H51
  clear h
  go_enter Tryd.func35, Tryd.ntmps35
  go_wp2_with (go_at_call 51; refine H51.out.mono ?_; rintro en w2 ⟨rfl, rfl⟩)
  go_ret2
  exact ⟨rfl, (Below.refl _ _).alloc (Nat.le_refl _) _⟩

set_option maxRecDepth 100000 in
theorem f35 (s by' : ByteArray) (hs : s.size ≤ 100000) (hby : by'.size ≤ 100000) (w : World) : Calls Tryd.prog 35 #[.string s, .string by'] w fun en w' => en = .returned (.tuple #[.string (bs (joinP ((parts 2 (str s)).map (scrubP (str by'))))), .int .i64 0]) ∧ Below w.heap.size w w' := by
  have H51 := Lib.hid (f51two 2 s by' (by omega) (by omega) w)
  rw [badN_ok (xs := [s, by']) (by decide) (by intro x hx; simp at hx; rcases hx with rfl | rfl <;> assumption)] at H51
  have hA : Below w.heap.size w (w.alloc (.cells #[.string s, .string by'] 9)) := (Below.refl _ _).alloc (Nat.le_refl _) _
  have H56 := Lib.hid (f56 2 (by decide) s (by omega) (w.alloc (.cells #[.string s, .string by'] 9)))
  have HA := Lib.hid hA; clear hA
  have hl := parts_len 2 (str s)
  rw [str_len] at hl
  have HPP : Hid (∀ p ∈ parts 2 (str s), p.1.length ≤ 4) := Lib.hid fun p hp => (parts_part 2 (str s) p hp).2.1
  unfold PartsPost at H56
  generalize parts 2 (str s) = ps at *
  go_enter Tryd.func35, Tryd.ntmps35
  go_wp2_with (go_at_call 51; refine H51.out.mono ?_; rintro en w2 ⟨rfl, rfl⟩)
  refine H56.out.mono ?_
  rintro en w3 ⟨v, rfl, ho, hB⟩
  have hz3 := hB.size
  simp only [World.size_alloc] at hz3
  have HB : Hid (Below w.heap.size w w3) := Lib.hid (HA.out.trans (hB.mono (by simp)))
  clear hB
  by_cases h0 : ps = []
  · subst h0
    obtain ⟨⟨a, cap, rfl, -⟩, -⟩ := parts_in ho
    clear ho
    have H57 := Lib.hid (f57_nil a cap w3)
    go_wp2_with fail
    go_loop [7] (fun i => i = .int .i64 0) (fun _ => 0)
    case atStart => rfl
    case round =>
      subst hrel
      go_wp2_with (go_at_call 57; refine H57.out.mono ?_; rintro en w4 ⟨rfl, hB⟩; have HB4 := Lib.hid hB; clear hB)
      go_ret2
      exact ⟨rfl, HB.out.trans (HB4.out.mono (by omega))⟩
  · obtain ⟨g, cap, rfl, hcap, hg0, hg, hpb⟩ := PB.of_owns ho h0
    simp only [World.size_alloc] at hg0
    have HPB := Lib.hid hpb; clear hpb ho h0
    go_wp2_with fail
    go_loopw [7] (fun i wr => ∃ j : Nat, i = .int .i64 j ∧ j ≤ ps.length ∧ Hid (PB wr g ((ps.take j).map (scrubP (str by')) ++ ps.drop j)) ∧ Hid (Below w.heap.size w wr)) (fun i _ => ps.length - (intOf i).toNat)
    case atStart => exact ⟨0, rfl, Nat.zero_le _, HPB, HB⟩
    case round =>
      obtain ⟨j, rfl, hj, HR, HBR⟩ := hrel
      have hbr := HBR.out.size
      have hglt := HR.out.lt
      by_cases hlt : j < ps.length
      · obtain ⟨p, hp⟩ : ∃ p, ps[j]? = some p := ⟨ps[j], by simp [hlt]⟩
        have hpc := HR.out.cell ((step_at _ ps j).trans hp)
        obtain ⟨hc1, hc2⟩ := hpc
        have hfr := HR.out.free (j * 2)
        have HP := Lib.hid hp; clear hp
        by_cases hcn : p.2 < 0
        · have HN : Hid (PB (wr.setCell ⟨g, j * 2, none⟩ (.string by')) g ((ps.take (j + 1)).map (scrubP (str by')) ++ ps.drop (j + 1))) := Lib.hid (by
            have h1 := HR.out.set ((step_at _ ps j).trans HP.out) (str by')
            rw [bs_str, show ((str by', p.2) : List UInt8 × Int) = scrubP (str by') p by unfold scrubP; rw [if_pos hcn], step_set _ _ _ _ HP.out] at h1
            exact h1)
          go_wp2_with fail
          go_roundw
          case rel => exact ⟨j + 1, by go_num, by omega, HN, Lib.hid (HBR.out.setCell (by show w.heap.size ≤ g; omega) _)⟩
          case measure => simp [intOf]; omega
        · have hcp : 0 ≤ p.2 := by omega
          have HN : Hid (PB wr g ((ps.take (j + 1)).map (scrubP (str by')) ++ ps.drop (j + 1))) := Lib.hid (by
            rw [← step_same (scrubP (str by')) ps j p HP.out (by unfold scrubP; rw [if_neg hcn])]
            exact HR.out)
          clear hcn
          go_wp2_with fail
          go_roundw
          case rel => exact ⟨j + 1, by go_num, by omega, HN, HBR⟩
          case measure => simp [intOf]; omega
      · obtain rfl : j = ps.length := by omega
        have HF : Hid (PB wr g (ps.map (scrubP (str by')))) := Lib.hid (by
          have := HR.out
          rw [List.take_length, List.drop_length, List.append_nil] at this
          exact this)
        have H57 := Lib.hid (f57 (.slice (some ⟨g, 0, none⟩) (ps.map (scrubP (str by'))).length cap) (ps.map (scrubP (str by'))) (by rw [List.length_map]; omega) (by
          intro q hq
          obtain ⟨p, hp, rfl⟩ := List.mem_map.1 hq
          unfold scrubP
          split
          · show (str by').length ≤ _; rw [str_len]; exact hby
          · have := HPP.out p hp; omega) wr (HF.out.parts (by rw [List.length_map]; exact hcap)))
        rw [List.length_map] at H57
        go_wp2_with (go_at_call 57; refine H57.out.mono ?_; rintro en w4 ⟨rfl, hB⟩; have HB4 := Lib.hid hB; clear hB)
        go_ret2
        exact ⟨rfl, HBR.out.trans (HB4.out.mono hbr)⟩

end Go.Proofs.YtaanihidheccfaaDoor
