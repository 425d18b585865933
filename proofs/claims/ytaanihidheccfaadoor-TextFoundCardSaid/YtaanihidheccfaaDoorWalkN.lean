/-
  The statements' own: sane, the examples of the chapter.
-/
import Derived.Test.YtaanihidheccfaaDoorWalkM
namespace Go.Proofs.YtaanihidheccfaaDoor
open Go.Shelf Go.RowKit
set_option linter.unusedVariables false

theorem sane_codes : codesL 2 (str ⟨#[195, 169]⟩) = some [233] := by kernel_rfl
theorem sane_scrub : lossyL 2 2 (str ⟨#[63]⟩) (str ⟨#[226, 130, 65]⟩) = [63, 65] := by kernel_rfl
theorem sane_parts : parts 2 (str ⟨#[97, 195, 169]⟩) = [([97], 97), ([195, 169], 233)] := by kernel_rfl

set_option maxRecDepth 100000 in
theorem f15 (w : World) (hT : Lib.Utf8Tabs 0 1 w) (h2 : 2 ≤ w.heap.size) : Calls Tryd.prog 15 #[] w fun en w' => en = .returned (.bool true) ∧ Below w.heap.size w w' := by
  have H18 := Lib.hid (f18 2 (by decide) ⟨#[195, 169]⟩ (by decide) w hT h2)
  rw [sane_codes] at H18
  have HT := Lib.hid hT; clear hT
  go_enter Tryd.func15, Tryd.ntmps15
  go_wp2_with fail
  refine H18.out.mono ?_
  rintro en w2 ⟨⟨v, rfl, ho⟩, hB⟩
  have hz2 := hB.size
  have HT2 := Lib.hid (tabs_below hB h2 HT.out)
  have HB := Lib.hid hB; clear hB
  obtain ⟨g, cap, hg, rfl, hc⟩ : ∃ g cap, g < w2.heap.size ∧ v = .slice (some ⟨g, 0, none⟩) 1 cap ∧ w2.cell? ⟨g, 0, none⟩ = some (.int .i64 233) := by
    rcases ho.2 with ⟨-, h⟩ | ⟨g, cap, cur, hv, hB, hgg, hn, hm, hs, ht⟩
    · exact absurd h (by decide)
    · refine ⟨g, cap, (Array.getElem?_eq_some_iff.1 hgg).1, hv, ?_⟩
      rw [cell_blk hgg, ← Array.getElem?_toList]
      have h3 : (ints [233])[0]? = some (Value.int .i64 233) := rfl
      rw [← ht, List.getElem?_take_of_lt (by decide)] at h3
      exact h3
  clear ho
  have H34 := Lib.hid (f34 ⟨#[226, 130, 65]⟩ ⟨#[63]⟩ (by decide) (by decide) w2 HT2.out (by omega))
  rw [sane_scrub] at H34
  go_wp2_with fail
  refine H34.out.mono ?_
  rintro en w3 ⟨rfl, hB⟩
  have hz3 := hB.size
  have HT3 := Lib.hid (tabs_below hB (by omega) HT2.out)
  have hc3 : w3.cell? ⟨g, 0, none⟩ = some (.int .i64 233) := (hB.cell (p := ⟨g, 0, none⟩) hg).trans hc
  have HB3 := Lib.hid hB; clear hB
  have H37 := Lib.hid (f37_in 2 (-1) (by decide) ⟨#[97, 195, 169]⟩ (by decide) w3 HT3.out (by omega) 1 ([195, 169], 233) (by rw [sane_parts]; decide) (by rw [sane_parts]; rfl))
  go_wp2_with fail
  refine H37.out.mono ?_
  rintro en w4 ⟨rfl, hB⟩
  have hc4 : w4.cell? ⟨g, 0, none⟩ = some (.int .i64 233) := (hB.cell (p := ⟨g, 0, none⟩) (by show g < _; omega)).trans hc3
  have HB4 := Lib.hid hB; clear hB
  have q1 : (bs [63, 65]).toList = [63, 65] := Lib.toList_data _
  have q2 : (bs [195, 169]).toList = [195, 169] := Lib.toList_data _
  go_wp2_with fail
  go_ret
  exact ⟨rfl, (HB.out.trans (HB3.out.mono hz2)).trans (HB4.out.mono (by omega))⟩

end Go.Proofs.YtaanihidheccfaaDoor
