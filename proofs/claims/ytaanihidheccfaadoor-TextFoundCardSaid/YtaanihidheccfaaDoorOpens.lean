/-
  Arguments opened: a slice of ints reads as a list.
-/
import Derived.Test.YtaanihidheccfaaDoorWalkP
import Derived.ChangeSlices
namespace Go.Proofs.YtaanihidheccfaaDoor
open Go.Shelf Go.RowKit Go.ChangeShapes
set_option linter.unusedVariables false

theorem cells3 : Tryd.prog.cellsOf 3 = 1 := by kernel_rfl
theorem open_intsIn {H : Type} {enc : TypeId × Value → H} {w : World} {sp : Nat → Bool} {held : Bool} {fuel : Nat} {v : Value} {x : DataW H × List MemPlace} (h : DataW.trod enc Tryd.prog w 0 sp held fuel 22 [v] = some x) : ∃ l, IntsIn w v l := by
  rcases open_ints Tryd.underlying22 Tryd.underlying3 cells3 h with ⟨hcs, -⟩ | ⟨a, len, cap, zs, hcs, -, hl, hm, hz, -, hc, -⟩
  · simp at hcs
    subst hcs
    exact ⟨[], none, 0, rfl, by simp, by intro j x h; simp at h⟩
  · simp at hcs
    subst hcs
    have hzl : len ≤ zs.length := by rw [hz]; split <;> omega
    have htl : (zs.take len).length = len := by rw [List.length_take]; omega
    refine ⟨zs.take len, some a, cap, by rw [htl], by rw [htl]; unfold maxLen at hm; omega, ?_⟩
    intro j y hy
    have hj : j < len := by have := (List.getElem?_eq_some_iff.1 hy).1; omega
    rw [List.getElem?_take_of_lt hj] at hy
    have c0 := hc 0 (by omega)
    have cj := hc j (by omega)
    have hspot := World.cell?_spot c0
    have hs : a.spot = none := by simpa [Addr.add] using hspot
    obtain ⟨b, o, s⟩ := a
    simp only at hs
    subst hs
    have ej : (⟨b, o, none⟩ : Addr).add j = ⟨b, o + j, none⟩ := by rw [Addr.add_lit]
    rw [ej] at cj
    have e2 : zs.getD j 0 = y := by rw [List.getD_eq_getElem?_getD, hy]; rfl
    rw [e2] at cj
    exact ⟨b, o, rfl, World.block_lt_of_cell? w ⟨b, o + j, none⟩ cj, cj⟩

end Go.Proofs.YtaanihidheccfaaDoor
