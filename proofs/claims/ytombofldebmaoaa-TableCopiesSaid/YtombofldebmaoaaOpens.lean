/-
  What is read of the arguments: slices of pairs, slices of deeds.
-/
import Derived.Test.YtombofldebmaoaaOwn
import Derived.ProofKit
import Derived.OpenShut
import Derived.Deep.Slices
namespace Go.Proofs.Ytombofldebmaoaa
open Go.RowKit Go.Deep
set_option linter.unusedVariables false

section
variable {H : Type} {enc : TypeId × Value → H} {w : World} {sp : Nat → Bool} {held : Bool}

theorem cells37 : Try.prog.cellsOf 37 = 2 := by kernel_rfl
theorem cells36 : Try.prog.cellsOf 36 = 4 := by kernel_rfl
theorem cells34 : Try.prog.cellsOf 34 = 1 := by kernel_rfl

theorem open_pair {fuel : Nat} {cs : List Value} {x : DataW H × List MemPlace} (h : DataW.trod enc Try.prog w 0 sp held fuel 37 cs = some x) :
    ∃ a b : Int, cs = [.int .i64 a, .int .i64 b] ∧ (Lit.int .i64 a).wf = true ∧ (Lit.int .i64 b).wf = true := by
  obtain ⟨xs, m, _, _, hl, hx, he⟩ := DataW.trod_array Try.underlying37 h
  rw [cells37] at hl
  rw [cells3] at he
  obtain ⟨c0, c1, rfl⟩ : ∃ c0 c1, cs = [c0, c1] := by
    match cs, hl with
    | [c0, c1], _ => exact ⟨c0, c1, rfl⟩
  obtain ⟨x0, hx0⟩ : ∃ x0, xs[0]? = some x0 := ⟨xs[0], by simp [hx]⟩
  obtain ⟨x1, hx1⟩ : ∃ x1, xs[1]? = some x1 := ⟨xs[1], by simp [hx]⟩
  have h0 := he 0 (by omega)
  have h1 := he 1 (by omega)
  rw [hx0] at h0
  rw [hx1] at h1
  obtain ⟨a, ea, _, wa⟩ := DataW.trod_int Try.underlying3 h0
  obtain ⟨b, eb, _, wb⟩ := DataW.trod_int Try.underlying3 h1
  simp at ea eb
  subst ea; subst eb
  exact ⟨a, b, rfl, wa, wb⟩

/-- The pairs of a slice that came in. -/
structure PairsIn (w : World) (v : Value) (ps : List P2) : Prop where
  pairs : Pairs w v ps
  wf : ∀ p ∈ ps, (Lit.int .i64 p.1).wf = true ∧ (Lit.int .i64 p.2).wf = true
  len : ps.length ≤ maxLen

theorem add_mk (a : Addr) (h : a.spot = none) (j : Nat) : a.add j = ⟨a.block, a.off + j, none⟩ := by
  obtain ⟨b, o, s⟩ := a
  simp only at h; subst h
  unfold Addr.add
  split
  · rename_i h; subst h; rfl
  · rfl

theorem spot_of_cell {a : Addr} {v : Value} (h : w.cell? a = some v) : a.spot = none := by
  unfold World.cell? at h
  split at h
  · split at h
    · cases h
    · rename_i hs; simpa using hs
  · cases h

theorem open_pairs34 {fuel : Nat} {v : Value} {x : DataW H × List MemPlace} (h : DataW.trod enc Try.prog w 0 sp held fuel 34 [v] = some x) : ∃ ps, PairsIn w v ps := by
  rcases open_slice Try.underlying34 h with ⟨hcs, _⟩ | ⟨a, len, cap, m, n, D, Pl, hcs, _, hl, hm, hmm, _, he⟩
  · simp at hcs; subst hcs
    exact ⟨[], ⟨⟨none, 0, rfl, Nat.le_refl _, by intro i p h; simp at h⟩, by simp, by simp⟩⟩
  · simp at hcs; subst hcs
    rw [cells37] at he
    have hlm : len ≤ m := by rw [hmm]; split <;> omega
    have key : ∀ i, i < len → ∃ p : P2, (w.cell? (a.add (i * 2)) = some (.int .i64 p.1) ∧ w.cell? ((a.add (i * 2)).add 1) = some (.int .i64 p.2)) ∧ (Lit.int .i64 p.1).wf = true ∧ (Lit.int .i64 p.2).wf = true := by
      intro i hi
      obtain ⟨cs', h1, h2⟩ := he i (by omega)
      obtain ⟨p, q, rfl, w1, w2⟩ := open_pair h2
      obtain ⟨_, _, hc⟩ := World.cells?_some h1
      have c0 := hc 0 (by omega)
      have c1 := hc 1 (by omega)
      refine ⟨(p, q), ⟨?_, ?_⟩, w1, w2⟩
      · simpa [Addr.add] using c0
      · simpa using c1
    obtain ⟨f, hf⟩ := choose_lt (α := P2) key
    refine ⟨(List.range len).map f, ⟨⟨some a, cap, by simp, by simpa using hl, ?_⟩, ?_, ?_⟩⟩
    · intro i p hp
      have hi : i < len := by have := (List.getElem?_eq_some_iff.1 hp).1; simpa using this
      have e : p = f i := by simp [hi] at hp; exact hp.symm
      subst e
      have h0 : a.spot = none := by
        have c := (hf 0 (by omega)).1.1
        rw [Nat.zero_mul] at c
        have := spot_of_cell c
        simpa [Addr.add] using this
      have c := (hf i hi).1
      have e1 := add_mk a h0 (i * 2)
      rw [e1] at c
      have e2 := add_mk ⟨a.block, a.off + i * 2, none⟩ rfl 1
      rw [e2] at c
      refine ⟨a.block, a.off, ?_, World.block_lt_of_cell? w ⟨a.block, a.off + i * 2, none⟩ c.1, c.1, c.2⟩
      obtain ⟨b, o, s⟩ := a
      simp only at h0; subst h0; rfl
    · intro p hp
      obtain ⟨i, hi, rfl⟩ := List.mem_map.1 hp
      exact (hf i (List.mem_range.1 hi)).2
    · simp; omega

/-- A deed: what, A, B, the pairs' value, the pairs. -/
structure DD where
  d : Int
  a : Int
  b : Int
  pv : Value
  ps : List P2

structure DD.ok (w : World) (x : DD) : Prop where
  wd : (Lit.int .i64 x.d).wf = true
  wa : (Lit.int .i64 x.a).wf = true
  wb : (Lit.int .i64 x.b).wf = true
  wp : PairsIn w x.pv x.ps

theorem open_deed {fuel : Nat} {cs : List Value} {x : DataW H × List MemPlace} (h : DataW.trod enc Try.prog w 0 sp held fuel 36 cs = some x) :
    ∃ y : DD, cs = [.int .i64 y.d, .int .i64 y.a, .int .i64 y.b, y.pv] ∧ y.ok w := by
  obtain ⟨xs, n, _, _, hl, hx, he⟩ := DataW.trod_struct Try.underlying36 h
  rw [cells36] at hl
  obtain ⟨c0, c1, c2, c3, rfl⟩ : ∃ c0 c1 c2 c3, cs = [c0, c1, c2, c3] := by
    match cs, hl with
    | [c0, c1, c2, c3], _ => exact ⟨c0, c1, c2, c3, rfl⟩
  have hx : xs.length = 4 := hx
  obtain ⟨x0, hx0⟩ : ∃ x0, xs[0]? = some x0 := ⟨xs[0], by simp [hx]⟩
  obtain ⟨x1, hx1⟩ : ∃ x1, xs[1]? = some x1 := ⟨xs[1], by simp [hx]⟩
  obtain ⟨x2, hx2⟩ : ∃ x2, xs[2]? = some x2 := ⟨xs[2], by simp [hx]⟩
  obtain ⟨x3, hx3⟩ : ∃ x3, xs[3]? = some x3 := ⟨xs[3], by simp [hx]⟩
  have h0 : DataW.trod enc Try.prog w 0 sp held n 3 (([c0, c1, c2, c3].drop 0).take (Try.prog.cellsOf 3)) = xs[0]? := he 0 _ rfl
  have h1 : DataW.trod enc Try.prog w 0 sp held n 3 (([c0, c1, c2, c3].drop 1).take (Try.prog.cellsOf 3)) = xs[1]? := he 1 _ rfl
  have h2 : DataW.trod enc Try.prog w 0 sp held n 3 (([c0, c1, c2, c3].drop 2).take (Try.prog.cellsOf 3)) = xs[2]? := he 2 _ rfl
  have h3 : DataW.trod enc Try.prog w 0 sp held n 34 (([c0, c1, c2, c3].drop 3).take (Try.prog.cellsOf 34)) = xs[3]? := he 3 _ rfl
  rw [cells3] at h0 h1 h2
  rw [cells34] at h3
  rw [hx0] at h0
  rw [hx1] at h1
  rw [hx2] at h2
  rw [hx3] at h3
  obtain ⟨a, ea, _, wa⟩ := DataW.trod_int Try.underlying3 h0
  obtain ⟨b, eb, _, wb⟩ := DataW.trod_int Try.underlying3 h1
  obtain ⟨c, ec, _, wc⟩ := DataW.trod_int Try.underlying3 h2
  simp at ea eb ec
  subst ea; subst eb; subst ec
  obtain ⟨ps, hp⟩ := open_pairs34 (v := c3) (by simpa using h3)
  exact ⟨⟨a, b, c, c3, ps⟩, rfl, ⟨wa, wb, wc, hp⟩⟩

/-- The deeds of a slice that came in. -/
structure Deeds (w : World) (v : Value) (ds : List DD) : Prop where
  view : ∃ ao cap, v = .slice ao ds.length cap ∧ ds.length ≤ cap ∧ cap ≤ maxLen ∧ ∀ i x, ds[i]? = some x → ∃ g o, ao = some ⟨g, o, none⟩ ∧ g < w.heap.size ∧
    w.cell? ⟨g, o + i * 4, none⟩ = some (.int .i64 x.d) ∧ w.cell? ⟨g, o + i * 4 + 1, none⟩ = some (.int .i64 x.a) ∧ w.cell? ⟨g, o + i * 4 + 2, none⟩ = some (.int .i64 x.b) ∧ w.cell? ⟨g, o + i * 4 + 3, none⟩ = some x.pv
  ok : ∀ x ∈ ds, x.ok w

instance : Inhabited DD := ⟨⟨0, 0, 0, .nilIface, []⟩⟩

theorem open_deeds {fuel : Nat} {v : Value} {x : DataW H × List MemPlace} (h : DataW.trod enc Try.prog w 0 sp held fuel 33 [v] = some x) : ∃ ds, Deeds w v ds := by
  rcases open_slice Try.underlying33 h with ⟨hcs, _⟩ | ⟨a, len, cap, m, n, D, Pl, hcs, _, hl, hm, hmm, _, he⟩
  · simp at hcs; subst hcs
    exact ⟨[], ⟨⟨none, 0, rfl, Nat.le_refl _, Nat.zero_le _, by intro i p h; simp at h⟩, by simp⟩⟩
  · simp at hcs; subst hcs
    rw [cells36] at he
    have hlm : len ≤ m := by rw [hmm]; split <;> omega
    have key : ∀ i, i < len → ∃ y : DD, (w.cell? (a.add (i * 4)) = some (.int .i64 y.d) ∧ w.cell? ((a.add (i * 4)).add 1) = some (.int .i64 y.a) ∧ w.cell? ((a.add (i * 4)).add 2) = some (.int .i64 y.b) ∧ w.cell? ((a.add (i * 4)).add 3) = some y.pv) ∧ y.ok w := by
      intro i hi
      obtain ⟨cs', h1, h2⟩ := he i (by omega)
      obtain ⟨y, rfl, hy⟩ := open_deed h2
      obtain ⟨_, _, hc⟩ := World.cells?_some h1
      have c0 := hc 0 (by omega)
      have c1 := hc 1 (by omega)
      have c2 := hc 2 (by omega)
      have c3 := hc 3 (by omega)
      refine ⟨y, ⟨?_, ?_, ?_, ?_⟩, hy⟩
      · simpa [Addr.add] using c0
      · simpa using c1
      · simpa using c2
      · simpa using c3
    obtain ⟨f, hf⟩ := choose_lt (α := DD) key
    refine ⟨(List.range len).map f, ⟨⟨some a, cap, by simp, by simpa using hl, hm, ?_⟩, ?_⟩⟩
    · intro i p hp
      have hi : i < len := by have := (List.getElem?_eq_some_iff.1 hp).1; simpa using this
      have e : p = f i := by simp [hi] at hp; exact hp.symm
      subst e
      have h0 : a.spot = none := by
        have c := (hf 0 (by omega)).1.1
        rw [Nat.zero_mul] at c
        have := spot_of_cell c
        simpa [Addr.add] using this
      have c := (hf i hi).1
      have e1 := add_mk a h0 (i * 4)
      rw [e1] at c
      have e2 := fun j => add_mk ⟨a.block, a.off + i * 4, none⟩ rfl j
      rw [e2, e2, e2] at c
      refine ⟨a.block, a.off, ?_, World.block_lt_of_cell? w ⟨a.block, a.off + i * 4, none⟩ c.1, c.1, c.2⟩
      obtain ⟨b, o, s⟩ := a
      simp only at h0; subst h0; rfl
    · intro p hp
      obtain ⟨i, hi, rfl⟩ := List.mem_map.1 hp
      exact (hf i (List.mem_range.1 hi)).2

end
end Go.Proofs.Ytombofldebmaoaa
