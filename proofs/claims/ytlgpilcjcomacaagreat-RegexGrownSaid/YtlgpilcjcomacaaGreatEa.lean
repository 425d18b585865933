/-
  What is read of the arguments: an Ask, a Grow.
-/
import Derived.Test.YtlgpilcjcomacaaGreatGa
import Derived.ProofKit
import Derived.OpenShut
import Derived.Deep.Slices
import Derived.ChangeSlices
import Derived.WideShapes
import Derived.SizedLaws
namespace Go.Proofs.YtlgpilcjcomacaaGreat
open Go.RowKit Go.Deep Go.WideShapes
set_option linter.unusedVariables false

section
variable {H : Type} {enc : TypeId × Value → H} {w : World} {sp : Nat → Bool} {held : Bool}

theorem cellsInt : Tryz.prog.cellsOf 3 = 1 := by kernel_rfl
theorem cellsStr : Tryz.prog.cellsOf 9 = 1 := by kernel_rfl
theorem cellsInts : Tryz.prog.cellsOf 26 = 1 := by kernel_rfl

theorem bytesInt : Tryz.prog.bytesOf 3 = 8 := by kernel_rfl

/-- A row of numbers that came in; x: what it reads as; it is not longer than memory. -/
theorem open_row_ints {fuel : Nat} {cs : List Value} {x : DataW H × List MemPlace} (h : DataW.trod enc Tryz.prog w 0 sp held fuel 26 cs = some x) (hb : ∀ n ∈ x.1.weights Tryz.prog 26, n ≤ reachBytes) : ∃ ao len cap, cs = [.slice ao len cap] ∧ IntsIn w ao len cap := by
  rcases open_slice Tryz.underlying26 h with ⟨hcs, _⟩ | ⟨a, len, cap, m, n, D, Pl, hcs, _, hl, hm, hmm, rfl, he⟩
  · exact ⟨none, 0, 0, hcs, ⟨Nat.zero_le _, fun j hj => by omega⟩⟩
  · have h8 := hb (((List.range len).map D).length * 8 + ((List.range (m - len)).map fun j => D (len + j)).length * 8) (by
      simp only [DataW.weights, Tryz.underlying26, bytesInt]
      rw [Nat.add_mul]
      exact List.mem_cons_self ..)
    refine ⟨some a, len, cap, hcs, ⟨?_, fun j hj => ?_⟩⟩
    · have := reachBytes_lt
      simp only [List.length_map, List.length_range] at h8
      omega
    · have hlm : len ≤ m := by rw [hmm]; split <;> omega
      obtain ⟨cs', h1, h2⟩ := he j (by omega)
      rw [cellsInt] at h1
      obtain ⟨y, rfl, _, hw⟩ := DataW.trod_int Tryz.underlying3 h2
      obtain ⟨_, _, hc⟩ := World.cells?_some h1
      have c0 := hc 0 (by omega)
      exact ⟨a, y, rfl, by simpa [Addr.add] using c0, hw⟩

set_option maxRecDepth 100000 in
theorem open_ask {r : Reach} {b0 : Nat} {v : Value} {d : DataW H} {ps : List MemPlace} (hv : Value.okWide Tryz.prog w r b0 23 v) (h : DataW.Trod enc Tryz.prog w 0 sp held 23 v d ps) :
    ∃ (p s y : ByteArray) (fr bu : Int), v = .agg #[.string p, .string s, .string y, .int .i64 fr, .int .i64 bu] ∧ (Lit.int .i64 fr).wf = true ∧ (Lit.int .i64 bu).wf = true ∧ p.size ≤ maxLen ∧ s.size ≤ maxLen ∧ y.size ≤ maxLen := by
  obtain ⟨cs, rfl, hsz⟩ := okWide_struct Tryz.underlying23 hv
  obtain ⟨fuel, hf⟩ := h
  have hcs : (Value.agg cs).cells.toList = cs.toList := by simp [Value.cells]
  rw [hcs] at hf
  obtain ⟨xs, n, _, _, hl, hx, he⟩ := DataW.trod_struct Tryz.underlying23 hf
  rw [show Tryz.prog.cellsOf 23 = 5 by kernel_rfl] at hl
  obtain ⟨cs⟩ := cs
  simp only at hl he
  obtain ⟨c0, c1, c2, c3, c4, rfl⟩ : ∃ c0 c1 c2 c3 c4, cs = [c0, c1, c2, c3, c4] := by
    match cs, hl with
    | [c0, c1, c2, c3, c4], _ => exact ⟨c0, c1, c2, c3, c4, rfl⟩
  have hx : xs.length = 5 := hx
  have hs : ∀ i, i < 5 → ∃ z, xs[i]? = some z := fun i hi => ⟨xs[i]'(by omega), by simp [hx, hi]⟩
  have h0 : DataW.trod enc Tryz.prog w 0 sp held n 9 (([c0, c1, c2, c3, c4].drop 0).take (Tryz.prog.cellsOf 9)) = xs[0]? := he 0 _ rfl
  have h1 : DataW.trod enc Tryz.prog w 0 sp held n 9 (([c0, c1, c2, c3, c4].drop 1).take (Tryz.prog.cellsOf 9)) = xs[1]? := he 1 _ rfl
  have h2 : DataW.trod enc Tryz.prog w 0 sp held n 9 (([c0, c1, c2, c3, c4].drop 2).take (Tryz.prog.cellsOf 9)) = xs[2]? := he 2 _ rfl
  have h3 : DataW.trod enc Tryz.prog w 0 sp held n 3 (([c0, c1, c2, c3, c4].drop 3).take (Tryz.prog.cellsOf 3)) = xs[3]? := he 3 _ rfl
  have h4 : DataW.trod enc Tryz.prog w 0 sp held n 3 (([c0, c1, c2, c3, c4].drop 4).take (Tryz.prog.cellsOf 3)) = xs[4]? := he 4 _ rfl
  rw [cellsStr] at h0 h1 h2
  rw [cellsInt] at h3 h4
  obtain ⟨z0, e0⟩ := hs 0 (by omega); rw [e0] at h0
  obtain ⟨z1, e1⟩ := hs 1 (by omega); rw [e1] at h1
  obtain ⟨z2, e2⟩ := hs 2 (by omega); rw [e2] at h2
  obtain ⟨z3, e3⟩ := hs 3 (by omega); rw [e3] at h3
  obtain ⟨z4, e4⟩ := hs 4 (by omega); rw [e4] at h4
  obtain ⟨p, ep, _, wp⟩ := DataW.trod_string Tryz.underlying9 h0
  obtain ⟨s, es, _, ws⟩ := DataW.trod_string Tryz.underlying9 h1
  obtain ⟨y, ey, _, wy⟩ := DataW.trod_string Tryz.underlying9 h2
  obtain ⟨fr, ef, _, wf⟩ := DataW.trod_int Tryz.underlying3 h3
  obtain ⟨bu, eb, _, wb⟩ := DataW.trod_int Tryz.underlying3 h4
  simp at ep es ey ef eb
  subst ep; subst es; subst ey; subst ef; subst eb
  exact ⟨p, s, y, fr, bu, rfl, wf, wb, wp, ws, wy⟩

/-- A Grow that came in: its rows of numbers, its place, its budget, its text. -/
structure GrowV (w : World) (v : Value) : Prop where
  view : ∃ (a1 a2 : Option Addr) (l1 c1 l2 c2 : Nat) (fr bu : Int) (y : ByteArray), v = .agg #[.slice a1 l1 c1, .slice a2 l2 c2, .int .i64 fr, .int .i64 bu, .string y] ∧ IntsIn w a1 l1 c1 ∧ IntsIn w a2 l2 c2 ∧ (Lit.int .i64 fr).wf = true ∧ (Lit.int .i64 bu).wf = true ∧ y.size ≤ maxLen

set_option maxRecDepth 100000 in
theorem open_grow {r : Reach} {b0 : Nat} {v : Value} {d : DataW H} {ps : List MemPlace} (hv : Value.okWide Tryz.prog w r b0 28 v) (h : DataW.Trod enc Tryz.prog w 0 sp held 28 v d ps) (hb : ∀ n ∈ d.weights Tryz.prog 28, n ≤ reachBytes) : GrowV w v := by
  obtain ⟨cs, rfl, hsz⟩ := okWide_struct Tryz.underlying28 hv
  obtain ⟨fuel, hf⟩ := h
  have hcs : (Value.agg cs).cells.toList = cs.toList := by simp [Value.cells]
  rw [hcs] at hf
  obtain ⟨xs, n, _, hd, hl, hx, he⟩ := DataW.trod_struct Tryz.underlying28 hf
  rw [show Tryz.prog.cellsOf 28 = 5 by kernel_rfl] at hl
  obtain ⟨cs⟩ := cs
  simp only at hl he
  obtain ⟨c0, c1, c2, c3, c4, rfl⟩ : ∃ c0 c1 c2 c3 c4, cs = [c0, c1, c2, c3, c4] := by
    match cs, hl with
    | [c0, c1, c2, c3, c4], _ => exact ⟨c0, c1, c2, c3, c4, rfl⟩
  have hx : xs.length = 5 := hx
  have hs : ∀ i, i < 5 → ∃ z, xs[i]? = some z := fun i hi => ⟨xs[i]'(by omega), by simp [hx, hi]⟩
  have h0 : DataW.trod enc Tryz.prog w 0 sp held n 26 (([c0, c1, c2, c3, c4].drop 0).take (Tryz.prog.cellsOf 26)) = xs[0]? := he 0 _ rfl
  have h1 : DataW.trod enc Tryz.prog w 0 sp held n 26 (([c0, c1, c2, c3, c4].drop 1).take (Tryz.prog.cellsOf 26)) = xs[1]? := he 1 _ rfl
  have h2 : DataW.trod enc Tryz.prog w 0 sp held n 3 (([c0, c1, c2, c3, c4].drop 2).take (Tryz.prog.cellsOf 3)) = xs[2]? := he 2 _ rfl
  have h3 : DataW.trod enc Tryz.prog w 0 sp held n 3 (([c0, c1, c2, c3, c4].drop 3).take (Tryz.prog.cellsOf 3)) = xs[3]? := he 3 _ rfl
  have h4 : DataW.trod enc Tryz.prog w 0 sp held n 9 (([c0, c1, c2, c3, c4].drop 4).take (Tryz.prog.cellsOf 9)) = xs[4]? := he 4 _ rfl
  rw [cellsInts] at h0 h1
  rw [cellsInt] at h2 h3
  rw [cellsStr] at h4
  obtain ⟨z0, e0⟩ := hs 0 (by omega); rw [e0] at h0
  obtain ⟨z1, e1⟩ := hs 1 (by omega); rw [e1] at h1
  obtain ⟨z2, e2⟩ := hs 2 (by omega); rw [e2] at h2
  obtain ⟨z3, e3⟩ := hs 3 (by omega); rw [e3] at h3
  obtain ⟨z4, e4⟩ := hs 4 (by omega); rw [e4] at h4
  have hd1 : d = .agg (xs.map (·.1)) := congrArg Prod.fst hd
  have hb2 : ∀ (j : Nat) (t : TypeId) (z : DataW H × List MemPlace), [26, 26, 3, 3, 9][j]? = some t → xs[j]? = some z → ∀ n ∈ z.1.weights Tryz.prog t, n ≤ reachBytes := fun j t z ht hz n hn => by
    refine hb n ?_
    rw [hd1]
    simp only [DataW.weights, Tryz.underlying28]
    exact DataW.weights_mem_each (j := j) (d := z.1) ht (by rw [List.getElem?_map, hz]; rfl) n hn
  obtain ⟨a1, l1, p1, ep, w1⟩ := open_row_ints h0 (hb2 0 _ _ rfl e0)
  obtain ⟨a2, l2, p2, es, w2⟩ := open_row_ints h1 (hb2 1 _ _ rfl e1)
  obtain ⟨fr, ef, _, wf⟩ := DataW.trod_int Tryz.underlying3 h2
  obtain ⟨bu, eb, _, wb⟩ := DataW.trod_int Tryz.underlying3 h3
  obtain ⟨y, ey, _, wy⟩ := DataW.trod_string Tryz.underlying9 h4
  simp at ep es ey ef eb
  subst ep; subst es; subst ey; subst ef; subst eb
  exact ⟨a1, a2, l1, p1, l2, p2, fr, bu, y, rfl, w1, w2, wf, wb, wy⟩
end
end Go.Proofs.YtlgpilcjcomacaaGreat
