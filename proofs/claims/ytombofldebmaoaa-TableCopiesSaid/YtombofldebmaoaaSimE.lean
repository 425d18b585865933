/-
  The two tables side by side: Merge, Rekey, Copy. No program in sight.
-/
import Derived.Test.YtombofldebmaoaaSimD
namespace Go.Proofs.Ytombofldebmaoaa
open Go.RowKit
set_option linter.unusedVariables false

theorem PT.ok.put {T : PT} (h : T.ok) {k : Int} (hk : (Lit.int .i64 k).wf = true) (v : Int) : (T.put k v).1.ok := by
  unfold PT.put
  split
  · exact h
  · cases hf : T.rows.findIdx? (fun r => r.1 == k) with
    | some i => exact h.setVal i v
    | none =>
      simp only
      split
      · exact h
      · split
        · exact h
        · rename_i h5
          refine h.add hk ?_ (by have := h.few; omega)
          rw [List.findIdx?_eq_none_iff] at hf
          intro r hr
          simpa using hf r hr

theorem putAll_ok {T : PT} (h : T.ok) {ps : List P2} (hp : ∀ p ∈ ps, (Lit.int .i64 p.1).wf = true) : (putAll T ps).ok := by
  induction ps generalizing T with
  | nil => exact h
  | cons p ps ih => exact ih (h.put (hp p List.mem_cons_self) p.2) (fun q hq => hp q (List.mem_cons_of_mem _ hq))

theorem Sim.putAll {T R : PT} (h : Sim T R) (hok : T.ok) {ps : List P2} (hp : ∀ p ∈ ps, (Lit.int .i64 p.1).wf = true) : Sim (Ytombofldebmaoaa.putAll T ps) (putAllR R ps) := by
  induction ps generalizing T R with
  | nil => exact h
  | cons p ps ih => exact ih (h.put hok p.1 p.2).2 (hok.put (hp p List.mem_cons_self) p.2) (fun q hq => hp q (List.mem_cons_of_mem _ hq))

theorem Sim.merge {T R : PT} (h : Sim T R) (hok : T.ok) {ps : List P2} (hp : ∀ p ∈ ps, (Lit.int .i64 p.1).wf = true) : (T.merge ps).2 = (R.mergeR ps).2 ∧ Sim (T.merge ps).1 (R.mergeR ps).1 := by
  unfold PT.merge PT.mergeR
  rw [h.frozen, h.strict, h.opens, freshN_alike h.rows, h.rows.length]
  split
  · exact ⟨rfl, h⟩
  · split
    · exact ⟨rfl, h⟩
    · split
      · exact ⟨rfl, h⟩
      · exact ⟨rfl, h.putAll hok hp⟩

theorem rekRows_nums (ps : List P2) (rs : List R3) : ∀ q ∈ rekRows ps rs, ∃ r ∈ rs, r.2.2 = q.2.2 := by
  have key : ∀ (xs out : List R3) (seen : List R3), (∀ q ∈ out, ∃ r ∈ seen, r.2.2 = q.2.2) → ∀ q ∈ xs.foldl (rekStep ps) out, ∃ r ∈ seen ++ xs, r.2.2 = q.2.2 := by
    intro xs
    induction xs with
    | nil => intro out seen h q hq; obtain ⟨r, hr, e⟩ := h q hq; exact ⟨r, by simpa using hr, e⟩
    | cons x xs ih =>
      intro out seen h q hq
      have := ih (rekStep ps out x) (seen ++ [x]) ?_ q hq
      · simpa using this
      · intro q hq
        unfold rekStep at hq
        cases hf : out.findIdx? (fun q => q.1 == (toOf ps x.1).getD x.1) with
        | some i =>
          rw [hf] at hq
          obtain ⟨q', hq', _, e⟩ := setVal_mem hq
          obtain ⟨r, hr, e2⟩ := h q' hq'
          exact ⟨r, List.mem_append_left _ hr, e2.trans e⟩
        | none =>
          rw [hf] at hq
          rcases List.mem_append.1 hq with hq | hq
          · obtain ⟨r, hr, e2⟩ := h q hq
            exact ⟨r, List.mem_append_left _ hr, e2⟩
          · simp only [List.mem_singleton] at hq
            subst hq
            exact ⟨x, by simp, rfl⟩
  intro q hq
  have := key rs [] [] (by simp) q hq
  simpa using this

theorem Sim.copied {T R : PT} (h : Sim T R) : Sim (copied T.rows) (copiedR R) := by
  refine ⟨?_, rfl, rfl, rfl, by simp [copiedR, Ytombofldebmaoaa.copied], h.sorted, h.nums⟩
  refine RS.of_get (by simp [Ytombofldebmaoaa.copied, renum_length, copiedR, h.rows.length]) ?_
  intro i a b ha hb
  simp only [Ytombofldebmaoaa.copied, renum, List.getElem?_mapIdx] at ha
  obtain ⟨x, hx, rfl⟩ := Option.map_eq_some_iff.1 ha
  obtain ⟨y, hy, hk, hv, _⟩ := h.rows.get hx
  have hb : R.rows[i]? = some b := hb
  rw [hb] at hy; cases hy
  refine ⟨hk, hv, ?_⟩
  intro s c d hc
  simp [Ytombofldebmaoaa.copied] at hc

end Go.Proofs.Ytombofldebmaoaa
