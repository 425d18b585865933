/-
  Rekey: the rows as they are laid anew are a table's rows. No program in sight.
-/
import Derived.Test.YtombofldebmaoaaRekA
namespace Go.Proofs.Ytombofldebmaoaa
open Go.RowKit
set_option linter.unusedVariables false

/-- What has been laid of the rows that were seen. -/
structure RekInv (seen out : List R3) : Prop where
  few : out.length ≤ seen.length
  nums : ∀ q ∈ out, ∃ r ∈ seen, r.2.2 = q.2.2
  sorted : out.Pairwise (fun a b => a.2.2 < b.2.2)
  keys : out.Pairwise (fun a b => a.1 ≠ b.1)
  wf : ∀ q ∈ out, (Lit.int .i64 q.1).wf = true

theorem RekInv.nil : RekInv [] [] := ⟨Nat.le_refl _, by simp, by simp, by simp, by simp⟩

theorem setVal_pair {rs : List R3} {i : Nat} {v : Int} (P : Int × Int → Int × Int → Prop) (h : rs.Pairwise (fun a b => P (a.1, a.2.2) (b.1, b.2.2))) : (setVal rs i v).Pairwise (fun a b => P (a.1, a.2.2) (b.1, b.2.2)) := by
  have c : ∀ l : List R3, l.Pairwise (fun a b => P (a.1, a.2.2) (b.1, b.2.2)) ↔ (l.map (fun r => (r.1, r.2.2))).Pairwise P := fun l => by rw [List.pairwise_map]
  rw [c] at h ⊢
  rw [setVal_keys]; exact h

theorem RekInv.step {seen out : List R3} (h : RekInv seen out) {r : R3} {ps : List P2} (hlt : ∀ q ∈ seen, q.2.2 < r.2.2) (hr : (Lit.int .i64 r.1).wf = true) (hp : ∀ p ∈ ps, (Lit.int .i64 p.2).wf = true) : RekInv (seen ++ [r]) (rekStep ps out r) := by
  have hk : (Lit.int .i64 ((toOf ps r.1).getD r.1)).wf = true := by
    cases ht : toOf ps r.1 with
    | none => exact hr
    | some y =>
      unfold toOf at ht
      obtain ⟨p, hp1, rfl⟩ := Option.map_eq_some_iff.1 ht
      exact hp p (List.mem_of_find?_eq_some hp1)
  unfold rekStep
  cases hf : out.findIdx? (fun q => q.1 == (toOf ps r.1).getD r.1) with
  | some i =>
    refine ⟨by simp only [setVal_length, List.length_append]; have := h.few; omega, ?_, setVal_pair (fun a b => a.2 < b.2) h.sorted, setVal_pair (fun a b => a.1 ≠ b.1) h.keys, ?_⟩
    · intro q hq
      obtain ⟨q', hq', _, e⟩ := setVal_mem hq
      obtain ⟨x, hx, e2⟩ := h.nums q' hq'
      exact ⟨x, List.mem_append_left _ hx, e2.trans e⟩
    · intro q hq
      obtain ⟨q', hq', e, _⟩ := setVal_mem hq
      rw [← e]; exact h.wf q' hq'
  | none =>
    rw [List.findIdx?_eq_none_iff] at hf
    refine ⟨by simp only [List.length_append, List.length_cons, List.length_nil]; have := h.few; omega, ?_, ?_, ?_, ?_⟩
    · intro q hq
      rcases List.mem_append.1 hq with hq | hq
      · obtain ⟨x, hx, e⟩ := h.nums q hq
        exact ⟨x, List.mem_append_left _ hx, e⟩
      · simp only [List.mem_singleton] at hq
        subst hq
        exact ⟨r, by simp, rfl⟩
    · rw [List.pairwise_append]
      refine ⟨h.sorted, by simp, ?_⟩
      intro a ha c hc
      simp only [List.mem_singleton] at hc
      subst hc
      obtain ⟨x, hx, e⟩ := h.nums a ha
      rw [← e]; exact hlt x hx
    · rw [List.pairwise_append]
      refine ⟨h.keys, by simp, ?_⟩
      intro a ha c hc
      simp only [List.mem_singleton] at hc
      subst hc
      have := hf a ha
      simpa using this
    · intro q hq
      rcases List.mem_append.1 hq with hq | hq
      · exact h.wf q hq
      · simp only [List.mem_singleton] at hq
        subst hq
        exact hk

theorem rekRows_take {ps : List P2} {rs : List R3} {j : Nat} {r : R3} (h : rs[j]? = some r) : rekRows ps (rs.take (j + 1)) = rekStep ps (rekRows ps (rs.take j)) r := by
  unfold rekRows
  rw [List.take_add_one, h, List.foldl_append]
  rfl

theorem rekRows_inv {T : PT} (hok : T.ok) {ps : List P2} (hp : ∀ p ∈ ps, (Lit.int .i64 p.2).wf = true) : ∀ j, j ≤ T.rows.length → RekInv (T.rows.take j) (rekRows ps (T.rows.take j)) := by
  intro j
  induction j with
  | zero => intro _; exact RekInv.nil
  | succ j ih =>
    intro hj
    have hjl : j < T.rows.length := by omega
    have hr : T.rows[j]? = some T.rows[j] := by simp [hjl]
    rw [rekRows_take hr, List.take_add_one, hr]
    refine (ih (by omega)).step ?_ (hok.wf _ (List.getElem_mem hjl)) hp
    intro q hq
    obtain ⟨i, hi, e⟩ := List.mem_take_iff_getElem.1 hq
    rw [← e]
    exact (List.pairwise_iff_getElem.1 hok.sorted) i j (by omega) hjl (by omega)

theorem rekRows_ok {T : PT} (hok : T.ok) {ps : List P2} (hp : ∀ p ∈ ps, (Lit.int .i64 p.2).wf = true) (j : Nat) (hj : j ≤ T.rows.length) : ({ T with rows := rekRows ps (T.rows.take j) } : PT).ok := by
  have h := rekRows_inv hok hp j hj
  refine ⟨?_, h.sorted, ?_, h.keys, h.wf⟩
  · have := h.few
    have := hok.few
    rw [List.length_take] at *
    simp only; omega
  · intro q hq
    obtain ⟨r, hr, e⟩ := h.nums q hq
    rw [← e]
    exact hok.nums r (List.mem_of_mem_take hr)

/-- Sorted numbers below n: no more than n of them. -/
theorem sorted_len {rs : List R3} {n : Nat} (hs : rs.Pairwise (fun a b => a.2.2 < b.2.2)) (hn : ∀ r ∈ rs, 0 ≤ r.2.2 ∧ r.2.2 < n) : rs.length ≤ n := by
  have key : ∀ i, (hi : i < rs.length) → (i : Int) ≤ rs[i].2.2 := by
    intro i
    induction i with
    | zero => intro hi; exact (hn _ (List.getElem_mem hi)).1
    | succ i ih =>
      intro hi
      have h1 := ih (by omega)
      have h2 := (List.pairwise_iff_getElem.1 hs) i (i + 1) (by omega) hi (by omega)
      omega
  rcases Nat.eq_zero_or_pos rs.length with h | h
  · omega
  · have h1 := key (rs.length - 1) (by omega)
    have h2 := (hn _ (List.getElem_mem (show rs.length - 1 < rs.length by omega))).2
    omega

end Go.Proofs.Ytombofldebmaoaa
