/-
  Rekey of the reference: the plain law. No program in sight.
-/
import Derived.Test.YtombofldebmaoaaRekC
namespace Go.Proofs.Ytombofldebmaoaa
open Go.RowKit
set_option linter.unusedVariables false

/-- The rows with their new keys. -/
def ren (ps : List P2) (rs : List R3) : List R3 := rs.map (fun r => ((toOf ps r.1).getD r.1, r.2.1, r.2.2))

theorem ren_length (ps : List P2) (rs : List R3) : (ren ps rs).length = rs.length := by simp [ren]

theorem ren_get {ps : List P2} {rs : List R3} {j : Nat} {r : R3} (h : rs[j]? = some r) : (ren ps rs)[j]? = some ((toOf ps r.1).getD r.1, r.2.1, r.2.2) := by simp [ren, h]

theorem ren_nil (rs : List R3) : ren [] rs = rs := by
  unfold ren
  conv => rhs; rw [← List.map_id rs]
  exact List.map_congr_left (fun r _ => rfl)

def setKey (rs : List R3) (i : Nat) (k : Int) : List R3 := rs.modify i (fun r => (k, r.2.1, r.2.2))

theorem setKey_length (rs : List R3) (i : Nat) (k : Int) : (setKey rs i k).length = rs.length := by simp [setKey]

theorem rowsCells_setKey (rs : List R3) (i : Nat) (k : Int) : (rowsCells rs).set (i * 3) (.int .i64 k) = rowsCells (setKey rs i k) := by
  induction rs generalizing i with
  | nil => simp [rowsCells, setKey]
  | cons x rs ih =>
    cases i with
    | zero => simp [rowsCells_cons, rowCells, setKey]
    | succ i =>
      have e1 : (i + 1) * 3 = (i * 3) + 1 + 1 + 1 := by omega
      have ih := ih i
      unfold setKey at ih ⊢
      rw [e1]
      simp only [rowsCells_cons, rowCells, List.cons_append, List.nil_append, List.set_cons_succ, ih, List.modify_succ_cons]

theorem ren_none {ps : List P2} {rs : List R3} {p : P2} (hn : toOf ps p.1 = none) (h : ∀ r ∈ rs, r.1 ≠ p.1) : ren (ps ++ [p]) rs = ren ps rs := by
  unfold ren
  refine List.map_congr_left (fun r hr => ?_)
  rw [toOf_snoc hn, if_neg (h r hr)]

theorem ren_some {ps : List P2} {rs : List R3} {p : P2} (hn : toOf ps p.1 = none) (hk : rs.Pairwise (fun a b => a.1 ≠ b.1)) {i : Nat} {r : R3} (hr : rs[i]? = some r) (he : r.1 = p.1) : ren (ps ++ [p]) rs = setKey (ren ps rs) i p.2 := by
  apply List.ext_getElem?
  intro j
  unfold setKey
  rw [List.getElem?_modify]
  cases hj : rs[j]? with
  | none =>
    have h1 : (ren (ps ++ [p]) rs)[j]? = none := by simp [ren, hj]
    have h2 : (ren ps rs)[j]? = none := by simp [ren, hj]
    rw [h1, h2]; rfl
  | some q =>
    rw [ren_get hj, ren_get hj, toOf_snoc hn]
    by_cases hij : i = j
    · subst hij
      rw [hr] at hj
      cases hj
      rw [if_pos he]
      simp
    · have hne : q.1 ≠ p.1 := by
        intro e
        obtain ⟨l1, e1⟩ := List.getElem?_eq_some_iff.1 hr
        obtain ⟨l2, e2⟩ := List.getElem?_eq_some_iff.1 hj
        have hp := List.pairwise_iff_getElem.1 hk
        rcases Nat.lt_or_gt_of_ne hij with h | h
        · exact hp i j l1 l2 h (by rw [e1, e2, he, e])
        · exact hp j i l2 l1 h (by rw [e1, e2, he, e])
      rw [if_neg hne]
      simp [hij]

theorem rekMiss_take {rs : List R3} {ps : List P2} {j : Nat} {p : P2} (h : ps[j]? = some p) : rekMiss rs (ps.take (j + 1)) = (rekMiss rs (ps.take j) || decide (atI rs p.1 < 0)) := by
  unfold rekMiss
  rw [take_snoc h, List.any_append]
  simp

theorem mem_atI {rs : List R3} {r : R3} (h : r ∈ rs) : 0 ≤ atI rs r.1 := by
  rcases atI_cases rs r.1 with ⟨_, hf⟩ | ⟨i, q, ha, _⟩
  · rw [List.findIdx?_eq_none_iff] at hf
    have := hf r h
    simp at this
  · omega

theorem toOf_some_mem {ps : List P2} {k y : Int} (h : toOf ps k = some y) : ∃ p ∈ ps, p.1 = k ∧ p.2 = y := by
  unfold toOf at h
  obtain ⟨p, hp1, rfl⟩ := Option.map_eq_some_iff.1 h
  exact ⟨p, List.mem_of_find?_eq_some hp1, by simpa using List.find?_some hp1, rfl⟩

theorem ren_fresh {ps : List P2} {rs : List R3} (hn : (keysOf ps).Nodup) : rekFresh rs ps = true ↔ ∃ q ∈ ren ps rs, atI rs q.1 < 0 := by
  unfold rekFresh
  rw [List.any_eq_true]
  constructor
  · rintro ⟨p, hp, h⟩
    simp only [Bool.and_eq_true, decide_eq_true_eq] at h
    rcases atI_cases rs p.1 with ⟨ha, _⟩ | ⟨i, r, ha, hr, he, _⟩
    · omega
    · refine ⟨_, List.mem_map.2 ⟨r, List.mem_of_getElem? hr, rfl⟩, ?_⟩
      have : toOf ps r.1 = some p.2 := by rw [he]; exact (toOf_mem hn).2 hp
      simp only [this, Option.getD_some]
      exact h.2
  · rintro ⟨q, hq, h⟩
    obtain ⟨r, hr, rfl⟩ := List.mem_map.1 hq
    simp only at h
    have h0 := mem_atI hr
    cases ht : toOf ps r.1 with
    | none => rw [ht] at h; simp only [Option.getD_none] at h; omega
    | some y =>
      rw [ht] at h
      simp only [Option.getD_some] at h
      obtain ⟨p, hp, e1, e2⟩ := toOf_some_mem ht
      refine ⟨p, hp, ?_⟩
      simp only [Bool.and_eq_true, decide_eq_true_eq]
      rw [e1, e2]
      exact ⟨h0, h⟩

theorem rekStep_keys {ps : List P2} {out : List R3} {r : R3} (h : out.Pairwise (fun a b => a.1 ≠ b.1)) : (rekStep ps out r).Pairwise (fun a b => a.1 ≠ b.1) := by
  unfold rekStep
  cases hf : out.findIdx? (fun q => q.1 == (toOf ps r.1).getD r.1) with
  | some i => exact setVal_pair (fun a b => a.1 ≠ b.1) h
  | none =>
    rw [List.findIdx?_eq_none_iff] at hf
    rw [List.pairwise_append]
    refine ⟨h, by simp, ?_⟩
    intro a ha c hc
    simp only [List.mem_singleton] at hc
    subst hc
    simpa using hf a ha

theorem rekStep_length (ps : List P2) (out : List R3) (r : R3) : (rekStep ps out r).length ≤ out.length + 1 := by
  unfold rekStep
  cases out.findIdx? (fun q => q.1 == (toOf ps r.1).getD r.1) with
  | some i => simp only [setVal_length]; omega
  | none => simp

theorem rekRows_keys (ps : List P2) (rs : List R3) : (rekRows ps rs).Pairwise (fun a b => a.1 ≠ b.1) ∧ (rekRows ps rs).length ≤ rs.length := by
  have key : ∀ (rs out : List R3), out.Pairwise (fun a b => a.1 ≠ b.1) → (rs.foldl (rekStep ps) out).Pairwise (fun a b => a.1 ≠ b.1) ∧ (rs.foldl (rekStep ps) out).length ≤ out.length + rs.length := by
    intro rs
    induction rs with
    | nil => intro out h; exact ⟨h, by simp⟩
    | cons r rs ih =>
      intro out h
      have h1 := ih (rekStep ps out r) (rekStep_keys h)
      have h2 := rekStep_length ps out r
      refine ⟨h1.1, ?_⟩
      have := h1.2
      simp only [List.foldl_cons, List.length_cons]
      omega
  have := key rs [] (by simp)
  simpa [rekRows] using this

/-- The last place of a key is its first one. -/
theorem atI_take {rs : List R3} (hk : rs.Pairwise (fun a b => a.1 ≠ b.1)) {k : Nat} {r : R3} (hr : rs[k]? = some r) (x : Int) : atI (rs.take (k + 1)) x = if r.1 = x then (k : Int) else atI (rs.take k) x := by
  have e : rs.take (k + 1) = rs.take k ++ [r] := by rw [List.take_add_one, hr]; rfl
  obtain ⟨hl, e1⟩ := List.getElem?_eq_some_iff.1 hr
  unfold atI
  rw [e, List.findIdx?_append]
  by_cases hx : r.1 = x
  · rw [if_pos hx]
    have hn : (rs.take k).findIdx? (fun r => r.1 == x) = none := by
      rw [List.findIdx?_eq_none_iff]
      intro q hq
      obtain ⟨i, hi, e2⟩ := List.mem_take_iff_getElem.1 hq
      have := List.pairwise_iff_getElem.1 hk i k (by omega) hl (by omega)
      rw [e1, e2, hx] at this
      simpa using this
    rw [hn]
    simp [List.findIdx?_cons, hx]
    omega
  · rw [if_neg hx]
    have hn : ([r] : List R3).findIdx? (fun r => r.1 == x) = none := by simp [List.findIdx?_cons, hx]
    rw [hn]
    cases (rs.take k).findIdx? (fun r => r.1 == x) <;> rfl

theorem rek_set {ps : List P2} {out : List R3} {r : R3} {i : Nat} (h : atI out ((toOf ps r.1).getD r.1) = i) : rekStep ps out r = setVal out i r.2.1 := by
  rcases atI_cases out ((toOf ps r.1).getD r.1) with ⟨ha, _⟩ | ⟨j, q, ha, _, _, hf⟩
  · omega
  · have : j = i := by omega
    subst this
    simp only [rekStep, hf]

theorem rek_snoc {ps : List P2} {out : List R3} {r : R3} (h : atI out ((toOf ps r.1).getD r.1) < 0) : rekStep ps out r = out ++ [((toOf ps r.1).getD r.1, r.2.1, r.2.2)] ∧ ∀ q ∈ out, q.1 ≠ (toOf ps r.1).getD r.1 := by
  rcases atI_cases out ((toOf ps r.1).getD r.1) with ⟨ha, hf⟩ | ⟨j, q, ha, _, _, hf⟩
  · refine ⟨by simp only [rekStep, hf], ?_⟩
    rw [List.findIdx?_eq_none_iff] at hf
    intro q hq
    simpa using hf q hq
  · omega

end Go.Proofs.Ytombofldebmaoaa
