/-
  A table beside other memory of the call's own; the plain law of TableOrder.
-/
import Derived.Test.YtombofldebmaoaaOpens
import Derived.Test.YtombofldebmaoaaFull
namespace Go.Proofs.Ytombofldebmaoaa
open Go.RowKit
set_option linter.unusedVariables false

/-- Table T at block b, made since w0, in no block of X. -/
def Sep (w0 w : World) (b : Nat) (T : PT) (X : Nat → Prop) : Prop := ∃ F, Tab w F b T ∧ (∀ k, F k → w0.heap.size ≤ k ∧ ¬ X k) ∧ Still w0 w

theorem Sep.ok {w0 w : World} {b : Nat} {T : PT} {X : Nat → Prop} (h : Sep w0 w b T X) : T.ok := by obtain ⟨F, h, _, _⟩ := h; exact h.ok
theorem Sep.touch {w0 w : World} {b : Nat} {T : PT} {X : Nat → Prop} (h : Sep w0 w b T X) : Still w0 w := by obtain ⟨F, _, _, h⟩ := h; exact h

theorem Sep.still {w0 w w' : World} {b : Nat} {T : PT} {X : Nat → Prop} (h : Sep w0 w b T X) (ht : Still w w') : Sep w0 w' b T X := by
  obtain ⟨F, h1, h2, h3⟩ := h
  exact ⟨F, h1.still ht, h2, h3.then ht⟩

/-- Other memory of the call's own is written: X before, Y behind. -/
theorem Sep.other {w0 w w' : World} {b : Nat} {T : PT} {X Y S : Nat → Prop} (h : Sep w0 w b T X) (ht : Touch S w w') (hS : ∀ k, S k → X k ∧ w0.heap.size ≤ k) (hY : ∀ k, Y k → X k ∨ w.heap.size ≤ k) : Sep w0 w' b T Y := by
  obtain ⟨F, h1, h2, h3⟩ := h
  refine ⟨F, h1.kept ht (fun k hk hs => (h2 k hk).2 (hS k hs).1), fun k hk => ⟨(h2 k hk).1, fun hy => ?_⟩, h3.trans ht (fun k hk => .inr (hS k hk).2)⟩
  rcases hY k hy with h | h
  · exact (h2 k hk).2 h
  · have := h1.lt k hk; omega

def Apart (w0 : World) (X : Nat → Prop) : Nat → Prop := fun k => w0.heap.size ≤ k ∧ ¬ X k

theorem sep_moves {w0 w w' : World} {F : Nat → Prop} {b : Nat} {T : PT} {X : Nat → Prop} (hF : ∀ k, F k → w0.heap.size ≤ k ∧ ¬ X k) (hs : Still w0 w) (hX : ∀ k, X k → k < w.heap.size) (h : Moves w F b T w') : Sep w0 w' b T X ∧ Touch (Apart w0 X) w w' := by
  obtain ⟨F', t', tt, ts⟩ := h
  have := hs.size
  refine ⟨⟨F', t', fun k hk => ?_, hs.trans tt (fun i hi => .inr (hF i hi).1)⟩, tt.mono (fun k _ hk => hF k hk)⟩
  rcases ts k hk with h | h
  · exact hF k h
  · exact ⟨by omega, fun hx => by have := hX k hx; omega⟩

section
variable {w0 w : World} {b : Nat} {T : PT} {X : Nat → Prop}

theorem put_sep (h : Sep w0 w b T X) (hX : ∀ k, X k → k < w.heap.size) (hn : T.next < 1099511627776) (hl : T.walks.length < 1099511627776) {k : Int} (hk : (Lit.int .i64 k).wf = true) (v : Int) :
    Calls Try.prog 13 #[.pointer (some ⟨b, 0, none⟩), .int .i64 k, .int .i64 v] w fun e w' => e = .returned (.int .i64 (T.put k v).2) ∧ Sep w0 w' b (T.put k v).1 X ∧ Touch (Apart w0 X) w w' := by
  obtain ⟨F, ht, hF, hs⟩ := h
  exact (f13_tab ht hn hl hk v).mono fun _ _ ⟨he, hm⟩ => ⟨he, sep_moves hF hs hX hm⟩

theorem delete_sep (h : Sep w0 w b T X) (hX : ∀ k, X k → k < w.heap.size) (hn : T.next < 1099511627776) {k : Int} (hk : (Lit.int .i64 k).wf = true) :
    Calls Try.prog 15 #[.pointer (some ⟨b, 0, none⟩), .int .i64 k] w fun e w' => e = .returned (.tuple #[.int .i64 (T.del k).2.1, .int .i64 (T.del k).2.2]) ∧ Sep w0 w' b (T.del k).1 X ∧ Touch (Apart w0 X) w w' := by
  obtain ⟨F, ht, hF, hs⟩ := h
  exact (f15_tab ht hn hk).mono fun _ _ ⟨he, hm⟩ => ⟨he, sep_moves hF hs hX hm⟩

theorem rows_sep (h : Sep w0 w b T X) : Calls Try.prog 19 #[.pointer (some ⟨b, 0, none⟩)] w fun e w' => ∃ v, e = .returned v ∧ Pairs w' v (pairsOf T.rows) ∧ Still w w' := by
  obtain ⟨F, ht, hF, hs⟩ := h
  exact (f19_tab ht).mono fun _ _ ⟨v, he, hp, _, hm⟩ => ⟨v, he, hp, hm⟩

theorem next_sep (h : Sep w0 w b T X) (hX : ∀ k, X k → k < w.heap.size) (hl : T.walks.length < 1099511627776) (i : Int) :
    Calls Try.prog 21 #[.pointer (some ⟨b, 0, none⟩), .int .i64 i] w fun e w' => e = .returned (.tuple #[.int .i64 (nextW T i).2.1, .int .i64 (nextW T i).2.2.1, .int .i64 (nextW T i).2.2.2]) ∧ Sep w0 w' b { T with walks := (nextW T i).1 } X ∧ Touch (Apart w0 X) w w' := by
  obtain ⟨F, ht, hF, hs⟩ := h
  exact (f21_tab ht hl i).mono fun _ _ ⟨he, hm⟩ => ⟨he, sep_moves hF hs hX hm⟩

theorem get_sep (h : Sep w0 w b T X) (hn : T.next < 1099511627776) {k : Int} (hk : (Lit.int .i64 k).wf = true) :
    Calls Try.prog 20 #[.pointer (some ⟨b, 0, none⟩), .int .i64 k] w fun e w' => e = .returned (.tuple #[.int .i64 (getI T.rows k).1, .int .i64 (getI T.rows k).2]) ∧ Still w w' := by
  obtain ⟨F, ht, hF, hs⟩ := h
  exact f20_tab ht hn hk
end

/-! ### the plain law -/

/-- want behind the loop that sets the value -/
def upd (k v : Int) (p : P2) : P2 := if p.1 = k then (p.1, v) else p
def has (W : List P2) (k : Int) : Bool := W.any (fun p => p.1 == k)

theorem has_find (rs : List R3) (k : Int) : has (pairsOf rs) k = (rs.findIdx? (fun r => r.1 == k)).isSome := by
  rw [List.findIdx?_isSome]
  simp [has, pairsOf, List.any_map, Function.comp_def]

theorem has_take_succ (W : List P2) (j : Nat) (p : P2) (k : Int) (h : W[j]? = some p) : has (W.take (j + 1)) k = (has (W.take j) k || p.1 == k) := by
  simp [has, List.take_add_one, h]

theorem upd_off {rs : List R3} {k v : Int} (h : rs.findIdx? (fun r => r.1 == k) = none) : (pairsOf rs).map (upd k v) = pairsOf rs := by
  rw [List.findIdx?_eq_none_iff] at h
  unfold pairsOf
  rw [List.map_map]
  refine List.map_congr_left fun r hr => ?_
  have := h r hr
  simp at this
  simp [upd, this]

theorem upd_on {rs : List R3} (hk : rs.Pairwise (fun a b => a.1 ≠ b.1)) {k v : Int} {i : Nat} (h : rs.findIdx? (fun r => r.1 == k) = some i) : (pairsOf rs).map (upd k v) = pairsOf (setVal rs i v) := by
  obtain ⟨hi, he, _⟩ := List.findIdx?_eq_some_iff_getElem.1 h
  have he : rs[i].1 = k := by simpa using he
  apply List.ext_getElem?
  intro j
  simp only [pairsOf, List.getElem?_map, setVal_get]
  cases hj : rs[j]? with
  | none => rfl
  | some r =>
    by_cases hij : i = j
    · subst hij
      have : rs[i] = r := by rw [List.getElem?_eq_getElem hi] at hj; exact Option.some.inj hj
      simp [upd, ← this, he]
    · have hjl : j < rs.length := (List.getElem?_eq_some_iff.1 hj).1
      have hr : rs[j] = r := (List.getElem?_eq_some_iff.1 hj).2
      have hne : ¬ r.1 = k := by
        intro e
        rcases Nat.lt_or_gt_of_ne hij with h | h
        · exact (List.pairwise_iff_getElem.1 hk) i j hi hjl h (by rw [he, hr, e])
        · exact (List.pairwise_iff_getElem.1 hk) j i hjl hi h (by rw [he, hr, e])
      simp [upd, hne, hij]

theorem left_on {rs : List R3} : rs.Pairwise (fun a b => a.1 ≠ b.1) → ∀ {k : Int} {i : Nat}, rs.findIdx? (fun r => r.1 == k) = some i → (pairsOf rs).filter (fun p => p.1 != k) = pairsOf (rs.eraseIdx i) := by
  induction rs with
  | nil => intro _ k i h; simp at h
  | cons x rs ih =>
    intro hk k i h
    rw [List.pairwise_cons] at hk
    by_cases hx : x.1 = k
    · have : i = 0 := by simpa [List.findIdx?_cons, hx] using h.symm
      subst this
      have hno : ∀ r ∈ rs, ¬ r.1 = k := fun r hr e => hk.1 r hr (hx.trans e.symm)
      simp only [pairsOf, List.map_cons, List.filter_cons, hx, bne_self_eq_false, List.eraseIdx_zero, List.tail_cons, Bool.false_eq_true, if_false]
      rw [List.filter_eq_self]
      intro p hp
      obtain ⟨r, hr, rfl⟩ := List.mem_map.1 hp
      simpa using hno r hr
    · have e1 : (x.1 == k) = false := by simpa using hx
      rw [List.findIdx?_cons, e1] at h
      simp only [Bool.false_eq_true, if_false, Option.map_eq_some_iff] at h
      obtain ⟨j, hj, rfl⟩ := h
      have := ih hk.2 hj
      simp only [pairsOf, List.map_cons, List.eraseIdx_cons_succ] at this ⊢
      rw [List.filter_cons]
      simp only [bne_iff_ne, ne_eq, hx, not_false_eq_true, if_true, this]

theorem left_off {rs : List R3} {k : Int} (h : rs.findIdx? (fun r => r.1 == k) = none) : (pairsOf rs).filter (fun p => p.1 != k) = pairsOf rs := by
  rw [List.findIdx?_eq_none_iff] at h
  rw [List.filter_eq_self]
  intro p hp
  obtain ⟨r, hr, rfl⟩ := List.mem_map.1 hp
  have := h r hr
  simpa using this

/-- one deed at the table -/
structure PlainT (T : PT) (n : Nat) : Prop where
  next : T.next ≤ n
  len : T.rows.length ≤ n
  walks : T.walks = []
  frozen : T.frozen = false
  strict : T.strict = false

theorem plain_put {T : PT} {n : Nat} (h : PlainT T n) (hok : T.ok) (hn : n < 500) (k v : Int) : (T.put k v).2 = 0 ∧ PlainT (T.put k v).1 (n + 1) ∧
    pairsOf (T.put k v).1.rows = if has (pairsOf T.rows) k then (pairsOf T.rows).map (upd k v) else (pairsOf T.rows).map (upd k v) ++ [(k, v)] := by
  have h1 := h.len
  have h2 := h.next
  rw [has_find]
  cases hf : T.rows.findIdx? (fun r => r.1 == k) with
  | some i =>
    have e : T.put k v = ({ T with rows := setVal T.rows i v }, 0) := by simp [PT.put, h.frozen, hf]
    rw [e]
    refine ⟨rfl, ⟨by simp only; omega, by simp only [setVal_length]; omega, h.walks, h.frozen, h.strict⟩, ?_⟩
    simp only [Option.isSome_some, if_true]
    exact (upd_on hok.keys hf).symm
  | none =>
    have e : T.put k v = (T.add k v, 0) := by
      simp only [PT.put, h.frozen, hf, h.strict]
      rw [if_neg (by simp), if_neg (by simp), if_neg (by omega)]
    rw [e]
    refine ⟨rfl, ⟨by simp only [PT.add]; omega, by simp only [PT.add, List.length_append, List.length_cons, List.length_nil]; omega, h.walks, h.frozen, h.strict⟩, ?_⟩
    rw [upd_off hf]
    simp [PT.add, pairsOf]

theorem plain_del {T : PT} {n : Nat} (h : PlainT T n) (hok : T.ok) (k : Int) : (T.del k).2.2 = (if has (pairsOf T.rows) k then 0 else 3) ∧ PlainT (T.del k).1 (n + 1) ∧
    pairsOf (T.del k).1.rows = (pairsOf T.rows).filter (fun p => p.1 != k) := by
  have h1 := h.len
  have h2 := h.next
  rw [has_find]
  cases hf : T.rows.findIdx? (fun r => r.1 == k) with
  | some i =>
    obtain ⟨hi, _, _⟩ := List.findIdx?_eq_some_iff_getElem.1 hf
    have e : T.del k = (T.drop i, (T.rows[i].2.1, 0)) := by simp [PT.del, h.frozen, hf, hi]
    rw [e]
    refine ⟨rfl, ⟨by simp only [PT.drop]; omega, by simp only [PT.drop, List.length_eraseIdx]; split <;> omega, h.walks, h.frozen, h.strict⟩, ?_⟩
    exact (left_on hok.keys hf).symm
  | none =>
    have e : T.del k = (T, (0, 3)) := by simp [PT.del, h.frozen, hf]
    rw [e]
    exact ⟨rfl, ⟨by simp only; omega, by simp only; omega, h.walks, h.frozen, h.strict⟩, (left_off hf).symm⟩

end Go.Proofs.Ytombofldebmaoaa
