/-
  TableOnce: the plain law: what one deed leaves of the table and of what was told. No program in sight.
-/
import Derived.Test.YtombofldebmaoaaOrdB
namespace Go.Proofs.Ytombofldebmaoaa
open Go.RowKit
set_option linter.unusedVariables false

theorem bits_nat (x : Int) (c : Nat) (hc : c < 1099511627776) : ∃ k : Nat, bits .and .i64 x c = k ∧ k ≤ c := by
  simp only [Go.bits]
  have h : (BitVec.ofInt IntKind.i64.bits x &&& BitVec.ofInt IntKind.i64.bits (c : Int)).toNat ≤ c := by
    rw [BitVec.toNat_and]
    refine Nat.le_trans Nat.and_le_right ?_
    rw [BitVec.toNat_ofInt]
    simp only [IntKind.bits]
    omega
  generalize (BitVec.ofInt IntKind.i64.bits x &&& BitVec.ofInt IntKind.i64.bits (c : Int)).toNat = m at *
  refine ⟨m, ?_, h⟩
  exact (IntKind.wrap_i64 _).trans (by omega)

/-- The table of TableOnce, its one walk behind number beh; told holds what was told since it was put in. -/
structure OnceT (T : PT) (beh : Int) (told : List Bool) (n : Nat) : Prop where
  next : T.next ≤ n
  len : T.rows.length ≤ n
  walks : T.walks = [(beh, false)]
  frozen : T.frozen = false
  strict : T.strict = false
  keys : ∀ r ∈ T.rows, 0 ≤ r.1 ∧ r.1 ≤ 15
  behind : beh < T.next
  size : told.length = 16
  fresh : ∀ r ∈ T.rows, beh < r.2.2 → told[r.1.toNat]? = some false

theorem setVal_mem {rs : List R3} {i : Nat} {v : Int} {q : R3} (h : q ∈ setVal rs i v) : ∃ r ∈ rs, r.1 = q.1 ∧ r.2.2 = q.2.2 := by
  obtain ⟨j, e⟩ := List.mem_iff_getElem?.1 h
  rw [setVal_get] at e
  obtain ⟨r, hr, e⟩ := Option.map_eq_some_iff.1 e
  refine ⟨r, List.mem_of_getElem? hr, ?_⟩
  subst e
  split <;> exact ⟨rfl, rfl⟩

theorem once_put {T : PT} {beh : Int} {told : List Bool} {n k : Nat} (h : OnceT T beh told n) (hok : T.ok) (hn : n < 500) (hk : k ≤ 15) (v : Int) :
    (T.put k v).2 = 0 ∧ (((getI T.rows k).2 = 3 ∧ OnceT (T.put k v).1 beh (told.set k false) (n + 1)) ∨ ((getI T.rows k).2 = 0 ∧ OnceT (T.put k v).1 beh told (n + 1))) := by
  have h1 := h.len
  have h2 := h.next
  have h3 := h.behind
  cases hf : T.rows.findIdx? (fun r => r.1 == (k : Int)) with
  | some i =>
    obtain ⟨hi, _, _⟩ := List.findIdx?_eq_some_iff_getElem.1 hf
    have e : T.put k v = ({ T with rows := setVal T.rows i v }, 0) := by simp [PT.put, h.frozen, hf]
    have g : (getI T.rows k).2 = 0 := by simp [getI, hf, hi]
    rw [e]
    refine ⟨rfl, .inr ⟨g, by simp only; omega, by simp only [setVal_length]; omega, h.walks, h.frozen, h.strict, ?_, h.behind, h.size, ?_⟩⟩
    · intro q hq
      obtain ⟨r, hr, e1, e2⟩ := setVal_mem hq
      rw [← e1]; exact h.keys r hr
    · intro q hq hb
      obtain ⟨r, hr, e1, e2⟩ := setVal_mem hq
      rw [← e1]; exact h.fresh r hr (by rw [e2]; exact hb)
  | none =>
    have e : T.put k v = (T.add k v, 0) := by
      simp only [PT.put, h.frozen, hf, h.strict]
      rw [if_neg (by simp), if_neg (by simp), if_neg (by omega)]
    have g : (getI T.rows k).2 = 3 := by simp [getI, hf]
    have hne : ∀ r ∈ T.rows, ¬ r.1 = k := by
      rw [List.findIdx?_eq_none_iff] at hf
      intro r hr; simpa using hf r hr
    rw [e]
    have hs := h.size
    refine ⟨rfl, .inl ⟨g, by simp only [PT.add]; omega, by simp only [PT.add, List.length_append, List.length_cons, List.length_nil]; omega, h.walks, h.frozen, h.strict, ?_, by simp only [PT.add]; omega, by simp [hs], ?_⟩⟩
    · intro r hr
      simp only [PT.add, List.mem_append, List.mem_singleton] at hr
      rcases hr with hr | rfl
      · exact h.keys r hr
      · simp only; omega
    · intro r hr hb
      simp only [PT.add, List.mem_append, List.mem_singleton] at hr
      rcases hr with hr | rfl
      · have hk1 := h.keys r hr
        have hk2 := hne r hr
        rw [List.getElem?_set_ne (by omega)]
        exact h.fresh r hr hb
      · simp only [Int.toNat_natCast]
        rw [List.getElem?_set_self (by omega)]

theorem once_del {T : PT} {beh : Int} {told : List Bool} {n : Nat} (h : OnceT T beh told n) (k : Int) : OnceT (T.del k).1 beh told (n + 1) := by
  have h1 := h.len
  have h2 := h.next
  cases hf : T.rows.findIdx? (fun r => r.1 == k) with
  | some i =>
    obtain ⟨hi, _, _⟩ := List.findIdx?_eq_some_iff_getElem.1 hf
    have e : T.del k = (T.drop i, (T.rows[i].2.1, 0)) := by simp [PT.del, h.frozen, hf, hi]
    rw [e]
    have sub := List.eraseIdx_sublist T.rows i
    exact ⟨by simp only [PT.drop]; omega, by simp only [PT.drop, List.length_eraseIdx]; split <;> omega, h.walks, h.frozen, h.strict, fun r hr => h.keys r (sub.mem hr), h.behind, h.size, fun r hr hb => h.fresh r (sub.mem hr) hb⟩
  | none =>
    have e : T.del k = (T, (0, 3)) := by simp [PT.del, h.frozen, hf]
    rw [e]
    exact ⟨by simp only; omega, by simp only; omega, h.walks, h.frozen, h.strict, h.keys, h.behind, h.size, h.fresh⟩

theorem once_next {T : PT} {beh : Int} {told : List Bool} {n : Nat} (h : OnceT T beh told n) (hok : T.ok) :
    nextW T 0 = ([(beh, true)], (0, 0, 14)) ∨ ∃ (k : Nat) (v m : Int), k ≤ 15 ∧ nextW T 0 = ([(m, false)], ((k : Int), v, 0)) ∧ told[k]? = some false ∧ OnceT { T with walks := [(m, false)] } m (told.set k true) (n + 1) := by
  have hu : underB T.walks 0 = true := by rw [h.walks]; rfl
  have h1 := h.len
  have h2 := h.next
  have hs := h.size
  cases hf : T.rows.findIdx? (fun r => decide (beh < r.2.2)) with
  | none =>
    left
    unfold nextW
    rw [hu]
    simp [hf, h.walks]
  | some j =>
    right
    obtain ⟨hj, hb, hbefore⟩ := List.findIdx?_eq_some_iff_getElem.1 hf
    obtain ⟨r, hr⟩ : ∃ r, T.rows[j]? = some r := ⟨T.rows[j], by simp [hj]⟩
    obtain ⟨_, hrj⟩ := List.getElem?_eq_some_iff.1 hr
    have hmem := List.mem_of_getElem? hr
    have hkr := h.keys r hmem
    obtain ⟨k, hk⟩ := Int.eq_ofNat_of_zero_le hkr.1
    have hk : r.1 = (k : Int) := hk
    have hbr : beh < r.2.2 := by rw [hrj] at hb; simpa using hb
    have hfr := h.fresh r hmem hbr
    rw [hk, Int.toNat_natCast] at hfr
    have hnum := hok.nums r hmem
    refine ⟨k, r.2.1, r.2.2, by omega, ?_, hfr, by simp only; omega, by simp only; omega, rfl, h.frozen, h.strict, h.keys, by simp only; omega, by simp [hs], ?_⟩
    · unfold nextW
      rw [hu]
      simp [hf, hr, h.walks, hk]
    · intro q hq hb
      have hkq := h.keys q hq
      have hne : ¬ q.1 = r.1 := by
        intro e
        obtain ⟨i, hi⟩ := List.mem_iff_getElem?.1 hq
        obtain ⟨hil, hie⟩ := List.getElem?_eq_some_iff.1 hi
        rcases Nat.lt_trichotomy i j with hij | hij | hij
        · exact (List.pairwise_iff_getElem.1 hok.keys) i j hil hj hij (by rw [hie, hrj, e])
        · subst hij; rw [hrj] at hie; subst hie; omega
        · exact (List.pairwise_iff_getElem.1 hok.keys) j i hj hil hij (by rw [hie, hrj, e])
      rw [List.getElem?_set_ne (by omega)]
      exact h.fresh q hq (by omega)

theorem over_next {T : PT} {beh : Int} (h : T.walks = [(beh, true)]) : nextW T 0 = ([(beh, true)], (0, 0, 1)) := by
  have hu : underB T.walks 0 = false := by rw [h]; rfl
  unfold nextW
  rw [hu]
  simp [h]

end Go.Proofs.Ytombofldebmaoaa
