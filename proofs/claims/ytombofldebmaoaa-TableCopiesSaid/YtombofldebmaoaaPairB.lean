/-
  Bounds of a table while deeds are done. No program in sight.
-/
import Derived.Test.YtombofldebmaoaaSimF
namespace Go.Proofs.Ytombofldebmaoaa
open Go.RowKit
set_option linter.unusedVariables false

structure Bnd (n : Nat) (T : PT) : Prop where
  next : T.next ≤ 500 * n
  walks : T.walks.length ≤ n
  opens : opens T.walks ≤ 20

theorem Bnd.mono {n m : Nat} {T : PT} (h : Bnd n T) (hn : n ≤ m) : Bnd m T := ⟨by have := h.next; omega, by have := h.walks; omega, h.opens⟩

theorem Bnd.up {n : Nat} {T T' : PT} (h : Bnd n T) (hx : T'.next ≤ T.next + 500) (hw : T'.walks = T.walks) : Bnd (n + 1) T' :=
  ⟨by have := h.next; omega, by rw [hw]; have := h.walks; omega, by rw [hw]; exact h.opens⟩

theorem Bnd.same {n : Nat} {T T' : PT} (h : Bnd n T) (hx : T'.next = T.next) (hw : T'.walks = T.walks) : Bnd (n + 1) T' := h.up (by omega) hw

theorem Bnd.new (n : Nat) : Bnd n PT.new := ⟨by simp [PT.new], by simp [PT.new], by simp [PT.new, Ytombofldebmaoaa.opens]⟩

section
variable {n : Nat} {T : PT}

theorem Bnd.put (h : Bnd n T) (k v : Int) : Bnd (n + 1) (T.put k v).1 := h.up (by have := (put_next T k v).1; omega) (put_next T k v).2
theorem Bnd.putR (h : Bnd n T) (k v : Int) : Bnd (n + 1) (T.putR k v).1 := h.up (by have := (putR_next T k v).1; omega) (putR_next T k v).2

theorem del_next (T : PT) (k : Int) : (T.del k).1.next = T.next ∧ (T.del k).1.walks = T.walks := by
  unfold PT.del
  split
  · exact ⟨rfl, rfl⟩
  · split
    · exact ⟨rfl, rfl⟩
    · split <;> exact ⟨rfl, rfl⟩
theorem Bnd.del (h : Bnd n T) (k : Int) : Bnd (n + 1) (T.del k).1 := h.same (del_next T k).1 (del_next T k).2

theorem shift_next (T : PT) : T.shift.1.next = T.next ∧ T.shift.1.walks = T.walks := by
  unfold PT.shift
  split
  · exact ⟨rfl, rfl⟩
  · split <;> exact ⟨rfl, rfl⟩
theorem Bnd.shift (h : Bnd n T) : Bnd (n + 1) T.shift.1 := h.same (shift_next T).1 (shift_next T).2

theorem opens_snoc (ks : List W2) (x : Int) : opens (ks ++ [(x, false)]) = opens ks + 1 := by simp [opens]

theorem Bnd.walk (h : Bnd n T) : Bnd (n + 1) T.walk.1 := by
  unfold PT.walk
  split
  · exact h.mono (by omega)
  · refine ⟨by have := h.next; show T.next ≤ _; omega, by have := h.walks; simp; omega, ?_⟩
    rw [opens_snoc]
    have := h.opens; omega
theorem Bnd.begin (h : Bnd n T) : Bnd (n + 1) T.begin.1 := by
  unfold PT.begin
  split
  · exact h.mono (by omega)
  · refine ⟨by have := h.next; show T.next ≤ _; omega, by have := h.walks; simp; omega, ?_⟩
    rw [opens_snoc]
    have := h.opens; omega

theorem opens_put : ∀ {ks : List W2} {i : Nat} {k : W2}, ks[i]? = some k → ∀ (x : Int) (y : Bool), (k.2 = true → y = true) → opens (ks.set i (x, y)) ≤ opens ks := by
  intro ks
  induction ks with
  | nil => intro i k h; simp at h
  | cons a ks ih =>
    intro i k h x y hy
    cases i with
    | zero =>
      simp at h; subst h
      simp only [List.set_cons_zero, opens, List.filter_cons]
      cases h2 : a.2 with
      | true => rw [hy h2]; simp
      | false =>
        cases y <;> simp
    | succ i =>
      have := ih (by simpa using h) x y hy
      simp only [List.set_cons_succ, opens, List.filter_cons] at this ⊢
      split
      · simp only [List.length_cons]; omega
      · exact this

theorem Bnd.walks_of (h : Bnd n T) (ks : List W2) (hl : ks.length = T.walks.length) (ho : Ytombofldebmaoaa.opens ks ≤ Ytombofldebmaoaa.opens T.walks) : Bnd (n + 1) { T with walks := ks } :=
  ⟨by have := h.next; show T.next ≤ _; omega, by have := h.walks; show ks.length ≤ _; omega, by have := h.opens; show Ytombofldebmaoaa.opens ks ≤ _; omega⟩

theorem Bnd.stop (h : Bnd n T) (i : Int) : Bnd (n + 1) { T with walks := (stopW T.walks i).1 } := by
  unfold stopW
  split
  · cases hk : T.walks[i.toNat]? with
    | none => exact h.walks_of _ rfl (Nat.le_refl _)
    | some k => exact h.walks_of _ (by simp) (opens_put hk _ _ (fun _ => rfl))
  · exact h.walks_of _ rfl (Nat.le_refl _)

theorem Bnd.nxt (h : Bnd n T) (i : Int) : Bnd (n + 1) { T with walks := (nextW T i).1 } := by
  unfold nextW
  split
  · cases hk : T.walks[i.toNat]? with
    | none => exact h.walks_of _ rfl (Nat.le_refl _)
    | some k =>
      simp only
      cases hf : T.rows.findIdx? (fun r => decide (k.1 < r.2.2)) with
      | none => exact h.walks_of _ (by simp) (opens_put hk _ _ (fun _ => rfl))
      | some j =>
        simp only
        cases hj : T.rows[j]? with
        | none => exact h.walks_of _ rfl (Nat.le_refl _)
        | some r => exact h.walks_of _ (by simp) (opens_put hk _ _ (fun h => h))
  · exact h.walks_of _ rfl (Nat.le_refl _)

theorem Bnd.strictly (h : Bnd n T) (on : Bool) : Bnd (n + 1) { T with strict := on } := h.same rfl rfl
theorem Bnd.freeze (h : Bnd n T) : Bnd (n + 1) { T with frozen := true } := h.same rfl rfl

theorem Bnd.rekey (h : Bnd n T) (ps : List P2) : Bnd (n + 1) (T.rekey ps).1 := by
  unfold PT.rekey
  split
  · exact h.mono (by omega)
  · split
    · exact h.mono (by omega)
    · split
      · exact h.mono (by omega)
      · split
        · exact h.mono (by omega)
        · split
          · exact h.mono (by omega)
          · exact h.same rfl rfl

theorem Bnd.merge (h : Bnd n T) (ps : List P2) (hp : ps.length ≤ 500) : Bnd (n + 1) (T.merge ps).1 := by
  unfold PT.merge
  split
  · exact h.mono (by omega)
  · split
    · exact h.mono (by omega)
    · split
      · exact h.mono (by omega)
      · exact h.up (by have := (putAll_next T ps).1; simp only; omega) (putAll_next T ps).2

theorem Bnd.mergeR (h : Bnd n T) (ps : List P2) (hp : ps.length ≤ 500) : Bnd (n + 1) (T.mergeR ps).1 := by
  unfold PT.mergeR
  split
  · exact h.mono (by omega)
  · split
    · exact h.mono (by omega)
    · split
      · exact h.mono (by omega)
      · exact h.up (by have := (putAllR_next T ps).1; simp only; omega) (putAllR_next T ps).2
end

/-- Two tables alike, and small. -/
structure Both (n : Nat) (T R : PT) : Prop where
  sim : Sim T R
  bt : Bnd n T
  br : Bnd n R

theorem Both.new (n : Nat) : Both n PT.new PT.new := ⟨Sim.new, Bnd.new n, Bnd.new n⟩
theorem Both.mono {n m : Nat} {T R : PT} (h : Both n T R) (hn : n ≤ m) : Both m T R := ⟨h.sim, h.bt.mono hn, h.br.mono hn⟩

section
variable {n : Nat} {T R : PT}
theorem Both.put (h : Both n T R) (hok : T.ok) (k v : Int) : (T.put k v).2 = (R.putR k v).2 ∧ Both (n + 1) (T.put k v).1 (R.putR k v).1 := ⟨(h.sim.put hok k v).1, (h.sim.put hok k v).2, h.bt.put k v, h.br.putR k v⟩
theorem Both.del (h : Both n T R) (k : Int) : (T.del k).2 = (R.del k).2 ∧ Both (n + 1) (T.del k).1 (R.del k).1 := ⟨(h.sim.del k).1, (h.sim.del k).2, h.bt.del k, h.br.del k⟩
theorem Both.shift (h : Both n T R) : T.shift.2 = R.shift.2 ∧ Both (n + 1) T.shift.1 R.shift.1 := ⟨h.sim.shift.1, h.sim.shift.2, h.bt.shift, h.br.shift⟩
theorem Both.begin (h : Both n T R) (hok : T.ok) : T.walk.2 = R.begin.2 ∧ Both (n + 1) T.walk.1 R.begin.1 := ⟨(h.sim.begin hok h.bt.opens).1, (h.sim.begin hok h.bt.opens).2, h.bt.walk, h.br.begin⟩
theorem Both.next (h : Both n T R) (hok : T.ok) (i : Int) : (nextW T i).2 = (nextW R i).2 ∧ Both (n + 1) { T with walks := (nextW T i).1 } { R with walks := (nextW R i).1 } := ⟨(h.sim.next hok i).1, (h.sim.next hok i).2, h.bt.nxt i, h.br.nxt i⟩
theorem Both.stop (h : Both n T R) (i : Int) : (stopW T.walks i).2 = (stopW R.walks i).2 ∧ Both (n + 1) { T with walks := (stopW T.walks i).1 } { R with walks := (stopW R.walks i).1 } := ⟨(h.sim.stop i).1, (h.sim.stop i).2, h.bt.stop i, h.br.stop i⟩
theorem Both.strictly (h : Both n T R) (on : Bool) : Both (n + 1) { T with strict := on } { R with strict := on } := ⟨h.sim.strictly on, h.bt.strictly on, h.br.strictly on⟩
theorem Both.freeze (h : Both n T R) : Both (n + 1) { T with frozen := true } { R with frozen := true } := ⟨h.sim.freeze, h.bt.freeze, h.br.freeze⟩
theorem Both.rekey (h : Both n T R) (ps : List P2) : (T.rekey ps).2 = (R.rekey ps).2 ∧ Both (n + 1) (T.rekey ps).1 (R.rekey ps).1 := ⟨(h.sim.rekey ps).1, (h.sim.rekey ps).2, h.bt.rekey ps, h.br.rekey ps⟩
theorem Both.merge (h : Both n T R) (hok : T.ok) {ps : List P2} (hp : ∀ p ∈ ps, (Lit.int .i64 p.1).wf = true) (hl : ps.length ≤ 500) : (T.merge ps).2 = (R.mergeR ps).2 ∧ Both (n + 1) (T.merge ps).1 (R.mergeR ps).1 := ⟨(h.sim.merge hok hp).1, (h.sim.merge hok hp).2, h.bt.merge ps hl, h.br.mergeR ps hl⟩
end

theorem RS.keys {p : Int → Int → Prop} {xs ys : List R3} (h : RS p xs ys) : xs.map (fun r => r.1) = ys.map (fun r => r.1) := by
  induction h with
  | nil => rfl
  | cons hk hv hp h ih => simp only [List.map_cons, hk, ih]

theorem Sim.keys {T R : PT} (h : Sim T R) (hok : T.ok) : R.rows.Pairwise (fun a b => a.1 ≠ b.1) := by
  have c : ∀ l : List R3, l.Pairwise (fun a b => a.1 ≠ b.1) ↔ (l.map (fun r => r.1)).Pairwise (fun a b => a ≠ b) := fun l => by rw [List.pairwise_map]
  rw [c, ← h.rows.keys, ← c]
  exact hok.keys

end Go.Proofs.Ytombofldebmaoaa
