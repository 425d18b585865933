/-
  Two lists of rows alike in keys and values, their numbers in a relation: what the changes of a table keep. No program in sight.
-/
import Derived.Test.YtombofldebmaoaaRekC
import Derived.Test.YtombofldebmaoaaMergeB
namespace Go.Proofs.Ytombofldebmaoaa
open Go.RowKit
set_option linter.unusedVariables false

inductive RS (pos : Int → Int → Prop) : List R3 → List R3 → Prop
  | nil : RS pos [] []
  | cons {a b : R3} {xs ys : List R3} (hk : a.1 = b.1) (hv : a.2.1 = b.2.1) (hp : pos a.2.2 b.2.2) (h : RS pos xs ys) : RS pos (a :: xs) (b :: ys)

namespace RS
variable {pos : Int → Int → Prop} {xs ys : List R3}

theorem pairs (h : RS pos xs ys) : pairsOf xs = pairsOf ys := by
  induction h with
  | nil => rfl
  | cons hk hv hp h ih => simp only [pairsOf, List.map_cons] at ih ⊢; rw [hk, hv, ih]

theorem length (h : RS pos xs ys) : xs.length = ys.length := by
  induction h with
  | nil => rfl
  | cons hk hv hp h ih => simp [ih]

theorem find (h : RS pos xs ys) (k : Int) : xs.findIdx? (fun r => r.1 == k) = ys.findIdx? (fun r => r.1 == k) := by
  induction h with
  | nil => rfl
  | cons hk hv hp h ih => rw [List.findIdx?_cons, List.findIdx?_cons, hk, ih]

theorem atI (h : RS pos xs ys) (k : Int) : Ytombofldebmaoaa.atI xs k = Ytombofldebmaoaa.atI ys k := by unfold Ytombofldebmaoaa.atI; rw [h.find k]

theorem get (h : RS pos xs ys) : ∀ {i : Nat} {a : R3}, xs[i]? = some a → ∃ b, ys[i]? = some b ∧ a.1 = b.1 ∧ a.2.1 = b.2.1 ∧ pos a.2.2 b.2.2 := by
  induction h with
  | nil => intro i a h; simp at h
  | cons hk hv hp h ih =>
    intro i a h
    cases i with
    | zero => simp at h; subst h; exact ⟨_, rfl, hk, hv, hp⟩
    | succ i => exact ih (by simpa using h)

theorem none (h : RS pos xs ys) {i : Nat} (hi : xs[i]? = none) : ys[i]? = none := by
  rw [List.getElem?_eq_none_iff] at hi ⊢
  rw [← h.length]; exact hi

theorem set (h : RS pos xs ys) (v : Int) : ∀ i, RS pos (setVal xs i v) (setVal ys i v) := by
  induction h with
  | nil => intro i; simp only [setVal, List.modify_nil]; exact .nil
  | cons hk hv hp h ih =>
    intro i
    cases i with
    | zero => simp only [setVal, List.modify_zero_cons]; exact .cons hk rfl hp h
    | succ i => simp only [setVal, List.modify_succ_cons]; exact .cons hk hv hp (ih i)

theorem erase (h : RS pos xs ys) : ∀ i, RS pos (xs.eraseIdx i) (ys.eraseIdx i) := by
  induction h with
  | nil => intro i; simp only [List.eraseIdx_nil]; exact .nil
  | cons hk hv hp h ih =>
    intro i
    cases i with
    | zero => simpa using h
    | succ i => simp only [List.eraseIdx_cons_succ]; exact .cons hk hv hp (ih i)

theorem snoc (h : RS pos xs ys) {a b : R3} (hk : a.1 = b.1) (hv : a.2.1 = b.2.1) (hp : pos a.2.2 b.2.2) : RS pos (xs ++ [a]) (ys ++ [b]) := by
  induction h with
  | nil => exact .cons hk hv hp .nil
  | cons hk' hv' hp' h ih => exact .cons hk' hv' hp' ih

theorem imp {pos' : Int → Int → Prop} (h : RS pos xs ys) (hi : ∀ a b, pos a b → pos' a b) : RS pos' xs ys := by
  induction h with
  | nil => exact .nil
  | cons hk hv hp h ih => exact .cons hk hv (hi _ _ hp) ih

theorem rekStep {oa ob : List R3} (h : RS pos oa ob) {a b : R3} (hk : a.1 = b.1) (hv : a.2.1 = b.2.1) (hp : pos a.2.2 b.2.2) (ps : List P2) : RS pos (Ytombofldebmaoaa.rekStep ps oa a) (Ytombofldebmaoaa.rekStep ps ob b) := by
  unfold Ytombofldebmaoaa.rekStep
  rw [hk, h.find]
  cases ob.findIdx? (fun q => q.1 == (toOf ps b.1).getD b.1) with
  | some i => simp only [hv]; exact h.set _ i
  | none => exact h.snoc rfl hv hp

theorem rek (h : RS pos xs ys) (ps : List P2) : RS pos (rekRows ps xs) (rekRows ps ys) := by
  have key : ∀ {oa ob : List R3}, RS pos oa ob → RS pos (xs.foldl (Ytombofldebmaoaa.rekStep ps) oa) (ys.foldl (Ytombofldebmaoaa.rekStep ps) ob) := by
    induction h with
    | nil => intro oa ob ho; exact ho
    | cons hk hv hp h ih => intro oa ob ho; exact ih (ho.rekStep hk hv hp ps)
  exact key .nil

end RS
end Go.Proofs.Ytombofldebmaoaa
