/-
  Copies of slices of pairs of integers: append onto an empty literal; the builtin copy.
-/
import Derived.Test.YtlgpilcjcomacaaHeap
import Derived.Maps.AppendAt
import Derived.Laws.CopyRow
import Derived.OwnWalk
import Derived.Tactics
namespace Go.Proofs.Ytlgpilcjcomacaa
open Go.RowKit Rx
set_option linter.unusedVariables false

theorem infoPair : (Try.prog.info? 40).map (fun i => (i.zero, i.size, i.bytes)) = some (some (.agg #[.int .i64 0, .int .i64 0]), 2, 16) := by kernel_rfl

def ownOf (v : Value) : Nat → Prop := fun k => v.ownBlock = some k
theorem own_slice {g n cap k : Nat} (h : ownOf (.slice (some ⟨g, 0, none⟩) n cap) k) : g = k := by cases h; rfl
theorem owns_empty {w : World} {g : Nat} {e : TypeId} {size : Nat} (h : w.heap[g]? = some (.cells #[] e (0, 0))) : w.ownsRow 0 e size (.slice (some ⟨g, 0, none⟩) 0 0) 0 [] :=
  ⟨by simp, .inr ⟨g, 0, #[], rfl, Nat.zero_le _, h, Nat.le_refl _, by unfold maxLen; omega, by simp, by simp⟩⟩

/-- A copy of a slice of pairs that has an element. -/
theorem wpList_append2 {ops : Array Oper} {rest : List Oper} {o : Oper} {a : Act} {w : World} {Q : Exit → Act → World → Prop} (hgd : o.guard = none) (s x : Operand)
    (ho : o.op = .call { callee := .builtin .append, args := #[s, x], argTypes := #[30, 30] }) (g : Nat) (hs : a.eval s = .slice (some ⟨g, 0, none⟩) 0 0) (hg : w.heap[g]? = some (.cells #[] 40 (0, 0))) (ad : Addr) (n cap : Nat) (hx : a.eval x = .slice (some ad) n cap)
    (cs : List Value) (hl : cs.length = n * 2) (hcell : ∀ j u, cs[j]? = some u → w.cell? (ad.add j) = some u) (h1 : ∀ u ∈ cs, u.oneCell' = true) (hn0 : 0 < n) (hn : n ≤ 100000)
    (h : ∀ b c w', n ≤ c → w'.heap[b]? ≠ none → (∀ j u, cs[j]? = some u → w'.cell? ⟨b, j, none⟩ = some u) → Touch (fun k => k = g) w w' → (b = g ∨ b = w.heap.size) → wpList Try.prog ops Q rest (a.put o.dst (.slice (some ⟨b, 0, none⟩) n c)) w') : wpList Try.prog ops Q (o :: rest) a w := by
  obtain ⟨i0, hi, hz0, hz1, hz2⟩ := info_parts infoPair
  refine wpList_append_own_at w hgd s x 30 ho 0 40 i0 (.agg #[.int .i64 0, .int .i64 0]) 2 16 Try.underlying30 hi hz0 hz1 hz2 rfl (by decide) _ 0 [] hs (owns_empty hg) ad n cap cs hx hl hcell h1 (by unfold maxLen; omega) (by omega) (Nat.zero_le _) ?_
  intro v' w' h2 h3 _ h5
  rw [Nat.zero_add, List.nil_append] at h2
  rcases h2.2 with ⟨rfl, h0⟩ | ⟨b, c, cur, rfl, -, hb, hnc, -, hcz, htk⟩
  · omega
  · refine h b c w' hnc (by rw [hb]; simp) (fun j u hu => ?_) ⟨h3.os, h3.tape, h3.output, h3.size, fun k hk hne => h3.block k hk (fun e => hne (Option.some.inj e))⟩ ?_
    · unfold World.cell?
      have hj : j < cs.length := (List.getElem?_eq_some_iff.1 hu).1
      rw [← htk, List.getElem?_take, if_pos (by omega)] at hu
      simp [hb]
      simpa using hu
    · rcases h5 with h5 | h5
      · exact .inl (Option.some.inj h5)
      · exact .inr (Option.some.inj h5)

theorem run_copy_row2 (w : World) (dT sT ty elem : TypeId) (g o dLen dCap : Nat) (a : Addr) (sLen sCap : Nat) (cur : Array Value) (t : TypeId) (cs : List Value)
    (hu : Try.prog.underlying dT = some (.slice elem)) (hs : (Try.prog.info? elem).map (·.size) = some 2)
    (hg : w.heap[g]? = some (.cells cur t (0, 0))) (n : Nat) (hn : n = Nat.min sLen dLen) (hcs : cs.length = n * 2)
    (hsrc : ∀ j v, cs[j]? = some v → w.cell? (a.add j) = some v) (hfit : o + cs.length ≤ cur.size) (h1 : ∀ v ∈ cs, v.oneCell' = true) :
    (Builtin.copy_ #[dT, sT] ty #[.slice (some ⟨g, o, none⟩) dLen dCap, .slice (some a) sLen sCap]).run Try.prog w =
      .ok (goInt n) (w.setRow g (cur.toList.take o ++ cs ++ cur.toList.drop (o + cs.length)).toArray) := by
  have hl := run_loadCells_list (P := Try.prog) w a cs hsrc
  have hst := run_storeCells_at Try.prog g o t cs 0 cur w hg (by simpa using hfit) h1
  cases hq : Try.prog.info? elem with
  | none => simp [hq] at hs
  | some i =>
    have hi : i.size = 2 := by simpa [hq] using hs
    simp [Builtin.copy_, run_underlying hu, Builtin.lenOf, Builtin.firstCells, sizeOf, typeInfo, hq, hi, ← hn, ← hcs, hl, hst]

/-- All of a slice of pairs written over, from a row of as many. -/
theorem wpList_copy2 {ops : Array Oper} {rest : List Oper} {o : Oper} {a : Act} {w : World} {Q : Exit → Act → World → Prop} (hgd : o.guard = none) (d s : Operand)
    (ho : o.op = .call { callee := .builtin .copy, args := #[d, s], argTypes := #[30, 30] }) (g n c c' : Nat) (ad : Addr) (hd : a.eval d = .slice (some ⟨g, 0, none⟩) n c) (hs : a.eval s = .slice (some ad) n c')
    (cur : Array Value) (t : TypeId) (hg : w.heap[g]? = some (.cells cur t (0, 0))) (cs : List Value) (hl : cs.length = n * 2) (hsz : cur.size = n * 2) (hcell : ∀ j u, cs[j]? = some u → w.cell? (ad.add j) = some u) (h1 : ∀ u ∈ cs, u.oneCell' = true)
    (h : ∀ w', w'.heap[g]? = some (.cells cs.toArray t (0, 0)) → Touch (fun k => k = g) w w' → wpList Try.prog ops Q rest (a.put o.dst (goInt n)) w') : wpList Try.prog ops Q (o :: rest) a w := by
  refine wpList_plain hgd fun K hK => ?_
  have hrun := run_copy_row2 w 30 30 o.type 40 g 0 n c ad n c' cur t cs Try.underlying30 (by kernel_rfl) hg n (Nat.min_self n).symm hl hcell (by omega) h1
  unfold Oper.wp
  simp [execOp, ho, resolve, invoke, builtin, hd, hs, hrun, Result.andThen]
  refine hK _ _ (h _ ?_ ⟨rfl, rfl, rfl, by simp [World.setRow], fun k hk hne => setRow_other w g k _ hne⟩)
  rw [setRow_heap w g cur _ t _ hg]
  simp
  omega
end Go.Proofs.Ytlgpilcjcomacaa
