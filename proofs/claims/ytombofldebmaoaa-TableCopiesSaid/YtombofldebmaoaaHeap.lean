/-
  Heap words of this seat: what a call may touch; a table of the program in memory; a table of the reference in memory. No walk here.
-/
import Derived.Test.YtombofldebmaoaaRows
import Derived.WalkKit
import Derived.WalkSpells
import Derived.WalkLawsBesides
import Derived.Maps.OwnSet
import Derived.Lib.Hide
import Derived.Handy
namespace Go.Proofs.Ytombofldebmaoaa
open Go.RowKit Go.Maps

/-- From w to w' only blocks of S, and new ones, have turned. -/
structure Touch (S : Nat → Prop) (w w' : World) : Prop where
  os : w'.os = w.os
  tape : w'.tape = w.tape
  output : w'.output = w.output
  size : w.heap.size ≤ w'.heap.size
  block : ∀ k, k < w.heap.size → ¬ S k → w'.heap[k]? = w.heap[k]?

theorem Touch.refl (S : Nat → Prop) (w : World) : Touch S w w := ⟨rfl, rfl, rfl, Nat.le_refl _, fun _ _ _ => rfl⟩

theorem Touch.trans {S S1 : Nat → Prop} {a b c : World} (h : Touch S a b) (k : Touch S1 b c) (hs : ∀ i, S1 i → S i ∨ a.heap.size ≤ i) : Touch S a c :=
  ⟨k.os.trans h.os, k.tape.trans h.tape, k.output.trans h.output, Nat.le_trans h.size k.size, fun i hi hn =>
    (k.block i (Nat.lt_of_lt_of_le hi h.size) (fun h1 => by rcases hs i h1 with h2 | h2; exact hn h2; omega)).trans (h.block i hi hn)⟩

theorem Touch.mono {S S1 : Nat → Prop} {a b : World} (h : Touch S a b) (hs : ∀ i, i < a.heap.size → S i → S1 i) : Touch S1 a b :=
  ⟨h.os, h.tape, h.output, h.size, fun i hi hn => h.block i hi (fun h1 => hn (hs i hi h1))⟩

theorem Touch.then {S : Nat → Prop} {a b c : World} (h : Touch S a b) (k : Touch S b c) : Touch S a c := h.trans k (fun _ h => .inl h)

theorem Touch.drew {S : Nat → Prop} {a w : World} (h : Touch S a w) : Touch S a w.drew := ⟨h.os, h.tape, h.output, h.size, h.block⟩

theorem Touch.drewN {S : Nat → Prop} {a w : World} (n : Nat) (h : Touch S a w) : Touch S a (w.drewN n) := ⟨h.os, h.tape, h.output, h.size, h.block⟩

theorem Touch.alloc {S : Nat → Prop} {a w : World} (h : Touch S a w) (o : Obj) : Touch S a (w.alloc o) :=
  h.then ⟨rfl, rfl, rfl, by simp, fun k hk _ => Below.heap_alloc _ _ _ (by omega)⟩

theorem Touch.setCell {S : Nat → Prop} {a w : World} (h : Touch S a w) {p : Addr} (hp : S p.block ∨ a.heap.size ≤ p.block) (u : Value) : Touch S a (w.setCell p u) := by
  refine h.trans (S1 := fun i => i = p.block) ⟨rfl, rfl, rfl, by simp [World.setCell], fun k hk hn => Below.heap_setCell _ _ _ _ (fun e => hn e)⟩ ?_
  intro i hi
  subst hi
  exact hp

theorem Touch.grown {S : Nat → Prop} {a w w' : World} {row : Option Nat} (h : Touch S a w) (hg : w.grownBy w' row) (hr : ∀ k, row = some k → S k ∨ a.heap.size ≤ k) : Touch S a w' := by
  refine h.trans (S1 := fun i => some i = row) ⟨hg.os, hg.tape, hg.output, hg.size, fun k hk hn => hg.block k hk hn⟩ ?_
  intro i hi
  exact hr i hi.symm

theorem Touch.below {B : Nat} {w w' : World} (h : Below B w w') : Touch (fun k => B ≤ k) w w' :=
  ⟨h.os, h.tape, h.output, h.size, fun k _ hn => h.block k (by omega)⟩

theorem Touch.toBelow {S : Nat → Prop} {B : Nat} {w w' : World} (h : Touch S w w') (hs : ∀ k, k < B → S k → False) (hB : B ≤ w.heap.size) : Below B w w' :=
  ⟨h.os, h.tape, h.output, h.size, fun k hk => h.block k (by omega) (fun h1 => hs k hk h1)⟩

/-- A cell of a block that is not touched. -/
theorem Touch.cell {S : Nat → Prop} {w w' : World} (h : Touch S w w') {p : Addr} (hp : p.block < w.heap.size) (hn : ¬ S p.block) : w'.cell? p = w.cell? p :=
  World.cell?_of_block (w := w) (h.block p.block hp hn)

theorem World.lt_of_heap {w : World} {k : Nat} {o : Obj} (h : w.heap[k]? = some o) : k < w.heap.size := (Array.getElem?_eq_some_iff.1 h).1

theorem Touch.keeps {S : Nat → Prop} {w w' : World} (h : Touch S w w') {k : Nat} {o : Obj} (hk : w.heap[k]? = some o) (hn : ¬ S k) : w'.heap[k]? = some o :=
  (h.block k (World.lt_of_heap hk) hn).trans hk

/-! ### the program's table -/

/-- A row: key, value, number. -/
abbrev R3 := Int × Int × Int

def rowCells (r : R3) : List Value := [.int .i64 r.1, .int .i64 r.2.1, .int .i64 r.2.2]
def rowsCells (rs : List R3) : List Value := rs.flatMap rowCells

theorem rowsCells_length (rs : List R3) : (rowsCells rs).length = rs.length * 3 := by
  induction rs with
  | nil => rfl
  | cons r rs ih => simp [rowsCells, rowCells] at ih ⊢; omega

theorem rowsCells_append (a b : List R3) : rowsCells (a ++ b) = rowsCells a ++ rowsCells b := by simp [rowsCells]
theorem rowsCells_cons (r : R3) (b : List R3) : rowsCells (r :: b) = rowCells r ++ rowsCells b := by simp [rowsCells]

theorem rowsCells_get (rs : List R3) : ∀ (i c : Nat) (r : R3), rs[i]? = some r → c < 3 → (rowsCells rs)[i * 3 + c]? = (rowCells r)[c]? := by
  induction rs with
  | nil => intro i c r h; simp at h
  | cons x rs ih =>
    intro i c r h hc
    rw [rowsCells_cons]
    cases i with
    | zero =>
      simp at h; subst h
      simp only [Nat.zero_mul, Nat.zero_add]
      rw [List.getElem?_append_left (by simp [rowCells]; omega)]
    | succ i =>
      have : (i + 1) * 3 + c = (rowCells x).length + (i * 3 + c) := by simp [rowCells]; omega
      rw [this, List.getElem?_append_right (by omega), Nat.add_sub_cancel_left]
      exact ih i c r (by simpa using h) hc

/-- A walk: behind which number it stands, and whether it is over. -/
abbrev W2 := Int × Bool
def walkCells (r : W2) : List Value := [.int .i64 r.1, .bool r.2]
def walksCells (rs : List W2) : List Value := rs.flatMap walkCells
theorem walksCells_length (rs : List W2) : (walksCells rs).length = rs.length * 2 := by
  induction rs with
  | nil => rfl
  | cons r rs ih => simp [walksCells, walkCells] at ih ⊢; omega
theorem walksCells_append (a b : List W2) : walksCells (a ++ b) = walksCells a ++ walksCells b := by simp [walksCells]
theorem walksCells_cons (r : W2) (b : List W2) : walksCells (r :: b) = walkCells r ++ walksCells b := by simp [walksCells]
theorem walksCells_get (rs : List W2) : ∀ (i c : Nat) (r : W2), rs[i]? = some r → c < 2 → (walksCells rs)[i * 2 + c]? = (walkCells r)[c]? := by
  induction rs with
  | nil => intro i c r h; simp at h
  | cons x rs ih =>
    intro i c r h hc
    rw [walksCells_cons]
    cases i with
    | zero =>
      simp at h; subst h
      simp only [Nat.zero_mul, Nat.zero_add]
      rw [List.getElem?_append_left (by simp [walkCells]; omega)]
    | succ i =>
      have : (i + 1) * 2 + c = (walkCells x).length + (i * 2 + c) := by simp [walkCells]; omega
      rw [this, List.getElem?_append_right (by omega), Nat.add_sub_cancel_left]
      exact ih i c r (by simpa using h) hc

/-- A map of ints to ints in block m, of at most n entries: it reads as f. -/
def IMap (w : World) (m n : Nat) (f : Int → Option Int) : Prop :=
  ∃ D : DataW Unit, w.ownsMap Try.prog 3 (plainElem Try.prog 3) m n D ∧
    ∀ k, (Lit.int .i64 k).wf = true → (Maps.has D (.int .i64 k) = (f k).isSome ∧ ∀ v, f k = some v → D.atKey (.int .i64 k) (.lit (.int .i64 0)) = .lit (.int .i64 v))

theorem law3 : Keyed Try.prog 3 := int_keyed Try.underlying3
theorem zero3 (w : World) : (zeroValue 3).run Try.prog w = .ok (.int .i64 0) w := by kernel_rfl

theorem IMap.made (w : World) : IMap (w.alloc (.map #[] 0)) w.heap.size 0 (fun _ => none) :=
  ⟨.map [], World.ownsMap_made w _ _ _, fun k _ => ⟨rfl, fun _ h => by cases h⟩⟩

theorem IMap.lt {w : World} {m n : Nat} {f : Int → Option Int} (h : IMap w m n f) : m < w.heap.size := by
  obtain ⟨D, hD, _⟩ := h; exact hD.lt

theorem IMap.isMap {w : World} {m n : Nat} {f : Int → Option Int} (h : IMap w m n f) : ∃ es c, w.heap[m]? = some (.map es c) := by
  obtain ⟨D, ⟨es, c, h, _⟩, _⟩ := h; exact ⟨es, c, h⟩

theorem IMap.mono {w : World} {m n n' : Nat} {f : Int → Option Int} (h : IMap w m n f) (hn : n ≤ n') : IMap w m n' f := by
  obtain ⟨D, hD, hf⟩ := h; exact ⟨D, hD.mono hn, hf⟩

theorem IMap.congr {w : World} {m n : Nat} {f g : Int → Option Int} (h : IMap w m n f) (hg : ∀ k, (Lit.int .i64 k).wf = true → g k = f k) : IMap w m n g := by
  obtain ⟨D, hD, hf⟩ := h
  exact ⟨D, hD, fun k hk => by rw [hg k hk]; exact hf k hk⟩

theorem IMap.kept {w w' : World} {m n : Nat} {f : Int → Option Int} (h : IMap w m n f) (hb : w'.heap[m]? = w.heap[m]?) : IMap w' m n f := by
  obtain ⟨D, ⟨es, c, h1, h2⟩, hf⟩ := h
  exact ⟨D, ⟨es, c, hb.trans h1, h2⟩, hf⟩

/-- 'v, ok := m[k]'. -/
theorem IMap.look {w : World} {m n : Nat} {f : Int → Option Int} (h : IMap w m n f) {k : Int} (hk : (Lit.int .i64 k).wf = true) :
    (Instr.lookup 66 (.map (some m)) (.int .i64 k) true).run Try.prog w = .ok (.tuple #[.int .i64 ((f k).getD 0), .bool (f k).isSome]) w := by
  obtain ⟨D, hD, hf⟩ := h
  obtain ⟨v, ps, hrun, hv⟩ := hD.look_ok (t := 66) (e := 3) law3 Try.underlying66 (zero3 w) (plainElem_int Try.underlying3 (by decide)) (keyOf_int_mk Try.underlying3 hk)
  obtain ⟨c, rfl, hc, _⟩ := plainElem_int_inv Try.underlying3 hv
  rw [hrun, (hf k hk).1]
  have hc1 := congrArg Prod.fst hc
  simp only at hc1
  cases hfk : f k with
  | none =>
    rw [Maps.atKey_of_not_has (by rw [(hf k hk).1, hfk]; rfl)] at hc1
    cases hc1; rfl
  | some v =>
    rw [(hf k hk).2 v hfk] at hc1
    cases hc1; rfl

/-- 'm[k] = v'. -/
theorem IMap.store {w : World} {m n : Nat} {f : Int → Option Int} (h : IMap w m n f) {k v : Int} (hk : (Lit.int .i64 k).wf = true) (hv : (Lit.int .i64 v).wf = true) (hn : n < maxLen) :
    ∃ w', (Instr.mapUpdate 66 (.map (some m)) (.int .i64 k) (.int .i64 v)).run Try.prog w = .ok () w' ∧ IMap w' m (n + 1) (fun x => if x = k then some v else f x) ∧ Touch (fun i => i = m) w w' := by
  obtain ⟨D, hD, hf⟩ := h
  have hM := hD.isMap
  obtain ⟨w', hrun, hD', ht⟩ := hD.store (t := 66) (e := 3) law3 Try.underlying66 hn (keyOf_int_mk Try.underlying3 hk) (plainElem_int Try.underlying3 hv)
  refine ⟨w', hrun, ⟨_, hD', fun x hx => ?_⟩, ?_⟩
  · by_cases hxk : x = k
    · subst hxk
      simp only [if_true]
      refine ⟨?_, fun v' hv' => ?_⟩
      · rw [Maps.has_put_same hM (by trivial)]; rfl
      · cases hv'; rw [Maps.atKey_put_same hM (by trivial)]
    · simp only [if_neg hxk]
      have hne : (Lit.int .i64 x) ≠ (Lit.int .i64 k) := fun e => hxk (by cases e; rfl)
      rw [Maps.has_put_other hne]
      refine ⟨(hf x hx).1, fun v' hv' => ?_⟩
      rw [Maps.atKey_put_other hne]
      exact (hf x hx).2 v' hv'
  · have hg := ht.grown
    exact ⟨hg.os, hg.tape, hg.output, hg.size, fun i hi hn => hg.block i hi (fun e => hn (Option.some.inj e))⟩

/-- 'delete(m, k)'. -/
theorem IMap.drop {w : World} {m n : Nat} {f : Int → Option Int} (h : IMap w m n f) {k : Int} (hk : (Lit.int .i64 k).wf = true) (ty : TypeId) :
    ∃ w', (Builtin.delete_ #[66, 3] ty #[.map (some m), .int .i64 k]).run Try.prog w = .ok (.tuple #[]) w' ∧ IMap w' m n (fun x => if x = k then none else f x) ∧ Touch (fun i => i = m) w w' := by
  obtain ⟨D, hD, hf⟩ := h
  obtain ⟨w', hrun, hD', ht⟩ := hD.drop (t := 66) (e := 3) law3 Try.underlying66 (keyOf_int_mk Try.underlying3 hk) ty
  refine ⟨w', hrun, ⟨_, hD', fun x hx => ?_⟩, ?_⟩
  · by_cases hxk : x = k
    · subst hxk
      simp only [if_true]
      refine ⟨?_, fun v' hv' => by cases hv'⟩
      rw [Maps.has_del_same]; rfl
    · simp only [if_neg hxk]
      have hne : (Lit.int .i64 x) ≠ (Lit.int .i64 k) := fun e => hxk (by cases e; rfl)
      rw [Maps.has_del_other hne]
      refine ⟨(hf x hx).1, fun v' hv' => ?_⟩
      rw [Maps.atKey_del_other hne]
      exact (hf x hx).2 v' hv'
  · have hg := ht.grown
    exact ⟨hg.os, hg.tape, hg.output, hg.size, fun i hi hn => hg.block i hi (fun e => hn (Option.some.inj e))⟩


/-! ### a slice that is owned, looked into -/

theorem owns_touch {S : Nat → Prop} {w w' : World} {e : TypeId} {size n : Nat} {v : Value} {xs : List Value} (h : w.ownsRow 0 e size v n xs) (ht : Touch S w w') (hS : ∀ k, v.ownBlock = some k → ¬ S k) : w'.ownsRow 0 e size v n xs := by
  refine ⟨h.1, ?_⟩
  rcases h.2 with hn | ⟨g, cap, cur, rfl, hb, hgg, rest⟩
  · exact .inl hn
  · exact .inr ⟨g, cap, cur, rfl, hb, ht.keeps hgg (hS g rfl), rest⟩

/-- What an owned slice looks like: its address, its capacity, and its cells. -/
theorem owns_view {w : World} {e : TypeId} {size n : Nat} {v : Value} {xs : List Value} (h : w.ownsRow 0 e size v n xs) :
    ∃ ao cap, v = .slice ao n cap ∧ n ≤ cap ∧ cap ≤ maxLen ∧ ∀ j u, xs[j]? = some u → ∃ g, ao = some ⟨g, 0, none⟩ ∧ w.cell? ⟨g, j, none⟩ = some u ∧ w.frozen? ⟨g, j, none⟩ = false ∧ v.ownBlock = some g := by
  rcases h.2 with ⟨rfl, rfl⟩ | ⟨g, cap, cur, rfl, hb, hg, hnc, hcm, hcs, htk⟩
  · refine ⟨none, 0, rfl, Nat.le_refl _, Nat.zero_le _, ?_⟩
    have : xs = [] := List.eq_nil_of_length_eq_zero (by simpa using h.1)
    intro j u hu; rw [this] at hu; simp at hu
  · refine ⟨some ⟨g, 0, none⟩, cap, rfl, hnc, hcm, fun j u hu => ⟨g, rfl, ?_, ?_, rfl⟩⟩
    · rw [cell_of_row w g j cur e (0, 0) hg, ← htk, List.getElem?_take] at *
      split at hu
      · simpa using hu
      · cases hu
    · simp [World.frozen?, hg]

/-! ### the table -/

structure PT where
  rows : List R3
  next : Nat
  walks : List W2
  strict : Bool
  frozen : Bool

/-- The number of a key. -/
def numOf (rs : List R3) (k : Int) : Option Int := (rs.find? (fun r => r.1 == k)).map (fun r => r.2.2)

structure PT.ok (T : PT) : Prop where
  few : T.rows.length ≤ 500
  sorted : T.rows.Pairwise (fun a b => a.2.2 < b.2.2)
  nums : ∀ r ∈ T.rows, 0 ≤ r.2.2 ∧ r.2.2 < T.next
  keys : T.rows.Pairwise (fun a b => a.1 ≠ b.1)
  wf : ∀ r ∈ T.rows, (Lit.int .i64 r.1).wf = true

/-- Table T of the program lies at block b, all in blocks of F. -/
structure TabAt (w : World) (F : Nat → Prop) (b : Nat) (T : PT) (rv : Value) (m : Nat) (kv : Value) : Prop where
  ok : T.ok
  block : w.heap[b]? = some (.cells #[.bool true, rv, .map (some m), .int .i64 T.next, kv, .bool T.strict, .bool T.frozen] 69 (0, 0))
  rows : w.ownsRow 0 76 3 rv T.rows.length (rowsCells T.rows)
  map : IMap w m T.next (numOf T.rows)
  walks : w.ownsRow 0 79 2 kv T.walks.length (walksCells T.walks)
  fb : F b
  fm : F m
  fr : ∀ k, rv.ownBlock = some k → F k
  fk : ∀ k, kv.ownBlock = some k → F k
  lt : ∀ k, F k → k < w.heap.size

def Tab (w : World) (F : Nat → Prop) (b : Nat) (T : PT) : Prop := ∃ rv m kv, TabAt w F b T rv m kv

theorem TabAt.kept {w w' : World} {F S : Nat → Prop} {b m : Nat} {T : PT} {rv kv : Value} (h : TabAt w F b T rv m kv) (ht : Touch S w w') (hd : ∀ k, F k → ¬ S k) : TabAt w' F b T rv m kv where
  ok := h.ok
  block := ht.keeps h.block (hd b h.fb)
  rows := owns_touch h.rows ht (fun k hk => hd k (h.fr k hk))
  map := h.map.kept (ht.block m h.map.lt (hd m h.fm))
  walks := owns_touch h.walks ht (fun k hk => hd k (h.fk k hk))
  fb := h.fb
  fm := h.fm
  fr := h.fr
  fk := h.fk
  lt k hk := Nat.lt_of_lt_of_le (h.lt k hk) ht.size

theorem Tab.kept {w w' : World} {F S : Nat → Prop} {b : Nat} {T : PT} (h : Tab w F b T) (ht : Touch S w w') (hd : ∀ k, F k → ¬ S k) : Tab w' F b T := by
  obtain ⟨rv, m, kv, h⟩ := h
  exact ⟨rv, m, kv, h.kept ht hd⟩

/-- .. behind a call that turns nothing that was there. -/
theorem Tab.still {w w' : World} {F : Nat → Prop} {b : Nat} {T : PT} (h : Tab w F b T) (ht : Touch (fun _ => False) w w') : Tab w' F b T := h.kept ht (fun _ _ h => h)

theorem Tab.ok {w : World} {F : Nat → Prop} {b : Nat} {T : PT} (h : Tab w F b T) : T.ok := by obtain ⟨_, _, _, h⟩ := h; exact h.ok
theorem Tab.lt {w : World} {F : Nat → Prop} {b : Nat} {T : PT} (h : Tab w F b T) : ∀ k, F k → k < w.heap.size := by obtain ⟨_, _, _, h⟩ := h; exact h.lt
theorem Tab.fb {w : World} {F : Nat → Prop} {b : Nat} {T : PT} (h : Tab w F b T) : F b := by obtain ⟨_, _, _, h⟩ := h; exact h.fb

section
variable {w : World} {F : Nat → Prop} {b m : Nat} {T : PT} {rv kv : Value}
theorem TabAt.c (h : TabAt w F b T rv m kv) (j : Nat) : w.cell? ⟨b, j, none⟩ = #[Value.bool true, rv, .map (some m), .int .i64 T.next, kv, .bool T.strict, .bool T.frozen][j]? := by
  simp [World.cell?, h.block]
theorem TabAt.c0 (h : TabAt w F b T rv m kv) : w.cell? ⟨b, 0, none⟩ = some (.bool true) := by rw [h.c]; rfl
theorem TabAt.c1 (h : TabAt w F b T rv m kv) : w.cell? ⟨b, 1, none⟩ = some rv := by rw [h.c]; rfl
theorem TabAt.c2 (h : TabAt w F b T rv m kv) : w.cell? ⟨b, 2, none⟩ = some (.map (some m)) := by rw [h.c]; rfl
theorem TabAt.c3 (h : TabAt w F b T rv m kv) : w.cell? ⟨b, 3, none⟩ = some (.int .i64 T.next) := by rw [h.c]; rfl
theorem TabAt.c4 (h : TabAt w F b T rv m kv) : w.cell? ⟨b, 4, none⟩ = some kv := by rw [h.c]; rfl
theorem TabAt.c5 (h : TabAt w F b T rv m kv) : w.cell? ⟨b, 5, none⟩ = some (.bool T.strict) := by rw [h.c]; rfl
theorem TabAt.c6 (h : TabAt w F b T rv m kv) : w.cell? ⟨b, 6, none⟩ = some (.bool T.frozen) := by rw [h.c]; rfl
theorem TabAt.z (h : TabAt w F b T rv m kv) (j : Nat) : w.frozen? ⟨b, j, none⟩ = false := by simp [World.frozen?, h.block]
theorem TabAt.bl (h : TabAt w F b T rv m kv) : b < w.heap.size := h.lt b h.fb

/-- The cells of the rows. -/
theorem TabAt.viewR (h : TabAt w F b T rv m kv) : ∃ ao cap, rv = .slice ao T.rows.length cap ∧ T.rows.length ≤ cap ∧ ∀ i r, T.rows[i]? = some r → ∃ g, ao = some ⟨g, 0, none⟩ ∧ F g ∧
    (w.cell? ⟨g, i * 3, none⟩ = some (.int .i64 r.1) ∧ w.cell? ⟨g, i * 3 + 1, none⟩ = some (.int .i64 r.2.1) ∧ w.cell? ⟨g, i * 3 + 2, none⟩ = some (.int .i64 r.2.2)) ∧ w.frozen? ⟨g, i * 3 + 1, none⟩ = false := by
  obtain ⟨ao, cap, rfl, hc, _, hv⟩ := owns_view h.rows
  refine ⟨ao, cap, rfl, hc, fun i r hr => ?_⟩
  have e : ∀ c, c < 3 → (rowsCells T.rows)[i * 3 + c]? = (rowCells r)[c]? := fun c hc => rowsCells_get _ i c r hr hc
  obtain ⟨g, rfl, h0, _, hg⟩ := hv (i * 3) _ (e 0 (by omega))
  obtain ⟨g1, hg1, h1, z1, _⟩ := hv (i * 3 + 1) _ (e 1 (by omega))
  obtain ⟨g2, hg2, h2, _⟩ := hv (i * 3 + 2) _ (e 2 (by omega))
  cases hg1; cases hg2
  exact ⟨g, rfl, h.fr g hg, ⟨h0, h1, h2⟩, z1⟩

theorem TabAt.viewK (h : TabAt w F b T rv m kv) : ∃ ao cap, kv = .slice ao T.walks.length cap ∧ T.walks.length ≤ cap ∧ ∀ i r, T.walks[i]? = some r → ∃ g, ao = some ⟨g, 0, none⟩ ∧ F g ∧
    (w.cell? ⟨g, i * 2, none⟩ = some (.int .i64 r.1) ∧ w.cell? ⟨g, i * 2 + 1, none⟩ = some (.bool r.2)) ∧ w.frozen? ⟨g, i * 2, none⟩ = false ∧ w.frozen? ⟨g, i * 2 + 1, none⟩ = false := by
  obtain ⟨ao, cap, rfl, hc, _, hv⟩ := owns_view h.walks
  refine ⟨ao, cap, rfl, hc, fun i r hr => ?_⟩
  have e : ∀ c, c < 2 → (walksCells T.walks)[i * 2 + c]? = (walkCells r)[c]? := fun c hc => walksCells_get _ i c r hr hc
  obtain ⟨g, rfl, h0, z0, hg⟩ := hv (i * 2) _ (e 0 (by omega))
  obtain ⟨g1, hg1, h1, z1, _⟩ := hv (i * 2 + 1) _ (e 1 (by omega))
  cases hg1
  exact ⟨g, rfl, h.fk g hg, ⟨h0, h1⟩, z0, z1⟩
end

/-! ### stores into the table's own block -/

theorem heap_setCell_same {w : World} {b : Nat} {cs : Array Value} {e : TypeId} {fz : Nat × Nat} (h : w.heap[b]? = some (.cells cs e fz)) (j : Nat) (v : Value) :
    (w.setCell ⟨b, j, none⟩ v).heap[b]? = some (.cells (cs.setIfInBounds j v) e fz) := by
  simp [World.setCell, Array.getElem?_modify, h]

theorem touch_setCell (w : World) (p : Addr) (v : Value) : Touch (fun k => k = p.block) w (w.setCell p v) := Touch.setCell (Touch.refl (fun k => k = p.block) w) (.inl rfl) v

theorem owns_ne {w : World} {e e' : TypeId} {size n : Nat} {v : Value} {xs : List Value} (h : w.ownsRow 0 e size v n xs) {b : Nat} {cs : Array Value} {fz : Nat × Nat} (hb : w.heap[b]? = some (.cells cs e' fz)) (he : e ≠ e') : ∀ k, v.ownBlock = some k → ¬ k = b := by
  rintro k hk rfl
  rcases h.2 with ⟨rfl, _⟩ | ⟨g, cap, cur, rfl, _, hg, _⟩
  · cases hk
  · cases hk
    rw [hg] at hb
    cases hb
    exact he rfl

theorem imap_ne {w : World} {m n : Nat} {f : Int → Option Int} (h : IMap w m n f) {b : Nat} {cs : Array Value} {e : TypeId} {fz : Nat × Nat} (hb : w.heap[b]? = some (.cells cs e fz)) : ¬ m = b := by
  rintro rfl
  obtain ⟨es, c, he⟩ := h.isMap
  rw [hb] at he; cases he

/-- What a call that may change the table leaves. -/
def Moves (w : World) (F : Nat → Prop) (b : Nat) (T : PT) (w' : World) : Prop :=
  ∃ F', Tab w' F' b T ∧ Touch F w w' ∧ ∀ k, F' k → F k ∨ w.heap.size ≤ k

theorem Tab.stays {w w' : World} {F : Nat → Prop} {b : Nat} {T : PT} (h : Tab w F b T) (ht : Touch (fun _ => False) w w') : Moves w F b T w' :=
  ⟨F, h.still ht, ht.mono (fun _ _ h => h.elim), fun _ h => .inl h⟩

theorem Moves.touch {w w' : World} {F : Nat → Prop} {b : Nat} {T : PT} (h : Moves w F b T w') : Touch F w w' := by obtain ⟨_, _, h, _⟩ := h; exact h

/-- The table's own block, but for its rows and walks, is written. -/
theorem TabAt.fields {w : World} {F : Nat → Prop} {b m : Nat} {T : PT} {rv kv : Value} (h : TabAt w F b T rv m kv) (p : Nat) (v : Value) (st fr : Bool)
    (hc : (#[Value.bool true, rv, .map (some m), .int .i64 T.next, kv, .bool T.strict, .bool T.frozen] : Array Value).setIfInBounds p v = #[.bool true, rv, .map (some m), .int .i64 T.next, kv, .bool st, .bool fr]) :
    TabAt (w.setCell ⟨b, p, none⟩ v) F b { T with strict := st, frozen := fr } rv m kv where
  ok := ⟨h.ok.few, h.ok.sorted, h.ok.nums, h.ok.keys, h.ok.wf⟩
  block := by rw [heap_setCell_same h.block, hc]
  rows := owns_touch h.rows (touch_setCell w _ v) (owns_ne h.rows h.block (by decide))
  map := h.map.kept ((touch_setCell w ⟨b, p, none⟩ v).block m h.map.lt (imap_ne h.map h.block))
  walks := owns_touch h.walks (touch_setCell w _ v) (owns_ne h.walks h.block (by decide))
  fb := h.fb
  fm := h.fm
  fr := h.fr
  fk := h.fk
  lt k hk := by have := h.lt k hk; simpa [World.setCell] using this

end Go.Proofs.Ytombofldebmaoaa
