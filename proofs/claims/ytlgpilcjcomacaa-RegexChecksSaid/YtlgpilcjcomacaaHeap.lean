/-
  Heap words: what a call may touch; a matcher of the program in memory.
-/
import Derived.Test.YtlgpilcjcomacaaRe
import Derived.Test.YtlgpilcjcomacaaRows
import Derived.WalkKit
import Derived.WalkSpells
import Derived.WalkLawsBesides
import Derived.Lib.Hide
import Derived.Handy
import Derived.Laws.CopyRow
import Derived.Deep.QuietTactic
import Derived.BigQuiet
import Derived.StillTailTactics
import Derived.Laws.EntriesVeiled
namespace Go.Proofs.Ytlgpilcjcomacaa
open Go.RowKit

/-- From w to w' only blocks of S, and new ones, have turned. -/
structure Touch (S : Nat → Prop) (w w' : World) : Prop where
  os : w'.os = w.os
  tape : w'.tape = w.tape
  output : w'.output = w.output
  size : w.heap.size ≤ w'.heap.size
  block : ∀ k, k < w.heap.size → ¬ S k → w'.heap[k]? = w.heap[k]?

theorem Touch.refl (S : Nat → Prop) (w : World) : Touch S w w := ⟨rfl, rfl, rfl, Nat.le_refl _, fun _ _ _ => rfl⟩

theorem Touch.trans {S S1 : Nat → Prop} {a b c : World} (h : Touch S a b) (k : Touch S1 b c) (hs : ∀ i, S1 i → S i ∨ a.heap.size ≤ i) : Touch S a c :=
  ⟨k.os.trans h.os, k.tape.trans h.tape, k.output.trans h.output, Nat.le_trans h.size k.size, fun i hi hn =>
    (k.block i (Nat.lt_of_lt_of_le hi h.size) (fun h1 => by rcases hs i h1 with h2 | h2; exact hn h2; omega)).trans (h.block i hi hn)⟩

theorem Touch.mono {S S1 : Nat → Prop} {a b : World} (h : Touch S a b) (hs : ∀ i, i < a.heap.size → S i → S1 i) : Touch S1 a b :=
  ⟨h.os, h.tape, h.output, h.size, fun i hi hn => h.block i hi (fun h1 => hn (hs i hi h1))⟩

theorem Touch.then {S : Nat → Prop} {a b c : World} (h : Touch S a b) (k : Touch S b c) : Touch S a c := h.trans k (fun _ h => .inl h)

theorem Touch.drew {S : Nat → Prop} {a w : World} (h : Touch S a w) : Touch S a w.drew := ⟨h.os, h.tape, h.output, h.size, h.block⟩

theorem Touch.drewN {S : Nat → Prop} {a w : World} (n : Nat) (h : Touch S a w) : Touch S a (w.drewN n) := ⟨h.os, h.tape, h.output, h.size, h.block⟩

theorem Touch.alloc {S : Nat → Prop} {a w : World} (h : Touch S a w) (o : Obj) : Touch S a (w.alloc o) :=
  h.then ⟨rfl, rfl, rfl, by simp, fun k hk _ => Below.heap_alloc _ _ _ (by omega)⟩

theorem Touch.setCell {S : Nat → Prop} {a w : World} (h : Touch S a w) {p : Addr} (hp : S p.block ∨ a.heap.size ≤ p.block) (u : Value) : Touch S a (w.setCell p u) := by
  refine h.trans (S1 := fun i => i = p.block) ⟨rfl, rfl, rfl, by simp [World.setCell], fun k hk hn => Below.heap_setCell _ _ _ _ (fun e => hn e)⟩ ?_
  intro i hi
  subst hi
  exact hp

theorem Touch.grown {S : Nat → Prop} {a w w' : World} {row : Option Nat} (h : Touch S a w) (hg : w.grownBy w' row) (hr : ∀ k, row = some k → S k ∨ a.heap.size ≤ k) : Touch S a w' := by
  refine h.trans (S1 := fun i => some i = row) ⟨hg.os, hg.tape, hg.output, hg.size, fun k hk hn => hg.block k hk hn⟩ ?_
  intro i hi
  exact hr i hi.symm

theorem Touch.below {B : Nat} {w w' : World} (h : Below B w w') : Touch (fun k => B ≤ k) w w' :=
  ⟨h.os, h.tape, h.output, h.size, fun k _ hn => h.block k (by omega)⟩

theorem Touch.ofBelow {S : Nat → Prop} {w w' : World} (h : Below w.heap.size w w') : Touch S w w' :=
  ⟨h.os, h.tape, h.output, h.size, fun k hk _ => h.block k hk⟩

theorem Touch.toBelow {S : Nat → Prop} {B : Nat} {w w' : World} (h : Touch S w w') (hs : ∀ k, k < B → S k → False) (hB : B ≤ w.heap.size) : Below B w w' :=
  ⟨h.os, h.tape, h.output, h.size, fun k hk => h.block k (by omega) (fun h1 => hs k hk h1)⟩

/-- A cell of a block that is not touched. -/
theorem Touch.cell {S : Nat → Prop} {w w' : World} (h : Touch S w w') {p : Addr} (hp : p.block < w.heap.size) (hn : ¬ S p.block) : w'.cell? p = w.cell? p :=
  World.cell?_of_block (w := w) (h.block p.block hp hn)
theorem Touch.frozen {S : Nat → Prop} {w w' : World} (h : Touch S w w') {p : Addr} (hp : p.block < w.heap.size) (hn : ¬ S p.block) : w'.frozen? p = w.frozen? p :=
  World.frozen?_of_block (w := w) (h.block p.block hp hn)
theorem Touch.has {S : Nat → Prop} {w w' : World} (h : Touch S w w') {p : Addr} {v : Value} (hc : w.cell? p = some v) (hn : ¬ S p.block) : w'.cell? p = some v :=
  (h.cell (block_lt_of_cell hc) hn).trans hc

abbrev Still (w w' : World) : Prop := Touch (fun _ => False) w w'

namespace Rx

/-- A cell that can be written. -/
def Holds (w : World) (b o : Nat) (v : Value) : Prop := w.cell? ⟨b, o, none⟩ = some v ∧ w.frozen? ⟨b, o, none⟩ = false
theorem Holds.keep {S : Nat → Prop} {w w' : World} {b o : Nat} {v : Value} (h : Holds w b o v) (t : Touch S w w') (hn : ¬ S b) : Holds w' b o v :=
  ⟨t.has h.1 hn, (t.frozen (p := ⟨b, o, none⟩) (block_lt_of_cell h.1) hn).trans h.2⟩

theorem Holds.lt {w : World} {b o : Nat} {v : Value} (h : Holds w b o v) : b < w.heap.size := block_lt_of_cell h.1
theorem Holds.drewN {w : World} {b o : Nat} {v : Value} (h : Holds w b o v) (q : Nat) : Holds (w.drewN q) b o v := h
theorem Holds.set {w : World} {b o : Nat} {v : Value} (h : Holds w b o v) (u : Value) : Holds (w.setCell ⟨b, o, none⟩ u) b o u :=
  ⟨World.cell?_setCell_same w _ u h.1, (World.frozen?_setCell _ _ _ _).trans h.2⟩
theorem Holds.set_other {w : World} {b o : Nat} {v : Value} (h : Holds w b o v) {p : Addr} (u : Value) (hp : p.block ≠ b ∨ p.off ≠ o) : Holds (w.setCell p u) b o v :=
  ⟨(World.cell?_setCell_other w p _ u (fun e => by subst e; rcases hp with hp | hp <;> exact hp rfl)).trans h.1, (World.frozen?_setCell _ _ _ _).trans h.2⟩
theorem cell_set_other {w : World} {b o : Nat} {v : Value} (h : w.cell? ⟨b, o, none⟩ = some v) {p : Addr} (u : Value) (hp : p.block ≠ b ∨ p.off ≠ o) : (w.setCell p u).cell? ⟨b, o, none⟩ = some v :=
  (World.cell?_setCell_other w p _ u (fun e => by subst e; rcases hp with hp | hp <;> exact hp rfl)).trans h
theorem Holds.alloc {w : World} {b o : Nat} {v : Value} (h : Holds w b o v) (x : Obj) : Holds (w.alloc x) b o v :=
  ⟨(World.cell?_alloc_past _ _ _ h.lt).trans h.1, (World.frozen?_alloc_past _ _ _ h.lt).trans h.2⟩
theorem Holds.made (w : World) (cs : Array Value) (T : TypeId) (i : Nat) (v : Value) (h : cs[i]? = some v) : Holds (w.alloc (.cells cs T)) w.heap.size i v :=
  ⟨(World.cell?_alloc_at _ _ _ _ rfl).trans h, World.frozen?_alloc_at _ _ _ _ rfl⟩

/-- What is fixed while a pattern is tried: the matcher's block, the groups' block, how many groups, the budget, the text, the world in which the tree was read. -/
structure Cx where
  bm : Nat
  bg : Nat
  G : Nat
  B : Nat
  s : ByteArray
  wT : World

/-- Each group is empty, or lies in the text. -/
def GInv (L : Nat) (g : Grp) : Prop := ∀ i, g i = (-1, -1) ∨ (0 ≤ (g i).1 ∧ (g i).1 ≤ (g i).2 ∧ (g i).2 ≤ (L : Int))

/-- The groups' cells. -/
def gv (g : Grp) (j : Nat) : Value := .int .i64 (if j % 2 = 0 then (g (j / 2)).1 else (g (j / 2)).2)
def gl (G : Nat) (g : Grp) : List Value := (List.range (2 * (G + 1))).map (gv g)
theorem gl_length (G : Nat) (g : Grp) : (gl G g).length = (G + 1) * 2 := by simp [gl]; omega
theorem gl_get (G : Nat) (g : Grp) (j : Nat) (h : j < 2 * (G + 1)) : (gl G g)[j]? = some (gv g j) := by simp [gl, h]
theorem gl_one (G : Nat) (g : Grp) : ∀ u ∈ gl G g, u.oneCell' = true := by
  intro u hu
  obtain ⟨j, -, rfl⟩ := List.mem_map.1 hu
  rfl
theorem gv_even (g : Grp) (i : Nat) : gv g (2 * i) = .int .i64 (g i).1 := by unfold gv; rw [if_pos (by omega), show 2 * i / 2 = i by omega]
theorem gv_odd (g : Grp) (i : Nat) : gv g (2 * i + 1) = .int .i64 (g i).2 := by unfold gv; rw [if_neg (by omega), show (2 * i + 1) / 2 = i by omega]
theorem gl_upd (G : Nat) (g : Grp) (i : Nat) (hi : i ≤ G) (v : Int × Int) : (((gl G g).toArray.setIfInBounds (2 * i) (.int .i64 v.1)).setIfInBounds (2 * i + 1) (.int .i64 v.2)) = (gl G (upd g i v)).toArray := by
  apply Array.ext'
  apply List.ext_getElem?
  intro j
  simp only [Array.toList_setIfInBounds, List.getElem?_set, List.length_set, gl_length]
  by_cases hj : j < 2 * (G + 1)
  · rw [gl_get G _ j hj, gl_get G _ j hj]
    by_cases h1 : 2 * i + 1 = j
    · subst h1
      rw [if_pos rfl, if_pos (by omega), gv_odd, show upd g i v i = v from if_pos rfl]
    · rw [if_neg h1]
      by_cases h0 : 2 * i = j
      · subst h0
        rw [if_pos rfl, if_pos (by omega), gv_even, show upd g i v i = v from if_pos rfl]
      · rw [if_neg h0]
        have hne : j / 2 ≠ i := by omega
        unfold gv upd
        rw [if_neg hne]
  · rw [if_neg (by omega), if_neg (by omega), List.getElem?_eq_none (by rw [gl_length]; omega), List.getElem?_eq_none (by rw [gl_length]; omega)]
theorem holds_of_block {w : World} {b : Nat} {cs : List Value} {T : TypeId} (h : w.heap[b]? = some (.cells cs.toArray T (0, 0))) {j : Nat} {v : Value} (hj : cs[j]? = some v) : Holds w b j v :=
  ⟨by unfold World.cell?; simp [h]; simpa using hj, by unfold World.frozen?; simp [h]⟩

/-- A matcher in memory, under way: n steps, groups g, its answer in block be. -/
structure Inv (c : Cx) (be n : Nat) (g : Grp) (w : World) : Prop where
  c0 : w.cell? ⟨c.bm, 0, none⟩ = some (.string c.s)
  c1 : Holds w c.bm 1 (.int .i64 n)
  c2 : w.cell? ⟨c.bm, 2, none⟩ = some (.int .i64 c.B)
  c3 : w.cell? ⟨c.bm, 3, none⟩ = some (.slice (some ⟨c.bg, 0, none⟩) (c.G + 1) (c.G + 1))
  gb : ∃ T, w.heap[c.bg]? = some (.cells (gl c.G g).toArray T (0, 0))
  ne : c.bm ≠ c.bg
  eh : ∃ x : Int, Holds w be 0 (.int .i64 x)
  em : be ≠ c.bm
  eg : be ≠ c.bg
  nB : n ≤ c.B
  lB : c.B ≤ 1000000
  lG : c.G ≤ 9
  sz : c.s.size ≤ 5000
  gi : GInv c.s.size g
  tr : Touch (fun b => b = c.bm) c.wT w
  hg : c.wT.heap.size ≤ c.bg
  he : c.wT.heap.size ≤ be
  f3 : w.frozen? ⟨c.bm, 3, none⟩ = false

/-- The blocks that are written. -/
def SS (c : Cx) (be : Nat) (b : Nat) : Prop := b = c.bm ∨ b = c.bg ∨ b = be

theorem Inv.g0 {c : Cx} {be n : Nat} {g : Grp} {w : World} (h : Inv c be n g w) (i : Nat) (hi : i ≤ c.G) : Holds w c.bg (2 * i) (.int .i64 (g i).1) := by
  obtain ⟨T, hb⟩ := h.gb
  exact holds_of_block hb ((gl_get c.G g (2 * i) (by omega)).trans (by rw [gv_even]))
theorem Inv.g1 {c : Cx} {be n : Nat} {g : Grp} {w : World} (h : Inv c be n g w) (i : Nat) (hi : i ≤ c.G) : Holds w c.bg (2 * i + 1) (.int .i64 (g i).2) := by
  obtain ⟨T, hb⟩ := h.gb
  exact holds_of_block hb ((gl_get c.G g (2 * i + 1) (by omega)).trans (by rw [gv_odd]))
theorem Inv.ltm {c : Cx} {be n : Nat} {g : Grp} {w : World} (h : Inv c be n g w) : c.bm < w.heap.size := h.c1.lt
theorem Inv.ltg {c : Cx} {be n : Nat} {g : Grp} {w : World} (h : Inv c be n g w) : c.bg < w.heap.size := (h.g0 0 (Nat.zero_le _)).lt
theorem Inv.lte {c : Cx} {be n : Nat} {g : Grp} {w : World} (h : Inv c be n g w) : be < w.heap.size := by obtain ⟨x, hx⟩ := h.eh; exact hx.lt
theorem Inv.ss {c : Cx} {be n : Nat} {g : Grp} {w : World} (h : Inv c be n g w) {b : Nat} (hb : w.heap.size ≤ b) : ¬ SS c be b := by
  have h1 := h.ltm; have h2 := h.ltg; have h3 := h.lte
  rintro (e | e | e) <;> omega

/-- Nothing that counts has turned. -/
theorem Inv.keep {c : Cx} {be n : Nat} {g : Grp} {w w' : World} (h : Inv c be n g w) (t : Still w w') : Inv c be n g w' :=
  ⟨t.has h.c0 id, h.c1.keep t id, t.has h.c2 id, t.has h.c3 id, by obtain ⟨T, hb⟩ := h.gb; exact ⟨T, (t.block _ h.ltg id).trans hb⟩, h.ne, by obtain ⟨x, hx⟩ := h.eh; exact ⟨x, hx.keep t id⟩,
    h.em, h.eg, h.nB, h.lB, h.lG, h.sz, h.gi, h.tr.trans t (fun _ e => e.elim), h.hg, h.he, (t.frozen (p := ⟨c.bm, 3, none⟩) h.ltm id).trans h.f3⟩

/-- A step more. -/
theorem Inv.step {c : Cx} {be n : Nat} {g : Grp} {w : World} (h : Inv c be n g w) (q : Nat) (hn : n < c.B) : Inv c be (n + 1) g ((w.drewN q).setCell ⟨c.bm, 1, none⟩ (.int .i64 ((n + 1 : Nat) : Int))) :=
  ⟨cell_set_other (w := w.drewN q) h.c0 _ (.inr (by simp)), (h.c1.drewN q).set _, cell_set_other (w := w.drewN q) h.c2 _ (.inr (by simp)), cell_set_other (w := w.drewN q) h.c3 _ (.inr (by simp)),
    by obtain ⟨T, hb⟩ := h.gb; exact ⟨T, (Below.heap_setCell (w.drewN q) _ _ _ (Ne.symm h.ne)).trans hb⟩, h.ne, by obtain ⟨x, hx⟩ := h.eh; exact ⟨x, (hx.drewN q).set_other _ (.inl (Ne.symm h.em))⟩,
    h.em, h.eg, hn, h.lB, h.lG, h.sz, h.gi, (h.tr.drewN q).setCell (.inl rfl) _, h.hg, h.he, (World.frozen?_setCell (w.drewN q) _ _ _).trans h.f3⟩

/-- The answer is written. -/
theorem Inv.answer {c : Cx} {be n : Nat} {g : Grp} {w : World} (h : Inv c be n g w) (x : Int) : Inv c be n g (w.setCell ⟨be, 0, none⟩ (.int .i64 x)) :=
  ⟨cell_set_other h.c0 _ (.inl h.em), h.c1.set_other _ (.inl h.em), cell_set_other h.c2 _ (.inl h.em), cell_set_other h.c3 _ (.inl h.em),
    by obtain ⟨T, hb⟩ := h.gb; exact ⟨T, (Below.heap_setCell w _ _ _ (Ne.symm h.eg)).trans hb⟩, h.ne, by obtain ⟨y, hy⟩ := h.eh; exact ⟨x, hy.set _⟩,
    h.em, h.eg, h.nB, h.lB, h.lG, h.sz, h.gi, h.tr.setCell (.inr h.he) _, h.hg, h.he, (World.frozen?_setCell _ _ _ _).trans h.f3⟩

/-- Another answer's block. -/
theorem Inv.other {c : Cx} {be be' n : Nat} {g : Grp} {w : World} (h : Inv c be n g w) {x : Int} (hx : Holds w be' 0 (.int .i64 x)) (em : be' ≠ c.bm) (eg : be' ≠ c.bg) (he : c.wT.heap.size ≤ be') : Inv c be' n g w :=
  ⟨h.c0, h.c1, h.c2, h.c3, h.gb, h.ne, ⟨x, hx⟩, em, eg, h.nB, h.lB, h.lG, h.sz, h.gi, h.tr, h.hg, he, h.f3⟩

/-- One group is written. -/
theorem Inv.group {c : Cx} {be n : Nat} {g : Grp} {w : World} (h : Inv c be n g w) (i : Nat) (hi : i ≤ c.G) (v : Int × Int) (hv : v = (-1, -1) ∨ (0 ≤ v.1 ∧ v.1 ≤ v.2 ∧ v.2 ≤ (c.s.size : Int))) :
    Inv c be n (upd g i v) ((w.setCell ⟨c.bg, 2 * i, none⟩ (.int .i64 v.1)).setCell ⟨c.bg, 2 * i + 1, none⟩ (.int .i64 v.2)) :=
  ⟨cell_set_other (cell_set_other h.c0 _ (.inl (Ne.symm h.ne))) _ (.inl (Ne.symm h.ne)), (h.c1.set_other _ (.inl (Ne.symm h.ne))).set_other _ (.inl (Ne.symm h.ne)),
    cell_set_other (cell_set_other h.c2 _ (.inl (Ne.symm h.ne))) _ (.inl (Ne.symm h.ne)), cell_set_other (cell_set_other h.c3 _ (.inl (Ne.symm h.ne))) _ (.inl (Ne.symm h.ne)),
    by
      obtain ⟨T, hb⟩ := h.gb
      refine ⟨T, ?_⟩
      rw [setCell_eq_setRow w c.bg (2 * i) _ T (0, 0) _ hb]
      have h1 := setRow_heap w c.bg _ ((gl c.G g).toArray.setIfInBounds (2 * i) (.int .i64 v.1)) T (0, 0) hb
      rw [setCell_eq_setRow _ c.bg (2 * i + 1) _ T (0, 0) _ h1, setRow_heap _ c.bg _ _ T (0, 0) h1, gl_upd _ _ _ hi],
    h.ne, by obtain ⟨x, hx⟩ := h.eh; exact ⟨x, (hx.set_other _ (.inl (Ne.symm h.eg))).set_other _ (.inl (Ne.symm h.eg))⟩, h.em, h.eg, h.nB, h.lB, h.lG, h.sz,
    fun j => by
      by_cases e : j = i
      · subst e; rw [show (upd g j v j) = v from if_pos rfl]; exact hv
      · rw [show (upd g i v j) = g j from if_neg e]; exact h.gi j,
    (h.tr.setCell (.inr h.hg) _).setCell (.inr h.hg) _, h.hg, h.he, ((World.frozen?_setCell _ _ _ _).trans (World.frozen?_setCell _ _ _ _)).trans h.f3⟩

/-- All groups are written over. -/
theorem Inv.restore {c : Cx} {be n : Nat} {g g' : Grp} {w w' : World} (h : Inv c be n g w) (t : Touch (fun b => b = c.bg) w w') {T : TypeId} (hb : w'.heap[c.bg]? = some (.cells (gl c.G g').toArray T (0, 0))) (hg : GInv c.s.size g') : Inv c be n g' w' :=
  ⟨t.has h.c0 h.ne, h.c1.keep t h.ne, t.has h.c2 h.ne, t.has h.c3 h.ne, ⟨T, hb⟩, h.ne, by obtain ⟨x, hx⟩ := h.eh; exact ⟨x, hx.keep t h.eg⟩, h.em, h.eg, h.nB, h.lB, h.lG, h.sz, hg,
    h.tr.trans t (fun i e => .inr (by subst e; exact h.hg)), h.hg, h.he, (t.frozen (p := ⟨c.bm, 3, none⟩) h.ltm h.ne).trans h.f3⟩

/-- The bytes of a string. -/
def str (s : ByteArray) : List UInt8 := s.data.toList
theorem str_len (s : ByteArray) : (str s).length = s.size := by unfold str; rw [Array.length_toList]; rfl
theorem byteAt_lt {s : ByteArray} {i : Nat} (h : i < s.size) : byteAt (str s) i = some (s[i]'h).toNat := by
  unfold byteAt str
  rw [List.getElem?_eq_getElem (by rw [Array.length_toList]; exact h)]
  rfl
theorem byteAt_ge {s : ByteArray} {i : Nat} (h : s.size ≤ i) : byteAt (str s) i = none := by
  unfold byteAt str
  rw [List.getElem?_eq_none (by rw [Array.length_toList]; exact h)]
  rfl
end Rx
end Go.Proofs.Ytlgpilcjcomacaa
