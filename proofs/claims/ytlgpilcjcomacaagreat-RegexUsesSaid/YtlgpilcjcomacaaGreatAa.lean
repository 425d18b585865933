/-
  Texts Re, Heap, Ma, Mb, Mc, Cp, Md, Me in one.
-/
import Derived.WalkKit
import Derived.Test.YtlgpilcjcomacaaGreatRows
import Derived.WalkSpells
import Derived.WalkLawsBesides
import Derived.Lib.Hide
import Derived.Handy
import Derived.Laws.CopyRow
import Derived.Deep.QuietTactic
import Derived.BigQuiet
import Derived.StillTailTactics
import Derived.Laws.EntriesVeiled
import Derived.Shelf.Abstract
import Derived.Maps.AppendAt
import Derived.OwnWalk
import Derived.Tactics
/-
  Plain: the tree of a pattern, and what trying it gives, way after way, in the form that hands on what is to follow.
-/
namespace Go.Proofs.YtlgpilcjcomacaaGreat.Rx
set_option linter.unusedVariables false

/-- A pattern: alternatives and rows are one tree. -/
inductive Re where
  | set (f : Nat → Bool)
  | asr (k : Nat)
  | bref (n : Nat)
  | nil
  | cat (a b : Re)
  | none
  | alt (a b : Re)
  | grp (n : Nat) (a : Re)
  | look (neg : Bool) (a : Re)
  | atom (a : Re)
  | rep (a : Re) (least : Nat) (most : Int) (lazy : Bool)
  | poss (a : Re) (least : Nat) (most : Int)

abbrev Grp := Nat → Int × Int

/-- What comes of a try: no more steps; no way (the steps until then); a way (the steps, the groups, the place behind). -/
inductive Res where
  | over
  | no (n : Nat)
  | yes (n : Nat) (g : Grp) (e : Nat)

abbrev K := Nat → Nat → Grp → Res

def upd (g : Grp) (i : Nat) (v : Int × Int) : Grp := fun j => if j = i then v else g j

/-- A byte of a word. -/
def wordB (c : Nat) : Bool := (decide (48 ≤ c) && decide (c ≤ 57)) || (decide (97 ≤ c) && decide (c ≤ 122)) || (decide (65 ≤ c) && decide (c ≤ 90)) || decide (c = 95)

/-- The byte at a place, as a number. -/
def byteAt (s : List UInt8) (i : Nat) : Option Nat := s[i]?.map (·.toNat)

/-- Whether there is a byte of a word at a place. -/
def wordAt (s : List UInt8) (i : Nat) : Bool := match byteAt s i with | some c => wordB c | none => false

/-- The kinds of assertions: 1 to 6. -/
def stands (s : List UInt8) (k at' : Nat) : Bool :=
  if k = 1 then decide (at' = 0) || decide (byteAt s (at' - 1) = some 10)
  else if k = 2 then decide (at' = s.length) || decide (byteAt s at' = some 10)
  else if k = 3 then decide (at' = 0)
  else if k = 4 then decide (at' = s.length)
  else if k = 5 then (decide (0 < at') && wordAt s (at' - 1)) != wordAt s at'
  else (decide (0 < at') && wordAt s (at' - 1)) == wordAt s at'

def tick (B n : Nat) (f : Nat → Res) : Res := if n = B then .over else f (n + 1)

/-- The second one, if the first one finds no way. -/
def orElse (r : Res) (f : Nat → Res) : Res := match r with | .over => .over | .no n => f n | .yes n g e => .yes n g e

def K0 : K := fun e n g => .yes n g e

/-- The rounds of a repeat. -/
def times (kid : Nat → K → Nat → Grp → Res) (least : Nat) (most : Int) (lazy : Bool) : Nat → Nat → Nat → K → Nat → Grp → Res
  | 0, _, _, _, n, _ => .no n
  | fuel + 1, made, at', k, n, g =>
    let more : Nat → Res := fun n => if most ≠ -1 ∧ most ≤ (made : Int) then .no n
      else kid at' (fun e n g => if e = at' ∧ least ≤ made then k e n g else times kid least most lazy fuel (made + 1) e k n g) n g
    if made < least then more n
    else if lazy then orElse (k at' n g) more
    else orElse (more n) (fun n => k at' n g)

/-- The first way of something by itself, and then what follows. -/
def alone (r : Res) (k : K) : Res := match r with | .over => .over | .no n => .no n | .yes n g e => k e n g

/-- Looking ahead, by what the first way gives. -/
def lookR (neg : Bool) (r : Res) (k : K) (at' : Nat) (g : Grp) : Res := match r with
  | .over => .over
  | .no n => if neg then k at' n g else .no n
  | .yes n h _ => if neg then .no n else k at' n h

/-- A pattern tried at a place. -/
def run (s : List UInt8) (B : Nat) : Re → Nat → K → Nat → Grp → Res
  | .set f, at', k, n, g => tick B n fun n => match byteAt s at' with | some c => if f c then k (at' + 1) n g else .no n | none => .no n
  | .asr a, at', k, n, g => tick B n fun n => if stands s a at' then k at' n g else .no n
  | .bref i, at', k, n, g => tick B n fun n =>
      if (g i).1 < 0 ∨ ¬ ((s.drop (g i).1.toNat).take ((g i).2.toNat - (g i).1.toNat)).isPrefixOf (s.drop at') = true then .no n
      else k (at' + ((g i).2.toNat - (g i).1.toNat)) n g
  | .nil, at', k, n, g => k at' n g
  | .cat a b, at', k, n, g => run s B a at' (fun e n g => run s B b e k n g) n g
  | .none, _, _, n, _ => .no n
  | .alt a b, at', k, n, g => orElse (run s B a at' k n g) (fun n => run s B b at' k n g)
  | .grp i a, at', k, n, g => if i = 0 then run s B a at' k n g else run s B a at' (fun e n g => k e n (upd g i ((at' : Int), (e : Int)))) n g
  | .look neg a, at', k, n, g => lookR neg (run s B a at' K0 n g) k at' g
  | .atom a, at', k, n, g => alone (run s B a at' K0 n g) k
  | .rep a least most lazy, at', k, n, g => times (run s B a) least most lazy (least + s.length + 2 - at') 0 at' k n g
  | .poss a least most, at', k, n, g => alone (times (run s B a) least most false (least + s.length + 2 - at') 0 at' K0 n g) k

/-- No group has matched. -/
def g0 : Grp := fun _ => (-1, -1)

/-- The first match from a place on (r places are left behind it), the whole as group 0. -/
def find (s : List UInt8) (B : Nat) (a : Re) (only : Bool) : Nat → Nat → Nat → Res
  | 0, at', n => (match run s B a at' K0 n g0 with | .over => .over | .no n => .no n | .yes n g e => .yes n (upd g 0 ((at' : Int), (e : Int))) e)
  | r + 1, at', n => match run s B a at' K0 n g0 with
    | .over => .over
    | .no n => if only then .no n else find s B a only r (at' + 1) n
    | .yes n g e => .yes n (upd g 0 ((at' : Int), (e : Int))) e
end Go.Proofs.YtlgpilcjcomacaaGreat.Rx

/-
  Heap words: what a call may touch; a matcher of the program in memory.
-/
namespace Go.Proofs.YtlgpilcjcomacaaGreat
open Go.RowKit

/-- From w to w' only blocks of S, and new ones, have turned. -/
structure Touch (S : Nat → Prop) (w w' : World) : Prop where
  os : w'.os = w.os
  tape : w'.tape = w.tape
  output : w'.output = w.output
  size : w.heap.size ≤ w'.heap.size
  block : ∀ k, k < w.heap.size → ¬ S k → w'.heap[k]? = w.heap[k]?

theorem Touch.refl (S : Nat → Prop) (w : World) : Touch S w w := ⟨rfl, rfl, rfl, Nat.le_refl _, fun _ _ _ => rfl⟩

theorem Touch.trans {S S1 : Nat → Prop} {a b c : World} (h : Touch S a b) (k : Touch S1 b c) (hs : ∀ i, S1 i → S i ∨ a.heap.size ≤ i) : Touch S a c :=
  ⟨k.os.trans h.os, k.tape.trans h.tape, k.output.trans h.output, Nat.le_trans h.size k.size, fun i hi hn =>
    (k.block i (Nat.lt_of_lt_of_le hi h.size) (fun h1 => by rcases hs i h1 with h2 | h2; exact hn h2; omega)).trans (h.block i hi hn)⟩

theorem Touch.mono {S S1 : Nat → Prop} {a b : World} (h : Touch S a b) (hs : ∀ i, i < a.heap.size → S i → S1 i) : Touch S1 a b :=
  ⟨h.os, h.tape, h.output, h.size, fun i hi hn => h.block i hi (fun h1 => hn (hs i hi h1))⟩

theorem Touch.then {S : Nat → Prop} {a b c : World} (h : Touch S a b) (k : Touch S b c) : Touch S a c := h.trans k (fun _ h => .inl h)

theorem Touch.drew {S : Nat → Prop} {a w : World} (h : Touch S a w) : Touch S a w.drew := ⟨h.os, h.tape, h.output, h.size, h.block⟩

theorem Touch.drewN {S : Nat → Prop} {a w : World} (n : Nat) (h : Touch S a w) : Touch S a (w.drewN n) := ⟨h.os, h.tape, h.output, h.size, h.block⟩

theorem Touch.alloc {S : Nat → Prop} {a w : World} (h : Touch S a w) (o : Obj) : Touch S a (w.alloc o) :=
  h.then ⟨rfl, rfl, rfl, by simp, fun k hk _ => Below.heap_alloc _ _ _ (by omega)⟩

theorem Touch.setCell {S : Nat → Prop} {a w : World} (h : Touch S a w) {p : Addr} (hp : S p.block ∨ a.heap.size ≤ p.block) (u : Value) : Touch S a (w.setCell p u) := by
  refine h.trans (S1 := fun i => i = p.block) ⟨rfl, rfl, rfl, by simp [World.setCell], fun k hk hn => Below.heap_setCell _ _ _ _ (fun e => hn e)⟩ ?_
  intro i hi
  subst hi
  exact hp

theorem Touch.grown {S : Nat → Prop} {a w w' : World} {row : Option Nat} (h : Touch S a w) (hg : w.grownBy w' row) (hr : ∀ k, row = some k → S k ∨ a.heap.size ≤ k) : Touch S a w' := by
  refine h.trans (S1 := fun i => some i = row) ⟨hg.os, hg.tape, hg.output, hg.size, fun k hk hn => hg.block k hk hn⟩ ?_
  intro i hi
  exact hr i hi.symm

theorem Touch.below {B : Nat} {w w' : World} (h : Below B w w') : Touch (fun k => B ≤ k) w w' :=
  ⟨h.os, h.tape, h.output, h.size, fun k _ hn => h.block k (by omega)⟩

theorem Touch.ofBelow {S : Nat → Prop} {w w' : World} (h : Below w.heap.size w w') : Touch S w w' :=
  ⟨h.os, h.tape, h.output, h.size, fun k hk _ => h.block k hk⟩

theorem Touch.toBelow {S : Nat → Prop} {B : Nat} {w w' : World} (h : Touch S w w') (hs : ∀ k, k < B → S k → False) (hB : B ≤ w.heap.size) : Below B w w' :=
  ⟨h.os, h.tape, h.output, h.size, fun k hk => h.block k (by omega) (fun h1 => hs k hk h1)⟩

/-- A cell of a block that is not touched. -/
theorem Touch.cell {S : Nat → Prop} {w w' : World} (h : Touch S w w') {p : Addr} (hp : p.block < w.heap.size) (hn : ¬ S p.block) : w'.cell? p = w.cell? p :=
  World.cell?_of_block (w := w) (h.block p.block hp hn)
theorem Touch.frozen {S : Nat → Prop} {w w' : World} (h : Touch S w w') {p : Addr} (hp : p.block < w.heap.size) (hn : ¬ S p.block) : w'.frozen? p = w.frozen? p :=
  World.frozen?_of_block (w := w) (h.block p.block hp hn)
theorem Touch.has {S : Nat → Prop} {w w' : World} (h : Touch S w w') {p : Addr} {v : Value} (hc : w.cell? p = some v) (hn : ¬ S p.block) : w'.cell? p = some v :=
  (h.cell (block_lt_of_cell hc) hn).trans hc

abbrev Still (w w' : World) : Prop := Touch (fun _ => False) w w'

namespace Rx

/-- A cell that can be written. -/
def Holds (w : World) (b o : Nat) (v : Value) : Prop := w.cell? ⟨b, o, none⟩ = some v ∧ w.frozen? ⟨b, o, none⟩ = false
theorem Holds.keep {S : Nat → Prop} {w w' : World} {b o : Nat} {v : Value} (h : Holds w b o v) (t : Touch S w w') (hn : ¬ S b) : Holds w' b o v :=
  ⟨t.has h.1 hn, (t.frozen (p := ⟨b, o, none⟩) (block_lt_of_cell h.1) hn).trans h.2⟩

theorem Holds.lt {w : World} {b o : Nat} {v : Value} (h : Holds w b o v) : b < w.heap.size := block_lt_of_cell h.1
theorem Holds.drewN {w : World} {b o : Nat} {v : Value} (h : Holds w b o v) (q : Nat) : Holds (w.drewN q) b o v := h
theorem Holds.set {w : World} {b o : Nat} {v : Value} (h : Holds w b o v) (u : Value) : Holds (w.setCell ⟨b, o, none⟩ u) b o u :=
  ⟨World.cell?_setCell_same w _ u h.1, (World.frozen?_setCell _ _ _ _).trans h.2⟩
theorem Holds.set_other {w : World} {b o : Nat} {v : Value} (h : Holds w b o v) {p : Addr} (u : Value) (hp : p.block ≠ b ∨ p.off ≠ o) : Holds (w.setCell p u) b o v :=
  ⟨(World.cell?_setCell_other w p _ u (fun e => by subst e; rcases hp with hp | hp <;> exact hp rfl)).trans h.1, (World.frozen?_setCell _ _ _ _).trans h.2⟩
theorem cell_set_other {w : World} {b o : Nat} {v : Value} (h : w.cell? ⟨b, o, none⟩ = some v) {p : Addr} (u : Value) (hp : p.block ≠ b ∨ p.off ≠ o) : (w.setCell p u).cell? ⟨b, o, none⟩ = some v :=
  (World.cell?_setCell_other w p _ u (fun e => by subst e; rcases hp with hp | hp <;> exact hp rfl)).trans h
theorem Holds.alloc {w : World} {b o : Nat} {v : Value} (h : Holds w b o v) (x : Obj) : Holds (w.alloc x) b o v :=
  ⟨(World.cell?_alloc_past _ _ _ h.lt).trans h.1, (World.frozen?_alloc_past _ _ _ h.lt).trans h.2⟩
theorem Holds.made (w : World) (cs : Array Value) (T : TypeId) (i : Nat) (v : Value) (h : cs[i]? = some v) : Holds (w.alloc (.cells cs T)) w.heap.size i v :=
  ⟨(World.cell?_alloc_at _ _ _ _ rfl).trans h, World.frozen?_alloc_at _ _ _ _ rfl⟩

/-- What is fixed while a pattern is tried: the matcher's block, the groups' block, how many groups, the budget, the text, the world in which the tree was read. -/
structure Cx where
  bm : Nat
  bg : Nat
  G : Nat
  B : Nat
  s : ByteArray
  wT : World

/-- Each group is empty, or lies in the text. -/
def GInv (L : Nat) (g : Grp) : Prop := ∀ i, g i = (-1, -1) ∨ (0 ≤ (g i).1 ∧ (g i).1 ≤ (g i).2 ∧ (g i).2 ≤ (L : Int))

/-- The groups' cells. -/
def gv (g : Grp) (j : Nat) : Value := .int .i64 (if j % 2 = 0 then (g (j / 2)).1 else (g (j / 2)).2)
def gl (G : Nat) (g : Grp) : List Value := (List.range (2 * (G + 1))).map (gv g)
theorem gl_length (G : Nat) (g : Grp) : (gl G g).length = (G + 1) * 2 := by simp [gl]; omega
theorem gl_get (G : Nat) (g : Grp) (j : Nat) (h : j < 2 * (G + 1)) : (gl G g)[j]? = some (gv g j) := by simp [gl, h]
theorem gl_one (G : Nat) (g : Grp) : ∀ u ∈ gl G g, u.oneCell' = true := by
  intro u hu
  obtain ⟨j, -, rfl⟩ := List.mem_map.1 hu
  rfl
theorem gv_even (g : Grp) (i : Nat) : gv g (2 * i) = .int .i64 (g i).1 := by unfold gv; rw [if_pos (by omega), show 2 * i / 2 = i by omega]
theorem gv_odd (g : Grp) (i : Nat) : gv g (2 * i + 1) = .int .i64 (g i).2 := by unfold gv; rw [if_neg (by omega), show (2 * i + 1) / 2 = i by omega]
theorem gl_upd (G : Nat) (g : Grp) (i : Nat) (hi : i ≤ G) (v : Int × Int) : (((gl G g).toArray.setIfInBounds (2 * i) (.int .i64 v.1)).setIfInBounds (2 * i + 1) (.int .i64 v.2)) = (gl G (upd g i v)).toArray := by
  apply Array.ext'
  apply List.ext_getElem?
  intro j
  simp only [Array.toList_setIfInBounds, List.getElem?_set, List.length_set, gl_length]
  by_cases hj : j < 2 * (G + 1)
  · rw [gl_get G _ j hj, gl_get G _ j hj]
    by_cases h1 : 2 * i + 1 = j
    · subst h1
      rw [if_pos rfl, if_pos (by omega), gv_odd, show upd g i v i = v from if_pos rfl]
    · rw [if_neg h1]
      by_cases h0 : 2 * i = j
      · subst h0
        rw [if_pos rfl, if_pos (by omega), gv_even, show upd g i v i = v from if_pos rfl]
      · rw [if_neg h0]
        have hne : j / 2 ≠ i := by omega
        unfold gv upd
        rw [if_neg hne]
  · rw [if_neg (by omega), if_neg (by omega), List.getElem?_eq_none (by rw [gl_length]; omega), List.getElem?_eq_none (by rw [gl_length]; omega)]
theorem holds_of_block {w : World} {b : Nat} {cs : List Value} {T : TypeId} (h : w.heap[b]? = some (.cells cs.toArray T (0, 0))) {j : Nat} {v : Value} (hj : cs[j]? = some v) : Holds w b j v :=
  ⟨by unfold World.cell?; simp [h]; simpa using hj, by unfold World.frozen?; simp [h]⟩

/-- A matcher in memory, under way: n steps, groups g, its answer in block be. -/
structure Inv (c : Cx) (be n : Nat) (g : Grp) (w : World) : Prop where
  c0 : w.cell? ⟨c.bm, 0, none⟩ = some (.string c.s)
  c1 : Holds w c.bm 1 (.int .i64 n)
  c2 : w.cell? ⟨c.bm, 2, none⟩ = some (.int .i64 c.B)
  c3 : w.cell? ⟨c.bm, 3, none⟩ = some (.slice (some ⟨c.bg, 0, none⟩) (c.G + 1) (c.G + 1))
  gb : ∃ T, w.heap[c.bg]? = some (.cells (gl c.G g).toArray T (0, 0))
  ne : c.bm ≠ c.bg
  eh : ∃ x : Int, Holds w be 0 (.int .i64 x)
  em : be ≠ c.bm
  eg : be ≠ c.bg
  nB : n ≤ c.B
  lB : c.B ≤ 1000000
  lG : c.G ≤ 9
  sz : c.s.size ≤ 5000
  gi : GInv c.s.size g
  tr : Touch (fun b => b = c.bm) c.wT w
  hg : c.wT.heap.size ≤ c.bg
  he : c.wT.heap.size ≤ be
  f3 : w.frozen? ⟨c.bm, 3, none⟩ = false

/-- The blocks that are written. -/
def SS (c : Cx) (be : Nat) (b : Nat) : Prop := b = c.bm ∨ b = c.bg ∨ b = be

theorem Inv.g0 {c : Cx} {be n : Nat} {g : Grp} {w : World} (h : Inv c be n g w) (i : Nat) (hi : i ≤ c.G) : Holds w c.bg (2 * i) (.int .i64 (g i).1) := by
  obtain ⟨T, hb⟩ := h.gb
  exact holds_of_block hb ((gl_get c.G g (2 * i) (by omega)).trans (by rw [gv_even]))
theorem Inv.g1 {c : Cx} {be n : Nat} {g : Grp} {w : World} (h : Inv c be n g w) (i : Nat) (hi : i ≤ c.G) : Holds w c.bg (2 * i + 1) (.int .i64 (g i).2) := by
  obtain ⟨T, hb⟩ := h.gb
  exact holds_of_block hb ((gl_get c.G g (2 * i + 1) (by omega)).trans (by rw [gv_odd]))
theorem Inv.ltm {c : Cx} {be n : Nat} {g : Grp} {w : World} (h : Inv c be n g w) : c.bm < w.heap.size := h.c1.lt
theorem Inv.ltg {c : Cx} {be n : Nat} {g : Grp} {w : World} (h : Inv c be n g w) : c.bg < w.heap.size := (h.g0 0 (Nat.zero_le _)).lt
theorem Inv.lte {c : Cx} {be n : Nat} {g : Grp} {w : World} (h : Inv c be n g w) : be < w.heap.size := by obtain ⟨x, hx⟩ := h.eh; exact hx.lt
theorem Inv.ss {c : Cx} {be n : Nat} {g : Grp} {w : World} (h : Inv c be n g w) {b : Nat} (hb : w.heap.size ≤ b) : ¬ SS c be b := by
  have h1 := h.ltm; have h2 := h.ltg; have h3 := h.lte
  rintro (e | e | e) <;> omega

/-- Nothing that counts has turned. -/
theorem Inv.keep {c : Cx} {be n : Nat} {g : Grp} {w w' : World} (h : Inv c be n g w) (t : Still w w') : Inv c be n g w' :=
  ⟨t.has h.c0 id, h.c1.keep t id, t.has h.c2 id, t.has h.c3 id, by obtain ⟨T, hb⟩ := h.gb; exact ⟨T, (t.block _ h.ltg id).trans hb⟩, h.ne, by obtain ⟨x, hx⟩ := h.eh; exact ⟨x, hx.keep t id⟩,
    h.em, h.eg, h.nB, h.lB, h.lG, h.sz, h.gi, h.tr.trans t (fun _ e => e.elim), h.hg, h.he, (t.frozen (p := ⟨c.bm, 3, none⟩) h.ltm id).trans h.f3⟩

/-- A step more. -/
theorem Inv.step {c : Cx} {be n : Nat} {g : Grp} {w : World} (h : Inv c be n g w) (q : Nat) (hn : n < c.B) : Inv c be (n + 1) g ((w.drewN q).setCell ⟨c.bm, 1, none⟩ (.int .i64 ((n + 1 : Nat) : Int))) :=
  ⟨cell_set_other (w := w.drewN q) h.c0 _ (.inr (by simp)), (h.c1.drewN q).set _, cell_set_other (w := w.drewN q) h.c2 _ (.inr (by simp)), cell_set_other (w := w.drewN q) h.c3 _ (.inr (by simp)),
    by obtain ⟨T, hb⟩ := h.gb; exact ⟨T, (Below.heap_setCell (w.drewN q) _ _ _ (Ne.symm h.ne)).trans hb⟩, h.ne, by obtain ⟨x, hx⟩ := h.eh; exact ⟨x, (hx.drewN q).set_other _ (.inl (Ne.symm h.em))⟩,
    h.em, h.eg, hn, h.lB, h.lG, h.sz, h.gi, (h.tr.drewN q).setCell (.inl rfl) _, h.hg, h.he, (World.frozen?_setCell (w.drewN q) _ _ _).trans h.f3⟩

/-- The answer is written. -/
theorem Inv.answer {c : Cx} {be n : Nat} {g : Grp} {w : World} (h : Inv c be n g w) (x : Int) : Inv c be n g (w.setCell ⟨be, 0, none⟩ (.int .i64 x)) :=
  ⟨cell_set_other h.c0 _ (.inl h.em), h.c1.set_other _ (.inl h.em), cell_set_other h.c2 _ (.inl h.em), cell_set_other h.c3 _ (.inl h.em),
    by obtain ⟨T, hb⟩ := h.gb; exact ⟨T, (Below.heap_setCell w _ _ _ (Ne.symm h.eg)).trans hb⟩, h.ne, by obtain ⟨y, hy⟩ := h.eh; exact ⟨x, hy.set _⟩,
    h.em, h.eg, h.nB, h.lB, h.lG, h.sz, h.gi, h.tr.setCell (.inr h.he) _, h.hg, h.he, (World.frozen?_setCell _ _ _ _).trans h.f3⟩

/-- Another answer's block. -/
theorem Inv.other {c : Cx} {be be' n : Nat} {g : Grp} {w : World} (h : Inv c be n g w) {x : Int} (hx : Holds w be' 0 (.int .i64 x)) (em : be' ≠ c.bm) (eg : be' ≠ c.bg) (he : c.wT.heap.size ≤ be') : Inv c be' n g w :=
  ⟨h.c0, h.c1, h.c2, h.c3, h.gb, h.ne, ⟨x, hx⟩, em, eg, h.nB, h.lB, h.lG, h.sz, h.gi, h.tr, h.hg, he, h.f3⟩

/-- One group is written. -/
theorem Inv.group {c : Cx} {be n : Nat} {g : Grp} {w : World} (h : Inv c be n g w) (i : Nat) (hi : i ≤ c.G) (v : Int × Int) (hv : v = (-1, -1) ∨ (0 ≤ v.1 ∧ v.1 ≤ v.2 ∧ v.2 ≤ (c.s.size : Int))) :
    Inv c be n (upd g i v) ((w.setCell ⟨c.bg, 2 * i, none⟩ (.int .i64 v.1)).setCell ⟨c.bg, 2 * i + 1, none⟩ (.int .i64 v.2)) :=
  ⟨cell_set_other (cell_set_other h.c0 _ (.inl (Ne.symm h.ne))) _ (.inl (Ne.symm h.ne)), (h.c1.set_other _ (.inl (Ne.symm h.ne))).set_other _ (.inl (Ne.symm h.ne)),
    cell_set_other (cell_set_other h.c2 _ (.inl (Ne.symm h.ne))) _ (.inl (Ne.symm h.ne)), cell_set_other (cell_set_other h.c3 _ (.inl (Ne.symm h.ne))) _ (.inl (Ne.symm h.ne)),
    by
      obtain ⟨T, hb⟩ := h.gb
      refine ⟨T, ?_⟩
      rw [setCell_eq_setRow w c.bg (2 * i) _ T (0, 0) _ hb]
      have h1 := setRow_heap w c.bg _ ((gl c.G g).toArray.setIfInBounds (2 * i) (.int .i64 v.1)) T (0, 0) hb
      rw [setCell_eq_setRow _ c.bg (2 * i + 1) _ T (0, 0) _ h1, setRow_heap _ c.bg _ _ T (0, 0) h1, gl_upd _ _ _ hi],
    h.ne, by obtain ⟨x, hx⟩ := h.eh; exact ⟨x, (hx.set_other _ (.inl (Ne.symm h.eg))).set_other _ (.inl (Ne.symm h.eg))⟩, h.em, h.eg, h.nB, h.lB, h.lG, h.sz,
    fun j => by
      by_cases e : j = i
      · subst e; rw [show (upd g j v j) = v from if_pos rfl]; exact hv
      · rw [show (upd g i v j) = g j from if_neg e]; exact h.gi j,
    (h.tr.setCell (.inr h.hg) _).setCell (.inr h.hg) _, h.hg, h.he, ((World.frozen?_setCell _ _ _ _).trans (World.frozen?_setCell _ _ _ _)).trans h.f3⟩

/-- All groups are written over. -/
theorem Inv.restore {c : Cx} {be n : Nat} {g g' : Grp} {w w' : World} (h : Inv c be n g w) (t : Touch (fun b => b = c.bg) w w') {T : TypeId} (hb : w'.heap[c.bg]? = some (.cells (gl c.G g').toArray T (0, 0))) (hg : GInv c.s.size g') : Inv c be n g' w' :=
  ⟨t.has h.c0 h.ne, h.c1.keep t h.ne, t.has h.c2 h.ne, t.has h.c3 h.ne, ⟨T, hb⟩, h.ne, by obtain ⟨x, hx⟩ := h.eh; exact ⟨x, hx.keep t h.eg⟩, h.em, h.eg, h.nB, h.lB, h.lG, h.sz, hg,
    h.tr.trans t (fun i e => .inr (by subst e; exact h.hg)), h.hg, h.he, (t.frozen (p := ⟨c.bm, 3, none⟩) h.ltm h.ne).trans h.f3⟩

/-- The bytes of a string. -/
def str (s : ByteArray) : List UInt8 := s.data.toList
theorem str_len (s : ByteArray) : (str s).length = s.size := by unfold str; rw [Array.length_toList]; rfl
theorem byteAt_lt {s : ByteArray} {i : Nat} (h : i < s.size) : byteAt (str s) i = some (s[i]'h).toNat := by
  unfold byteAt str
  rw [List.getElem?_eq_getElem (by rw [Array.length_toList]; exact h)]
  rfl
theorem byteAt_ge {s : ByteArray} {i : Nat} (h : s.size ≤ i) : byteAt (str s) i = none := by
  unfold byteAt str
  rw [List.getElem?_eq_none (by rw [Array.length_toList]; exact h)]
  rfl
end Rx
end Go.Proofs.YtlgpilcjcomacaaGreat

/-
  The small functions of the program's matcher: isWord, word, stands, step.
-/
namespace Go.Proofs.YtlgpilcjcomacaaGreat
open Go.RowKit Rx
set_option linter.unusedVariables false

theorem ret_bool {a b : Bool} (h : a = b) : Ending.returned (.bool a) = .returned (.bool b) := by rw [h]

set_option maxRecDepth 100000 in
theorem isWord_any (c : UInt8) (w : World) : Calls Tryz.prog 97 #[.int .u8 c.toNat] w fun e w' => e = .returned (.bool (wordB c.toNat)) ∧ w = w' := by
  go_enter Tryz.func97, Tryz.ntmps97
  go_wp2
  all_goals (go_ret; refine ⟨ret_bool ?_, rfl⟩)
  all_goals (rw [Bool.eq_iff_iff]; unfold wordB; simp; omega)

/-- Whether there is a byte of a word at a place, -1 too. -/
def wordI (s : List UInt8) (i : Int) : Bool := decide (0 ≤ i) && wordAt s i.toNat
theorem wordI_at (s : List UInt8) (k : Nat) : wordI s (k : Int) = wordAt s k := by unfold wordI; simp
theorem wordI_pred (s : List UInt8) (k : Nat) : wordI s ((k : Int) - 1) = (decide (0 < k) && wordAt s (k - 1)) := by
  unfold wordI
  rw [show ((k : Int) - 1).toNat = k - 1 by omega, show decide (0 ≤ (k : Int) - 1) = decide (0 < k) from decide_eq_decide.2 (by omega)]

theorem word_any (bm : Nat) (s : ByteArray) (i : Int) (w : World) (hs : s.size ≤ 5000) (h0 : w.cell? ⟨bm, 0, none⟩ = some (.string s)) :
    Calls Tryz.prog 84 #[.pointer (some ⟨bm, 0, none⟩), .int .i64 i] w fun e w' => e = .returned (.bool (wordI (str s) i)) ∧ w = w' := by
  by_cases h : 0 ≤ i
  · obtain ⟨k, rfl⟩ := Int.eq_ofNat_of_zero_le h
    by_cases hk : k < s.size
    · have hW := Lib.hid (isWord_any (s[k]'hk) w)
      have HB := Lib.hid (byteAt_lt hk)
      go_enter Tryz.func84, Tryz.ntmps84
      go_wp2_with (go_at_call 97; refine hW.out.mono ?_; rintro e w' ⟨rfl, rfl⟩)
      go_ret
      refine ⟨ret_bool ?_, rfl⟩
      rw [wordI_at]; unfold wordAt; rw [HB.out]
    · have HB := Lib.hid (byteAt_ge (Nat.le_of_not_lt hk))
      go_enter Tryz.func84, Tryz.ntmps84
      go_wp2
      go_ret
      refine ⟨ret_bool ?_, rfl⟩
      rw [wordI_at]; unfold wordAt; rw [HB.out]
  · go_enter Tryz.func84, Tryz.ntmps84
    go_wp2
    go_ret
    refine ⟨ret_bool ?_, rfl⟩
    unfold wordI; simp; intro h'; exact absurd h' (by omega)

theorem u8_eq (a : UInt8) (n : Nat) (h : n < 256) : (((a.toNat : Nat) : Int) == (n : Int)) = decide (a.toNat = n) := by
  rw [Bool.eq_iff_iff]; simp; omega

set_option maxRecDepth 100000 in
theorem stands_any (bm k at' : Nat) (s : ByteArray) (w : World) (hk : 1 ≤ k) (hk6 : k ≤ 6) (hs : s.size ≤ 5000) (ha : at' ≤ s.size) (h0 : w.cell? ⟨bm, 0, none⟩ = some (.string s)) :
    Calls Tryz.prog 63 #[.pointer (some ⟨bm, 0, none⟩), .int .i64 k, .int .i64 at'] w fun e w' => e = .returned (.bool (Rx.stands (str s) k at')) ∧ w = w' := by
  have HW1 := Lib.hid (word_any bm s ((at' : Int) - 1) w hs h0)
  have HW2 := Lib.hid (word_any bm s (at' : Int) w hs h0)
  rw [wordI_pred] at HW1
  rw [wordI_at] at HW2
  obtain rfl | rfl | rfl | rfl | rfl | rfl : k = 1 ∨ k = 2 ∨ k = 3 ∨ k = 4 ∨ k = 5 ∨ k = 6 := by omega
  · by_cases hz : at' = 0
    · subst hz
      go_enter Tryz.func63, Tryz.ntmps63
      go_wp2_with fail
      go_ret
      exact ⟨ret_bool (by simp [Rx.stands]), rfl⟩
    · have hb := byteAt_lt (s := s) (i := at' - 1) (by omega)
      have HB := Lib.hid hb; clear hb
      have hlt : at' - 1 < s.size := by omega
      have ht : ((at' : Int) - 1).toNat = at' - 1 := by omega
      have hz' : ((at' : Int) == 0) = false := by simp; omega
      go_enter Tryz.func63, Tryz.ntmps63
      go_wp2_with fail
      go_ret
      refine ⟨ret_bool ?_, rfl⟩
      unfold Rx.stands
      rw [HB.out, if_pos rfl, decide_eq_false hz]
      rw [Bool.eq_iff_iff]; simp; omega
  · by_cases hz : at' < s.size
    · have hb := byteAt_lt hz
      have HB := Lib.hid hb; clear hb
      have hz' : ((at' : Int) == (s.size : Int)) = false := by simp; omega
      go_enter Tryz.func63, Tryz.ntmps63
      go_wp2_with fail
      go_ret
      refine ⟨ret_bool ?_, rfl⟩
      unfold Rx.stands
      rw [HB.out, if_neg (by decide), if_pos rfl, str_len, decide_eq_false (by omega : ¬ at' = s.size)]
      rw [Bool.eq_iff_iff]; simp; omega
    · obtain rfl : at' = s.size := by omega
      go_enter Tryz.func63, Tryz.ntmps63
      go_wp2_with fail
      go_ret
      exact ⟨ret_bool (by simp [Rx.stands, str_len]), rfl⟩
  · go_enter Tryz.func63, Tryz.ntmps63
    go_wp2_with fail
    go_ret
    exact ⟨ret_bool (by unfold Rx.stands; rw [if_neg (by decide), if_neg (by decide), if_pos rfl, Bool.eq_iff_iff]; simp), rfl⟩
  · go_enter Tryz.func63, Tryz.ntmps63
    go_wp2_with fail
    go_ret
    exact ⟨ret_bool (by unfold Rx.stands; rw [if_neg (by decide), if_neg (by decide), if_neg (by decide), if_pos rfl, str_len, Bool.eq_iff_iff]; simp; omega), rfl⟩
  · go_enter Tryz.func63, Tryz.ntmps63
    go_wp2_with fail
    refine HW1.out.mono ?_
    rintro e w' ⟨rfl, rfl⟩
    go_wp2_with fail
    refine HW2.out.mono ?_
    rintro e w' ⟨rfl, rfl⟩
    go_wp2_with fail
    go_ret
    refine ⟨ret_bool ?_, rfl⟩
    unfold Rx.stands
    rfl
  · go_enter Tryz.func63, Tryz.ntmps63
    go_wp2_with fail
    refine HW1.out.mono ?_
    rintro e w' ⟨rfl, rfl⟩
    go_wp2_with fail
    refine HW2.out.mono ?_
    rintro e w' ⟨rfl, rfl⟩
    go_wp2_with fail
    go_ret
    refine ⟨ret_bool ?_, rfl⟩
    unfold Rx.stands
    rfl

set_option maxRecDepth 100000 in
theorem step_over (bm B : Nat) (w : World) (h1 : w.cell? ⟨bm, 1, none⟩ = some (.int .i64 B)) (h2 : w.cell? ⟨bm, 2, none⟩ = some (.int .i64 B)) :
    Calls Tryz.prog 62 #[.pointer (some ⟨bm, 0, none⟩)] w fun e w' => e = .panicked [{ v := .iface 112 (.agg #[]), recovered := false }] ∧ ∃ q, w' = w.drewN q := by
  go_enter Tryz.func62, Tryz.ntmps62
  go_wp2_with fail
  go_quiet (fail)
  go_wp2_with fail
  exact ⟨rfl, rfl, _, rfl⟩

set_option maxRecDepth 100000 in
theorem step_on (bm B n : Nat) (w : World) (hn : n < B) (hB : B ≤ 1000000) (h1 : Holds w bm 1 (.int .i64 n)) (h2 : w.cell? ⟨bm, 2, none⟩ = some (.int .i64 B)) :
    Calls Tryz.prog 62 #[.pointer (some ⟨bm, 0, none⟩)] w fun e w' => e = .returned (.tuple #[]) ∧ ∃ q, w' = (w.drewN q).setCell ⟨bm, 1, none⟩ (.int .i64 ((n + 1 : Nat) : Int)) := by
  obtain ⟨h1, hf⟩ := h1
  have hd : ((n : Int) == (B : Int)) = false := by simp; omega
  go_enter Tryz.func62, Tryz.ntmps62
  go_wp2_with fail
  go_quiet (fail)
  go_wp2_with fail
  go_end0
  exact ⟨rfl, _, rfl⟩
end Go.Proofs.YtlgpilcjcomacaaGreat

/-
  What a pattern's functions of the program are asked to do; the answer's closure; a row's closure.
-/
namespace Go.Proofs.YtlgpilcjcomacaaGreat
open Go.RowKit Rx
set_option linter.unusedVariables false

/-- What comes back of a try from a place lo on. -/
def Got (c : Cx) (be : Nat) (w : World) (lo : Nat) (g : Grp) : Res → Ending → World → Prop
  | .over, e, w' => e = .panicked [{ v := .iface 112 (.agg #[]), recovered := false }] ∧ Touch (SS c be) w w'
  | .no n, e, w' => e = .returned (.bool false) ∧ Inv c be n g w' ∧ Touch (SS c be) w w'
  | .yes n h x, e, w' => e = .returned (.bool true) ∧ Inv c be n h w' ∧ Holds w' be 0 (.int .i64 (x : Int)) ∧ lo ≤ x ∧ x ≤ c.s.size ∧ Touch (SS c be) w w'

theorem Got.from {c : Cx} {be : Nat} {w w1 : World} {lo lo1 : Nat} {g : Grp} {r : Res} {e : Ending} {w' : World} (h : Got c be w1 lo1 g r e w') (t : Touch (SS c be) w w1) (hl : lo ≤ lo1) : Got c be w lo g r e w' := by
  cases r with
  | over => exact ⟨h.1, t.then h.2⟩
  | no n => exact ⟨h.1, h.2.1, t.then h.2.2⟩
  | yes n k x => obtain ⟨h1, h2, h3, h4, h5, h6⟩ := h; exact ⟨h1, h2, h3, by omega, h5, t.then h6⟩

theorem Got.ends {c : Cx} {be : Nat} {w : World} {lo : Nat} {g : Grp} {r : Res} {e : Ending} {w' : World} (h : Got c be w lo g r e w') : e = .panicked [{ v := .iface 112 (.agg #[]), recovered := false }] ∨ ∃ b, e = .returned (.bool b) := by
  cases r with
  | over => exact .inl h.1
  | no n => exact .inr ⟨_, h.1⟩
  | yes n k x => exact .inr ⟨_, h.1⟩

/-- A function value of the program that stands for what is to follow. -/
def KOK (c : Cx) (be : Nat) (kv : Value) (k : K) (lo : Nat) (w0 : World) : Prop :=
  ∃ f cap, kv = .func (.func f) #[] cap ∧ (∀ args w, (callFunc f args).run Tryz.prog w = .ok (.enter f args) w) ∧
    ∀ (w : World) (at' n : Nat) (g : Grp), Touch (SS c be) w0 w → Inv c be n g w → lo ≤ at' → at' ≤ c.s.size →
      Calls Tryz.prog f (#[.int .i64 (at' : Int)] ++ cap) w (Got c be w at' g (k at' n g))

theorem KOK.later {c : Cx} {be : Nat} {kv : Value} {k : K} {lo lo1 : Nat} {w0 w1 : World} (h : KOK c be kv k lo w0) (t : Touch (SS c be) w0 w1) (hl : lo ≤ lo1) : KOK c be kv k lo1 w1 := by
  obtain ⟨f, cap, e, en, h⟩ := h
  exact ⟨f, cap, e, en, fun w at' n g t1 hI h1 h2 => h w at' n g (t.then t1) hI (by omega) h2⟩

theorem enters_first1 (args : Array Value) (w : World) : (callFunc 61 args).run Tryz.prog w = .ok (.enter 61 args) w :=
  enters_of Tryz.func61 (by kernel_rfl) rfl args w

/-- The last thing to follow: the place is the answer. -/
theorem first1_any (c : Cx) (be at' n : Nat) (g : Grp) (w : World) (hI : Inv c be n g w) (ha : at' ≤ c.s.size) :
    Calls Tryz.prog 61 #[.int .i64 (at' : Int), .pointer (some ⟨be, 0, none⟩)] w (Got c be w at' g (K0 at' n g)) := by
  have HI := Lib.hid (hI.answer (at' : Int))
  have HT : Hid (Touch (SS c be) w (w.setCell ⟨be, 0, none⟩ (.int .i64 (at' : Int)))) := Lib.hid ((Touch.refl _ _).setCell (.inl (.inr (.inr rfl))) _)
  obtain ⟨x, hx⟩ := hI.eh
  have HH := Lib.hid (hx.set (.int .i64 (at' : Int)))
  obtain ⟨hc, hf⟩ := hx
  clear hI
  go_enter Tryz.func61, Tryz.ntmps61
  go_wp2_with fail
  go_ret
  exact ⟨rfl, HI.out, HH.out, Nat.le_refl _, ha, HT.out⟩

theorem KOK0 (c : Cx) (be lo : Nat) (w : World) : KOK c be (.func (.func 61) #[] #[.pointer (some ⟨be, 0, none⟩)]) K0 lo w :=
  ⟨_, _, rfl, enters_first1, fun w at' n g _ hI _ h2 => first1_any c be at' n g w hI h2⟩

/-! The tree of a pattern in memory. -/

structure Rd where
  node : Value → Prop
  row : Option Addr → Nat → Prop
  ways : Option Addr → Nat → Prop

/-- A node of the program: its cells. -/
structure NodeC (F : Nat → Prop) (w : World) (b : Nat) (kind : Int) (of : Value) (num : Int) (wa : Option Addr) (wl wc : Nat) (kid : Value) (least most how : Int) : Prop where
  fb : F b
  c0 : w.cell? ⟨b, 0, none⟩ = some (.int .i64 kind)
  c1 : w.cell? ⟨b, 1, none⟩ = some of
  c2 : w.cell? ⟨b, 2, none⟩ = some (.int .i64 num)
  c3 : w.cell? ⟨b, 3, none⟩ = some (.slice wa wl wc)
  c4 : w.cell? ⟨b, 4, none⟩ = some kid
  c5 : w.cell? ⟨b, 5, none⟩ = some (.int .i64 least)
  c6 : w.cell? ⟨b, 6, none⟩ = some (.int .i64 most)
  c7 : w.cell? ⟨b, 7, none⟩ = some (.int .i64 how)

/-- A tree in memory: as a node, as a row, as alternatives. -/
def rd (F : Nat → Prop) (w : World) (G : Nat) : Re → Rd
  | .set f => ⟨fun p => ∃ b sb num wa wl wc kid least most how, p = .pointer (some ⟨b, 0, none⟩) ∧ NodeC F w b 0 (.pointer (some ⟨sb, 0, none⟩)) num wa wl wc kid least most how ∧ F sb ∧ ∀ i, i < 256 → w.cell? ⟨sb, i, none⟩ = some (.bool (f i)), fun _ _ => False, fun _ _ => False⟩
  | .asr k => ⟨fun p => ∃ b of num wa wl wc kid least most how, p = .pointer (some ⟨b, 0, none⟩) ∧ NodeC F w b (k : Int) of num wa wl wc kid least most how ∧ 1 ≤ k ∧ k ≤ 6, fun _ _ => False, fun _ _ => False⟩
  | .bref m => ⟨fun p => ∃ b of wa wl wc kid least most how, p = .pointer (some ⟨b, 0, none⟩) ∧ NodeC F w b 7 of (m : Int) wa wl wc kid least most how ∧ 1 ≤ m ∧ m ≤ G, fun _ _ => False, fun _ _ => False⟩
  | .nil => ⟨fun _ => False, fun _ l => l = 0, fun _ _ => False⟩
  | .cat x r => ⟨fun _ => False, fun a l => ∃ b o p, a = some ⟨b, o, none⟩ ∧ F b ∧ 1 ≤ l ∧ l ≤ 1000 ∧ w.cell? ⟨b, o, none⟩ = some p ∧ (rd F w G x).node p ∧ (rd F w G r).row (some ⟨b, o + 1, none⟩) (l - 1), fun _ _ => False⟩
  | .none => ⟨fun _ => False, fun _ _ => False, fun _ l => l = 0⟩
  | .alt x r => ⟨fun _ => False, fun _ _ => False, fun a l => ∃ b o ra rl rc, a = some ⟨b, o, none⟩ ∧ F b ∧ 1 ≤ l ∧ l ≤ 1000 ∧ rl ≤ rc ∧ w.cell? ⟨b, o, none⟩ = some (.slice ra rl rc) ∧ (rd F w G x).row ra rl ∧ (rd F w G r).ways (some ⟨b, o + 1, none⟩) (l - 1)⟩
  | .grp m x => ⟨fun p => ∃ b of wa wl wc kid least most how, p = .pointer (some ⟨b, 0, none⟩) ∧ NodeC F w b 8 of (m : Int) wa wl wc kid least most how ∧ m ≤ G ∧ wl ≤ wc ∧ (rd F w G x).ways wa wl, fun _ _ => False, fun _ _ => False⟩
  | .look neg x => ⟨fun p => ∃ b of num wa wl wc kid least most how, p = .pointer (some ⟨b, 0, none⟩) ∧ NodeC F w b (if neg then 10 else 9) of num wa wl wc kid least most how ∧ wl ≤ wc ∧ (rd F w G x).ways wa wl, fun _ _ => False, fun _ _ => False⟩
  | .atom x => ⟨fun p => ∃ b of num wa wl wc kid least most how, p = .pointer (some ⟨b, 0, none⟩) ∧ NodeC F w b 11 of num wa wl wc kid least most how ∧ wl ≤ wc ∧ (rd F w G x).ways wa wl, fun _ _ => False, fun _ _ => False⟩
  | .rep x least most lazy => ⟨fun p => ∃ b of num wa wl wc kid, p = .pointer (some ⟨b, 0, none⟩) ∧ NodeC F w b 12 of num wa wl wc kid (least : Int) most (if lazy then 1 else 0) ∧ least ≤ 100 ∧ -1 ≤ most ∧ most ≤ 100 ∧ (rd F w G x).node kid, fun _ _ => False, fun _ _ => False⟩
  | .poss x least most => ⟨fun p => ∃ b of num wa wl wc kid, p = .pointer (some ⟨b, 0, none⟩) ∧ NodeC F w b 12 of num wa wl wc kid (least : Int) most 2 ∧ least ≤ 100 ∧ -1 ≤ most ∧ most ≤ 100 ∧ (rd F w G x).node kid, fun _ _ => False, fun _ _ => False⟩

/-- A tree in the world in which it was read; its blocks are no matcher's. -/
def trd (c : Cx) (a : Re) : Rd := rd (fun b => b ≠ c.bm) c.wT c.G a

theorem rd_row0 {F : Nat → Prop} {w : World} {G : Nat} {a : Re} {x y : Option Addr} (h : (rd F w G a).row x 0) : (rd F w G a).row y 0 := by
  cases a with
  | nil => exact rfl
  | cat p q => obtain ⟨b, o, p, -, -, h1, -⟩ := h; omega
  | _ => exact h.elim

/-- A cell of the tree while the pattern is tried. -/
theorem Rx.Inv.tree {c : Cx} {be n : Nat} {g : Grp} {w : World} (h : Inv c be n g w) {b o : Nat} {v : Value} (hc : c.wT.cell? ⟨b, o, none⟩ = some v) (hb : b ≠ c.bm) : w.cell? ⟨b, o, none⟩ = some v :=
  h.tr.has hc hb

def NodeOK (c : Cx) (a : Re) : Prop := ∀ (be : Nat) (p : Value) (at' : Nat) (kv : Value) (k : K) (n : Nat) (g : Grp) (w : World), (trd c a).node p → Inv c be n g w → at' ≤ c.s.size → KOK c be kv k at' w →
  Calls Tryz.prog 49 #[.pointer (some ⟨c.bm, 0, none⟩), p, .int .i64 (at' : Int), kv] w (Got c be w at' g (run (str c.s) c.B a at' k n g))
def RowOK (c : Cx) (a : Re) : Prop := ∀ (be : Nat) (x : Option Addr) (l cap : Nat) (at' : Nat) (kv : Value) (k : K) (n : Nat) (g : Grp) (w : World), (trd c a).row x l → l ≤ cap → Inv c be n g w → at' ≤ c.s.size → KOK c be kv k at' w →
  Calls Tryz.prog 86 #[.pointer (some ⟨c.bm, 0, none⟩), .slice x l cap, .int .i64 (at' : Int), kv] w (Got c be w at' g (run (str c.s) c.B a at' k n g))
/-- Alternatives from the i-th on. -/
def WaysOK (c : Cx) (a : Re) : Prop := ∀ (be b : Nat) (x : Option Addr) (l cap : Nat) (at' : Nat) (kv : Value) (k : K) (n : Nat) (g : Grp) (w : World), b ≠ c.bm → c.wT.cell? ⟨b, 3, none⟩ = some (.slice x l cap) → (trd c a).ways x l → l ≤ cap → Inv c be n g w → at' ≤ c.s.size → KOK c be kv k at' w →
  Calls Tryz.prog 65 #[.pointer (some ⟨c.bm, 0, none⟩), .pointer (some ⟨b, 0, none⟩), .int .i64 (at' : Int), kv] w (Got c be w at' g (run (str c.s) c.B a at' k n g))
end Go.Proofs.YtlgpilcjcomacaaGreat

/-
  The program's row and its closure; alternatives.
-/
namespace Go.Proofs.YtlgpilcjcomacaaGreat
open Go.RowKit Rx
set_option linter.unusedVariables false

theorem row_nil (c : Cx) : RowOK c .nil := by
  intro be x l cap at' kv k n g w hr hl hI ha hk
  obtain rfl : l = 0 := hr
  obtain ⟨f, cp, rfl, en, hk⟩ := hk
  have HI := Lib.hid hI; clear hI
  have HK := Lib.hid hk; clear hk
  show Calls _ _ _ _ (Got c be w at' g (k at' n g))
  go_enter Tryz.func86, Tryz.ntmps86
  go_wp2_with fail
  refine (HK.out _ at' n g ((((Touch.refl _ _).alloc _).alloc _).alloc _) (HI.out.keep ((((Touch.refl _ _).alloc _).alloc _).alloc _)) (Nat.le_refl _) ha).mono ?_
  intro e w' hG
  have HG := Lib.hid (hG.from ((((Touch.refl _ _).alloc _).alloc _).alloc _) (Nat.le_refl _))
  rcases hG.ends with rfl | ⟨b, rfl⟩
  · exact ⟨rfl, HG.out⟩
  · clear hG
    go_wp2_with fail
    go_ret
    exact HG.out

theorem enters_row1 (args : Array Value) (w : World) : (callFunc 98 args).run Tryz.prog w = .ok (.enter 98 args) w :=
  enters_of Tryz.func98 (by kernel_rfl) rfl args w

theorem run_rest (b o l cap : Nat) (hl : l ≤ cap) : ∃ a : Option Addr, (l = 0 ∨ a = some ⟨b, o + 1, none⟩) ∧ ∀ w : World, (Instr.slice 90 (.slice (some ⟨b, o, none⟩) (l + 1) (cap + 1)) (some (.int .i64 1)) none none).run Tryz.prog w = .ok (.slice a l cap) w := by
  refine ⟨if cap = 0 then some ⟨b, o, none⟩ else some ⟨b, o + 1, none⟩, ?_, fun w => ?_⟩
  · by_cases h : cap = 0
    · exact .inl (by omega)
    · exact .inr (if_neg h)
  have h1 : (1 : Int) ≤ (l : Int) + 1 := by omega
  simp [Instr.slice, go_sem, h1]

set_option maxRecDepth 100000 in
/-- The rest of a row, from the closure's variables. -/
theorem row1_any (c : Cx) (r : Re) (hR : RowOK c r) (be : Nat) (b o l cap : Nat) (hrow : (trd c r).row (some ⟨b, o + 1, none⟩) l) (hl : l ≤ cap) (kv : Value) (k : K) (n : Nat) (g : Grp) (w : World) (vm vl vk : Nat)
    (h1 : w.cell? ⟨vm, 0, none⟩ = some (.pointer (some ⟨c.bm, 0, none⟩))) (h2 : w.cell? ⟨vl, 0, none⟩ = some (.slice (some ⟨b, o, none⟩) (l + 1) (cap + 1))) (h3 : w.cell? ⟨vk, 0, none⟩ = some kv)
    (at' : Nat) (hI : Inv c be n g w) (ha : at' ≤ c.s.size) (hk : KOK c be kv k at' w) :
    Calls Tryz.prog 98 #[.int .i64 (at' : Int), .pointer (some ⟨vm, 0, none⟩), .pointer (some ⟨vl, 0, none⟩), .pointer (some ⟨vk, 0, none⟩)] w (Got c be w at' g (run (str c.s) c.B r at' k n g)) := by
  have HH0 : ∀ (x : Option Addr) (q : Nat), (l = 0 ∨ x = some ⟨b, o + 1, none⟩) → Calls Tryz.prog 86 #[.pointer (some ⟨c.bm, 0, none⟩), .slice x l cap, .int .i64 (at' : Int), kv] (w.drewN q) (Got c be (w.drewN q) at' g (run (str c.s) c.B r at' k n g)) := fun x q hx =>
    hR be x l cap at' kv k n g (w.drewN q) (by rcases hx with h | h; · subst h; exact rd_row0 hrow
                                               · rw [h]; exact hrow) hl (hI.keep ((Touch.refl _ _).drewN q)) ha (hk.later ((Touch.refl _ _).drewN q) (Nat.le_refl _))
  have HH := Lib.hid HH0; clear HH0
  obtain ⟨x, hx, hsl⟩ := run_rest b o l cap hl
  have HX := Lib.hid hx; clear hx
  clear hI hk hR hrow
  go_enter Tryz.func98, Tryz.ntmps98
  go_wp2_with fail
  go_still_tail 5, (by kernel_rfl)
  change wpList _ _ _ _ _ w.drew
  go_wp2_with fail
  refine (HH.out x 1 HX.out).mono ?_
  intro e w' hG
  have HG := Lib.hid (hG.from ((Touch.refl _ _).drewN 1) (Nat.le_refl _))
  rcases hG.ends with rfl | ⟨b, rfl⟩
  · exact ⟨rfl, HG.out⟩
  · clear hG
    go_wp2_with fail
    go_ret
    exact HG.out

set_option maxRecDepth 100000 in
theorem row_cat (c : Cx) (y r : Re) (hN : NodeOK c y) (hR : RowOK c r) : RowOK c (.cat y r) := by
  intro be x l cap at' kv k n g w hr hl hI ha hk
  obtain ⟨b, o, p, rfl, hb, hl1, hl2, hc, hp, hrr⟩ := hr
  obtain ⟨l, rfl⟩ : ∃ m, l = m + 1 := ⟨l - 1, by omega⟩
  obtain ⟨cap, rfl⟩ : ∃ m, cap = m + 1 := ⟨cap - 1, by omega⟩
  have hk2 := hk
  obtain ⟨f, cp, rfl, -, -⟩ := hk2
  obtain ⟨w3, hw3⟩ : ∃ w3, ((w.alloc (.cells #[.pointer (some ⟨c.bm, 0, none⟩)] 63)).alloc (.cells #[.slice (some ⟨b, o, none⟩) (l + 1) (cap + 1)] 90)).alloc (.cells #[.func (.func f) #[] cp] 118) = w3 := ⟨_, rfl⟩
  have T3 : Still w w3 := by rw [← hw3]; exact (((Touch.refl _ _).alloc _).alloc _).alloc _
  have k0 : w3.cell? ⟨w.heap.size, 0, none⟩ = some (.pointer (some ⟨c.bm, 0, none⟩)) := by rw [← hw3]; simp [go_sem]
  have k1 : w3.cell? ⟨w.heap.size + 1, 0, none⟩ = some (.slice (some ⟨b, o, none⟩) (l + 1) (cap + 1)) := by rw [← hw3]; simp [go_sem]
  have k2 : w3.cell? ⟨w.heap.size + 1 + 1, 0, none⟩ = some (.func (.func f) #[] cp) := by rw [← hw3]; simp [go_sem]
  have kb := T3.has (hI.tree hc hb) id
  have HT : Hid (Touch (SS c be) w w3.drew) := Lib.hid (Touch.mono T3.drew (fun _ _ h => h.elim))
  have s0 := hI.ss (b := w.heap.size) (Nat.le_refl _)
  have s1 := hI.ss (b := w.heap.size + 1) (by omega)
  have s2 := hI.ss (b := w.heap.size + 1 + 1) (by omega)
  have HN := Lib.hid (hN be p at' (.func (.func 98) #[] #[.pointer (some ⟨w.heap.size, 0, none⟩), .pointer (some ⟨w.heap.size + 1, 0, none⟩), .pointer (some ⟨w.heap.size + 1 + 1, 0, none⟩)]) (fun e n g => run (str c.s) c.B r e k n g) n g w3.drew hp (hI.keep T3.drew) ha
    ⟨_, _, rfl, enters_row1, fun w1 a1 n1 g1 t1 hI1 h1 h2 => row1_any c r hR be b o l cap hrr (by omega) _ k n1 g1 w1 _ _ _
      (t1.has k0 s0) (t1.has k1 s1) (t1.has k2 s2) a1 hI1 h2 (hk.later (HT.out.then t1) h1)⟩)
  clear hI hk hc hp hrr T3 hN hR s0 s1 s2
  show Calls _ _ _ _ (Got c be w at' g (run (str c.s) c.B y at' (fun e n g => run (str c.s) c.B r e k n g) n g))
  go_enter Tryz.func86, Tryz.ntmps86
  go_wp2_with fail
  clear hw3
  go_still_tail 6, (by kernel_rfl)
  change wpList _ _ _ _ _ (World.drew _)
  go_wp2_with fail
  refine HN.out.mono ?_
  intro e w' hG
  have HG := Lib.hid (hG.from HT.out (Nat.le_refl _))
  rcases hG.ends with rfl | ⟨b, rfl⟩
  · exact ⟨rfl, HG.out⟩
  · clear hG
    go_wp2_with fail
    go_ret
    exact HG.out

/-- The rows of alternatives are as they should be. -/
def AllRows (c : Cx) : Re → Prop
  | .alt y r => RowOK c y ∧ AllRows c r
  | _ => True

theorem trd_ways {c : Cx} {a : Re} {x : Option Addr} {l : Nat} (h : (trd c a).ways x l) (hl : l = 0) (s : List UInt8) (B at' : Nat) (k : K) (n : Nat) (g : Grp) : run s B a at' k n g = .no n := by
  cases a with
  | none => rfl
  | alt y r => obtain ⟨b, o, ra, rl, rc, -, -, h1, -⟩ := h; omega
  | _ => exact h.elim

set_option maxRecDepth 100000 in
theorem ways_nil (c : Cx) (a : Re) (be b : Nat) (x : Option Addr) (cap at' : Nat) (kv : Value) (k : K) (n : Nat) (g : Grp) (w : World) (hb : b ≠ c.bm) (hc : c.wT.cell? ⟨b, 3, none⟩ = some (.slice x 0 cap)) (hw : (trd c a).ways x 0) (hI : Inv c be n g w) (hk : ∃ f cp, kv = .func (.func f) #[] cp) :
    Calls Tryz.prog 65 #[.pointer (some ⟨c.bm, 0, none⟩), .pointer (some ⟨b, 0, none⟩), .int .i64 (at' : Int), kv] w (Got c be w at' g (run (str c.s) c.B a at' k n g)) := by
  have hcw := hI.tree hc hb
  have HI := Lib.hid hI; clear hI
  rw [trd_ways hw rfl]
  clear hc hw
  obtain ⟨f, cp, rfl⟩ := hk
  go_enter Tryz.func65, Tryz.ntmps65
  go_wp2_with fail
  go_loopw [16] (fun ii wr => ii = .int .i64 0 ∧ w = wr) (fun _ _ => 0)
  case atStart => exact ⟨rfl, rfl⟩
  case round =>
    obtain ⟨rfl, rfl⟩ := hrel
    go_wp2_with fail
    go_ret
    exact ⟨rfl, HI.out, Touch.refl _ _⟩

set_option maxRecDepth 100000 in
theorem ways_some (c : Cx) (a : Re) (hR : AllRows c a) (be b b0 o0 l cap at' : Nat) (kv : Value) (k : K) (n : Nat) (g : Grp) (w : World) (hb : b ≠ c.bm) (hc : c.wT.cell? ⟨b, 3, none⟩ = some (.slice (some ⟨b0, o0, none⟩) l cap)) (hw : (trd c a).ways (some ⟨b0, o0, none⟩) l) (hl : l ≤ cap) (h1000 : l ≤ 1000) (hI : Inv c be n g w) (ha : at' ≤ c.s.size) (hk : KOK c be kv k at' w) :
    Calls Tryz.prog 65 #[.pointer (some ⟨c.bm, 0, none⟩), .pointer (some ⟨b, 0, none⟩), .int .i64 (at' : Int), kv] w (Got c be w at' g (run (str c.s) c.B a at' k n g)) := by
  have hcw := hI.tree hc hb
  have HI := Lib.hid hI; clear hI
  have HW := Lib.hid hw; clear hw
  have HK := Lib.hid hk; clear hk
  have HR := Lib.hid hR; clear hR
  obtain ⟨f, cp, hkv⟩ : ∃ f cp, kv = .func (.func f) #[] cp := by obtain ⟨f, cp, h, -, -⟩ := HK.out; exact ⟨f, cp, h⟩
  subst hkv
  clear hc
  go_enter Tryz.func65, Tryz.ntmps65
  go_wp2_with fail
  go_loopw [16] (fun ii wr => ∃ (j n' : Nat) (a' : Re), ii = .int .i64 j ∧ j ≤ l ∧ Hid ((trd c a').ways (some ⟨b0, o0 + j, none⟩) (l - j)) ∧ Hid (run (str c.s) c.B a at' k n g = run (str c.s) c.B a' at' k n' g) ∧ Hid (Inv c be n' g wr) ∧ Hid (Touch (SS c be) w wr) ∧ Hid (AllRows c a')) (fun ii _ => l - (intOf ii).toNat)
  case atStart => exact ⟨0, n, a, rfl, Nat.zero_le _, HW, Lib.hid rfl, HI, Lib.hid (Touch.refl _ _), HR⟩
  case round =>
    clear HR
    obtain ⟨j, n', a', rfl, hj, HA, HE, HIr, HT, HR⟩ := hrel
    by_cases hlt : j < l
    · obtain ⟨y, r, ra, rl, rc, e1, hb0, hrc, hcr, hy, hr⟩ : ∃ y r ra rl rc, a' = .alt y r ∧ b0 ≠ c.bm ∧ rl ≤ rc ∧ c.wT.cell? ⟨b0, o0 + j, none⟩ = some (.slice ra rl rc) ∧ (trd c y).row ra rl ∧ (trd c r).ways (some ⟨b0, o0 + j + 1, none⟩) (l - j - 1) := by
        have hA := HA.out
        cases a' with
        | none => have : l - j = 0 := hA; omega
        | alt y r =>
          obtain ⟨b, o, ra, rl, rc, h1, h2, -, -, h3, h4, h5, h6⟩ := hA
          obtain ⟨rfl, rfl⟩ : b0 = b ∧ o0 + j = o := by simpa using h1
          exact ⟨y, r, ra, rl, rc, rfl, h2, h3, h4, h5, h6⟩
        | _ => exact hA.elim
      subst e1
      have hcj := HIr.out.tree hcr hb0
      have HC := Lib.hid (HR.out.1 be ra rl rc at' _ k n' g wr hy hrc HIr.out ha (HK.out.later HT.out (Nat.le_refl _)))
      have HRR := Lib.hid hr; clear hr hy hcr
      generalize hq : run (str c.s) c.B y at' k n' g = q at HC
      have HQ := Lib.hid hq; clear hq
      go_wp2_with fail
      refine HC.out.mono ?_
      intro e w' hG
      cases q with
      | over => 
        obtain ⟨rfl, ht⟩ := hG
        refine ⟨rfl, ?_⟩
        rw [HE.out]
        show Got c be w at' g (orElse (run (str c.s) c.B y at' k n' g) _) _ _
        rw [HQ.out]
        exact ⟨rfl, HT.out.then ht⟩
      | no n2 =>
        obtain ⟨rfl, hI2, ht⟩ := hG
        have HI2 := Lib.hid hI2; clear hI2
        have HT2 := Lib.hid (HT.out.then ht); clear ht
        go_wp2_with fail
        go_roundw
        case rel => 
          refine ⟨j + 1, n2, r, by go_num, by omega, ?_, ?_, HI2, HT2, Lib.hid HR.out.2⟩
          · rw [show l - (j + 1) = l - j - 1 by omega]; exact HRR
          · refine Lib.hid ?_
            rw [HE.out]
            show orElse (run (str c.s) c.B y at' k n' g) _ = _
            rw [HQ.out]; rfl
        case measure => simp [intOf]; omega
      | yes n2 h2 x2 =>
        obtain ⟨rfl, hI2, hH2, hlo, hsz, ht⟩ := hG
        have HI2 := Lib.hid hI2; clear hI2
        have HH2 := Lib.hid hH2; clear hH2
        have HT2 := Lib.hid (HT.out.then ht); clear ht
        go_wp2_with fail
        go_ret
        rw [HE.out]
        show Got c be w at' g (orElse (run (str c.s) c.B y at' k n' g) _) _ _
        rw [HQ.out]
        exact ⟨rfl, HI2.out, HH2.out, hlo, hsz, HT2.out⟩
    · go_wp2_with fail
      go_ret
      rw [HE.out, trd_ways HA.out (by omega)]
      exact ⟨rfl, HIr.out, HT.out⟩

theorem ways_any (c : Cx) (a : Re) (hR : AllRows c a) : WaysOK c a := by
  intro be b x l cap at' kv k n g w hb hc hw hl hI ha hk
  by_cases h0 : l = 0
  · subst h0
    exact ways_nil c a be b x cap at' kv k n g w hb hc hw hI (by obtain ⟨f, cp, h, -, -⟩ := hk; exact ⟨f, cp, h⟩)
  · cases a with
    | none => exact absurd hw h0
    | alt y r =>
      have hw' := hw
      obtain ⟨b0, o0, ra, rl, rc, rfl, -, -, h4, -⟩ := hw'
      exact ways_some c _ hR be b b0 o0 l cap at' kv k n g w hb hc hw hl h4 hI ha hk
    | _ => exact hw.elim
end Go.Proofs.YtlgpilcjcomacaaGreat

/-
  Copies of slices of pairs of integers: append onto an empty literal; the builtin copy.
-/
namespace Go.Proofs.YtlgpilcjcomacaaGreat
open Go.RowKit Rx
set_option linter.unusedVariables false

theorem infoPair : (Tryz.prog.info? 39).map (fun i => (i.zero, i.size, i.bytes)) = some (some (.agg #[.int .i64 0, .int .i64 0]), 2, 16) := by kernel_rfl

def ownOf (v : Value) : Nat → Prop := fun k => v.ownBlock = some k
theorem own_slice {g n cap k : Nat} (h : ownOf (.slice (some ⟨g, 0, none⟩) n cap) k) : g = k := by cases h; rfl
theorem owns_empty {w : World} {g : Nat} {e : TypeId} {size : Nat} (h : w.heap[g]? = some (.cells #[] e (0, 0))) : w.ownsRow 0 e size (.slice (some ⟨g, 0, none⟩) 0 0) 0 [] :=
  ⟨by simp, .inr ⟨g, 0, #[], rfl, Nat.zero_le _, h, Nat.le_refl _, by unfold maxLen; omega, by simp, by simp⟩⟩

/-- A copy of a slice of pairs that has an element. -/
theorem wpList_append2 {ops : Array Oper} {rest : List Oper} {o : Oper} {a : Act} {w : World} {Q : Exit → Act → World → Prop} (hgd : o.guard = none) (s x : Operand)
    (ho : o.op = .call { callee := .builtin .append, args := #[s, x], argTypes := #[32, 32] }) (g : Nat) (hs : a.eval s = .slice (some ⟨g, 0, none⟩) 0 0) (hg : w.heap[g]? = some (.cells #[] 39 (0, 0))) (ad : Addr) (n cap : Nat) (hx : a.eval x = .slice (some ad) n cap)
    (cs : List Value) (hl : cs.length = n * 2) (hcell : ∀ j u, cs[j]? = some u → w.cell? (ad.add j) = some u) (h1 : ∀ u ∈ cs, u.oneCell' = true) (hn0 : 0 < n) (hn : n ≤ 100000)
    (h : ∀ b c w', n ≤ c → w'.heap[b]? ≠ none → (∀ j u, cs[j]? = some u → w'.cell? ⟨b, j, none⟩ = some u) → Touch (fun k => k = g) w w' → (b = g ∨ b = w.heap.size) → wpList Tryz.prog ops Q rest (a.put o.dst (.slice (some ⟨b, 0, none⟩) n c)) w') : wpList Tryz.prog ops Q (o :: rest) a w := by
  obtain ⟨i0, hi, hz0, hz1, hz2⟩ := info_parts infoPair
  refine wpList_append_own_at w hgd s x 32 ho 0 39 i0 (.agg #[.int .i64 0, .int .i64 0]) 2 16 Tryz.underlying32 hi hz0 hz1 hz2 rfl (by decide) _ 0 [] hs (owns_empty hg) ad n cap cs hx hl hcell h1 (by unfold maxLen; omega) (by omega) (Nat.zero_le _) ?_
  intro v' w' h2 h3 _ h5
  rw [Nat.zero_add, List.nil_append] at h2
  rcases h2.2 with ⟨rfl, h0⟩ | ⟨b, c, cur, rfl, -, hb, hnc, -, hcz, htk⟩
  · omega
  · refine h b c w' hnc (by rw [hb]; simp) (fun j u hu => ?_) ⟨h3.os, h3.tape, h3.output, h3.size, fun k hk hne => h3.block k hk (fun e => hne (Option.some.inj e))⟩ ?_
    · unfold World.cell?
      have hj : j < cs.length := (List.getElem?_eq_some_iff.1 hu).1
      rw [← htk, List.getElem?_take, if_pos (by omega)] at hu
      simp [hb]
      simpa using hu
    · rcases h5 with h5 | h5
      · exact .inl (Option.some.inj h5)
      · exact .inr (Option.some.inj h5)

theorem run_copy_row2 (w : World) (dT sT ty elem : TypeId) (g o dLen dCap : Nat) (a : Addr) (sLen sCap : Nat) (cur : Array Value) (t : TypeId) (cs : List Value)
    (hu : Tryz.prog.underlying dT = some (.slice elem)) (hs : (Tryz.prog.info? elem).map (·.size) = some 2)
    (hg : w.heap[g]? = some (.cells cur t (0, 0))) (n : Nat) (hn : n = Nat.min sLen dLen) (hcs : cs.length = n * 2)
    (hsrc : ∀ j v, cs[j]? = some v → w.cell? (a.add j) = some v) (hfit : o + cs.length ≤ cur.size) (h1 : ∀ v ∈ cs, v.oneCell' = true) :
    (Builtin.copy_ #[dT, sT] ty #[.slice (some ⟨g, o, none⟩) dLen dCap, .slice (some a) sLen sCap]).run Tryz.prog w =
      .ok (goInt n) (w.setRow g (cur.toList.take o ++ cs ++ cur.toList.drop (o + cs.length)).toArray) := by
  have hl := run_loadCells_list (P := Tryz.prog) w a cs hsrc
  have hst := run_storeCells_at Tryz.prog g o t cs 0 cur w hg (by simpa using hfit) h1
  cases hq : Tryz.prog.info? elem with
  | none => simp [hq] at hs
  | some i =>
    have hi : i.size = 2 := by simpa [hq] using hs
    simp [Builtin.copy_, run_underlying hu, Builtin.lenOf, Builtin.firstCells, sizeOf, typeInfo, hq, hi, ← hn, ← hcs, hl, hst]

/-- All of a slice of pairs written over, from a row of as many. -/
theorem wpList_copy2 {ops : Array Oper} {rest : List Oper} {o : Oper} {a : Act} {w : World} {Q : Exit → Act → World → Prop} (hgd : o.guard = none) (d s : Operand)
    (ho : o.op = .call { callee := .builtin .copy, args := #[d, s], argTypes := #[32, 32] }) (g n c c' : Nat) (ad : Addr) (hd : a.eval d = .slice (some ⟨g, 0, none⟩) n c) (hs : a.eval s = .slice (some ad) n c')
    (cur : Array Value) (t : TypeId) (hg : w.heap[g]? = some (.cells cur t (0, 0))) (cs : List Value) (hl : cs.length = n * 2) (hsz : cur.size = n * 2) (hcell : ∀ j u, cs[j]? = some u → w.cell? (ad.add j) = some u) (h1 : ∀ u ∈ cs, u.oneCell' = true)
    (h : ∀ w', w'.heap[g]? = some (.cells cs.toArray t (0, 0)) → Touch (fun k => k = g) w w' → wpList Tryz.prog ops Q rest (a.put o.dst (goInt n)) w') : wpList Tryz.prog ops Q (o :: rest) a w := by
  refine wpList_plain hgd fun K hK => ?_
  have hrun := run_copy_row2 w 32 32 o.type 39 g 0 n c ad n c' cur t cs Tryz.underlying32 (by kernel_rfl) hg n (Nat.min_self n).symm hl hcell (by omega) h1
  unfold Oper.wp
  simp [execOp, ho, resolve, invoke, builtin, hd, hs, hrun, Result.andThen]
  refine hK _ _ (h _ ?_ ⟨rfl, rfl, rfl, by simp [World.setRow], fun k hk hne => setRow_other w g k _ hne⟩)
  rw [setRow_heap w g cur _ t _ hg]
  simp
  omega
end Go.Proofs.YtlgpilcjcomacaaGreat

/-
  The program's first, alone, look.
-/
namespace Go.Proofs.YtlgpilcjcomacaaGreat
open Go.RowKit Rx
set_option linter.unusedVariables false

/-- The matcher's blocks. -/
def S2 (c : Cx) (b : Nat) : Prop := b = c.bm ∨ b = c.bg

/-- Something that is to be tried, as a function value. -/
def TryOK (c : Cx) (tv : Value) (R : K → Nat → Grp → Res) (lo : Nat) (w0 : World) : Prop :=
  ∃ f cap, tv = .func (.func f) #[] cap ∧ (∀ args w, (callFunc f args).run Tryz.prog w = .ok (.enter f args) w) ∧
    ∀ (w : World) (be n : Nat) (g : Grp) (kv : Value) (k : K), Touch (S2 c) w0 w → w0.heap.size ≤ be → Inv c be n g w → KOK c be kv k lo w → Calls Tryz.prog f (#[kv] ++ cap) w (Got c be w lo g (R k n g))

/-- What comes back of a first way. -/
def FirstP (c : Cx) (w : World) (lo : Nat) (g : Grp) : Res → Ending → World → Prop
  | .over, e, w' => e = .panicked [{ v := .iface 112 (.agg #[]), recovered := false }] ∧ Touch (S2 c) w w'
  | .no n, e, w' => (∃ x : Int, e = .returned (.tuple #[.int .i64 x, .bool false])) ∧ Inv c w.heap.size n g w' ∧ Touch (S2 c) w w'
  | .yes n h x, e, w' => e = .returned (.tuple #[.int .i64 (x : Int), .bool true]) ∧ Inv c w.heap.size n h w' ∧ lo ≤ x ∧ x ≤ c.s.size ∧ Touch (S2 c) w w'

theorem touch_alloc_ss {c : Cx} {w w1 : World} {o : Obj} (h : Touch (SS c w.heap.size) (w.alloc o) w1) : Touch (S2 c) w w1 :=
  ((Touch.refl _ _).alloc o).trans h (by
    rintro i (e | e | e)
    · exact .inl (.inl e)
    · exact .inl (.inr e)
    · exact .inr (by omega))

set_option maxRecDepth 100000 in
theorem first_any (c : Cx) (tv : Value) (R : K → Nat → Grp → Res) (lo n : Nat) (g : Grp) (w : World) (ht : TryOK c tv R lo w) (hI : Inv c w.heap.size n g (w.alloc (.cells #[.int .i64 0] 3))) :
    Calls Tryz.prog 47 #[.pointer (some ⟨c.bm, 0, none⟩), tv] w (FirstP c w lo g (R K0 n g)) := by
  obtain ⟨f, cap, rfl, en, ht⟩ := ht
  have HT := Lib.hid (ht _ w.heap.size n g _ K0 ((Touch.refl _ _).alloc _) (Nat.le_refl _) hI (KOK0 c w.heap.size lo _)); clear ht hI
  have hz : (w.alloc (.cells #[.int .i64 0] 3)).cell? ⟨w.heap.size, 0, none⟩ = some (.int .i64 0) := by simp [go_sem]
  generalize R K0 n g = r at *
  go_enter Tryz.func47, Tryz.ntmps47
  go_wp2_with fail
  refine HT.out.mono ?_
  intro e w' hG
  clear hz
  cases r with
  | over =>
    obtain ⟨rfl, ht⟩ := hG
    exact ⟨rfl, rfl, touch_alloc_ss ht⟩
  | no n2 =>
    obtain ⟨rfl, hI2, ht⟩ := hG
    have HT2 := Lib.hid (touch_alloc_ss ht); clear ht
    obtain ⟨x, hx, -⟩ := hI2.eh
    have HI2 := Lib.hid hI2; clear hI2
    go_wp2_with fail
    go_ret2
    exact ⟨⟨x, rfl⟩, HI2.out, HT2.out⟩
  | yes n2 h2 x2 =>
    obtain ⟨rfl, hI2, hH2, hlo, hsz, ht⟩ := hG
    have HT2 := Lib.hid (touch_alloc_ss ht); clear ht
    have HI2 := Lib.hid hI2; clear hI2
    obtain ⟨hx, -⟩ := hH2
    go_wp2_with fail
    go_ret2
    exact ⟨rfl, HI2.out, hlo, hsz, HT2.out⟩

theorem TryOK.later {c : Cx} {tv : Value} {R : K → Nat → Grp → Res} {lo : Nat} {w0 w1 : World} (h : TryOK c tv R lo w0) (t : Touch (S2 c) w0 w1) : TryOK c tv R lo w1 := by
  obtain ⟨f, cap, e, en, h⟩ := h
  exact ⟨f, cap, e, en, fun w be n g kv k t1 hb => h w be n g kv k (t.then t1) (Nat.le_trans t.size hb)⟩
theorem Still.s2 {c : Cx} {w w1 : World} (h : Still w w1) : Touch (S2 c) w w1 := h.mono (fun _ _ e => e.elim)
theorem Still.ss {c : Cx} {be : Nat} {w w1 : World} (h : Still w w1) : Touch (SS c be) w w1 := h.mono (fun _ _ e => e.elim)
theorem Touch.s2ss {c : Cx} {be : Nat} {w w1 : World} (h : Touch (S2 c) w w1) : Touch (SS c be) w w1 := h.mono (fun _ _ e => e.elim .inl (fun e => .inr (.inl e)))

/-- A new answer's block. -/
theorem Rx.Inv.fresh {c : Cx} {be n : Nat} {g : Grp} {w : World} (h : Inv c be n g w) : Inv c w.heap.size n g (w.alloc (.cells #[.int .i64 0] 3)) := by
  have h1 := h.keep ((Touch.refl (fun _ => False) w).alloc (.cells #[.int .i64 0] 3))
  have hb := h.ltm
  have hg := h.ltg
  have hs := h.tr.size
  exact h1.other (Holds.made w #[.int .i64 0] 3 0 (.int .i64 0) rfl) (by omega) (by omega) (by omega)
/-- Back to the elder answer's block. -/
theorem Rx.Inv.back {c : Cx} {be be' n n' : Nat} {g g' : Grp} {w w' : World} (h' : Inv c be' n' g' w') (h : Inv c be n g w) (t : Touch (S2 c) w w') : Inv c be n' g' w' := by
  obtain ⟨x, hx⟩ := h.eh
  exact h'.other (hx.keep t (fun e => e.elim h.em h.eg)) h.em h.eg h.he

set_option maxRecDepth 100000 in
theorem alone_any (c : Cx) (be : Nat) (tv : Value) (R : K → Nat → Grp → Res) (at' : Nat) (kv : Value) (k : K) (n : Nat) (g : Grp) (w : World) (ht : TryOK c tv R at' w) (hI : Inv c be n g w) (hk : KOK c be kv k at' w) :
    Calls Tryz.prog 67 #[.pointer (some ⟨c.bm, 0, none⟩), tv, kv] w (Got c be w at' g (alone (R K0 n g) k)) := by
  obtain ⟨f, cp, rfl, en, hk⟩ := hk
  have ht2 := ht
  obtain ⟨f2, cp2, rfl, -, -⟩ := ht2
  have hgb := hI.gb
  obtain ⟨T, hgb⟩ := hgb
  have h3 := hI.c3
  have hlg := hI.ltg
  have hlm := hI.ltm
  have hl9 := hI.lG
  have hcells : ∀ j u, (gl c.G g)[j]? = some u → (w.alloc (.cells #[] 39)).cell? ((⟨c.bg, 0, none⟩ : Addr).add j) = some u := by
    intro j u hu
    rw [Addr.add_lit, Nat.zero_add]
    exact ((holds_of_block hgb hu).alloc _).1
  have HC := Lib.hid hcells; clear hcells
  have HI := Lib.hid hI; clear hI
  have HTR := Lib.hid ht; clear ht
  have HK := Lib.hid hk; clear hk
  clear hgb
  go_enter Tryz.func67, Tryz.ntmps67
  go_wp2_with (at_builtin; refine wpList_append2 rfl (.tmp 10) (.tmp 14) rfl w.heap.size rfl (heap_alloc_new w _) ⟨c.bg, 0, none⟩ (c.G + 1) (c.G + 1) rfl (gl c.G g) (gl_length _ _) HC.out (gl_one _ _) (by omega) (by omega) ?_; intro b c1 w1 hc1 _ hold ht1 hb1; have HOLD := Lib.hid hold; have HT1 := Lib.hid ht1; have HB1 := Lib.hid hb1; clear hold ht1 hb1)
  have HT2 : Hid (Still w w1) := Lib.hid (((Touch.refl _ _).alloc _).trans HT1.out (fun i e => .inr (by omega)))
  clear HT1
  have HI1 := Lib.hid (HI.out.keep HT2.out)
  have HF := Lib.hid (first_any c _ R at' n g w1 (HTR.out.later HT2.out.s2) HI1.out.fresh)
  have HB : Hid (w.heap.size ≤ b) := Lib.hid (by have := HB1.out; simp at this; omega)
  clear HTR HB1 HC h3 hlg hlm
  generalize R K0 n g = r at *
  refine HF.out.mono ?_
  intro e w2 hG
  clear HF
  cases r with
  | over =>
    obtain ⟨rfl, ht⟩ := hG
    exact ⟨rfl, rfl, (HT2.out.ss).then ht.s2ss⟩
  | no n2 =>
    obtain ⟨⟨x, rfl⟩, hI2, ht⟩ := hG
    have HI2 := Lib.hid (hI2.back HI1.out ht); clear hI2
    have HT := Lib.hid ((HT2.out.ss).then (ht.s2ss (be := be)))
    have hb3 := HI2.out.gb
    obtain ⟨T3, hb3⟩ := hb3
    have h3 := HI2.out.c3
    have HO : Hid (∀ j u, (gl c.G g)[j]? = some u → w2.cell? ((⟨b, 0, none⟩ : Addr).add j) = some u) := Lib.hid (fun j u hu => by
      rw [Addr.add_lit, Nat.zero_add]
      have h1 := HI1.out.ltm; have h2 := HI1.out.ltg
      exact ht.has (HOLD.out j u hu) (fun e => by
        have h4 := HI.out.ltm; have h5 := HI.out.ltg; have h6 := HB.out
        rcases e with e | e <;> simp at e <;> omega))
    clear ht
    have HB3 := Lib.hid hb3; clear hb3
    go_wp2_with ((with_reducible refine wpList_copy2 rfl (.tmp 31) (.tmp 32) rfl c.bg (c.G + 1) (c.G + 1) c1 ⟨b, 0, none⟩ rfl rfl (gl c.G g).toArray T3 HB3.out (gl c.G g) (gl_length _ _) (by simpa using gl_length c.G g) HO.out (gl_one _ _) ?_); intro w9 hw9 ht9; have HI9 := Lib.hid (HI2.out.restore ht9 hw9 HI.out.gi); have HT9 := Lib.hid (HT.out.then (ht9.mono (fun _ _ e => .inr (.inl e)))); clear hw9 ht9)
    go_ret
    exact ⟨rfl, HI9.out, HT9.out⟩
  | yes n2 h2 x2 =>
    obtain ⟨rfl, hI2, hlo, hsz, ht⟩ := hG
    have HI2 := Lib.hid (hI2.back HI1.out ht); clear hI2
    have HT := Lib.hid ((HT2.out.ss).then (ht.s2ss (be := be)))
    have HO : Hid (∀ j u, (gl c.G g)[j]? = some u → w2.cell? ⟨b, j, none⟩ = some u) := Lib.hid (fun j u hu => 
      ht.has (HOLD.out j u hu) (fun e => by
        have h4 := HI.out.ltm; have h5 := HI.out.ltg; have h6 := HB.out
        rcases e with e | e <;> simp at e <;> omega))
    have hkk := HK.out w2 x2 n2 h2 HT.out HI2.out hlo hsz
    obtain ⟨q, hq⟩ : ∃ q, k x2 n2 h2 = q := ⟨_, rfl⟩
    rw [hq] at hkk
    have HKK := Lib.hid hkk
    have HQ := Lib.hid hq
    clear ht HK hkk hq
    go_wp2_with fail
    refine HKK.out.mono ?_
    intro e w3 hG
    clear HKK
    cases q with
    | over =>
      obtain ⟨rfl, ht⟩ := hG
      refine ⟨rfl, ?_⟩
      show Got c be w at' g (k x2 n2 h2) _ _
      rw [HQ.out]
      exact ⟨rfl, HT.out.then ht⟩
    | no n3 =>
      obtain ⟨rfl, hI3, ht⟩ := hG
      have HI3 := Lib.hid hI3
      have HT3 := Lib.hid (HT.out.then ht)
      have HO3 : Hid (∀ j u, (gl c.G g)[j]? = some u → w3.cell? ((⟨b, 0, none⟩ : Addr).add j) = some u) := Lib.hid (fun j u hu => by
        rw [Addr.add_lit, Nat.zero_add]
        exact ht.has (HO.out j u hu) (fun e => by
          have h4 := HI.out.ltm; have h5 := HI.out.ltg; have h6 := HB.out; have h7 := HI.out.lte
          rcases e with e | e | e <;> simp at e <;> omega))
      have hb3 := hI3.gb
      obtain ⟨T3, hb3⟩ := hb3
      have HB3 := Lib.hid hb3
      have h3 := hI3.c3
      clear hb3 hI3 ht
      go_wp2_with ((with_reducible refine wpList_copy2 rfl (.tmp 31) (.tmp 32) rfl c.bg (c.G + 1) (c.G + 1) c1 ⟨b, 0, none⟩ rfl rfl (gl c.G h2).toArray T3 HB3.out (gl c.G g) (gl_length _ _) (by simpa using gl_length c.G h2) HO3.out (gl_one _ _) ?_); intro w9 hw9 ht9; have HI9 := Lib.hid (HI3.out.restore ht9 hw9 HI.out.gi); have HT9 := Lib.hid (HT3.out.then (ht9.mono (fun _ _ e => .inr (.inl e)))); clear hw9 ht9)
      go_ret
      show Got c be w at' g (k x2 n2 h2) _ _
      rw [HQ.out]
      exact ⟨rfl, HI9.out, HT9.out⟩
    | yes n3 h3 x3 =>
      obtain ⟨rfl, hI3, hH3, hlo3, hsz3, ht⟩ := hG
      have HI3 := Lib.hid hI3
      have HH3 := Lib.hid hH3
      have HT3 := Lib.hid (HT.out.then ht)
      clear hI3 hH3 ht
      go_wp2_with fail
      go_ret
      show Got c be w at' g (k x2 n2 h2) _ _
      rw [HQ.out]
      exact ⟨rfl, HI3.out, HH3.out, by omega, hsz3, HT3.out⟩
end Go.Proofs.YtlgpilcjcomacaaGreat

/-
  The program's closures over alternatives, and looking ahead.
-/
namespace Go.Proofs.YtlgpilcjcomacaaGreat
open Go.RowKit Rx
set_option linter.unusedVariables false

theorem enters_look1 (args : Array Value) (w : World) : (callFunc 89 args).run Tryz.prog w = .ok (.enter 89 args) w :=
  enters_of Tryz.func89 (by kernel_rfl) rfl args w
theorem look1_any (c : Cx) (x : Re) (hW : WaysOK c x) (b : Nat) (wa : Option Addr) (wl wc at' : Nat) (hb : b ≠ c.bm) (hc : c.wT.cell? ⟨b, 3, none⟩ = some (.slice wa wl wc)) (hx : (trd c x).ways wa wl) (hl : wl ≤ wc) (ha : at' ≤ c.s.size) (vm vn va : Nat) (w0 : World)
    (h1 : w0.cell? ⟨vm, 0, none⟩ = some (.pointer (some ⟨c.bm, 0, none⟩))) (h2 : w0.cell? ⟨vn, 0, none⟩ = some (.pointer (some ⟨b, 0, none⟩))) (h3 : w0.cell? ⟨va, 0, none⟩ = some (.int .i64 (at' : Int)))
    (s1 : ¬ S2 c vm) (s2 : ¬ S2 c vn) (s3 : ¬ S2 c va) :
    TryOK c (.func (.func 89) #[] #[.pointer (some ⟨vm, 0, none⟩), .pointer (some ⟨vn, 0, none⟩), .pointer (some ⟨va, 0, none⟩)]) (fun k n g => run (str c.s) c.B x at' k n g) at' w0 := by
  refine ⟨_, _, rfl, enters_look1, fun w be n g kv k t hbe hI hk => ?_⟩
  have k1 := t.has h1 s1
  have k2 := t.has h2 s2
  have k3 := t.has h3 s3
  have HW := Lib.hid (hW be b wa wl wc at' kv k n g w hb hc hx hl hI ha hk)
  clear h1 h2 h3 hI hk t hc
  show Calls Tryz.prog 89 #[kv, .pointer (some ⟨vm, 0, none⟩), .pointer (some ⟨vn, 0, none⟩), .pointer (some ⟨va, 0, none⟩)] w _
  go_enter Tryz.func89, Tryz.ntmps89
  go_wp2_with fail
  refine HW.out.mono ?_
  intro e w' hG
  have HG := Lib.hid hG
  rcases hG.ends with rfl | ⟨b, rfl⟩
  · exact ⟨rfl, HG.out⟩
  · clear hG
    go_wp2_with fail
    go_ret
    exact HG.out

theorem enters_node3 (args : Array Value) (w : World) : (callFunc 70 args).run Tryz.prog w = .ok (.enter 70 args) w :=
  enters_of Tryz.func70 (by kernel_rfl) rfl args w
theorem node3_any (c : Cx) (x : Re) (hW : WaysOK c x) (b : Nat) (wa : Option Addr) (wl wc at' : Nat) (hb : b ≠ c.bm) (hc : c.wT.cell? ⟨b, 3, none⟩ = some (.slice wa wl wc)) (hx : (trd c x).ways wa wl) (hl : wl ≤ wc) (ha : at' ≤ c.s.size) (vm vn va : Nat) (w0 : World)
    (h1 : w0.cell? ⟨vm, 0, none⟩ = some (.pointer (some ⟨c.bm, 0, none⟩))) (h2 : w0.cell? ⟨vn, 0, none⟩ = some (.pointer (some ⟨b, 0, none⟩))) (h3 : w0.cell? ⟨va, 0, none⟩ = some (.int .i64 (at' : Int)))
    (s1 : ¬ S2 c vm) (s2 : ¬ S2 c vn) (s3 : ¬ S2 c va) :
    TryOK c (.func (.func 70) #[] #[.pointer (some ⟨vm, 0, none⟩), .pointer (some ⟨vn, 0, none⟩), .pointer (some ⟨va, 0, none⟩)]) (fun k n g => run (str c.s) c.B x at' k n g) at' w0 := by
  refine ⟨_, _, rfl, enters_node3, fun w be n g kv k t hbe hI hk => ?_⟩
  have k1 := t.has h1 s1
  have k2 := t.has h2 s2
  have k3 := t.has h3 s3
  have HW := Lib.hid (hW be b wa wl wc at' kv k n g w hb hc hx hl hI ha hk)
  clear h1 h2 h3 hI hk t hc
  show Calls Tryz.prog 70 #[kv, .pointer (some ⟨vm, 0, none⟩), .pointer (some ⟨vn, 0, none⟩), .pointer (some ⟨va, 0, none⟩)] w _
  go_enter Tryz.func70, Tryz.ntmps70
  go_wp2_with fail
  refine HW.out.mono ?_
  intro e w' hG
  have HG := Lib.hid hG
  rcases hG.ends with rfl | ⟨b, rfl⟩
  · exact ⟨rfl, HG.out⟩
  · clear hG
    go_wp2_with fail
    go_ret
    exact HG.out

set_option maxRecDepth 100000 in
set_option maxHeartbeats 1000000 in
theorem look_not (c : Cx) (x : Re) (hW : WaysOK c x) (be b : Nat) (of : Value) (num : Int) (wa : Option Addr) (wl wc : Nat) (kid : Value) (least most how : Int) (at' : Nat) (kv : Value) (k : K) (n : Nat) (g : Grp) (w : World)
    (hN : NodeC (fun b => b ≠ c.bm) c.wT b 10 of num wa wl wc kid least most how) (hx : (trd c x).ways wa wl) (hl : wl ≤ wc) (hI : Inv c be n g w) (ha : at' ≤ c.s.size) (hk : KOK c be kv k at' w) :
    Calls Tryz.prog 71 #[.pointer (some ⟨c.bm, 0, none⟩), .pointer (some ⟨b, 0, none⟩), .int .i64 (at' : Int), kv] w (Got c be w at' g (run (str c.s) c.B (.look true x) at' k n g)) := by
  obtain ⟨f, cp, rfl, en, hk⟩ := hk
  obtain ⟨w3, hw3⟩ : ∃ w3, ((w.alloc (.cells #[.pointer (some ⟨c.bm, 0, none⟩)] 63)).alloc (.cells #[.pointer (some ⟨b, 0, none⟩)] 60)).alloc (.cells #[.int .i64 (at' : Int)] 3) = w3 := ⟨_, rfl⟩
  have T3 : Still w w3 := by rw [← hw3]; exact (((Touch.refl _ _).alloc _).alloc _).alloc _
  have k4 : w3.cell? ⟨w.heap.size, 0, none⟩ = some (.pointer (some ⟨c.bm, 0, none⟩)) := by rw [← hw3]; simp [go_sem]
  have k5 : w3.cell? ⟨w.heap.size + 1, 0, none⟩ = some (.pointer (some ⟨b, 0, none⟩)) := by rw [← hw3]; simp [go_sem]
  have k6 : w3.cell? ⟨w.heap.size + 1 + 1, 0, none⟩ = some (.int .i64 (at' : Int)) := by rw [← hw3]; simp [go_sem]
  have hz3 : w3.heap.size = w.heap.size + 1 + 1 + 1 := by rw [← hw3]; simp
  have hs := hI.ss (b := w.heap.size) (Nat.le_refl _)
  have hs1 := hI.ss (b := w.heap.size + 1) (by omega)
  have hs2 := hI.ss (b := w.heap.size + 1 + 1) (by omega)
  have d4 : ¬ S2 c w.heap.size := fun e => hs (e.elim .inl (fun e => .inr (.inl e)))
  have d5 : ¬ S2 c (w.heap.size + 1) := fun e => hs1 (e.elim .inl (fun e => .inr (.inl e)))
  have d6 : ¬ S2 c (w.heap.size + 1 + 1) := fun e => hs2 (e.elim .inl (fun e => .inr (.inl e)))
  have s6 : ¬ (w.heap.size + 1 + 1 = c.bg) := fun e => d6 (.inr e)
  have T3h := Lib.hid T3
  have hI3 := hI.keep T3
  have hgb := hI3.gb
  obtain ⟨T, hgb⟩ := hgb
  have h3 := hI3.c3
  have hlg := hI3.ltg
  have hlm := hI3.ltm
  have hl9 := hI.lG
  have HC : Hid (∀ j u, (gl c.G g)[j]? = some u → (w3.alloc (.cells #[] 39)).cell? ((⟨c.bg, 0, none⟩ : Addr).add j) = some u) := Lib.hid (by
    intro j u hu
    rw [Addr.add_lit, Nat.zero_add]
    exact ((holds_of_block hgb hu).alloc _).1)
  have HI := Lib.hid hI; clear hI
  have HI3 := Lib.hid hI3; clear hI3
  have HK := Lib.hid hk; clear hk
  have HZ := Lib.hid hz3
  have HN := Lib.hid hN; clear hN
  have HW := Lib.hid hW; clear hW
  have k4a := k4
  have hb4 : w.heap.size < w3.heap.size := by omega
  clear hgb hz3 T3 hs hs1 hs2
  go_enter Tryz.func71, Tryz.ntmps71
  go_wp2_with (at_builtin; clear hw3; refine wpList_append2 rfl (.tmp 12) (.tmp 16) rfl w3.heap.size rfl (heap_alloc_new w3 _) ⟨c.bg, 0, none⟩ (c.G + 1) (c.G + 1) rfl (gl c.G g) (gl_length _ _) HC.out (gl_one _ _) (by omega) (by omega) ?_; intro b1 c1 w4 hc1 _ hold ht1 hb1; have HOLD := Lib.hid hold; have HB1 := Lib.hid hb1; have HT1 : Hid (Still w3 w4) := Lib.hid (((Touch.refl _ _).alloc _).trans ht1 (fun i e => .inr (by omega))); clear hold ht1 hb1; have k4 := HT1.out.has k4 id; have k5 := HT1.out.has k5 id; have k6 := HT1.out.has k6 id)
  have HT2 : Hid (Still w w4) := Lib.hid (T3h.out.then HT1.out)
  have HI1 := Lib.hid (HI3.out.keep HT1.out)
  have hfb := HN.out.fb
  have HF := Lib.hid (first_any c _ _ at' n g w4 (look1_any c x HW.out b wa wl wc at' HN.out.fb HN.out.c3 hx hl ha _ _ _ w4 k4 k5 k6 d4 d5 d6) HI1.out.fresh)
  have HB : Hid (w3.heap.size ≤ b1) := Lib.hid (by have := HB1.out; simp at this; omega)
  clear HB1 HC h3 hlg hlm hb4
  obtain ⟨r, hr⟩ : ∃ r, run (str c.s) c.B x at' K0 n g = r := ⟨_, rfl⟩
  have HR : Hid (run (str c.s) c.B (.look true x) at' k n g = lookR true r k at' g) := Lib.hid (by rw [← hr]; rfl)
  have HF2 : Hid (Calls Tryz.prog 47 _ w4 (FirstP c w4 at' g r)) := Lib.hid (by rw [← hr]; exact HF.out)
  clear hr HF
  refine HF2.out.mono ?_
  intro e w5 hG
  clear HF2
  cases r with
  | over =>
    obtain ⟨rfl, ht⟩ := hG
    refine ⟨rfl, ?_⟩
    rw [HR.out]
    exact ⟨rfl, (HT2.out.ss).then ht.s2ss⟩
  | no n2 =>
    obtain ⟨⟨x0, rfl⟩, hI2, ht⟩ := hG
    have t5 := ht
    have k4 := t5.has k4 d4
    have k5 := t5.has k5 d5
    have k6 := t5.has k6 d6
    have HI5 := Lib.hid (hI2.back HI1.out ht); clear hI2
    have HT := Lib.hid ((HT2.out.ss).then (ht.s2ss (be := be)))
    have hk0 := HI5.out.tree HN.out.c0 hfb
    have hb3 := HI5.out.gb
    obtain ⟨T3, hb3⟩ := hb3
    have HB3 := Lib.hid hb3
    have h3 := HI5.out.c3
    have HO : Hid (∀ j u, (gl c.G g)[j]? = some u → w5.cell? ((⟨b1, 0, none⟩ : Addr).add j) = some u) := Lib.hid (fun j u hu => by
      rw [Addr.add_lit, Nat.zero_add]
      exact ht.has (HOLD.out j u hu) (fun e => by
        have h4 := HI.out.ltm; have h5 := HI.out.ltg; have h6 := HB.out; have h7 := HZ.out
        rcases e with e | e <;> simp at e <;> omega))
    clear ht t5 hb3
    go_wp2_with ((with_reducible refine wpList_copy2 rfl (.tmp 32) (.tmp 33) rfl c.bg (c.G + 1) (c.G + 1) c1 ⟨b1, 0, none⟩ rfl rfl (gl c.G g).toArray T3 HB3.out (gl c.G g) (gl_length _ _) (by simpa using gl_length c.G g) HO.out (gl_one _ _) ?_); intro w9 hw9 ht9; have HI9 := Lib.hid (HI5.out.restore ht9 hw9 HI.out.gi); have HT9 := Lib.hid (HT.out.then (ht9.mono (fun _ _ e => .inr (.inl e)))); have k69 := (ht9.has k6 s6); clear hw9 ht9 k4 k5 k6 hk0 h3)
    have HKK := Lib.hid (HK.out w9 at' n2 g HT9.out HI9.out (Nat.le_refl _) ha)
    refine HKK.out.mono ?_
    intro e w' hG
    have HG := Lib.hid (hG.from HT9.out (Nat.le_refl _))
    rcases hG.ends with rfl | ⟨b, rfl⟩
    · refine ⟨rfl, ?_⟩
      rw [HR.out]
      exact HG.out
    · clear hG
      go_wp2_with fail
      go_ret
      rw [HR.out]
      exact HG.out
  | yes n2 h2 x2 =>
    obtain ⟨rfl, hI2, hlo, hsz, ht⟩ := hG
    have t5 := ht
    have k4 := t5.has k4 d4
    have k5 := t5.has k5 d5
    have k6 := t5.has k6 d6
    have HI5 := Lib.hid (hI2.back HI1.out ht); clear hI2
    have HT := Lib.hid ((HT2.out.ss).then (ht.s2ss (be := be)))
    have hk0 := HI5.out.tree HN.out.c0 hfb
    have hb3 := HI5.out.gb
    obtain ⟨T3, hb3⟩ := hb3
    have HB3 := Lib.hid hb3
    have h3 := HI5.out.c3
    have HO : Hid (∀ j u, (gl c.G g)[j]? = some u → w5.cell? ((⟨b1, 0, none⟩ : Addr).add j) = some u) := Lib.hid (fun j u hu => by
      rw [Addr.add_lit, Nat.zero_add]
      exact ht.has (HOLD.out j u hu) (fun e => by
        have h4 := HI.out.ltm; have h5 := HI.out.ltg; have h6 := HB.out; have h7 := HZ.out
        rcases e with e | e <;> simp at e <;> omega))
    clear ht t5 hb3
    go_wp2_with ((with_reducible refine wpList_copy2 rfl (.tmp 32) (.tmp 33) rfl c.bg (c.G + 1) (c.G + 1) c1 ⟨b1, 0, none⟩ rfl rfl (gl c.G h2).toArray T3 HB3.out (gl c.G g) (gl_length _ _) (by simpa using gl_length c.G h2) HO.out (gl_one _ _) ?_); intro w9 hw9 ht9; have HI9 := Lib.hid (HI5.out.restore ht9 hw9 HI.out.gi); have HT9 := Lib.hid (HT.out.then (ht9.mono (fun _ _ e => .inr (.inl e)))); have k69 := (ht9.has k6 s6); clear hw9 ht9)
    go_ret
    rw [HR.out]
    exact ⟨rfl, HI9.out, HT9.out⟩

set_option maxRecDepth 100000 in
set_option maxHeartbeats 1000000 in
theorem look_yes (c : Cx) (x : Re) (hW : WaysOK c x) (be b : Nat) (of : Value) (num : Int) (wa : Option Addr) (wl wc : Nat) (kid : Value) (least most how : Int) (at' : Nat) (kv : Value) (k : K) (n : Nat) (g : Grp) (w : World)
    (hN : NodeC (fun b => b ≠ c.bm) c.wT b 9 of num wa wl wc kid least most how) (hx : (trd c x).ways wa wl) (hl : wl ≤ wc) (hI : Inv c be n g w) (ha : at' ≤ c.s.size) (hk : KOK c be kv k at' w) :
    Calls Tryz.prog 71 #[.pointer (some ⟨c.bm, 0, none⟩), .pointer (some ⟨b, 0, none⟩), .int .i64 (at' : Int), kv] w (Got c be w at' g (run (str c.s) c.B (.look false x) at' k n g)) := by
  obtain ⟨f, cp, rfl, en, hk⟩ := hk
  obtain ⟨w3, hw3⟩ : ∃ w3, ((w.alloc (.cells #[.pointer (some ⟨c.bm, 0, none⟩)] 63)).alloc (.cells #[.pointer (some ⟨b, 0, none⟩)] 60)).alloc (.cells #[.int .i64 (at' : Int)] 3) = w3 := ⟨_, rfl⟩
  have T3 : Still w w3 := by rw [← hw3]; exact (((Touch.refl _ _).alloc _).alloc _).alloc _
  have k4 : w3.cell? ⟨w.heap.size, 0, none⟩ = some (.pointer (some ⟨c.bm, 0, none⟩)) := by rw [← hw3]; simp [go_sem]
  have k5 : w3.cell? ⟨w.heap.size + 1, 0, none⟩ = some (.pointer (some ⟨b, 0, none⟩)) := by rw [← hw3]; simp [go_sem]
  have k6 : w3.cell? ⟨w.heap.size + 1 + 1, 0, none⟩ = some (.int .i64 (at' : Int)) := by rw [← hw3]; simp [go_sem]
  have hz3 : w3.heap.size = w.heap.size + 1 + 1 + 1 := by rw [← hw3]; simp
  have hs := hI.ss (b := w.heap.size) (Nat.le_refl _)
  have hs1 := hI.ss (b := w.heap.size + 1) (by omega)
  have hs2 := hI.ss (b := w.heap.size + 1 + 1) (by omega)
  have d4 : ¬ S2 c w.heap.size := fun e => hs (e.elim .inl (fun e => .inr (.inl e)))
  have d5 : ¬ S2 c (w.heap.size + 1) := fun e => hs1 (e.elim .inl (fun e => .inr (.inl e)))
  have d6 : ¬ S2 c (w.heap.size + 1 + 1) := fun e => hs2 (e.elim .inl (fun e => .inr (.inl e)))
  have s6 : ¬ (w.heap.size + 1 + 1 = c.bg) := fun e => d6 (.inr e)
  have T3h := Lib.hid T3
  have hI3 := hI.keep T3
  have hgb := hI3.gb
  obtain ⟨T, hgb⟩ := hgb
  have h3 := hI3.c3
  have hlg := hI3.ltg
  have hlm := hI3.ltm
  have hl9 := hI.lG
  have HC : Hid (∀ j u, (gl c.G g)[j]? = some u → (w3.alloc (.cells #[] 39)).cell? ((⟨c.bg, 0, none⟩ : Addr).add j) = some u) := Lib.hid (by
    intro j u hu
    rw [Addr.add_lit, Nat.zero_add]
    exact ((holds_of_block hgb hu).alloc _).1)
  have HI := Lib.hid hI; clear hI
  have HI3 := Lib.hid hI3; clear hI3
  have HK := Lib.hid hk; clear hk
  have HZ := Lib.hid hz3
  have HN := Lib.hid hN; clear hN
  have HW := Lib.hid hW; clear hW
  have k4a := k4
  have hb4 : w.heap.size < w3.heap.size := by omega
  clear hgb hz3 T3
  have HS := Lib.hid hs; have HS1 := Lib.hid hs1; have HS2 := Lib.hid hs2; clear hs hs1 hs2
  go_enter Tryz.func71, Tryz.ntmps71
  go_wp2_with (at_builtin; clear hw3; refine wpList_append2 rfl (.tmp 12) (.tmp 16) rfl w3.heap.size rfl (heap_alloc_new w3 _) ⟨c.bg, 0, none⟩ (c.G + 1) (c.G + 1) rfl (gl c.G g) (gl_length _ _) HC.out (gl_one _ _) (by omega) (by omega) ?_; intro b1 c1 w4 hc1 _ hold ht1 hb1; have HOLD := Lib.hid hold; have HB1 := Lib.hid hb1; have HT1 : Hid (Still w3 w4) := Lib.hid (((Touch.refl _ _).alloc _).trans ht1 (fun i e => .inr (by omega))); clear hold ht1 hb1; have k4 := HT1.out.has k4 id; have k5 := HT1.out.has k5 id; have k6 := HT1.out.has k6 id)
  have HT2 : Hid (Still w w4) := Lib.hid (T3h.out.then HT1.out)
  have HI1 := Lib.hid (HI3.out.keep HT1.out)
  have hfb := HN.out.fb
  have HF := Lib.hid (first_any c _ _ at' n g w4 (look1_any c x HW.out b wa wl wc at' HN.out.fb HN.out.c3 hx hl ha _ _ _ w4 k4 k5 k6 d4 d5 d6) HI1.out.fresh)
  have HB : Hid (w3.heap.size ≤ b1) := Lib.hid (by have := HB1.out; simp at this; omega)
  clear HB1 HC h3 hlg hlm hb4
  obtain ⟨r, hr⟩ : ∃ r, run (str c.s) c.B x at' K0 n g = r := ⟨_, rfl⟩
  have HR : Hid (run (str c.s) c.B (.look false x) at' k n g = lookR false r k at' g) := Lib.hid (by rw [← hr]; rfl)
  have HF2 : Hid (Calls Tryz.prog 47 _ w4 (FirstP c w4 at' g r)) := Lib.hid (by rw [← hr]; exact HF.out)
  clear hr HF
  refine HF2.out.mono ?_
  intro e w5 hG
  clear HF2
  cases r with
  | over =>
    obtain ⟨rfl, ht⟩ := hG
    refine ⟨rfl, ?_⟩
    rw [HR.out]
    exact ⟨rfl, (HT2.out.ss).then ht.s2ss⟩
  | no n2 =>
    obtain ⟨⟨x0, rfl⟩, hI2, ht⟩ := hG
    have t5 := ht
    have k4 := t5.has k4 d4
    have k5 := t5.has k5 d5
    have k6 := t5.has k6 d6
    have HI5 := Lib.hid (hI2.back HI1.out ht); clear hI2
    have HT := Lib.hid ((HT2.out.ss).then (ht.s2ss (be := be)))
    have hk0 := HI5.out.tree HN.out.c0 hfb
    have hb3 := HI5.out.gb
    obtain ⟨T3, hb3⟩ := hb3
    have HB3 := Lib.hid hb3
    have h3 := HI5.out.c3
    have HO : Hid (∀ j u, (gl c.G g)[j]? = some u → w5.cell? ((⟨b1, 0, none⟩ : Addr).add j) = some u) := Lib.hid (fun j u hu => by
      rw [Addr.add_lit, Nat.zero_add]
      exact ht.has (HOLD.out j u hu) (fun e => by
        have h4 := HI.out.ltm; have h5 := HI.out.ltg; have h6 := HB.out; have h7 := HZ.out
        rcases e with e | e <;> simp at e <;> omega))
    clear ht t5 hb3
    go_wp2_with ((with_reducible refine wpList_copy2 rfl (.tmp 51) (.tmp 52) rfl c.bg (c.G + 1) (c.G + 1) c1 ⟨b1, 0, none⟩ rfl rfl (gl c.G g).toArray T3 HB3.out (gl c.G g) (gl_length _ _) (by simpa using gl_length c.G g) HO.out (gl_one _ _) ?_); intro w9 hw9 ht9; have HI9 := Lib.hid (HI5.out.restore ht9 hw9 HI.out.gi); have HT9 := Lib.hid (HT.out.then (ht9.mono (fun _ _ e => .inr (.inl e)))); have k69 := (ht9.has k6 s6); clear hw9 ht9)
    go_ret
    rw [HR.out]
    exact ⟨rfl, HI9.out, HT9.out⟩
  | yes n2 h2 x2 =>
    obtain ⟨rfl, hI2, hlo, hsz, ht⟩ := hG
    have t5 := ht
    have k4 := t5.has k4 d4
    have k5 := t5.has k5 d5
    have k6 := t5.has k6 d6
    have HI5 := Lib.hid (hI2.back HI1.out ht); clear hI2
    have HT := Lib.hid ((HT2.out.ss).then (ht.s2ss (be := be)))
    have hk0 := HI5.out.tree HN.out.c0 hfb
    have hb3 := HI5.out.gb
    obtain ⟨T3, hb3⟩ := hb3
    have HB3 := Lib.hid hb3
    have h3 := HI5.out.c3
    have HO : Hid (∀ j u, (gl c.G g)[j]? = some u → w5.cell? ((⟨b1, 0, none⟩ : Addr).add j) = some u) := Lib.hid (fun j u hu => by
      rw [Addr.add_lit, Nat.zero_add]
      exact ht.has (HOLD.out j u hu) (fun e => by
        have h4 := HI.out.ltm; have h5 := HI.out.ltg; have h6 := HB.out; have h7 := HZ.out
        rcases e with e | e <;> simp at e <;> omega))
    clear ht t5 hb3
    have hkk := HK.out w5 at' n2 h2 HT.out HI5.out (Nat.le_refl _) ha
    obtain ⟨q, hq⟩ : ∃ q, k at' n2 h2 = q := ⟨_, rfl⟩
    rw [hq] at hkk
    have HKK := Lib.hid hkk
    have HQ : Hid (lookR false (.yes n2 h2 x2) k at' g = q) := Lib.hid hq
    clear HK hkk hq
    go_wp2_with fail
    refine HKK.out.mono ?_
    intro e w6 hG
    clear HKK
    cases q with
    | over =>
      obtain ⟨rfl, ht⟩ := hG
      refine ⟨rfl, ?_⟩
      rw [HR.out, HQ.out]
      exact ⟨rfl, HT.out.then ht⟩
    | no n3 =>
      obtain ⟨rfl, hI3, ht⟩ := hG
      have k4 := ht.has k4 HS.out
      have k6 := ht.has k6 HS2.out
      have HI6 := Lib.hid hI3
      have HT6 := Lib.hid (HT.out.then ht)
      have HO6 : Hid (∀ j u, (gl c.G g)[j]? = some u → w6.cell? ((⟨b1, 0, none⟩ : Addr).add j) = some u) := Lib.hid (fun j u hu => by
        exact ht.has (HO.out j u hu) (fun e => by
          rw [Addr.add_lit] at e
          have h4 := HI.out.ltm; have h5 := HI.out.ltg; have h6 := HB.out; have h7 := HI.out.lte; have h8 := HZ.out
          rcases e with e | e | e <;> simp at e <;> omega))
      have hb3 := hI3.gb
      obtain ⟨T3, hb3⟩ := hb3
      have HB6 := Lib.hid hb3
      have h3 := hI3.c3
      clear hb3 hI3 ht
      go_wp2_with ((with_reducible refine wpList_copy2 rfl (.tmp 51) (.tmp 52) rfl c.bg (c.G + 1) (c.G + 1) c1 ⟨b1, 0, none⟩ rfl rfl (gl c.G h2).toArray T3 HB6.out (gl c.G g) (gl_length _ _) (by simpa using gl_length c.G h2) HO6.out (gl_one _ _) ?_); intro w9 hw9 ht9; have HI9 := Lib.hid (HI6.out.restore ht9 hw9 HI.out.gi); have HT9 := Lib.hid (HT6.out.then (ht9.mono (fun _ _ e => .inr (.inl e)))); have k69 := (ht9.has k6 s6); clear hw9 ht9)
      go_ret
      rw [HR.out, HQ.out]
      exact ⟨rfl, HI9.out, HT9.out⟩
    | yes n3 h3' x3 =>
      obtain ⟨rfl, hI3, hH3, hlo3, hsz3, ht⟩ := hG
      have HI6 := Lib.hid hI3
      have HH6 := Lib.hid hH3
      have HT6 := Lib.hid (HT.out.then ht)
      clear hI3 hH3 ht
      go_wp2_with fail
      go_ret
      rw [HR.out, HQ.out]
      exact ⟨rfl, HI6.out, HH6.out, hlo3, hsz3, HT6.out⟩
end Go.Proofs.YtlgpilcjcomacaaGreat
