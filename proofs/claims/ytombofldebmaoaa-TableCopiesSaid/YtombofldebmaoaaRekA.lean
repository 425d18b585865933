/-
  Rekey, of the program's table: what it does; its first two loops.
-/
import Derived.Test.YtombofldebmaoaaOnceA
import Derived.Test.YtombofldebmaoaaPairA
import Derived.Maps.RangeWalk
namespace Go.Proofs.Ytombofldebmaoaa
open Go.RowKit Go.Maps
set_option linter.unusedVariables false

/-- The new key of a key. -/
def toOf (ps : List P2) (k : Int) : Option Int := (ps.find? (fun p => p.1 == k)).map (fun p => p.2)

def keysOf (ps : List P2) : List Int := ps.map (fun p => p.1)

theorem toOf_none {ps : List P2} {k : Int} : toOf ps k = none ↔ k ∉ keysOf ps := by
  unfold toOf keysOf
  rw [Option.map_eq_none_iff, List.find?_eq_none]
  constructor
  · intro h hk
    obtain ⟨p, hp, e⟩ := List.mem_map.1 hk
    have := h p hp
    simp [e] at this
  · intro h p hp
    simp only [beq_iff_eq]
    intro e
    exact h (List.mem_map.2 ⟨p, hp, e⟩)

theorem toOf_snoc {ps : List P2} {p : P2} (h : toOf ps p.1 = none) (x : Int) : toOf (ps ++ [p]) x = if x = p.1 then some p.2 else toOf ps x := by
  unfold toOf
  rw [List.find?_append]
  by_cases hx : x = p.1
  · subst hx
    have : ps.find? (fun q => q.1 == p.1) = none := by simpa [toOf] using h
    simp [this]
  · have e : (p.1 == x) = false := by simp; exact fun h => hx h.symm
    simp [e, hx]

theorem keysOf_snoc (ps : List P2) (p : P2) : keysOf (ps ++ [p]) = keysOf ps ++ [p.1] := by simp [keysOf]

theorem take_snoc {ps : List P2} {j : Nat} {p : P2} (h : ps[j]? = some p) : ps.take (j + 1) = ps.take j ++ [p] := by
  rw [List.take_add_one, h]; rfl

theorem toOf_mem {ps : List P2} (hn : (keysOf ps).Nodup) {k v : Int} : toOf ps k = some v ↔ (k, v) ∈ ps := by
  induction ps with
  | nil => simp [toOf]
  | cons p ps ih =>
    simp only [keysOf, List.map_cons, List.nodup_cons] at hn
    by_cases hk : p.1 = k
    · have : toOf (p :: ps) k = some p.2 := by simp [toOf, hk]
      rw [this]
      constructor
      · intro h
        cases h
        subst hk
        exact List.mem_cons_self
      · intro h
        rcases List.mem_cons.1 h with h | h
        · rw [← h]
        · exact absurd (List.mem_map.2 ⟨_, h, rfl⟩) (by rw [hk] at hn; exact hn.1)
    · have e : (p.1 == k) = false := by simpa using hk
      have : toOf (p :: ps) k = toOf ps k := by simp [toOf, e]
      rw [this, ih hn.2]
      constructor
      · exact fun h => List.mem_cons_of_mem _ h
      · intro h
        rcases List.mem_cons.1 h with h | h
        · exact absurd (by rw [← h]) hk
        · exact h

/-- One row laid into the rows that are there already. -/
def rekStep (ps : List P2) (out : List R3) (r : R3) : List R3 :=
  match out.findIdx? (fun q => q.1 == (toOf ps r.1).getD r.1) with
  | some i => setVal out i r.2.1
  | none => out ++ [((toOf ps r.1).getD r.1, r.2.1, r.2.2)]

def rekRows (ps : List P2) (rs : List R3) : List R3 := rs.foldl (rekStep ps) []

def rekMiss (rs : List R3) (ps : List P2) : Bool := ps.any (fun p => decide (atI rs p.1 < 0))
def rekFresh (rs : List R3) (ps : List P2) : Bool := ps.any (fun p => decide (0 ≤ atI rs p.1) && decide (atI rs p.2 < 0))

/-- Rekey. -/
def PT.rekey (T : PT) (ps : List P2) : PT × Int :=
  if 500 < ps.length then (T, 1) else
  if ¬ (keysOf ps).Nodup then (T, 1) else
  if T.frozen then (T, 13) else
  if rekFresh T.rows ps && (T.strict && decide (0 < opens T.walks)) then (T, 8) else
  if rekMiss T.rows ps then (T, 3) else ({ T with rows := rekRows ps T.rows }, 0)

/-- What the range over the map has gathered: of the entries that are no longer to come. -/
def gath (f : Int → Option Int) (left : Lit → Bool) (bad : Int → Int → Bool) (b : Bool) : Prop :=
  b = true ↔ ∃ k v, (Lit.int .i64 k).wf = true ∧ f k = some v ∧ left (.int .i64 k) = false ∧ bad k v = true

theorem gath_step {f : Int → Option Int} {left : Lit → Bool} {bad : Int → Int → Bool} {b : Bool} (h : gath f left bad b) {x c : Int} (hx : (Lit.int .i64 x).wf = true) (hf : f x = some c) (hl : left (.int .i64 x) = true) :
    gath f (fun z => left z && !z.sameKey (.int .i64 x)) bad (b || bad x c) := by
  have hs : ∀ k : Int, (Lit.int .i64 k).sameKey (.int .i64 x) = decide (k = x) := by
    intro k
    by_cases hk : k = x
    · subst hk; simp [Lit.sameKey]
    · simp [Lit.sameKey, hk]
  unfold gath at h ⊢
  rw [Bool.or_eq_true, h]
  constructor
  · rintro (⟨k, v, h1, h2, h3, h4⟩ | hb)
    · exact ⟨k, v, h1, h2, by simp [h3], h4⟩
    · exact ⟨x, c, hx, hf, by simp [hs], hb⟩
  · rintro ⟨k, v, h1, h2, h3, h4⟩
    by_cases hk : k = x
    · subst hk
      rw [hf] at h2; cases h2
      exact .inr h4
    · simp [hs, hk] at h3
      exact .inl ⟨k, v, h1, h2, h3, h4⟩

theorem gath_any {ps : List P2} (hn : (keysOf ps).Nodup) (hw : ∀ p ∈ ps, (Lit.int .i64 p.1).wf = true) {left : Lit → Bool} (hl : ∀ z, left z = false) {bad : Int → Int → Bool} {b : Bool} (h : gath (toOf ps) left bad b) : b = ps.any (fun p => bad p.1 p.2) := by
  unfold gath at h
  rw [Bool.eq_iff_iff, h, List.any_eq_true]
  constructor
  · rintro ⟨k, v, h1, h2, h3, h4⟩
    exact ⟨(k, v), (toOf_mem hn).1 h2, h4⟩
  · rintro ⟨p, hp, hb⟩
    exact ⟨p.1, p.2, hw p hp, (toOf_mem hn).2 hp, hl _, hb⟩

end Go.Proofs.Ytombofldebmaoaa
