/-
  Plain: the tree of a pattern, and what trying it gives, way after way, in the form that hands on what is to follow.
-/
import Derived.WalkKit
namespace Go.Proofs.Ytlgpilcjcomacaa.Rx
set_option linter.unusedVariables false

/-- A pattern: alternatives and rows are one tree. -/
inductive Re where
  | set (f : Nat → Bool)
  | asr (k : Nat)
  | bref (n : Nat)
  | nil
  | cat (a b : Re)
  | none
  | alt (a b : Re)
  | grp (n : Nat) (a : Re)
  | look (neg : Bool) (a : Re)
  | atom (a : Re)
  | rep (a : Re) (least : Nat) (most : Int) (lazy : Bool)
  | poss (a : Re) (least : Nat) (most : Int)

abbrev Grp := Nat → Int × Int

/-- What comes of a try: no more steps; no way (the steps until then); a way (the steps, the groups, the place behind). -/
inductive Res where
  | over
  | no (n : Nat)
  | yes (n : Nat) (g : Grp) (e : Nat)

abbrev K := Nat → Nat → Grp → Res

def upd (g : Grp) (i : Nat) (v : Int × Int) : Grp := fun j => if j = i then v else g j

/-- A byte of a word. -/
def wordB (c : Nat) : Bool := (decide (48 ≤ c) && decide (c ≤ 57)) || (decide (97 ≤ c) && decide (c ≤ 122)) || (decide (65 ≤ c) && decide (c ≤ 90)) || decide (c = 95)

/-- The byte at a place, as a number. -/
def byteAt (s : List UInt8) (i : Nat) : Option Nat := s[i]?.map (·.toNat)

/-- Whether there is a byte of a word at a place. -/
def wordAt (s : List UInt8) (i : Nat) : Bool := match byteAt s i with | some c => wordB c | none => false

/-- The kinds of assertions: 1 to 6. -/
def stands (s : List UInt8) (k at' : Nat) : Bool :=
  if k = 1 then decide (at' = 0) || decide (byteAt s (at' - 1) = some 10)
  else if k = 2 then decide (at' = s.length) || decide (byteAt s at' = some 10)
  else if k = 3 then decide (at' = 0)
  else if k = 4 then decide (at' = s.length)
  else if k = 5 then (decide (0 < at') && wordAt s (at' - 1)) != wordAt s at'
  else (decide (0 < at') && wordAt s (at' - 1)) == wordAt s at'

def tick (B n : Nat) (f : Nat → Res) : Res := if n = B then .over else f (n + 1)

/-- The second one, if the first one finds no way. -/
def orElse (r : Res) (f : Nat → Res) : Res := match r with | .over => .over | .no n => f n | .yes n g e => .yes n g e

def K0 : K := fun e n g => .yes n g e

/-- The rounds of a repeat. -/
def times (kid : Nat → K → Nat → Grp → Res) (least : Nat) (most : Int) (lazy : Bool) : Nat → Nat → Nat → K → Nat → Grp → Res
  | 0, _, _, _, n, _ => .no n
  | fuel + 1, made, at', k, n, g =>
    let more : Nat → Res := fun n => if most ≠ -1 ∧ most ≤ (made : Int) then .no n
      else kid at' (fun e n g => if e = at' ∧ least ≤ made then k e n g else times kid least most lazy fuel (made + 1) e k n g) n g
    if made < least then more n
    else if lazy then orElse (k at' n g) more
    else orElse (more n) (fun n => k at' n g)

/-- The first way of something by itself, and then what follows. -/
def alone (r : Res) (k : K) : Res := match r with | .over => .over | .no n => .no n | .yes n g e => k e n g

/-- Looking ahead, by what the first way gives. -/
def lookR (neg : Bool) (r : Res) (k : K) (at' : Nat) (g : Grp) : Res := match r with
  | .over => .over
  | .no n => if neg then k at' n g else .no n
  | .yes n h _ => if neg then .no n else k at' n h

/-- A pattern tried at a place. -/
def run (s : List UInt8) (B : Nat) : Re → Nat → K → Nat → Grp → Res
  | .set f, at', k, n, g => tick B n fun n => match byteAt s at' with | some c => if f c then k (at' + 1) n g else .no n | none => .no n
  | .asr a, at', k, n, g => tick B n fun n => if stands s a at' then k at' n g else .no n
  | .bref i, at', k, n, g => tick B n fun n =>
      if (g i).1 < 0 ∨ ¬ ((s.drop (g i).1.toNat).take ((g i).2.toNat - (g i).1.toNat)).isPrefixOf (s.drop at') = true then .no n
      else k (at' + ((g i).2.toNat - (g i).1.toNat)) n g
  | .nil, at', k, n, g => k at' n g
  | .cat a b, at', k, n, g => run s B a at' (fun e n g => run s B b e k n g) n g
  | .none, _, _, n, _ => .no n
  | .alt a b, at', k, n, g => orElse (run s B a at' k n g) (fun n => run s B b at' k n g)
  | .grp i a, at', k, n, g => if i = 0 then run s B a at' k n g else run s B a at' (fun e n g => k e n (upd g i ((at' : Int), (e : Int)))) n g
  | .look neg a, at', k, n, g => lookR neg (run s B a at' K0 n g) k at' g
  | .atom a, at', k, n, g => alone (run s B a at' K0 n g) k
  | .rep a least most lazy, at', k, n, g => times (run s B a) least most lazy (least + s.length + 2 - at') 0 at' k n g
  | .poss a least most, at', k, n, g => alone (times (run s B a) least most false (least + s.length + 2 - at') 0 at' K0 n g) k

/-- No group has matched. -/
def g0 : Grp := fun _ => (-1, -1)

/-- The first match from a place on (r places are left behind it), the whole as group 0. -/
def find (s : List UInt8) (B : Nat) (a : Re) (only : Bool) : Nat → Nat → Nat → Res
  | 0, at', n => (match run s B a at' K0 n g0 with | .over => .over | .no n => .no n | .yes n g e => .yes n (upd g 0 ((at' : Int), (e : Int))) e)
  | r + 1, at', n => match run s B a at' K0 n g0 with
    | .over => .over
    | .no n => if only then .no n else find s B a only r (at' + 1) n
    | .yes n g e => .yes n (upd g 0 ((at' : Int), (e : Int))) e
end Go.Proofs.Ytlgpilcjcomacaa.Rx
