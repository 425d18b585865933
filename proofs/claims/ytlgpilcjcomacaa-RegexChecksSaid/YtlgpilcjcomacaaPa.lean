/-
  Plain: a pattern read into its tree, as the program reads it.
-/
import Derived.Test.YtlgpilcjcomacaaRe
namespace Go.Proofs.Ytlgpilcjcomacaa.Rx
set_option linter.unusedVariables false

/-- Where a reader stands: the place, the groups so far, the greatest back reference. -/
structure PS where
  pos : Nat
  grps : Nat
  refs : Nat

def pk (s : List UInt8) (i : Nat) : Nat := (byteAt s i).getD 0
/-- Whether the text goes on with some bytes. -/
def tk (s : List UInt8) (i : Nat) (t : List UInt8) : Bool := t.isPrefixOf (s.drop i)

def isDig (c : Nat) : Bool := decide (48 ≤ c) && decide (c ≤ 57)
def isSpc (c : Nat) : Bool := decide (c = 32) || decide (c = 9) || decide (c = 10)

def digs (s : List UInt8) : Nat → Nat → Nat → Nat × Nat
  | 0, i, n => (n, i)
  | f + 1, i, n => if isDig (pk s i) = true then digs s f (i + 1) (min (n * 10 + (pk s i - 48)) 101) else (n, i)

def numOk (s : List UInt8) (i : Nat) (r : Nat × Nat) : Option (Nat × Nat) := if r.2 = i ∨ 100 < r.1 ∨ (pk s i = 48 ∧ i + 1 < r.2) then none else some r
def numP (s : List UInt8) (i : Nat) : Option (Nat × Nat) := numOk s i (digs s (s.length + 1 - i) i 0)

/-- How often: least, most (-1: no end); nothing: it is no repeat. -/
def timesP (s : List UInt8) (i : Nat) : Option (Option (Nat × Int) × Nat) :=
  if tk s i [42] = true then some (some (0, -1), i + 1)
  else if tk s i [43] = true then some (some (1, -1), i + 1)
  else if tk s i [63] = true then some (some (0, 1), i + 1)
  else if tk s i [123] = true then
    match numP s (i + 1) with
    | none => none
    | some (lo, j) =>
      if tk s j [44] = true then
        if pk s (j + 1) = 125 then some (some (lo, -1), j + 2)
        else match numP s (j + 1) with
          | none => none
          | some (hi, k) => if tk s k [125] = true ∧ lo ≤ hi then some (some (lo, (hi : Int)), k + 1) else none
      else if tk s j [125] = true then some (some (lo, (lo : Int)), j + 1) else none
  else some (none, i)

/-- The sets of the escapes of many bytes. -/
def named (c : Nat) : Option (Nat → Bool) :=
  if c = 100 then some isDig else if c = 68 then some (fun x => !isDig x)
  else if c = 119 then some wordB else if c = 87 then some (fun x => !wordB x)
  else if c = 115 then some isSpc else if c = 83 then some (fun x => !isSpc x) else none

def specials : List Nat := [92, 94, 36, 46, 124, 63, 42, 43, 40, 41, 91, 93, 123, 125, 45]
/-- The byte of an escape of one byte. -/
def plainP (c : Nat) : Option Nat := if c = 110 then some 10 else if c = 116 then some 9 else if specials.contains c = true then some c else none

def memberP (s : List UInt8) (i : Nat) : Option (Nat × Option (Nat → Bool) × Nat) :=
  match byteAt s i with
  | none => none
  | some c => if c ≠ 92 then some (c, none, i + 1) else
    match byteAt s (i + 1) with
    | none => none
    | some d => match named d with
      | some f => some (0, some f, i + 2)
      | none => match plainP d with
        | none => none
        | some b => some (b, none, i + 2)

def rangeAt (s : List UInt8) (j : Nat) : Bool := decide (pk s j = 45) && (decide (j + 1 < s.length) && !decide (pk s (j + 1) = 93))

def classP (s : List UInt8) : Nat → Bool → Nat → (Nat → Bool) → Option ((Nat → Bool) × Nat)
  | 0, _, _, _ => none
  | f + 1, first, i, g => if first = false ∧ pk s i = 93 then some (g, i) else
    match memberP s i with
    | none => none
    | some (c, m, j) => if pk s i = 45 ∧ first = false ∧ pk s j ≠ 93 then none else
      match m with
      | some h => classP s f false j (fun x => g x || h x)
      | none => if rangeAt s j = true then
          match memberP s (j + 1) with
          | none => none
          | some (d, m2, k) => if m2.isSome = true ∨ d < c then none else classP s f false k (fun x => g x || (decide (c ≤ x) && decide (x ≤ d)))
        else classP s f false j (fun x => g x || (decide (c ≤ x) && decide (x ≤ c)))

def classEnd (neg : Bool) (r : Option ((Nat → Bool) × Nat)) : Option ((Nat → Bool) × Nat) := match r with
  | none => none
  | some (g, j) => some (if neg = true then (fun x => !g x) else g, j + 1)
def classAll (s : List UInt8) (i : Nat) : Option ((Nat → Bool) × Nat) :=
  classEnd (tk s i [94]) (classP s (s.length + 1) true (if tk s i [94] = true then i + 1 else i) (fun _ => false))

def oneR (c : Nat) : Re := .set (fun x => decide (x = c))

/-- An escape, behind its backslash. -/
def escP (s : List UInt8) (st : PS) : Option (Re × PS) :=
  match byteAt s st.pos with
  | none => none
  | some c => match named c with
    | some f => some (.set f, { st with pos := st.pos + 1 })
    | none =>
      if c = 65 then some (.asr 3, { st with pos := st.pos + 1 })
      else if c = 122 then some (.asr 4, { st with pos := st.pos + 1 })
      else if c = 98 then some (.asr 5, { st with pos := st.pos + 1 })
      else if c = 66 then some (.asr 6, { st with pos := st.pos + 1 })
      else if 49 ≤ c ∧ c ≤ 57 then some (.bref (c - 48), { st with pos := st.pos + 1, refs := max st.refs (c - 48) })
      else match plainP c with
        | none => none
        | some b => some (oneR b, { st with pos := st.pos + 1 })

/-- The inside of a group, and its end. -/
def insideP (W : PS → Option (Re × PS)) (s : List UInt8) (mk : Re → Re) (st : PS) : Option (Re × PS) :=
  if 9 < st.grps then none else
  match W st with
  | none => none
  | some (a, st') => if tk s st'.pos [41] = true then some (mk a, { st' with pos := st'.pos + 1 }) else none

/-- A group, behind its bracket. -/
def grpP (W : PS → Option (Re × PS)) (s : List UInt8) (st : PS) : Option (Re × PS) :=
  if tk s st.pos [63, 58] = true then insideP W s (.grp 0) { st with pos := st.pos + 2 }
  else if tk s st.pos [63, 61] = true then insideP W s (.look false) { st with pos := st.pos + 2 }
  else if tk s st.pos [63, 33] = true then insideP W s (.look true) { st with pos := st.pos + 2 }
  else if tk s st.pos [63, 62] = true then insideP W s .atom { st with pos := st.pos + 2 }
  else if pk s st.pos = 63 then none
  else insideP W s (.grp (st.grps + 1)) { st with grps := st.grps + 1 }

def stops : List Nat := [42, 43, 63, 123, 125, 93]
def again : List Nat := [42, 43, 63, 123]

def atomP (W : PS → Option (Re × PS)) (s : List UInt8) (st : PS) : Option (Re × PS) :=
  if pk s st.pos = 92 then escP s { st with pos := st.pos + 1 }
  else if pk s st.pos = 46 then some (.set (fun x => !decide (x = 10)), { st with pos := st.pos + 1 })
  else if pk s st.pos = 94 then some (.asr 1, { st with pos := st.pos + 1 })
  else if pk s st.pos = 36 then some (.asr 2, { st with pos := st.pos + 1 })
  else if pk s st.pos = 91 then (match classAll s (st.pos + 1) with
    | none => none
    | some (f, j) => some (.set f, { st with pos := j }))
  else if pk s st.pos = 40 then grpP W s { st with pos := st.pos + 1 }
  else if stops.contains (pk s st.pos) = true then none
  else some (oneR (pk s st.pos), { st with pos := st.pos + 1 })

def isAsr : Re → Bool
  | .asr _ => true
  | _ => false

/-- The repeat of an atom, read; how it goes. -/
def howP (s : List UInt8) (a : Re) (lo : Nat) (hi : Int) (st : PS) : Re × PS :=
  if tk s st.pos [63] = true then (.rep a lo hi true, { st with pos := st.pos + 1 })
  else if tk s st.pos [43] = true then (.poss a lo hi, { st with pos := st.pos + 1 })
  else (.rep a lo hi false, st)

def repP (s : List UInt8) (a : Re) (st : PS) : Option (Re × PS) :=
  match timesP s st.pos with
  | none => none
  | some (none, j) => some (a, st)
  | some (some (lo, hi), j) => if isAsr a = true then none else some (howP s a lo hi { st with pos := j })

def pieceP (W : PS → Option (Re × PS)) (s : List UInt8) (st : PS) : Option (Re × PS) :=
  match atomP W s st with
  | none => none
  | some (a, st1) => match timesP s st1.pos with
    | none => none
    | some (none, j) => some (a, st1)
    | some (some (lo, hi), j) => if isAsr a = true then none else
      if again.contains (pk s (howP s a lo hi { st1 with pos := j }).2.pos) = true then none else some (howP s a lo hi { st1 with pos := j })

def toRow : List Re → Re
  | [] => .nil
  | a :: l => .cat a (toRow l)
def toWays : List (List Re) → Re
  | [] => .none
  | a :: l => .alt (toRow a) (toWays l)

/-- Alternatives: the rows that are over, the row under way. -/
def loopP (piece : PS → Option (Re × PS)) (s : List UInt8) : Nat → PS → List (List Re) → List Re → Option (List (List Re) × PS)
  | 0, _, _, _ => none
  | f + 1, st, rows, cur => if st.pos < s.length ∧ pk s st.pos ≠ 41 then
      if tk s st.pos [124] = true then loopP piece s f { st with pos := st.pos + 1 } (rows ++ [cur]) []
      else match piece st with
        | none => none
        | some (a, st') => loopP piece s f st' rows (cur ++ [a])
    else some (rows ++ [cur], st)

def waysEnd (r : Option (List (List Re) × PS)) : Option (Re × PS) := match r with
  | none => none
  | some (rows, st) => some (toWays rows, st)
/-- Alternatives, so deep. -/
def waysP (s : List UInt8) : Nat → PS → Option (Re × PS)
  | 0, _ => none
  | d + 1, st => waysEnd (loopP (pieceP (waysP s d) s) s (s.length + 1 - st.pos) st [] [])

def readEnd (s : List UInt8) (r : Option (Re × PS)) : Option (Re × Nat) := match r with
  | none => none
  | some (a, st) => if st.pos < s.length ∨ st.grps < st.refs then none else some (a, st.grps)
/-- A pattern: its alternatives, and how many groups it has; nothing: it is malformed. -/
def readP (s : List UInt8) : Option (Re × Nat) := if 300 < s.length then none else readEnd s (waysP s 11 ⟨0, 0, 0⟩)
end Go.Proofs.Ytlgpilcjcomacaa.Rx
