/-
  Texts Pa, Pb, Pc in one.
-/
import Derived.Test.YtlgpilcjcomacaaGreatAa
import Derived.Test.YtlgpilcjcomacaaGreatShelf
import Derived.IntWalk
/-
  Plain: a pattern read into its tree, as the program reads it.
-/
namespace Go.Proofs.YtlgpilcjcomacaaGreat.Rx
set_option linter.unusedVariables false

/-- Where a reader stands: the place, the groups so far, the greatest back reference. -/
structure PS where
  pos : Nat
  grps : Nat
  refs : Nat

def pk (s : List UInt8) (i : Nat) : Nat := (byteAt s i).getD 0
/-- Whether the text goes on with some bytes. -/
def tk (s : List UInt8) (i : Nat) (t : List UInt8) : Bool := t.isPrefixOf (s.drop i)

def isDig (c : Nat) : Bool := decide (48 ≤ c) && decide (c ≤ 57)
def isSpc (c : Nat) : Bool := decide (c = 32) || decide (c = 9) || decide (c = 10)

def digs (s : List UInt8) : Nat → Nat → Nat → Nat × Nat
  | 0, i, n => (n, i)
  | f + 1, i, n => if isDig (pk s i) = true then digs s f (i + 1) (min (n * 10 + (pk s i - 48)) 101) else (n, i)

def numOk (s : List UInt8) (i : Nat) (r : Nat × Nat) : Option (Nat × Nat) := if r.2 = i ∨ 100 < r.1 ∨ (pk s i = 48 ∧ i + 1 < r.2) then none else some r
def numP (s : List UInt8) (i : Nat) : Option (Nat × Nat) := numOk s i (digs s (s.length + 1 - i) i 0)

/-- How often: least, most (-1: no end); nothing: it is no repeat. -/
def timesP (s : List UInt8) (i : Nat) : Option (Option (Nat × Int) × Nat) :=
  if tk s i [42] = true then some (some (0, -1), i + 1)
  else if tk s i [43] = true then some (some (1, -1), i + 1)
  else if tk s i [63] = true then some (some (0, 1), i + 1)
  else if tk s i [123] = true then
    match numP s (i + 1) with
    | none => none
    | some (lo, j) =>
      if tk s j [44] = true then
        if pk s (j + 1) = 125 then some (some (lo, -1), j + 2)
        else match numP s (j + 1) with
          | none => none
          | some (hi, k) => if tk s k [125] = true ∧ lo ≤ hi then some (some (lo, (hi : Int)), k + 1) else none
      else if tk s j [125] = true then some (some (lo, (lo : Int)), j + 1) else none
  else some (none, i)

/-- The sets of the escapes of many bytes. -/
def named (c : Nat) : Option (Nat → Bool) :=
  if c = 100 then some isDig else if c = 68 then some (fun x => !isDig x)
  else if c = 119 then some wordB else if c = 87 then some (fun x => !wordB x)
  else if c = 115 then some isSpc else if c = 83 then some (fun x => !isSpc x) else none

def specials : List Nat := [92, 94, 36, 46, 124, 63, 42, 43, 40, 41, 91, 93, 123, 125, 45]
/-- The byte of an escape of one byte. -/
def plainP (c : Nat) : Option Nat := if c = 110 then some 10 else if c = 116 then some 9 else if specials.contains c = true then some c else none

def memberP (s : List UInt8) (i : Nat) : Option (Nat × Option (Nat → Bool) × Nat) :=
  match byteAt s i with
  | none => none
  | some c => if c ≠ 92 then some (c, none, i + 1) else
    match byteAt s (i + 1) with
    | none => none
    | some d => match named d with
      | some f => some (0, some f, i + 2)
      | none => match plainP d with
        | none => none
        | some b => some (b, none, i + 2)

def rangeAt (s : List UInt8) (j : Nat) : Bool := decide (pk s j = 45) && (decide (j + 1 < s.length) && !decide (pk s (j + 1) = 93))

def classP (s : List UInt8) : Nat → Bool → Nat → (Nat → Bool) → Option ((Nat → Bool) × Nat)
  | 0, _, _, _ => none
  | f + 1, first, i, g => if first = false ∧ pk s i = 93 then some (g, i) else
    match memberP s i with
    | none => none
    | some (c, m, j) => if pk s i = 45 ∧ first = false ∧ pk s j ≠ 93 then none else
      match m with
      | some h => classP s f false j (fun x => g x || h x)
      | none => if rangeAt s j = true then
          match memberP s (j + 1) with
          | none => none
          | some (d, m2, k) => if m2.isSome = true ∨ d < c then none else classP s f false k (fun x => g x || (decide (c ≤ x) && decide (x ≤ d)))
        else classP s f false j (fun x => g x || (decide (c ≤ x) && decide (x ≤ c)))

def classEnd (neg : Bool) (r : Option ((Nat → Bool) × Nat)) : Option ((Nat → Bool) × Nat) := match r with
  | none => none
  | some (g, j) => some (if neg = true then (fun x => !g x) else g, j + 1)
def classAll (s : List UInt8) (i : Nat) : Option ((Nat → Bool) × Nat) :=
  classEnd (tk s i [94]) (classP s (s.length + 1) true (if tk s i [94] = true then i + 1 else i) (fun _ => false))

def oneR (c : Nat) : Re := .set (fun x => decide (x = c))

/-- An escape, behind its backslash. -/
def escP (s : List UInt8) (st : PS) : Option (Re × PS) :=
  match byteAt s st.pos with
  | none => none
  | some c => match named c with
    | some f => some (.set f, { st with pos := st.pos + 1 })
    | none =>
      if c = 65 then some (.asr 3, { st with pos := st.pos + 1 })
      else if c = 122 then some (.asr 4, { st with pos := st.pos + 1 })
      else if c = 98 then some (.asr 5, { st with pos := st.pos + 1 })
      else if c = 66 then some (.asr 6, { st with pos := st.pos + 1 })
      else if 49 ≤ c ∧ c ≤ 57 then some (.bref (c - 48), { st with pos := st.pos + 1, refs := max st.refs (c - 48) })
      else match plainP c with
        | none => none
        | some b => some (oneR b, { st with pos := st.pos + 1 })

/-- The inside of a group, and its end. -/
def insideP (W : PS → Option (Re × PS)) (s : List UInt8) (mk : Re → Re) (st : PS) : Option (Re × PS) :=
  if 9 < st.grps then none else
  match W st with
  | none => none
  | some (a, st') => if tk s st'.pos [41] = true then some (mk a, { st' with pos := st'.pos + 1 }) else none

/-- A group, behind its bracket. -/
def grpP (W : PS → Option (Re × PS)) (s : List UInt8) (st : PS) : Option (Re × PS) :=
  if tk s st.pos [63, 58] = true then insideP W s (.grp 0) { st with pos := st.pos + 2 }
  else if tk s st.pos [63, 61] = true then insideP W s (.look false) { st with pos := st.pos + 2 }
  else if tk s st.pos [63, 33] = true then insideP W s (.look true) { st with pos := st.pos + 2 }
  else if tk s st.pos [63, 62] = true then insideP W s .atom { st with pos := st.pos + 2 }
  else if pk s st.pos = 63 then none
  else insideP W s (.grp (st.grps + 1)) { st with grps := st.grps + 1 }

def stops : List Nat := [42, 43, 63, 123, 125, 93]
def again : List Nat := [42, 43, 63, 123]

def atomP (W : PS → Option (Re × PS)) (s : List UInt8) (st : PS) : Option (Re × PS) :=
  if pk s st.pos = 92 then escP s { st with pos := st.pos + 1 }
  else if pk s st.pos = 46 then some (.set (fun x => !decide (x = 10)), { st with pos := st.pos + 1 })
  else if pk s st.pos = 94 then some (.asr 1, { st with pos := st.pos + 1 })
  else if pk s st.pos = 36 then some (.asr 2, { st with pos := st.pos + 1 })
  else if pk s st.pos = 91 then (match classAll s (st.pos + 1) with
    | none => none
    | some (f, j) => some (.set f, { st with pos := j }))
  else if pk s st.pos = 40 then grpP W s { st with pos := st.pos + 1 }
  else if stops.contains (pk s st.pos) = true then none
  else some (oneR (pk s st.pos), { st with pos := st.pos + 1 })

def isAsr : Re → Bool
  | .asr _ => true
  | _ => false

/-- The repeat of an atom, read; how it goes. -/
def howP (s : List UInt8) (a : Re) (lo : Nat) (hi : Int) (st : PS) : Re × PS :=
  if tk s st.pos [63] = true then (.rep a lo hi true, { st with pos := st.pos + 1 })
  else if tk s st.pos [43] = true then (.poss a lo hi, { st with pos := st.pos + 1 })
  else (.rep a lo hi false, st)

def repP (s : List UInt8) (a : Re) (st : PS) : Option (Re × PS) :=
  match timesP s st.pos with
  | none => none
  | some (none, j) => some (a, st)
  | some (some (lo, hi), j) => if isAsr a = true then none else some (howP s a lo hi { st with pos := j })

def pieceP (W : PS → Option (Re × PS)) (s : List UInt8) (st : PS) : Option (Re × PS) :=
  match atomP W s st with
  | none => none
  | some (a, st1) => match timesP s st1.pos with
    | none => none
    | some (none, j) => some (a, st1)
    | some (some (lo, hi), j) => if isAsr a = true then none else
      if again.contains (pk s (howP s a lo hi { st1 with pos := j }).2.pos) = true then none else some (howP s a lo hi { st1 with pos := j })

def toRow : List Re → Re
  | [] => .nil
  | a :: l => .cat a (toRow l)
def toWays : List (List Re) → Re
  | [] => .none
  | a :: l => .alt (toRow a) (toWays l)

/-- Alternatives: the rows that are over, the row under way. -/
def loopP (piece : PS → Option (Re × PS)) (s : List UInt8) : Nat → PS → List (List Re) → List Re → Option (List (List Re) × PS)
  | 0, _, _, _ => none
  | f + 1, st, rows, cur => if st.pos < s.length ∧ pk s st.pos ≠ 41 then
      if tk s st.pos [124] = true then loopP piece s f { st with pos := st.pos + 1 } (rows ++ [cur]) []
      else match piece st with
        | none => none
        | some (a, st') => loopP piece s f st' rows (cur ++ [a])
    else some (rows ++ [cur], st)

def waysEnd (r : Option (List (List Re) × PS)) : Option (Re × PS) := match r with
  | none => none
  | some (rows, st) => some (toWays rows, st)
/-- Alternatives, so deep. -/
def waysP (s : List UInt8) : Nat → PS → Option (Re × PS)
  | 0, _ => none
  | d + 1, st => waysEnd (loopP (pieceP (waysP s d) s) s (s.length + 1 - st.pos) st [] [])

def readEnd (s : List UInt8) (r : Option (Re × PS)) : Option (Re × Nat) := match r with
  | none => none
  | some (a, st) => if st.pos < s.length ∨ st.grps < st.refs then none else some (a, st.grps)
/-- A pattern: its alternatives, and how many groups it has; nothing: it is malformed. -/
def readP (s : List UInt8) : Option (Re × Nat) := if 300 < s.length then none else readEnd s (waysP s 11 ⟨0, 0, 0⟩)
end Go.Proofs.YtlgpilcjcomacaaGreat.Rx

/-
  The program's reader in memory; peek, take, fail, number.
-/
namespace Go.Proofs.YtlgpilcjcomacaaGreat
open Go.RowKit Rx
set_option linter.unusedVariables false

theorem str_ext (s : ByteArray) (a b : Nat) : str (s.extract a b) = ((str s).drop a).take (b - a) := by
  unfold str
  rw [ByteArray.data_extract, Array.toList_extract, List.extract_eq_take_drop]
theorem str_ext_end (s : ByteArray) (a : Nat) : str (s.extract a s.size) = (str s).drop a := by
  rw [str_ext, List.take_of_length_le (by rw [List.length_drop, str_len]; omega)]

/-- A reader of the program. -/
structure RS (br : Nat) (s : ByteArray) (deep : Nat) (st : PS) (w : World) : Prop where
  c0 : w.cell? ⟨br, 0, none⟩ = some (.string s)
  c1 : Holds w br 1 (.int .i64 st.pos)
  c2 : Holds w br 2 (.int .i64 st.grps)
  c3 : Holds w br 3 (.int .i64 deep)
  c4 : Holds w br 4 (.int .i64 st.refs)
  le : st.pos ≤ s.size
  sz : s.size ≤ 300
  gs : st.grps ≤ 9
  rs : st.refs ≤ 9
  dp : deep ≤ 10

theorem RS.keep {S : Nat → Prop} {br : Nat} {s : ByteArray} {deep : Nat} {st : PS} {w w' : World} (h : RS br s deep st w) (t : Touch S w w') (hb : ¬ S br) : RS br s deep st w' :=
  ⟨t.has h.c0 hb, h.c1.keep t hb, h.c2.keep t hb, h.c3.keep t hb, h.c4.keep t hb, h.le, h.sz, h.gs, h.rs, h.dp⟩
theorem RS.lt {br : Nat} {s : ByteArray} {deep : Nat} {st : PS} {w : World} (h : RS br s deep st w) : br < w.heap.size := h.c1.lt
theorem RS.setPos {br : Nat} {s : ByteArray} {deep : Nat} {st : PS} {w : World} (h : RS br s deep st w) (j : Nat) (hj : j ≤ s.size) : RS br s deep { st with pos := j } (w.setCell ⟨br, 1, none⟩ (.int .i64 (j : Int))) :=
  ⟨cell_set_other h.c0 _ (.inr (by simp)), h.c1.set _, h.c2.set_other _ (.inr (by simp)), h.c3.set_other _ (.inr (by simp)), h.c4.set_other _ (.inr (by simp)), hj, h.sz, h.gs, h.rs, h.dp⟩
theorem RS.setGrps {br : Nat} {s : ByteArray} {deep : Nat} {st : PS} {w : World} (h : RS br s deep st w) (j : Nat) (hj : j ≤ 9) : RS br s deep { st with grps := j } (w.setCell ⟨br, 2, none⟩ (.int .i64 (j : Int))) :=
  ⟨cell_set_other h.c0 _ (.inr (by simp)), h.c1.set_other _ (.inr (by simp)), h.c2.set _, h.c3.set_other _ (.inr (by simp)), h.c4.set_other _ (.inr (by simp)), h.le, h.sz, hj, h.rs, h.dp⟩
theorem RS.setDeep {br : Nat} {s : ByteArray} {deep : Nat} {st : PS} {w : World} (h : RS br s deep st w) (j : Nat) (hj : j ≤ 10) : RS br s j st (w.setCell ⟨br, 3, none⟩ (.int .i64 (j : Int))) :=
  ⟨cell_set_other h.c0 _ (.inr (by simp)), h.c1.set_other _ (.inr (by simp)), h.c2.set_other _ (.inr (by simp)), h.c3.set _, h.c4.set_other _ (.inr (by simp)), h.le, h.sz, h.gs, h.rs, hj⟩
theorem RS.setRefs {br : Nat} {s : ByteArray} {deep : Nat} {st : PS} {w : World} (h : RS br s deep st w) (j : Nat) (hj : j ≤ 9) : RS br s deep { st with refs := j } (w.setCell ⟨br, 4, none⟩ (.int .i64 (j : Int))) :=
  ⟨cell_set_other h.c0 _ (.inr (by simp)), h.c1.set_other _ (.inr (by simp)), h.c2.set_other _ (.inr (by simp)), h.c3.set_other _ (.inr (by simp)), h.c4.set _, h.le, h.sz, h.gs, hj, h.dp⟩

theorem pk_lt {s : ByteArray} {i : Nat} (h : i < s.size) : pk (str s) i = (s[i]'h).toNat := by unfold pk; rw [byteAt_lt h]; rfl
theorem pk_ge {s : ByteArray} {i : Nat} (h : s.size ≤ i) : pk (str s) i = 0 := by unfold pk; rw [byteAt_ge h]; rfl
theorem pk_256 (s : ByteArray) (i : Nat) : pk (str s) i < 256 := by
  by_cases h : i < s.size
  · rw [pk_lt h]; exact (s[i]'h).toNat_lt
  · rw [pk_ge (by omega)]; decide

theorem drewN2 (w : World) (a b : Nat) : (w.drewN a).drewN b = w.drewN (a + b) := by
  simp [World.drewN, Nat.add_assoc]

set_option maxRecDepth 100000 in
theorem peek_any (br : Nat) (s : ByteArray) (deep : Nat) (st : PS) (w : World) (h : RS br s deep st w) :
    Calls Tryz.prog 81 #[.pointer (some ⟨br, 0, none⟩)] w fun e w' => e = .returned (.int .u8 (pk (str s) st.pos)) ∧ ∃ q, w' = w.drewN q := by
  have h0 := h.c0
  have h1 := h.c1.1
  have hsz := h.sz
  have hle := h.le
  clear h
  by_cases hlt : st.pos < s.size
  · have HP := Lib.hid (pk_lt hlt)
    have hd : decide (st.pos < s.size) = true := by simp; omega
    go_enter Tryz.func81, Tryz.ntmps81
    go_wp2_with fail
    go_quiet (fail)
    go_wp2_with fail
    go_quiet (fail)
    go_wp2_with fail
    go_ret
    rw [HP.out]
    exact ⟨rfl, _, drewN2 _ _ _⟩
  · have HP := Lib.hid (pk_ge (Nat.le_of_not_lt hlt))
    have hd : decide (st.pos < s.size) = false := by simp; omega
    go_enter Tryz.func81, Tryz.ntmps81
    go_wp2_with fail
    go_quiet (fail)
    go_wp2_with fail
    go_ret
    rw [HP.out]
    exact ⟨rfl, _, rfl⟩

theorem peek_rs (br : Nat) (s : ByteArray) (deep : Nat) (st : PS) (w : World) (h : RS br s deep st w) :
    Calls Tryz.prog 81 #[.pointer (some ⟨br, 0, none⟩)] w fun e w' => e = .returned (.int .u8 (pk (str s) st.pos)) ∧ RS br s deep st w' ∧ Still w w' :=
  (peek_any br s deep st w h).mono fun e w' ⟨he, q, hq⟩ => ⟨he, by subst hq; exact h.keep (S := fun _ => False) ((Touch.refl _ _).drewN q) id, by subst hq; exact (Touch.refl _ _).drewN q⟩

set_option maxRecDepth 100000 in
theorem take_no (br : Nat) (s t : ByteArray) (deep : Nat) (st : PS) (w : World) (h : RS br s deep st w) (ht : tk (str s) st.pos (str t) = false) :
    Calls Tryz.prog 82 #[.pointer (some ⟨br, 0, none⟩), .string t] w fun e w' => e = .returned (.bool false) ∧ ∃ q, w' = w.drewN q := by
  have h0 := h.c0
  have h1 := h.c1.1
  have hsz := h.sz
  have hle := h.le
  have HHP := Lib.hid (fun w => Tryz.strings_HasPrefix (s.extract st.pos s.size) t w)
  have HE : Hid (Lib.hasPrefix (s.extract st.pos s.size).data.toList t.data.toList = false) := Lib.hid (by
    rw [show (s.extract st.pos s.size).data.toList = (str s).drop st.pos from str_ext_end _ _]; exact ht)
  rw [HE.out] at HHP
  clear h ht
  go_enter Tryz.func82, Tryz.ntmps82
  go_wp2_with fail
  go_quiet ((go_at_call 64; exact Calls.quiet_of_same ((HHP.out _).mono fun e w' h => ⟨h.1, h.2⟩)))
  go_wp2_with fail
  go_ret
  exact ⟨rfl, _, rfl⟩

theorem tk_le {s t : ByteArray} {i : Nat} (h : tk (str s) i (str t) = true) (hi : i ≤ s.size) : i + t.size ≤ s.size := by
  have h1 := List.IsPrefix.length_le (List.isPrefixOf_iff_prefix.1 h)
  rw [List.length_drop, str_len, str_len] at h1
  omega

set_option maxRecDepth 100000 in
theorem take_yes (br : Nat) (s t : ByteArray) (deep : Nat) (st : PS) (w : World) (h : RS br s deep st w) (ht : tk (str s) st.pos (str t) = true) (htz : t.size ≤ 2) :
    Calls Tryz.prog 82 #[.pointer (some ⟨br, 0, none⟩), .string t] w fun e w' => e = .returned (.bool true) ∧ RS br s deep { st with pos := st.pos + t.size } w' ∧ Touch (fun b => b = br) w w' := by
  have h0 := h.c0
  have h1 := h.c1
  have hsz := h.sz
  have hle := h.le
  have hl2 := tk_le ht hle
  have HHP := Lib.hid (fun w => Tryz.strings_HasPrefix (s.extract st.pos s.size) t w)
  have HE : Hid (Lib.hasPrefix (s.extract st.pos s.size).data.toList t.data.toList = true) := Lib.hid (by
    rw [show (s.extract st.pos s.size).data.toList = (str s).drop st.pos from str_ext_end _ _]; exact ht)
  rw [HE.out] at HHP
  have HH := Lib.hid h
  obtain ⟨h1, h1f⟩ := h1
  clear h ht
  go_enter Tryz.func82, Tryz.ntmps82
  go_wp2_with fail
  go_quiet ((go_at_call 64; exact Calls.quiet_of_same ((HHP.out _).mono fun e w' h => ⟨h.1, h.2⟩)))
  go_wp2_with fail
  go_ret
  exact ⟨rfl, (HH.out.keep ((Touch.refl (fun _ => False) w).drewN _) id).setPos (st.pos + t.size) hl2, Touch.setCell ((Touch.refl (fun b => b = br) w).drewN _) (.inl rfl) _⟩

theorem fail_any (v : Value) (w : World) :
    Calls Tryz.prog 60 #[v] w fun e w' => e = .panicked [{ v := .iface 128 (.agg #[]), recovered := false }] ∧ w = w' := by
  have h : ∀ x : Value, x = v → Calls Tryz.prog 60 #[x] w fun e w' => e = .panicked [{ v := .iface 128 (.agg #[]), recovered := false }] ∧ w = w' := by
    intro x hx
    cases x
    all_goals
      clear hx
      go_enter Tryz.func60, Tryz.ntmps60
      go_wp2_with fail
      exact ⟨rfl, rfl, rfl⟩
  exact h v rfl
end Go.Proofs.YtlgpilcjcomacaaGreat

/-
  The program's reader: number.
-/
namespace Go.Proofs.YtlgpilcjcomacaaGreat
open Go.RowKit Rx
set_option linter.unusedVariables false

/-- A number in a cell. -/
def cellI (w : World) (b o : Nat) : Nat := match w.cell? ⟨b, o, none⟩ with | some v => (intOf v).toNat | none => 0
theorem cellI_at {w : World} {b o j : Nat} (h : w.cell? ⟨b, o, none⟩ = some (.int .i64 (j : Int))) : cellI w b o = j := by
  unfold cellI
  simp [h, intOf]

theorem digs_stop {s : List UInt8} {f i n : Nat} (h : isDig (pk s i) = false) : digs s f i n = (n, i) := by
  cases f with
  | zero => rfl
  | succ f => exact if_neg (by rw [h]; decide)
theorem digs_go {s : List UInt8} {i n : Nat} (h : isDig (pk s i) = true) (hi : i < s.length) : digs s (s.length + 1 - i) i n = digs s (s.length + 1 - (i + 1)) (i + 1) (min (n * 10 + (pk s i - 48)) 101) := by
  obtain ⟨f, hf⟩ : ∃ f, s.length + 1 - i = f + 1 := ⟨s.length - i, by omega⟩
  rw [hf, show s.length + 1 - (i + 1) = f by omega]
  exact if_pos h
theorem isDig_lt {s : ByteArray} {i : Nat} (h : isDig (pk (str s) i) = true) : i < s.size := by
  rcases Nat.lt_or_ge i s.size with h1 | h1
  · exact h1
  · rw [pk_ge h1] at h; exact absurd h (by decide)

/-- The panic of a malformed pattern. -/
def bad : Ending := .panicked [{ v := .iface 128 (.agg #[]), recovered := false }]
/-- What comes back of a number. -/
def NumPost (br : Nat) (s : ByteArray) (deep : Nat) (st : PS) (w : World) : Option (Nat × Nat) → Ending → World → Prop
  | none, e, w' => e = bad ∧ Touch (fun b => b = br) w w'
  | some (n, j), e, w' => e = .returned (.int .i64 (n : Int)) ∧ RS br s deep { st with pos := j } w' ∧ Touch (fun b => b = br) w w' ∧ n ≤ 100 ∧ st.pos < j

theorem still_drewN {S : Nat → Prop} (w : World) (q : Nat) : Touch S w (w.drewN q) := (Touch.refl _ _).drewN q
theorem RS.drewN {br : Nat} {s : ByteArray} {deep : Nat} {st : PS} {w : World} (h : RS br s deep st w) (q : Nat) : RS br s deep st (w.drewN q) := h.keep (still_drewN (S := fun _ => False) w q) id

set_option maxRecDepth 100000 in
set_option maxHeartbeats 2000000 in
theorem number_any (br : Nat) (s : ByteArray) (deep : Nat) (st : PS) (w : World) (h : RS br s deep st w) :
    Calls Tryz.prog 109 #[.pointer (some ⟨br, 0, none⟩)] w (NumPost br s deep st w (numP (str s) st.pos)) := by
  obtain ⟨r, hr⟩ : ∃ r, digs (str s) ((str s).length + 1 - st.pos) st.pos 0 = r := ⟨_, rfl⟩
  have HR := Lib.hid hr
  have HN : Hid (numP (str s) st.pos = numOk (str s) st.pos r) := Lib.hid (by unfold numP; rw [hr])
  have h1 := h.c1.1
  have HH := Lib.hid h
  have hsz := h.sz
  have hle0 := h.le
  clear h hr
  go_enter Tryz.func109, Tryz.ntmps109
  go_wp2_with fail
  clear h1
  go_loopw [4] (fun n wr => ∃ i m : Nat, n = .int .i64 m ∧ m ≤ 101 ∧ Hid (RS br s deep { st with pos := i } wr) ∧ Hid (st.pos ≤ i) ∧ Hid (digs (str s) ((str s).length + 1 - i) i m = r) ∧ Hid (Touch (fun b => b = br) w wr)) (fun _ wr => s.size - cellI wr br 1)
  case atStart => exact ⟨st.pos, 0, rfl, by omega, HH, Lib.hid (Nat.le_refl _), HR, Lib.hid (Touch.refl _ _)⟩
  case round =>
    obtain ⟨i, m, rfl, hm, HRS, HI, HD, HT⟩ := hrel
    obtain ⟨c, hc⟩ : ∃ c, pk (str s) i = c := ⟨_, rfl⟩
    have hc256 := pk_256 s i
    rw [hc] at hc256
    have HPK : Hid (∀ w, RS br s deep { st with pos := i } w → Calls Tryz.prog 81 #[.pointer (some ⟨br, 0, none⟩)] w fun e w' => e = .returned (.int .u8 (c : Int)) ∧ RS br s deep { st with pos := i } w' ∧ Still w w') := Lib.hid (fun w h => by rw [← hc]; exact peek_rs br s deep { st with pos := i } w h)
    have HC := Lib.hid hc
    clear hc
    by_cases hd : isDig c = true
    · have hd2 : 48 ≤ c ∧ c ≤ 57 := by simpa [isDig] using hd
      obtain ⟨hd3, hd4⟩ := hd2
      have hlt : i < s.size := isDig_lt (by rw [HC.out]; exact hd)
      have HD2 : Hid (digs (str s) ((str s).length + 1 - (i + 1)) (i + 1) (min (m * 10 + (c - 48)) 101) = r) := Lib.hid (by
        have h2 := digs_go (s := str s) (i := i) (n := m) (by rw [HC.out]; exact hd) (by rw [str_len]; exact hlt)
        rw [← HD.out, h2, HC.out])
      clear hd
      have hd5 : decide ((c : Int) ≤ 57) = true := by simp; omega
      go_wp2_with fail
      refine (HPK.out _ HRS.out).mono ?_
      rintro e w2 ⟨rfl, hrs, ht⟩
      have HRS2 := Lib.hid hrs; have HT2 := Lib.hid ht; clear hrs ht
      go_wp2_with fail
      refine (HPK.out _ HRS2.out).mono ?_
      rintro e w3 ⟨rfl, hrs, ht⟩
      have HRS3 := Lib.hid hrs; have HT3 := Lib.hid ht; clear hrs ht
      go_wp2_with fail
      refine (HPK.out _ HRS3.out).mono ?_
      rintro e w4 ⟨rfl, hrs, ht⟩
      have h1 := hrs.c1
      obtain ⟨h1, h1f⟩ := h1
      have HRS4 := Lib.hid hrs
      have HT4 : Hid (Touch (fun b => b = br) w w4) := Lib.hid (HT.out.then (((HT2.out.then HT3.out).then ht).mono (fun _ _ e => e.elim)))
      clear hrs ht
      have HRS5 := Lib.hid (HRS4.out.setPos (i + 1) hlt)
      have HT5 : Hid (Touch (fun b => b = br) w (w4.setCell ⟨br, 1, none⟩ (.int .i64 ((i : Int) + 1)))) := Lib.hid (Touch.setCell HT4.out (.inl rfl) _)
      have hw1 := IntWalk.i64_in ((i : Int) + 1) (by omega)
      go_wp2_with fail
      refine ⟨⟨i + 1, min (m * 10 + (c - 48)) 101, ?_, by omega, HRS5, Lib.hid (by have := HI.out; omega), HD2, HT5⟩, ?_⟩
      · congr 1; omega
      · show s.size - cellI (w4.setCell ⟨br, 1, none⟩ (.int .i64 ((i + 1 : Nat) : Int))) br 1 < _
        rw [cellI_at HRS5.out.c1.1, cellI_at HRS.out.c1.1]
        show s.size - (i + 1) < s.size - i
        omega
    · have HRR : Hid ((m, i) = r) := Lib.hid (by rw [← HD.out, digs_stop (by rw [HC.out]; simpa using hd)])
      by_cases hlo : c < 48
      · have hx1 : decide (48 ≤ (c : Int)) = false := by simp; omega
        clear hd
        go_wp2_with fail
        refine (HPK.out _ HRS.out).mono ?_
        rintro e w2 ⟨rfl, hrs, ht⟩
        have HRS2 := Lib.hid hrs
        have HT2 : Hid (Touch (fun b => b = br) w w2) := Lib.hid (HT.out.then (ht.mono (fun _ _ e => e.elim)))
        clear hrs ht
        have h1 := HRS2.out.c1.1
        have hs0 := HRS2.out.c0
        by_cases e1 : i = st.pos
        · have hb : ((i : Int) == (st.pos : Int)) = true := by simp [e1]
          go_wp2_with fail
          refine (fail_any _ _).mono ?_
          rintro e w9 ⟨rfl, rfl⟩
          refine ⟨rfl, ?_⟩
          rw [HN.out, ← HRR.out]
          unfold numOk
          rw [if_pos (.inl e1)]
          exact ⟨rfl, HT2.out⟩
        · have hb : ((i : Int) == (st.pos : Int)) = false := by simp; omega
          have hi0 := HI.out
          have hil := HRS2.out.le
          simp only at hil
          by_cases e2 : 100 < m
          · have hb2 : decide ((100 : Int) < (m : Int)) = true := by simp; omega
            go_wp2_with fail
            refine (fail_any _ _).mono ?_
            rintro e w9 ⟨rfl, rfl⟩
            refine ⟨rfl, ?_⟩
            rw [HN.out, ← HRR.out]
            unfold numOk
            rw [if_pos (.inr (.inl e2))]
            exact ⟨rfl, HT2.out⟩
          · have hb2 : decide ((100 : Int) < (m : Int)) = false := by simp; omega
            have hfl : st.pos < s.size := by omega
            have hpk := pk_lt hfl
            obtain ⟨d, hd0⟩ : ∃ d, (s[st.pos]'hfl).toNat = d := ⟨_, rfl⟩
            rw [hd0] at hpk
            have HPD := Lib.hid hpk; clear hpk
            by_cases e3 : d = 48
            · have hb3 : ((d : Int) == 48) = true := by simp; omega
              by_cases e4 : st.pos + 1 < i
              · have hb4 : decide ((st.pos : Int) + 1 < (i : Int)) = true := by simp; omega
                clear e3
                go_wp2_with fail
                refine (fail_any _ _).mono ?_
                rintro e w9 ⟨rfl, rfl⟩
                refine ⟨rfl, ?_⟩
                rw [HN.out, ← HRR.out]
                unfold numOk
                rw [if_pos (.inr (.inr ⟨by rw [HPD.out]; simp at hb3; omega, e4⟩))]
                exact ⟨rfl, HT2.out⟩
              · have hb4 : decide ((st.pos : Int) + 1 < (i : Int)) = false := by simp; omega
                clear e3
                go_wp2_with fail
                go_ret
                rw [HN.out, ← HRR.out]
                unfold numOk
                rw [if_neg (by rintro (h | h | ⟨h, h'⟩); exact e1 h; exact e2 h; exact e4 h')]
                exact ⟨rfl, HRS2.out, HT2.out, by omega, by omega⟩
            · have hb3 : ((d : Int) == 48) = false := by simp; omega
              clear e3
              go_wp2_with fail
              go_ret
              rw [HN.out, ← HRR.out]
              unfold numOk
              rw [if_neg (by rintro (h | h | ⟨h, h'⟩); exact e1 h; exact e2 h; (rw [HPD.out] at h; rw [h] at hb3; exact absurd hb3 (by decide)))]
              exact ⟨rfl, HRS2.out, HT2.out, by omega, by omega⟩
      · have hx1 : decide ((c : Int) ≤ 57) = false := by
          simp
          have : ¬ (48 ≤ c ∧ c ≤ 57) := fun h => hd (by simp [isDig]; exact h)
          omega
        have hx2 : 48 ≤ c := by omega
        clear hd
        go_wp2_with fail
        refine (HPK.out _ HRS.out).mono ?_
        rintro e w2 ⟨rfl, hrs, ht⟩
        have HRS2 := Lib.hid hrs; have HT2 := Lib.hid ht; clear hrs ht
        go_wp2_with fail
        refine (HPK.out _ HRS2.out).mono ?_
        rintro e w3 ⟨rfl, hrs, ht⟩
        have HRS3 := Lib.hid hrs
        have HT3 : Hid (Touch (fun b => b = br) w w3) := Lib.hid (HT.out.then ((HT2.out.then ht).mono (fun _ _ e => e.elim)))
        clear hrs ht
        have h1 := HRS3.out.c1.1
        have hs0 := HRS3.out.c0
        by_cases e1 : i = st.pos
        · have hb : ((i : Int) == (st.pos : Int)) = true := by simp [e1]
          go_wp2_with fail
          refine (fail_any _ _).mono ?_
          rintro e w9 ⟨rfl, rfl⟩
          refine ⟨rfl, ?_⟩
          rw [HN.out, ← HRR.out]
          unfold numOk
          rw [if_pos (.inl e1)]
          exact ⟨rfl, HT3.out⟩
        · have hb : ((i : Int) == (st.pos : Int)) = false := by simp; omega
          have hi0 := HI.out
          have hil := HRS3.out.le
          simp only at hil
          by_cases e2 : 100 < m
          · have hb2 : decide ((100 : Int) < (m : Int)) = true := by simp; omega
            go_wp2_with fail
            refine (fail_any _ _).mono ?_
            rintro e w9 ⟨rfl, rfl⟩
            refine ⟨rfl, ?_⟩
            rw [HN.out, ← HRR.out]
            unfold numOk
            rw [if_pos (.inr (.inl e2))]
            exact ⟨rfl, HT3.out⟩
          · have hb2 : decide ((100 : Int) < (m : Int)) = false := by simp; omega
            have hfl : st.pos < s.size := by omega
            have hpk := pk_lt hfl
            obtain ⟨d, hd0⟩ : ∃ d, (s[st.pos]'hfl).toNat = d := ⟨_, rfl⟩
            rw [hd0] at hpk
            have HPD := Lib.hid hpk; clear hpk
            by_cases e3 : d = 48
            · have hb3 : ((d : Int) == 48) = true := by simp; omega
              by_cases e4 : st.pos + 1 < i
              · have hb4 : decide ((st.pos : Int) + 1 < (i : Int)) = true := by simp; omega
                clear e3
                go_wp2_with fail
                refine (fail_any _ _).mono ?_
                rintro e w9 ⟨rfl, rfl⟩
                refine ⟨rfl, ?_⟩
                rw [HN.out, ← HRR.out]
                unfold numOk
                rw [if_pos (.inr (.inr ⟨by rw [HPD.out]; simp at hb3; omega, e4⟩))]
                exact ⟨rfl, HT3.out⟩
              · have hb4 : decide ((st.pos : Int) + 1 < (i : Int)) = false := by simp; omega
                clear e3
                go_wp2_with fail
                go_ret
                rw [HN.out, ← HRR.out]
                unfold numOk
                rw [if_neg (by rintro (h | h | ⟨h, h'⟩); exact e1 h; exact e2 h; exact e4 h')]
                exact ⟨rfl, HRS3.out, HT3.out, by omega, by omega⟩
            · have hb3 : ((d : Int) == 48) = false := by simp; omega
              clear e3
              go_wp2_with fail
              go_ret
              rw [HN.out, ← HRR.out]
              unfold numOk
              rw [if_neg (by rintro (h | h | ⟨h, h'⟩); exact e1 h; exact e2 h; (rw [HPD.out] at h; rw [h] at hb3; exact absurd hb3 (by decide)))]
              exact ⟨rfl, HRS3.out, HT3.out, by omega, by omega⟩
end Go.Proofs.YtlgpilcjcomacaaGreat
