/-
  No cell of these rows narrows 'for every input' (looked for: loops, veiled, ifaces, maps, wideKeys, modest, calm, conditions, laid).
  DERIVED. THE GIVEN ROWS OF THIS SEAT. 7 by the template 'for every input the law returns true; each argument reads behind the call as it read before'; 0 by the template 'total and deterministic' (their statements: YtlgpilcjcomacaaTotals.lean).
  GIVEN WITH THE SEED: the statements are not yours to turn. If you find one false, say at which input.
  Laid BY PROGRAM, IN A SANDBOX (cutbox-rows.mjs): the forced cells as the released guide's own fill.sh prints them over the translation b8e983768b974dee… (all of the seat's roots in one cut). By AI agents, Wed Nov 11 2026. No macro, syntax, notation, axiom, sorry.
-/
import Derived.Test.YtlgpilcjcomacaaChecked
import GoSem.Claim
import GoSem.ClaimJoined
import GoSem.ClaimMapViews
import Derived.JoinedTies
import Derived.KernelRfl
namespace Go.Proofs.Ytlgpilcjcomacaa
/- THE CELL 'sum', in the pinned program and in every row, IS THE sha256 OF THE DUMP (.gsa) THAT YtlgpilcjcomacaaProg.lean LOADS. Nothing in Lean hashes anything: it is a label: what it is worth is what the hold of that sum in a sandbox is worth. -/
noncomputable def Try.pinned : Pinned := { name := "ytlgpilcjcomacaa", sum := "b8e983768b974dee82fd486adbc090a35b0c4a57b10004d50738104c5ddffa1d", checked := Try.checked }
namespace Rows
def none {H : Type} : Left H := { results := [], args := [] }

/-- 'cabochonlaw07.RegexMatches': WHATEVER THE INPUT: true; the input reads as it did. -/
def regexMatchesSpec : ChangeSpec := { name := "regexMatches", fn := fun _ => fun
  | [d] => { results := [.lit (.bool true)], args := [d] }
  | _ => none }
def regexMatchesRow : OpenClaim := { program := "ytlgpilcjcomacaa", sum := "b8e983768b974dee82fd486adbc090a35b0c4a57b10004d50738104c5ddffa1d", func := "cabochon/cabochonlaw07.RegexMatches", spec := "regexMatches", inPlace := ["internal/bytealg.IndexByteString"], unfollowed := true, recurses := true, apart := false }
def RegexMatchesSaid : Prop := regexMatchesRow.holds Try.pinned (OpenSpec.ofChange regexMatchesSpec)

/-- ITS FALSE NEIGHBOUR: 'it returns false'. Refute it at one input. -/
def regexMatchesWrong : ChangeSpec := { name := "regexMatches", fn := fun _ => fun
  | [d] => { results := [.lit (.bool false)], args := [d] }
  | _ => none }
def RegexMatchesWrongFalsely : Prop := regexMatchesRow.holds Try.pinned (OpenSpec.ofChange regexMatchesWrong)

/-- 'cabochonlaw07.RegexBudget': WHATEVER THE INPUT: true; the input reads as it did. -/
def regexBudgetSpec : ChangeSpec := { name := "regexBudget", fn := fun _ => fun
  | [d] => { results := [.lit (.bool true)], args := [d] }
  | _ => none }
def regexBudgetRow : OpenClaim := { program := "ytlgpilcjcomacaa", sum := "b8e983768b974dee82fd486adbc090a35b0c4a57b10004d50738104c5ddffa1d", func := "cabochon/cabochonlaw07.RegexBudget", spec := "regexBudget", inPlace := ["internal/bytealg.IndexByteString"], unfollowed := true, recurses := true, apart := false }
def RegexBudgetSaid : Prop := regexBudgetRow.holds Try.pinned (OpenSpec.ofChange regexBudgetSpec)

/-- ITS FALSE NEIGHBOUR: 'it returns false'. Refute it at one input. -/
def regexBudgetWrong : ChangeSpec := { name := "regexBudget", fn := fun _ => fun
  | [d] => { results := [.lit (.bool false)], args := [d] }
  | _ => none }
def RegexBudgetWrongFalsely : Prop := regexBudgetRow.holds Try.pinned (OpenSpec.ofChange regexBudgetWrong)

/-- 'cabochonlaw07.RegexEarliest': WHATEVER THE INPUT: true; the input reads as it did. -/
def regexEarliestSpec : ChangeSpec := { name := "regexEarliest", fn := fun _ => fun
  | [d] => { results := [.lit (.bool true)], args := [d] }
  | _ => none }
def regexEarliestRow : OpenClaim := { program := "ytlgpilcjcomacaa", sum := "b8e983768b974dee82fd486adbc090a35b0c4a57b10004d50738104c5ddffa1d", func := "cabochon/cabochonlaw07.RegexEarliest", spec := "regexEarliest", inPlace := ["internal/bytealg.IndexByteString"], unfollowed := true, recurses := true, apart := false }
def RegexEarliestSaid : Prop := regexEarliestRow.holds Try.pinned (OpenSpec.ofChange regexEarliestSpec)

/-- ITS FALSE NEIGHBOUR: 'it returns false'. Refute it at one input. -/
def regexEarliestWrong : ChangeSpec := { name := "regexEarliest", fn := fun _ => fun
  | [d] => { results := [.lit (.bool false)], args := [d] }
  | _ => none }
def RegexEarliestWrongFalsely : Prop := regexEarliestRow.holds Try.pinned (OpenSpec.ofChange regexEarliestWrong)

/-- 'cabochonlaw07.RegexChecks': WHATEVER THE INPUT: true; the input reads as it did. -/
def regexChecksSpec : ChangeSpec := { name := "regexChecks", fn := fun _ => fun
  | [d] => { results := [.lit (.bool true)], args := [d] }
  | _ => none }
def regexChecksRow : OpenClaim := { program := "ytlgpilcjcomacaa", sum := "b8e983768b974dee82fd486adbc090a35b0c4a57b10004d50738104c5ddffa1d", func := "cabochon/cabochonlaw07.RegexChecks", spec := "regexChecks", inPlace := ["internal/bytealg.IndexByteString"], unfollowed := true, recurses := true, apart := false }
def RegexChecksSaid : Prop := regexChecksRow.holds Try.pinned (OpenSpec.ofChange regexChecksSpec)

/-- ITS FALSE NEIGHBOUR: 'it returns false'. Refute it at one input. -/
def regexChecksWrong : ChangeSpec := { name := "regexChecks", fn := fun _ => fun
  | [d] => { results := [.lit (.bool false)], args := [d] }
  | _ => none }
def RegexChecksWrongFalsely : Prop := regexChecksRow.holds Try.pinned (OpenSpec.ofChange regexChecksWrong)

/-- 'cabochonlaw07.RegexLanguage': WHATEVER THE INPUT: true; the input reads as it did. -/
def regexLanguageSpec : ChangeSpec := { name := "regexLanguage", fn := fun _ => fun
  | [d] => { results := [.lit (.bool true)], args := [d] }
  | _ => none }
def regexLanguageRow : OpenClaim := { program := "ytlgpilcjcomacaa", sum := "b8e983768b974dee82fd486adbc090a35b0c4a57b10004d50738104c5ddffa1d", func := "cabochon/cabochonlaw07.RegexLanguage", spec := "regexLanguage", inPlace := ["internal/bytealg.IndexByteString"], unfollowed := true, recurses := true, apart := false }
def RegexLanguageSaid : Prop := regexLanguageRow.holds Try.pinned (OpenSpec.ofChange regexLanguageSpec)

/-- ITS FALSE NEIGHBOUR: 'it returns false'. Refute it at one input. -/
def regexLanguageWrong : ChangeSpec := { name := "regexLanguage", fn := fun _ => fun
  | [d] => { results := [.lit (.bool false)], args := [d] }
  | _ => none }
def RegexLanguageWrongFalsely : Prop := regexLanguageRow.holds Try.pinned (OpenSpec.ofChange regexLanguageWrong)

/-- 'cabochonlaw07.RegexEscapes': WHATEVER THE INPUT: true; the input reads as it did. -/
def regexEscapesSpec : ChangeSpec := { name := "regexEscapes", fn := fun _ => fun
  | [d1, d2] => { results := [.lit (.bool true)], args := [d1, d2] }
  | _ => none }
def regexEscapesRow : OpenClaim := { program := "ytlgpilcjcomacaa", sum := "b8e983768b974dee82fd486adbc090a35b0c4a57b10004d50738104c5ddffa1d", func := "cabochon/cabochonlaw07.RegexEscapes", spec := "regexEscapes", inPlace := ["internal/abi.NoEscape", "internal/bytealg.IndexByteString"], unfollowed := true, recurses := true, apart := false }
def RegexEscapesSaid : Prop := regexEscapesRow.holds Try.pinned (OpenSpec.ofChange regexEscapesSpec)

/-- ITS FALSE NEIGHBOUR: 'it returns false'. Refute it at one input. -/
def regexEscapesWrong : ChangeSpec := { name := "regexEscapes", fn := fun _ => fun
  | [d1, d2] => { results := [.lit (.bool false)], args := [d1, d2] }
  | _ => none }
def RegexEscapesWrongFalsely : Prop := regexEscapesRow.holds Try.pinned (OpenSpec.ofChange regexEscapesWrong)

/-- 'cabochonlaw07.RegexReplaces': WHATEVER THE INPUT: true; the input reads as it did. -/
def regexReplacesSpec : ChangeSpec := { name := "regexReplaces", fn := fun _ => fun
  | [d] => { results := [.lit (.bool true)], args := [d] }
  | _ => none }
def regexReplacesRow : OpenClaim := { program := "ytlgpilcjcomacaa", sum := "b8e983768b974dee82fd486adbc090a35b0c4a57b10004d50738104c5ddffa1d", func := "cabochon/cabochonlaw07.RegexReplaces", spec := "regexReplaces", inPlace := ["internal/bytealg.IndexByteString", "internal/abi.NoEscape"], unfollowed := true, recurses := true, apart := false }
def RegexReplacesSaid : Prop := regexReplacesRow.holds Try.pinned (OpenSpec.ofChange regexReplacesSpec)

/-- ITS FALSE NEIGHBOUR: 'it returns false'. Refute it at one input. -/
def regexReplacesWrong : ChangeSpec := { name := "regexReplaces", fn := fun _ => fun
  | [d] => { results := [.lit (.bool false)], args := [d] }
  | _ => none }
def RegexReplacesWrongFalsely : Prop := regexReplacesRow.holds Try.pinned (OpenSpec.ofChange regexReplacesWrong)

/- THE SECOND FORM. 'bulk': how many values and letters a reading holds, each counted each time it is reached (what is shared counts as often as it is met; a slice's spare places count too). A statement '..UptoSaid' is the law's where the arguments, and the package variables that the reading takes, are together of bulk at most 1048576: NARROWER than '..Said'. Prove '..Said' where nothing that the law and all that it calls make is longer than what came in: it says more and counts as full. Else prove '..UptoSaid'. A law counts once. -/
mutual
def uptoBulk {H : Type} : DataW H → Nat
  | .lit (.string bytes) => bytes.length + 1
  | .lit _ => 1
  | .nil => 1
  | .ptr d => uptoBulk d + 1
  | .slice elems spare => uptoBulkAll elems + uptoBulkAll spare + 1
  | .agg parts => uptoBulkAll parts + 1
  | .iface _ d => uptoBulk d + 1
  | .map entries => uptoBulkEntries entries + 1
  | .held _ => 1
def uptoBulkAll {H : Type} : List (DataW H) → Nat
  | [] => 0
  | d :: r => uptoBulk d + uptoBulkAll r
def uptoBulkEntries {H : Type} : List (Lit × DataW H) → Nat
  | [] => 0
  | x :: r => uptoBulkEntry x + uptoBulkEntries r
def uptoBulkEntry {H : Type} : Lit × DataW H → Nat
  | (.string bytes, d) => bytes.length + uptoBulk d + 1
  | (_, d) => uptoBulk d + 1
 end
def uptoSmall : (H : Type) → List (DataW H) → Bool := fun _ ds => decide (uptoBulkAll ds ≤ 1048576)
def OpenSpec.upto (s : _root_.Go.ChangeSpec) : _root_.Go.OpenSpec := { _root_.Go.OpenSpec.ofChange s with cond := some uptoSmall }

/-- 'cabochonlaw07.RegexMatches', WHERE WHAT IT READS IS OF BULK AT MOST 1048576: true; the input reads as it did. -/
def regexMatchesUptoRow : OpenClaim := { program := "ytlgpilcjcomacaa", sum := "b8e983768b974dee82fd486adbc090a35b0c4a57b10004d50738104c5ddffa1d", func := "cabochon/cabochonlaw07.RegexMatches", spec := "regexMatches", inPlace := ["internal/bytealg.IndexByteString"], unfollowed := true, recurses := true, apart := false, narrowed := true }
def RegexMatchesUptoSaid : Prop := regexMatchesUptoRow.holds Try.pinned (OpenSpec.upto regexMatchesSpec)

/-- 'cabochonlaw07.RegexBudget', WHERE WHAT IT READS IS OF BULK AT MOST 1048576: true; the input reads as it did. -/
def regexBudgetUptoRow : OpenClaim := { program := "ytlgpilcjcomacaa", sum := "b8e983768b974dee82fd486adbc090a35b0c4a57b10004d50738104c5ddffa1d", func := "cabochon/cabochonlaw07.RegexBudget", spec := "regexBudget", inPlace := ["internal/bytealg.IndexByteString"], unfollowed := true, recurses := true, apart := false, narrowed := true }
def RegexBudgetUptoSaid : Prop := regexBudgetUptoRow.holds Try.pinned (OpenSpec.upto regexBudgetSpec)

/-- 'cabochonlaw07.RegexEarliest', WHERE WHAT IT READS IS OF BULK AT MOST 1048576: true; the input reads as it did. -/
def regexEarliestUptoRow : OpenClaim := { program := "ytlgpilcjcomacaa", sum := "b8e983768b974dee82fd486adbc090a35b0c4a57b10004d50738104c5ddffa1d", func := "cabochon/cabochonlaw07.RegexEarliest", spec := "regexEarliest", inPlace := ["internal/bytealg.IndexByteString"], unfollowed := true, recurses := true, apart := false, narrowed := true }
def RegexEarliestUptoSaid : Prop := regexEarliestUptoRow.holds Try.pinned (OpenSpec.upto regexEarliestSpec)

/-- 'cabochonlaw07.RegexChecks', WHERE WHAT IT READS IS OF BULK AT MOST 1048576: true; the input reads as it did. -/
def regexChecksUptoRow : OpenClaim := { program := "ytlgpilcjcomacaa", sum := "b8e983768b974dee82fd486adbc090a35b0c4a57b10004d50738104c5ddffa1d", func := "cabochon/cabochonlaw07.RegexChecks", spec := "regexChecks", inPlace := ["internal/bytealg.IndexByteString"], unfollowed := true, recurses := true, apart := false, narrowed := true }
def RegexChecksUptoSaid : Prop := regexChecksUptoRow.holds Try.pinned (OpenSpec.upto regexChecksSpec)

/-- 'cabochonlaw07.RegexLanguage', WHERE WHAT IT READS IS OF BULK AT MOST 1048576: true; the input reads as it did. -/
def regexLanguageUptoRow : OpenClaim := { program := "ytlgpilcjcomacaa", sum := "b8e983768b974dee82fd486adbc090a35b0c4a57b10004d50738104c5ddffa1d", func := "cabochon/cabochonlaw07.RegexLanguage", spec := "regexLanguage", inPlace := ["internal/bytealg.IndexByteString"], unfollowed := true, recurses := true, apart := false, narrowed := true }
def RegexLanguageUptoSaid : Prop := regexLanguageUptoRow.holds Try.pinned (OpenSpec.upto regexLanguageSpec)

/-- 'cabochonlaw07.RegexEscapes', WHERE WHAT IT READS IS OF BULK AT MOST 1048576: true; the input reads as it did. -/
def regexEscapesUptoRow : OpenClaim := { program := "ytlgpilcjcomacaa", sum := "b8e983768b974dee82fd486adbc090a35b0c4a57b10004d50738104c5ddffa1d", func := "cabochon/cabochonlaw07.RegexEscapes", spec := "regexEscapes", inPlace := ["internal/abi.NoEscape", "internal/bytealg.IndexByteString"], unfollowed := true, recurses := true, apart := false, narrowed := true }
def RegexEscapesUptoSaid : Prop := regexEscapesUptoRow.holds Try.pinned (OpenSpec.upto regexEscapesSpec)

/-- 'cabochonlaw07.RegexReplaces', WHERE WHAT IT READS IS OF BULK AT MOST 1048576: true; the input reads as it did. -/
def regexReplacesUptoRow : OpenClaim := { program := "ytlgpilcjcomacaa", sum := "b8e983768b974dee82fd486adbc090a35b0c4a57b10004d50738104c5ddffa1d", func := "cabochon/cabochonlaw07.RegexReplaces", spec := "regexReplaces", inPlace := ["internal/bytealg.IndexByteString", "internal/abi.NoEscape"], unfollowed := true, recurses := true, apart := false, narrowed := true }
def RegexReplacesUptoSaid : Prop := regexReplacesUptoRow.holds Try.pinned (OpenSpec.upto regexReplacesSpec)

end Rows
end Go.Proofs.Ytlgpilcjcomacaa
