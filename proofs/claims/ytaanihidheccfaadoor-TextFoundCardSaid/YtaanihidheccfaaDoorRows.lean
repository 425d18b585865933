/-
  NARROWER THAN 'FOR EVERY INPUT', by the rows' own cells (each row's printed sentence says how): TextOf: laid · TextFinds: laid · TextTidies: laid · TextConverts: laid · TextCases: laid · TextScrubs: laid · TextCuts: laid · TextLong: laid · TextParts: laid · TextValid: laid · TextFound: laid · TextTurns: laid.
  DERIVED. THE GIVEN ROWS OF THIS SEAT. 12 by the template 'for every input the law returns true; each argument reads behind the call as it read before'; 0 by the template 'total and deterministic' (their statements: YtaanihidheccfaaDoorTotals.lean).
  GIVEN WITH THE SEED: the statements are not yours to turn. If you find one false, say at which input.
  Laid BY PROGRAM, IN A SANDBOX (cutbox-rows.mjs): the forced cells as the released guide's own fill.sh prints them over the translation a2fc063942b44d1f… (all of the seat's roots in one cut). By AI agents, Wed Nov 11 2026. No macro, syntax, notation, axiom, sorry.
-/
import Derived.Test.YtaanihidheccfaaDoorChecked
import GoSem.PinnedTables
import GoSem.Claim
import GoSem.ClaimJoined
import GoSem.ClaimMapViews
import Derived.JoinedTies
import Derived.KernelRfl
namespace Go.Proofs.YtaanihidheccfaaDoor
/- THE CELL 'sum', in the pinned program and in every row, IS THE sha256 OF THE DUMP (.gsa) THAT YtaanihidheccfaaDoorProg.lean LOADS. Nothing in Lean hashes anything: it is a label: what it is worth is what the hold of that sum in a sandbox is worth. -/
noncomputable def Tryd.pinned : Pinned := { name := "ytaanihidheccfaadoor", sum := "a2fc063942b44d1fc712780cffe056fd3223f0eba4ac1ea3e5134c0bb2232b39", checked := Tryd.checked }
namespace Rows
def none {H : Type} : Left H := { results := [], args := [] }

/- WHAT THE LISTED PACKAGE-LEVEL VARIABLES READ AS WHEN THE CALL BEGINS. Each datum BY PROGRAM (the guide's laid-datum.mjs) off the statement by which the dump's own 'gosem.cut.vars' lays the variable. In a bare row this is a premise. The card (YtaanihidheccfaaDoorCards.lean) ties it to the program's text. -/
def laid_unicode_utf8_acceptRanges {H : Type} : DataW H := .agg [.agg [.lit (.int .u8 128), .lit (.int .u8 191)], .agg [.lit (.int .u8 160), .lit (.int .u8 191)], .agg [.lit (.int .u8 128), .lit (.int .u8 159)], .agg [.lit (.int .u8 144), .lit (.int .u8 191)], .agg [.lit (.int .u8 128), .lit (.int .u8 143)], .agg [.lit (.int .u8 0), .lit (.int .u8 0)], .agg [.lit (.int .u8 0), .lit (.int .u8 0)], .agg [.lit (.int .u8 0), .lit (.int .u8 0)], .agg [.lit (.int .u8 0), .lit (.int .u8 0)], .agg [.lit (.int .u8 0), .lit (.int .u8 0)], .agg [.lit (.int .u8 0), .lit (.int .u8 0)], .agg [.lit (.int .u8 0), .lit (.int .u8 0)], .agg [.lit (.int .u8 0), .lit (.int .u8 0)], .agg [.lit (.int .u8 0), .lit (.int .u8 0)], .agg [.lit (.int .u8 0), .lit (.int .u8 0)], .agg [.lit (.int .u8 0), .lit (.int .u8 0)]]
/-- One of Go's own tables, pinned by name: the form's constant. -/
def laid_unicode_utf8_first : DataW Unit := Go.Pinned.utf8First

/-- 'cabochonlaw01.TextOf': WHATEVER THE INPUT: true; the input reads as it did. -/
def textOfSpec : ChangeSpec := { name := "textOf", fn := fun _ => fun
  | [d1, d2] => { results := [.lit (.bool true)], args := [d1, d2] }
  | _ => none }
def textOfRow : OpenClaim := { program := "ytaanihidheccfaadoor", sum := "a2fc063942b44d1fc712780cffe056fd3223f0eba4ac1ea3e5134c0bb2232b39", func := "cabochon/cabochonlaw01.TextOf", spec := "textOf", inPlace := ["internal/abi.NoEscape"], unfollowed := true, recurses := true, named := ["unicode/utf8.first", "unicode/utf8.acceptRanges"], apart := false, laid := [("unicode/utf8.acceptRanges", laid_unicode_utf8_acceptRanges), ("unicode/utf8.first", laid_unicode_utf8_first)] }
def TextOfSaid : Prop := textOfRow.holds Tryd.pinned (OpenSpec.ofChange textOfSpec)

/-- ITS FALSE NEIGHBOUR: 'it returns false'. Refute it at one input. -/
def textOfWrong : ChangeSpec := { name := "textOf", fn := fun _ => fun
  | [d1, d2] => { results := [.lit (.bool false)], args := [d1, d2] }
  | _ => none }
def TextOfWrongFalsely : Prop := textOfRow.holds Tryd.pinned (OpenSpec.ofChange textOfWrong)

/-- 'cabochonlaw01.TextFinds': WHATEVER THE INPUT: true; the input reads as it did. -/
def textFindsSpec : ChangeSpec := { name := "textFinds", fn := fun _ => fun
  | [d] => { results := [.lit (.bool true)], args := [d] }
  | _ => none }
def textFindsRow : OpenClaim := { program := "ytaanihidheccfaadoor", sum := "a2fc063942b44d1fc712780cffe056fd3223f0eba4ac1ea3e5134c0bb2232b39", func := "cabochon/cabochonlaw01.TextFinds", spec := "textFinds", inPlace := ["internal/abi.NoEscape"], unfollowed := true, recurses := true, named := ["unicode/utf8.first", "unicode/utf8.acceptRanges"], apart := false, laid := [("unicode/utf8.acceptRanges", laid_unicode_utf8_acceptRanges), ("unicode/utf8.first", laid_unicode_utf8_first)] }
def TextFindsSaid : Prop := textFindsRow.holds Tryd.pinned (OpenSpec.ofChange textFindsSpec)

/-- ITS FALSE NEIGHBOUR: 'it returns false'. Refute it at one input. -/
def textFindsWrong : ChangeSpec := { name := "textFinds", fn := fun _ => fun
  | [d] => { results := [.lit (.bool false)], args := [d] }
  | _ => none }
def TextFindsWrongFalsely : Prop := textFindsRow.holds Tryd.pinned (OpenSpec.ofChange textFindsWrong)

/-- 'cabochonlaw01.TextTidies': WHATEVER THE INPUT: true; the input reads as it did. -/
def textTidiesSpec : ChangeSpec := { name := "textTidies", fn := fun _ => fun
  | [d1, d2] => { results := [.lit (.bool true)], args := [d1, d2] }
  | _ => none }
def textTidiesRow : OpenClaim := { program := "ytaanihidheccfaadoor", sum := "a2fc063942b44d1fc712780cffe056fd3223f0eba4ac1ea3e5134c0bb2232b39", func := "cabochon/cabochonlaw01.TextTidies", spec := "textTidies", inPlace := ["internal/abi.NoEscape", "internal/bytealg.IndexByteString", "internal/bytealg.abigen_runtime_cmpstring"], unfollowed := true, recurses := true, named := ["unicode/utf8.first", "unicode/utf8.acceptRanges"], apart := false, laid := [("unicode/utf8.acceptRanges", laid_unicode_utf8_acceptRanges), ("unicode/utf8.first", laid_unicode_utf8_first)] }
def TextTidiesSaid : Prop := textTidiesRow.holds Tryd.pinned (OpenSpec.ofChange textTidiesSpec)

/-- ITS FALSE NEIGHBOUR: 'it returns false'. Refute it at one input. -/
def textTidiesWrong : ChangeSpec := { name := "textTidies", fn := fun _ => fun
  | [d1, d2] => { results := [.lit (.bool false)], args := [d1, d2] }
  | _ => none }
def TextTidiesWrongFalsely : Prop := textTidiesRow.holds Tryd.pinned (OpenSpec.ofChange textTidiesWrong)

/-- 'cabochonlaw01.TextConverts': WHATEVER THE INPUT: true; the input reads as it did. -/
def textConvertsSpec : ChangeSpec := { name := "textConverts", fn := fun _ => fun
  | [d] => { results := [.lit (.bool true)], args := [d] }
  | _ => none }
def textConvertsRow : OpenClaim := { program := "ytaanihidheccfaadoor", sum := "a2fc063942b44d1fc712780cffe056fd3223f0eba4ac1ea3e5134c0bb2232b39", func := "cabochon/cabochonlaw01.TextConverts", spec := "textConverts", inPlace := ["internal/abi.NoEscape"], unfollowed := true, recurses := true, named := ["unicode/utf8.first", "unicode/utf8.acceptRanges"], apart := false, laid := [("unicode/utf8.acceptRanges", laid_unicode_utf8_acceptRanges), ("unicode/utf8.first", laid_unicode_utf8_first)] }
def TextConvertsSaid : Prop := textConvertsRow.holds Tryd.pinned (OpenSpec.ofChange textConvertsSpec)

/-- ITS FALSE NEIGHBOUR: 'it returns false'. Refute it at one input. -/
def textConvertsWrong : ChangeSpec := { name := "textConverts", fn := fun _ => fun
  | [d] => { results := [.lit (.bool false)], args := [d] }
  | _ => none }
def TextConvertsWrongFalsely : Prop := textConvertsRow.holds Tryd.pinned (OpenSpec.ofChange textConvertsWrong)

/-- 'cabochonlaw01.TextCases': WHATEVER THE INPUT: true; the input reads as it did. -/
def textCasesSpec : ChangeSpec := { name := "textCases", fn := fun _ => fun
  | [d1, d2] => { results := [.lit (.bool true)], args := [d1, d2] }
  | _ => none }
def textCasesRow : OpenClaim := { program := "ytaanihidheccfaadoor", sum := "a2fc063942b44d1fc712780cffe056fd3223f0eba4ac1ea3e5134c0bb2232b39", func := "cabochon/cabochonlaw01.TextCases", spec := "textCases", inPlace := ["internal/abi.NoEscape"], unfollowed := true, recurses := true, named := ["unicode/utf8.first", "unicode/utf8.acceptRanges"], apart := false, laid := [("unicode/utf8.acceptRanges", laid_unicode_utf8_acceptRanges), ("unicode/utf8.first", laid_unicode_utf8_first)] }
def TextCasesSaid : Prop := textCasesRow.holds Tryd.pinned (OpenSpec.ofChange textCasesSpec)

/-- ITS FALSE NEIGHBOUR: 'it returns false'. Refute it at one input. -/
def textCasesWrong : ChangeSpec := { name := "textCases", fn := fun _ => fun
  | [d1, d2] => { results := [.lit (.bool false)], args := [d1, d2] }
  | _ => none }
def TextCasesWrongFalsely : Prop := textCasesRow.holds Tryd.pinned (OpenSpec.ofChange textCasesWrong)

/-- 'cabochonlaw01.TextScrubs': WHATEVER THE INPUT: true; the input reads as it did. -/
def textScrubsSpec : ChangeSpec := { name := "textScrubs", fn := fun _ => fun
  | [d1, d2] => { results := [.lit (.bool true)], args := [d1, d2] }
  | _ => none }
def textScrubsRow : OpenClaim := { program := "ytaanihidheccfaadoor", sum := "a2fc063942b44d1fc712780cffe056fd3223f0eba4ac1ea3e5134c0bb2232b39", func := "cabochon/cabochonlaw01.TextScrubs", spec := "textScrubs", inPlace := ["internal/abi.NoEscape"], unfollowed := true, recurses := true, named := ["unicode/utf8.first", "unicode/utf8.acceptRanges"], apart := false, laid := [("unicode/utf8.acceptRanges", laid_unicode_utf8_acceptRanges), ("unicode/utf8.first", laid_unicode_utf8_first)] }
def TextScrubsSaid : Prop := textScrubsRow.holds Tryd.pinned (OpenSpec.ofChange textScrubsSpec)

/-- ITS FALSE NEIGHBOUR: 'it returns false'. Refute it at one input. -/
def textScrubsWrong : ChangeSpec := { name := "textScrubs", fn := fun _ => fun
  | [d1, d2] => { results := [.lit (.bool false)], args := [d1, d2] }
  | _ => none }
def TextScrubsWrongFalsely : Prop := textScrubsRow.holds Tryd.pinned (OpenSpec.ofChange textScrubsWrong)

/-- 'cabochonlaw01.TextCuts': WHATEVER THE INPUT: true; the input reads as it did. -/
def textCutsSpec : ChangeSpec := { name := "textCuts", fn := fun _ => fun
  | [d] => { results := [.lit (.bool true)], args := [d] }
  | _ => none }
def textCutsRow : OpenClaim := { program := "ytaanihidheccfaadoor", sum := "a2fc063942b44d1fc712780cffe056fd3223f0eba4ac1ea3e5134c0bb2232b39", func := "cabochon/cabochonlaw01.TextCuts", spec := "textCuts", inPlace := ["internal/abi.NoEscape", "internal/bytealg.MakeNoZero"], unfollowed := true, recurses := true, named := ["unicode/utf8.first", "unicode/utf8.acceptRanges"], apart := false, laid := [("unicode/utf8.acceptRanges", laid_unicode_utf8_acceptRanges), ("unicode/utf8.first", laid_unicode_utf8_first)] }
def TextCutsSaid : Prop := textCutsRow.holds Tryd.pinned (OpenSpec.ofChange textCutsSpec)

/-- ITS FALSE NEIGHBOUR: 'it returns false'. Refute it at one input. -/
def textCutsWrong : ChangeSpec := { name := "textCuts", fn := fun _ => fun
  | [d] => { results := [.lit (.bool false)], args := [d] }
  | _ => none }
def TextCutsWrongFalsely : Prop := textCutsRow.holds Tryd.pinned (OpenSpec.ofChange textCutsWrong)

/-- 'cabochonlaw01.TextLong': WHATEVER THE INPUT: true; the input reads as it did. -/
def textLongSpec : ChangeSpec := { name := "textLong", fn := fun _ => fun
  | [d] => { results := [.lit (.bool true)], args := [d] }
  | _ => none }
def textLongRow : OpenClaim := { program := "ytaanihidheccfaadoor", sum := "a2fc063942b44d1fc712780cffe056fd3223f0eba4ac1ea3e5134c0bb2232b39", func := "cabochon/cabochonlaw01.TextLong", spec := "textLong", inPlace := ["internal/abi.NoEscape"], unfollowed := true, recurses := true, named := ["unicode/utf8.first", "unicode/utf8.acceptRanges"], apart := false, laid := [("unicode/utf8.acceptRanges", laid_unicode_utf8_acceptRanges), ("unicode/utf8.first", laid_unicode_utf8_first)] }
def TextLongSaid : Prop := textLongRow.holds Tryd.pinned (OpenSpec.ofChange textLongSpec)

/-- ITS FALSE NEIGHBOUR: 'it returns false'. Refute it at one input. -/
def textLongWrong : ChangeSpec := { name := "textLong", fn := fun _ => fun
  | [d] => { results := [.lit (.bool false)], args := [d] }
  | _ => none }
def TextLongWrongFalsely : Prop := textLongRow.holds Tryd.pinned (OpenSpec.ofChange textLongWrong)

/-- 'cabochonlaw01.TextParts': WHATEVER THE INPUT: true; the input reads as it did. -/
def textPartsSpec : ChangeSpec := { name := "textParts", fn := fun _ => fun
  | [d1, d2, d3] => { results := [.lit (.bool true)], args := [d1, d2, d3] }
  | _ => none }
def textPartsRow : OpenClaim := { program := "ytaanihidheccfaadoor", sum := "a2fc063942b44d1fc712780cffe056fd3223f0eba4ac1ea3e5134c0bb2232b39", func := "cabochon/cabochonlaw01.TextParts", spec := "textParts", inPlace := ["internal/abi.NoEscape", "internal/bytealg.MakeNoZero"], unfollowed := true, recurses := true, named := ["unicode/utf8.first", "unicode/utf8.acceptRanges"], apart := false, laid := [("unicode/utf8.acceptRanges", laid_unicode_utf8_acceptRanges), ("unicode/utf8.first", laid_unicode_utf8_first)] }
def TextPartsSaid : Prop := textPartsRow.holds Tryd.pinned (OpenSpec.ofChange textPartsSpec)

/-- ITS FALSE NEIGHBOUR: 'it returns false'. Refute it at one input. -/
def textPartsWrong : ChangeSpec := { name := "textParts", fn := fun _ => fun
  | [d1, d2, d3] => { results := [.lit (.bool false)], args := [d1, d2, d3] }
  | _ => none }
def TextPartsWrongFalsely : Prop := textPartsRow.holds Tryd.pinned (OpenSpec.ofChange textPartsWrong)

/-- 'cabochonlaw01.TextValid': WHATEVER THE INPUT: true; the input reads as it did. -/
def textValidSpec : ChangeSpec := { name := "textValid", fn := fun _ => fun
  | [d1, d2] => { results := [.lit (.bool true)], args := [d1, d2] }
  | _ => none }
def textValidRow : OpenClaim := { program := "ytaanihidheccfaadoor", sum := "a2fc063942b44d1fc712780cffe056fd3223f0eba4ac1ea3e5134c0bb2232b39", func := "cabochon/cabochonlaw01.TextValid", spec := "textValid", inPlace := ["internal/abi.NoEscape"], unfollowed := true, recurses := true, named := ["unicode/utf8.first", "unicode/utf8.acceptRanges"], apart := false, laid := [("unicode/utf8.acceptRanges", laid_unicode_utf8_acceptRanges), ("unicode/utf8.first", laid_unicode_utf8_first)] }
def TextValidSaid : Prop := textValidRow.holds Tryd.pinned (OpenSpec.ofChange textValidSpec)

/-- ITS FALSE NEIGHBOUR: 'it returns false'. Refute it at one input. -/
def textValidWrong : ChangeSpec := { name := "textValid", fn := fun _ => fun
  | [d1, d2] => { results := [.lit (.bool false)], args := [d1, d2] }
  | _ => none }
def TextValidWrongFalsely : Prop := textValidRow.holds Tryd.pinned (OpenSpec.ofChange textValidWrong)

/-- 'cabochonlaw01.TextFound': WHATEVER THE INPUT: true; the input reads as it did. -/
def textFoundSpec : ChangeSpec := { name := "textFound", fn := fun _ => fun
  | [d] => { results := [.lit (.bool true)], args := [d] }
  | _ => none }
def textFoundRow : OpenClaim := { program := "ytaanihidheccfaadoor", sum := "a2fc063942b44d1fc712780cffe056fd3223f0eba4ac1ea3e5134c0bb2232b39", func := "cabochon/cabochonlaw01.TextFound", spec := "textFound", inPlace := ["internal/abi.NoEscape", "internal/bytealg.MakeNoZero"], unfollowed := true, recurses := true, named := ["unicode/utf8.first", "unicode/utf8.acceptRanges"], apart := false, laid := [("unicode/utf8.acceptRanges", laid_unicode_utf8_acceptRanges), ("unicode/utf8.first", laid_unicode_utf8_first)] }
def TextFoundSaid : Prop := textFoundRow.holds Tryd.pinned (OpenSpec.ofChange textFoundSpec)

/-- ITS FALSE NEIGHBOUR: 'it returns false'. Refute it at one input. -/
def textFoundWrong : ChangeSpec := { name := "textFound", fn := fun _ => fun
  | [d] => { results := [.lit (.bool false)], args := [d] }
  | _ => none }
def TextFoundWrongFalsely : Prop := textFoundRow.holds Tryd.pinned (OpenSpec.ofChange textFoundWrong)

/-- 'cabochonlaw01.TextTurns': WHATEVER THE INPUT: true; the input reads as it did. -/
def textTurnsSpec : ChangeSpec := { name := "textTurns", fn := fun _ => fun
  | [d1, d2] => { results := [.lit (.bool true)], args := [d1, d2] }
  | _ => none }
def textTurnsRow : OpenClaim := { program := "ytaanihidheccfaadoor", sum := "a2fc063942b44d1fc712780cffe056fd3223f0eba4ac1ea3e5134c0bb2232b39", func := "cabochon/cabochonlaw01.TextTurns", spec := "textTurns", inPlace := ["internal/abi.NoEscape", "internal/bytealg.MakeNoZero"], unfollowed := true, recurses := true, named := ["unicode/utf8.first", "unicode/utf8.acceptRanges"], apart := false, laid := [("unicode/utf8.acceptRanges", laid_unicode_utf8_acceptRanges), ("unicode/utf8.first", laid_unicode_utf8_first)] }
def TextTurnsSaid : Prop := textTurnsRow.holds Tryd.pinned (OpenSpec.ofChange textTurnsSpec)

/-- ITS FALSE NEIGHBOUR: 'it returns false'. Refute it at one input. -/
def textTurnsWrong : ChangeSpec := { name := "textTurns", fn := fun _ => fun
  | [d1, d2] => { results := [.lit (.bool false)], args := [d1, d2] }
  | _ => none }
def TextTurnsWrongFalsely : Prop := textTurnsRow.holds Tryd.pinned (OpenSpec.ofChange textTurnsWrong)

/- THE SECOND FORM. 'bulk': how many values and letters a reading holds, each counted each time it is reached (what is shared counts as often as it is met; a slice's spare places count too). A statement '..UptoSaid' is the law's where the arguments, and the package variables that the reading takes, are together of bulk at most 1048576: NARROWER than '..Said'. Prove '..Said' where nothing that the law and all that it calls make is longer than what came in: it says more and counts as full. Else prove '..UptoSaid'. A law counts once. -/
mutual
def uptoBulk {H : Type} : DataW H → Nat
  | .lit (.string bytes) => bytes.length + 1
  | .lit _ => 1
  | .nil => 1
  | .ptr d => uptoBulk d + 1
  | .slice elems spare => uptoBulkAll elems + uptoBulkAll spare + 1
  | .agg parts => uptoBulkAll parts + 1
  | .iface _ d => uptoBulk d + 1
  | .map entries => uptoBulkEntries entries + 1
  | .held _ => 1
def uptoBulkAll {H : Type} : List (DataW H) → Nat
  | [] => 0
  | d :: r => uptoBulk d + uptoBulkAll r
def uptoBulkEntries {H : Type} : List (Lit × DataW H) → Nat
  | [] => 0
  | x :: r => uptoBulkEntry x + uptoBulkEntries r
def uptoBulkEntry {H : Type} : Lit × DataW H → Nat
  | (.string bytes, d) => bytes.length + uptoBulk d + 1
  | (_, d) => uptoBulk d + 1
 end
def uptoSmall : (H : Type) → List (DataW H) → Bool := fun _ ds => decide (uptoBulkAll ds ≤ 1048576)
def OpenSpec.upto (s : _root_.Go.ChangeSpec) : _root_.Go.OpenSpec := { _root_.Go.OpenSpec.ofChange s with cond := some uptoSmall }

/-- 'cabochonlaw01.TextOf', WHERE WHAT IT READS IS OF BULK AT MOST 1048576: true; the input reads as it did. -/
def textOfUptoRow : OpenClaim := { program := "ytaanihidheccfaadoor", sum := "a2fc063942b44d1fc712780cffe056fd3223f0eba4ac1ea3e5134c0bb2232b39", func := "cabochon/cabochonlaw01.TextOf", spec := "textOf", inPlace := ["internal/abi.NoEscape"], unfollowed := true, recurses := true, named := ["unicode/utf8.first", "unicode/utf8.acceptRanges"], apart := false, laid := [("unicode/utf8.acceptRanges", laid_unicode_utf8_acceptRanges), ("unicode/utf8.first", laid_unicode_utf8_first)], narrowed := true }
def TextOfUptoSaid : Prop := textOfUptoRow.holds Tryd.pinned (OpenSpec.upto textOfSpec)

/-- 'cabochonlaw01.TextFinds', WHERE WHAT IT READS IS OF BULK AT MOST 1048576: true; the input reads as it did. -/
def textFindsUptoRow : OpenClaim := { program := "ytaanihidheccfaadoor", sum := "a2fc063942b44d1fc712780cffe056fd3223f0eba4ac1ea3e5134c0bb2232b39", func := "cabochon/cabochonlaw01.TextFinds", spec := "textFinds", inPlace := ["internal/abi.NoEscape"], unfollowed := true, recurses := true, named := ["unicode/utf8.first", "unicode/utf8.acceptRanges"], apart := false, laid := [("unicode/utf8.acceptRanges", laid_unicode_utf8_acceptRanges), ("unicode/utf8.first", laid_unicode_utf8_first)], narrowed := true }
def TextFindsUptoSaid : Prop := textFindsUptoRow.holds Tryd.pinned (OpenSpec.upto textFindsSpec)

/-- 'cabochonlaw01.TextTidies', WHERE WHAT IT READS IS OF BULK AT MOST 1048576: true; the input reads as it did. -/
def textTidiesUptoRow : OpenClaim := { program := "ytaanihidheccfaadoor", sum := "a2fc063942b44d1fc712780cffe056fd3223f0eba4ac1ea3e5134c0bb2232b39", func := "cabochon/cabochonlaw01.TextTidies", spec := "textTidies", inPlace := ["internal/abi.NoEscape", "internal/bytealg.IndexByteString", "internal/bytealg.abigen_runtime_cmpstring"], unfollowed := true, recurses := true, named := ["unicode/utf8.first", "unicode/utf8.acceptRanges"], apart := false, laid := [("unicode/utf8.acceptRanges", laid_unicode_utf8_acceptRanges), ("unicode/utf8.first", laid_unicode_utf8_first)], narrowed := true }
def TextTidiesUptoSaid : Prop := textTidiesUptoRow.holds Tryd.pinned (OpenSpec.upto textTidiesSpec)

/-- 'cabochonlaw01.TextConverts', WHERE WHAT IT READS IS OF BULK AT MOST 1048576: true; the input reads as it did. -/
def textConvertsUptoRow : OpenClaim := { program := "ytaanihidheccfaadoor", sum := "a2fc063942b44d1fc712780cffe056fd3223f0eba4ac1ea3e5134c0bb2232b39", func := "cabochon/cabochonlaw01.TextConverts", spec := "textConverts", inPlace := ["internal/abi.NoEscape"], unfollowed := true, recurses := true, named := ["unicode/utf8.first", "unicode/utf8.acceptRanges"], apart := false, laid := [("unicode/utf8.acceptRanges", laid_unicode_utf8_acceptRanges), ("unicode/utf8.first", laid_unicode_utf8_first)], narrowed := true }
def TextConvertsUptoSaid : Prop := textConvertsUptoRow.holds Tryd.pinned (OpenSpec.upto textConvertsSpec)

/-- 'cabochonlaw01.TextCases', WHERE WHAT IT READS IS OF BULK AT MOST 1048576: true; the input reads as it did. -/
def textCasesUptoRow : OpenClaim := { program := "ytaanihidheccfaadoor", sum := "a2fc063942b44d1fc712780cffe056fd3223f0eba4ac1ea3e5134c0bb2232b39", func := "cabochon/cabochonlaw01.TextCases", spec := "textCases", inPlace := ["internal/abi.NoEscape"], unfollowed := true, recurses := true, named := ["unicode/utf8.first", "unicode/utf8.acceptRanges"], apart := false, laid := [("unicode/utf8.acceptRanges", laid_unicode_utf8_acceptRanges), ("unicode/utf8.first", laid_unicode_utf8_first)], narrowed := true }
def TextCasesUptoSaid : Prop := textCasesUptoRow.holds Tryd.pinned (OpenSpec.upto textCasesSpec)

/-- 'cabochonlaw01.TextScrubs', WHERE WHAT IT READS IS OF BULK AT MOST 1048576: true; the input reads as it did. -/
def textScrubsUptoRow : OpenClaim := { program := "ytaanihidheccfaadoor", sum := "a2fc063942b44d1fc712780cffe056fd3223f0eba4ac1ea3e5134c0bb2232b39", func := "cabochon/cabochonlaw01.TextScrubs", spec := "textScrubs", inPlace := ["internal/abi.NoEscape"], unfollowed := true, recurses := true, named := ["unicode/utf8.first", "unicode/utf8.acceptRanges"], apart := false, laid := [("unicode/utf8.acceptRanges", laid_unicode_utf8_acceptRanges), ("unicode/utf8.first", laid_unicode_utf8_first)], narrowed := true }
def TextScrubsUptoSaid : Prop := textScrubsUptoRow.holds Tryd.pinned (OpenSpec.upto textScrubsSpec)

/-- 'cabochonlaw01.TextCuts', WHERE WHAT IT READS IS OF BULK AT MOST 1048576: true; the input reads as it did. -/
def textCutsUptoRow : OpenClaim := { program := "ytaanihidheccfaadoor", sum := "a2fc063942b44d1fc712780cffe056fd3223f0eba4ac1ea3e5134c0bb2232b39", func := "cabochon/cabochonlaw01.TextCuts", spec := "textCuts", inPlace := ["internal/abi.NoEscape", "internal/bytealg.MakeNoZero"], unfollowed := true, recurses := true, named := ["unicode/utf8.first", "unicode/utf8.acceptRanges"], apart := false, laid := [("unicode/utf8.acceptRanges", laid_unicode_utf8_acceptRanges), ("unicode/utf8.first", laid_unicode_utf8_first)], narrowed := true }
def TextCutsUptoSaid : Prop := textCutsUptoRow.holds Tryd.pinned (OpenSpec.upto textCutsSpec)

/-- 'cabochonlaw01.TextLong', WHERE WHAT IT READS IS OF BULK AT MOST 1048576: true; the input reads as it did. -/
def textLongUptoRow : OpenClaim := { program := "ytaanihidheccfaadoor", sum := "a2fc063942b44d1fc712780cffe056fd3223f0eba4ac1ea3e5134c0bb2232b39", func := "cabochon/cabochonlaw01.TextLong", spec := "textLong", inPlace := ["internal/abi.NoEscape"], unfollowed := true, recurses := true, named := ["unicode/utf8.first", "unicode/utf8.acceptRanges"], apart := false, laid := [("unicode/utf8.acceptRanges", laid_unicode_utf8_acceptRanges), ("unicode/utf8.first", laid_unicode_utf8_first)], narrowed := true }
def TextLongUptoSaid : Prop := textLongUptoRow.holds Tryd.pinned (OpenSpec.upto textLongSpec)

/-- 'cabochonlaw01.TextParts', WHERE WHAT IT READS IS OF BULK AT MOST 1048576: true; the input reads as it did. -/
def textPartsUptoRow : OpenClaim := { program := "ytaanihidheccfaadoor", sum := "a2fc063942b44d1fc712780cffe056fd3223f0eba4ac1ea3e5134c0bb2232b39", func := "cabochon/cabochonlaw01.TextParts", spec := "textParts", inPlace := ["internal/abi.NoEscape", "internal/bytealg.MakeNoZero"], unfollowed := true, recurses := true, named := ["unicode/utf8.first", "unicode/utf8.acceptRanges"], apart := false, laid := [("unicode/utf8.acceptRanges", laid_unicode_utf8_acceptRanges), ("unicode/utf8.first", laid_unicode_utf8_first)], narrowed := true }
def TextPartsUptoSaid : Prop := textPartsUptoRow.holds Tryd.pinned (OpenSpec.upto textPartsSpec)

/-- 'cabochonlaw01.TextValid', WHERE WHAT IT READS IS OF BULK AT MOST 1048576: true; the input reads as it did. -/
def textValidUptoRow : OpenClaim := { program := "ytaanihidheccfaadoor", sum := "a2fc063942b44d1fc712780cffe056fd3223f0eba4ac1ea3e5134c0bb2232b39", func := "cabochon/cabochonlaw01.TextValid", spec := "textValid", inPlace := ["internal/abi.NoEscape"], unfollowed := true, recurses := true, named := ["unicode/utf8.first", "unicode/utf8.acceptRanges"], apart := false, laid := [("unicode/utf8.acceptRanges", laid_unicode_utf8_acceptRanges), ("unicode/utf8.first", laid_unicode_utf8_first)], narrowed := true }
def TextValidUptoSaid : Prop := textValidUptoRow.holds Tryd.pinned (OpenSpec.upto textValidSpec)

/-- 'cabochonlaw01.TextFound', WHERE WHAT IT READS IS OF BULK AT MOST 1048576: true; the input reads as it did. -/
def textFoundUptoRow : OpenClaim := { program := "ytaanihidheccfaadoor", sum := "a2fc063942b44d1fc712780cffe056fd3223f0eba4ac1ea3e5134c0bb2232b39", func := "cabochon/cabochonlaw01.TextFound", spec := "textFound", inPlace := ["internal/abi.NoEscape", "internal/bytealg.MakeNoZero"], unfollowed := true, recurses := true, named := ["unicode/utf8.first", "unicode/utf8.acceptRanges"], apart := false, laid := [("unicode/utf8.acceptRanges", laid_unicode_utf8_acceptRanges), ("unicode/utf8.first", laid_unicode_utf8_first)], narrowed := true }
def TextFoundUptoSaid : Prop := textFoundUptoRow.holds Tryd.pinned (OpenSpec.upto textFoundSpec)

/-- 'cabochonlaw01.TextTurns', WHERE WHAT IT READS IS OF BULK AT MOST 1048576: true; the input reads as it did. -/
def textTurnsUptoRow : OpenClaim := { program := "ytaanihidheccfaadoor", sum := "a2fc063942b44d1fc712780cffe056fd3223f0eba4ac1ea3e5134c0bb2232b39", func := "cabochon/cabochonlaw01.TextTurns", spec := "textTurns", inPlace := ["internal/abi.NoEscape", "internal/bytealg.MakeNoZero"], unfollowed := true, recurses := true, named := ["unicode/utf8.first", "unicode/utf8.acceptRanges"], apart := false, laid := [("unicode/utf8.acceptRanges", laid_unicode_utf8_acceptRanges), ("unicode/utf8.first", laid_unicode_utf8_first)], narrowed := true }
def TextTurnsUptoSaid : Prop := textTurnsUptoRow.holds Tryd.pinned (OpenSpec.upto textTurnsSpec)

end Rows
end Go.Proofs.YtaanihidheccfaaDoor
