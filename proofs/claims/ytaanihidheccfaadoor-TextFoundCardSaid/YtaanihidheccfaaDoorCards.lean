/-
  DERIVED. GIVEN WITH THE SEED: THE CARDS: each row of YtaanihidheccfaaDoorRows.lean that lists a variable, with what it lists TIED to the program's text (the seventh form; the later family's looks); each row that meets fmt, with fmt's text TOLD by the authors' own Lean function (tested against real Go, not proved from fmt's source: count such statements apart). THE CARD IS WHAT COUNTS. Prove the row's statement (the work); the ties are given (YtaanihidheccfaaDoorTie.lean); close each card by the builder's one call (the guide's Derived/Test/ToyasCard.lean, 'card_holds'). Laid BY PROGRAM, IN A SANDBOX (cutbox-door.mjs). By AI agents, Wed Nov 11 2026. No macro, syntax, notation, axiom, sorry.
-/
import Derived.Test.YtaanihidheccfaaDoorRows
import GoSem.ClaimSeven
namespace Go.Proofs.YtaanihidheccfaaDoor
namespace Rows

/-- THE TIED CARD OF 'cabochonlaw01.TextOf'. -/
def textOfCard : Claim7 := { stood := { row := textOfRow, standIns := [], harness := (true, "1acf9d329d6207f7fac1c7d9800b1ce352dd556bdd28422e1750b02e3c6e273e"), looks := false }, kinds := [], alts := [], laidByText := true, laidKinds := [.data, .pinned], laidTests := true, laidLooks := .later }
def TextOfCardSaid : Prop := Claim7.holds Tryd.pinned (.plain (OpenSpec.ofChange textOfSpec)) textOfCard

/-- THE TIED CARD OF 'cabochonlaw01.TextFinds'. -/
def textFindsCard : Claim7 := { stood := { row := textFindsRow, standIns := [], harness := (true, "1acf9d329d6207f7fac1c7d9800b1ce352dd556bdd28422e1750b02e3c6e273e"), looks := false }, kinds := [], alts := [], laidByText := true, laidKinds := [.data, .pinned], laidTests := true, laidLooks := .later }
def TextFindsCardSaid : Prop := Claim7.holds Tryd.pinned (.plain (OpenSpec.ofChange textFindsSpec)) textFindsCard

/-- THE TIED CARD OF 'cabochonlaw01.TextTidies'. -/
def textTidiesCard : Claim7 := { stood := { row := textTidiesRow, standIns := [], harness := (true, "1acf9d329d6207f7fac1c7d9800b1ce352dd556bdd28422e1750b02e3c6e273e"), looks := false }, kinds := [], alts := [], laidByText := true, laidKinds := [.data, .pinned], laidTests := true, laidLooks := .later }
def TextTidiesCardSaid : Prop := Claim7.holds Tryd.pinned (.plain (OpenSpec.ofChange textTidiesSpec)) textTidiesCard

/-- THE TIED CARD OF 'cabochonlaw01.TextConverts'. -/
def textConvertsCard : Claim7 := { stood := { row := textConvertsRow, standIns := [], harness := (true, "1acf9d329d6207f7fac1c7d9800b1ce352dd556bdd28422e1750b02e3c6e273e"), looks := false }, kinds := [], alts := [], laidByText := true, laidKinds := [.data, .pinned], laidTests := true, laidLooks := .later }
def TextConvertsCardSaid : Prop := Claim7.holds Tryd.pinned (.plain (OpenSpec.ofChange textConvertsSpec)) textConvertsCard

/-- THE TIED CARD OF 'cabochonlaw01.TextCases'. -/
def textCasesCard : Claim7 := { stood := { row := textCasesRow, standIns := [], harness := (true, "1acf9d329d6207f7fac1c7d9800b1ce352dd556bdd28422e1750b02e3c6e273e"), looks := false }, kinds := [], alts := [], laidByText := true, laidKinds := [.data, .pinned], laidTests := true, laidLooks := .later }
def TextCasesCardSaid : Prop := Claim7.holds Tryd.pinned (.plain (OpenSpec.ofChange textCasesSpec)) textCasesCard

/-- THE TIED CARD OF 'cabochonlaw01.TextScrubs'. -/
def textScrubsCard : Claim7 := { stood := { row := textScrubsRow, standIns := [], harness := (true, "1acf9d329d6207f7fac1c7d9800b1ce352dd556bdd28422e1750b02e3c6e273e"), looks := false }, kinds := [], alts := [], laidByText := true, laidKinds := [.data, .pinned], laidTests := true, laidLooks := .later }
def TextScrubsCardSaid : Prop := Claim7.holds Tryd.pinned (.plain (OpenSpec.ofChange textScrubsSpec)) textScrubsCard

/-- THE TIED CARD OF 'cabochonlaw01.TextCuts'. -/
def textCutsCard : Claim7 := { stood := { row := textCutsRow, standIns := [], harness := (true, "1acf9d329d6207f7fac1c7d9800b1ce352dd556bdd28422e1750b02e3c6e273e"), looks := false }, kinds := [], alts := [], laidByText := true, laidKinds := [.data, .pinned], laidTests := true, laidLooks := .later }
def TextCutsCardSaid : Prop := Claim7.holds Tryd.pinned (.plain (OpenSpec.ofChange textCutsSpec)) textCutsCard

/-- THE TIED CARD OF 'cabochonlaw01.TextLong'. -/
def textLongCard : Claim7 := { stood := { row := textLongRow, standIns := [], harness := (true, "1acf9d329d6207f7fac1c7d9800b1ce352dd556bdd28422e1750b02e3c6e273e"), looks := false }, kinds := [], alts := [], laidByText := true, laidKinds := [.data, .pinned], laidTests := true, laidLooks := .later }
def TextLongCardSaid : Prop := Claim7.holds Tryd.pinned (.plain (OpenSpec.ofChange textLongSpec)) textLongCard

/-- THE TIED CARD OF 'cabochonlaw01.TextParts'. -/
def textPartsCard : Claim7 := { stood := { row := textPartsRow, standIns := [], harness := (true, "1acf9d329d6207f7fac1c7d9800b1ce352dd556bdd28422e1750b02e3c6e273e"), looks := false }, kinds := [], alts := [], laidByText := true, laidKinds := [.data, .pinned], laidTests := true, laidLooks := .later }
def TextPartsCardSaid : Prop := Claim7.holds Tryd.pinned (.plain (OpenSpec.ofChange textPartsSpec)) textPartsCard

/-- THE TIED CARD OF 'cabochonlaw01.TextValid'. -/
def textValidCard : Claim7 := { stood := { row := textValidRow, standIns := [], harness := (true, "1acf9d329d6207f7fac1c7d9800b1ce352dd556bdd28422e1750b02e3c6e273e"), looks := false }, kinds := [], alts := [], laidByText := true, laidKinds := [.data, .pinned], laidTests := true, laidLooks := .later }
def TextValidCardSaid : Prop := Claim7.holds Tryd.pinned (.plain (OpenSpec.ofChange textValidSpec)) textValidCard

/-- THE TIED CARD OF 'cabochonlaw01.TextFound'. -/
def textFoundCard : Claim7 := { stood := { row := textFoundRow, standIns := [], harness := (true, "1acf9d329d6207f7fac1c7d9800b1ce352dd556bdd28422e1750b02e3c6e273e"), looks := false }, kinds := [], alts := [], laidByText := true, laidKinds := [.data, .pinned], laidTests := true, laidLooks := .later }
def TextFoundCardSaid : Prop := Claim7.holds Tryd.pinned (.plain (OpenSpec.ofChange textFoundSpec)) textFoundCard

/-- THE TIED CARD OF 'cabochonlaw01.TextTurns'. -/
def textTurnsCard : Claim7 := { stood := { row := textTurnsRow, standIns := [], harness := (true, "1acf9d329d6207f7fac1c7d9800b1ce352dd556bdd28422e1750b02e3c6e273e"), looks := false }, kinds := [], alts := [], laidByText := true, laidKinds := [.data, .pinned], laidTests := true, laidLooks := .later }
def TextTurnsCardSaid : Prop := Claim7.holds Tryd.pinned (.plain (OpenSpec.ofChange textTurnsSpec)) textTurnsCard

/-- THE SECOND FORM's CARD OF 'cabochonlaw01.TextOf'. -/
def textOfUptoCard : Claim7 := { stood := { row := textOfUptoRow, standIns := [], harness := (true, "1acf9d329d6207f7fac1c7d9800b1ce352dd556bdd28422e1750b02e3c6e273e"), looks := false }, kinds := [], alts := [], laidByText := true, laidKinds := [.data, .pinned], laidTests := true, laidLooks := .later }
def TextOfUptoCardSaid : Prop := Claim7.holds Tryd.pinned (.plain (OpenSpec.upto textOfSpec)) textOfUptoCard

/-- THE SECOND FORM's CARD OF 'cabochonlaw01.TextFinds'. -/
def textFindsUptoCard : Claim7 := { stood := { row := textFindsUptoRow, standIns := [], harness := (true, "1acf9d329d6207f7fac1c7d9800b1ce352dd556bdd28422e1750b02e3c6e273e"), looks := false }, kinds := [], alts := [], laidByText := true, laidKinds := [.data, .pinned], laidTests := true, laidLooks := .later }
def TextFindsUptoCardSaid : Prop := Claim7.holds Tryd.pinned (.plain (OpenSpec.upto textFindsSpec)) textFindsUptoCard

/-- THE SECOND FORM's CARD OF 'cabochonlaw01.TextTidies'. -/
def textTidiesUptoCard : Claim7 := { stood := { row := textTidiesUptoRow, standIns := [], harness := (true, "1acf9d329d6207f7fac1c7d9800b1ce352dd556bdd28422e1750b02e3c6e273e"), looks := false }, kinds := [], alts := [], laidByText := true, laidKinds := [.data, .pinned], laidTests := true, laidLooks := .later }
def TextTidiesUptoCardSaid : Prop := Claim7.holds Tryd.pinned (.plain (OpenSpec.upto textTidiesSpec)) textTidiesUptoCard

/-- THE SECOND FORM's CARD OF 'cabochonlaw01.TextConverts'. -/
def textConvertsUptoCard : Claim7 := { stood := { row := textConvertsUptoRow, standIns := [], harness := (true, "1acf9d329d6207f7fac1c7d9800b1ce352dd556bdd28422e1750b02e3c6e273e"), looks := false }, kinds := [], alts := [], laidByText := true, laidKinds := [.data, .pinned], laidTests := true, laidLooks := .later }
def TextConvertsUptoCardSaid : Prop := Claim7.holds Tryd.pinned (.plain (OpenSpec.upto textConvertsSpec)) textConvertsUptoCard

/-- THE SECOND FORM's CARD OF 'cabochonlaw01.TextCases'. -/
def textCasesUptoCard : Claim7 := { stood := { row := textCasesUptoRow, standIns := [], harness := (true, "1acf9d329d6207f7fac1c7d9800b1ce352dd556bdd28422e1750b02e3c6e273e"), looks := false }, kinds := [], alts := [], laidByText := true, laidKinds := [.data, .pinned], laidTests := true, laidLooks := .later }
def TextCasesUptoCardSaid : Prop := Claim7.holds Tryd.pinned (.plain (OpenSpec.upto textCasesSpec)) textCasesUptoCard

/-- THE SECOND FORM's CARD OF 'cabochonlaw01.TextScrubs'. -/
def textScrubsUptoCard : Claim7 := { stood := { row := textScrubsUptoRow, standIns := [], harness := (true, "1acf9d329d6207f7fac1c7d9800b1ce352dd556bdd28422e1750b02e3c6e273e"), looks := false }, kinds := [], alts := [], laidByText := true, laidKinds := [.data, .pinned], laidTests := true, laidLooks := .later }
def TextScrubsUptoCardSaid : Prop := Claim7.holds Tryd.pinned (.plain (OpenSpec.upto textScrubsSpec)) textScrubsUptoCard

/-- THE SECOND FORM's CARD OF 'cabochonlaw01.TextCuts'. -/
def textCutsUptoCard : Claim7 := { stood := { row := textCutsUptoRow, standIns := [], harness := (true, "1acf9d329d6207f7fac1c7d9800b1ce352dd556bdd28422e1750b02e3c6e273e"), looks := false }, kinds := [], alts := [], laidByText := true, laidKinds := [.data, .pinned], laidTests := true, laidLooks := .later }
def TextCutsUptoCardSaid : Prop := Claim7.holds Tryd.pinned (.plain (OpenSpec.upto textCutsSpec)) textCutsUptoCard

/-- THE SECOND FORM's CARD OF 'cabochonlaw01.TextLong'. -/
def textLongUptoCard : Claim7 := { stood := { row := textLongUptoRow, standIns := [], harness := (true, "1acf9d329d6207f7fac1c7d9800b1ce352dd556bdd28422e1750b02e3c6e273e"), looks := false }, kinds := [], alts := [], laidByText := true, laidKinds := [.data, .pinned], laidTests := true, laidLooks := .later }
def TextLongUptoCardSaid : Prop := Claim7.holds Tryd.pinned (.plain (OpenSpec.upto textLongSpec)) textLongUptoCard

/-- THE SECOND FORM's CARD OF 'cabochonlaw01.TextParts'. -/
def textPartsUptoCard : Claim7 := { stood := { row := textPartsUptoRow, standIns := [], harness := (true, "1acf9d329d6207f7fac1c7d9800b1ce352dd556bdd28422e1750b02e3c6e273e"), looks := false }, kinds := [], alts := [], laidByText := true, laidKinds := [.data, .pinned], laidTests := true, laidLooks := .later }
def TextPartsUptoCardSaid : Prop := Claim7.holds Tryd.pinned (.plain (OpenSpec.upto textPartsSpec)) textPartsUptoCard

/-- THE SECOND FORM's CARD OF 'cabochonlaw01.TextValid'. -/
def textValidUptoCard : Claim7 := { stood := { row := textValidUptoRow, standIns := [], harness := (true, "1acf9d329d6207f7fac1c7d9800b1ce352dd556bdd28422e1750b02e3c6e273e"), looks := false }, kinds := [], alts := [], laidByText := true, laidKinds := [.data, .pinned], laidTests := true, laidLooks := .later }
def TextValidUptoCardSaid : Prop := Claim7.holds Tryd.pinned (.plain (OpenSpec.upto textValidSpec)) textValidUptoCard

/-- THE SECOND FORM's CARD OF 'cabochonlaw01.TextFound'. -/
def textFoundUptoCard : Claim7 := { stood := { row := textFoundUptoRow, standIns := [], harness := (true, "1acf9d329d6207f7fac1c7d9800b1ce352dd556bdd28422e1750b02e3c6e273e"), looks := false }, kinds := [], alts := [], laidByText := true, laidKinds := [.data, .pinned], laidTests := true, laidLooks := .later }
def TextFoundUptoCardSaid : Prop := Claim7.holds Tryd.pinned (.plain (OpenSpec.upto textFoundSpec)) textFoundUptoCard

/-- THE SECOND FORM's CARD OF 'cabochonlaw01.TextTurns'. -/
def textTurnsUptoCard : Claim7 := { stood := { row := textTurnsUptoRow, standIns := [], harness := (true, "1acf9d329d6207f7fac1c7d9800b1ce352dd556bdd28422e1750b02e3c6e273e"), looks := false }, kinds := [], alts := [], laidByText := true, laidKinds := [.data, .pinned], laidTests := true, laidLooks := .later }
def TextTurnsUptoCardSaid : Prop := Claim7.holds Tryd.pinned (.plain (OpenSpec.upto textTurnsSpec)) textTurnsUptoCard
end Rows
end Go.Proofs.YtaanihidheccfaaDoor
