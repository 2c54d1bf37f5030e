/-
  DERIVED. GIVEN WITH THE SEED: THE CARDS: each row of YthnljfogfaoahaaDoorRows.lean that lists a variable, with what it lists TIED to the program's text (the seventh form; the later family's looks); each row that meets fmt, with fmt's text TOLD by the authors' own Lean function (tested against real Go, not proved from fmt's source: count such statements apart). THE CARD IS WHAT COUNTS. Prove the row's statement (the work); the ties are given (YthnljfogfaoahaaDoorTie.lean); close each card by the builder's one call (the guide's Derived/Test/ToyasCard.lean, 'card_holds'). Laid BY PROGRAM, IN A SANDBOX (cutbox-door.mjs). By AI agents, Wed Nov 11 2026. No macro, syntax, notation, axiom, sorry.
-/
import Derived.Test.YthnljfogfaoahaaDoorRows
import GoSem.ClaimSeven
namespace Go.Proofs.YthnljfogfaoahaaDoor
namespace Rows

/-- THE TIED CARD OF 'valiselaw22.TextLines'. -/
def textLinesCard : Claim7 := { stood := { row := textLinesRow, standIns := [], harness := (true, "249398891971304c948bb90cde20e138541ee5aefa077d2e414ea8aa41891e49"), looks := false }, kinds := [], alts := [], laidByText := true, laidKinds := [.data, .pinned], laidTests := true, laidLooks := .later }
def TextLinesCardSaid : Prop := Claim7.holds Tryd.pinned (.plain (OpenSpec.ofChange textLinesSpec)) textLinesCard

/-- THE TIED CARD OF 'valiselaw22.TextBack'. -/
def textBackCard : Claim7 := { stood := { row := textBackRow, standIns := [], harness := (true, "249398891971304c948bb90cde20e138541ee5aefa077d2e414ea8aa41891e49"), looks := false }, kinds := [], alts := [], laidByText := true, laidKinds := [.data, .pinned], laidTests := true, laidLooks := .later }
def TextBackCardSaid : Prop := Claim7.holds Tryd.pinned (.plain (OpenSpec.ofChange textBackSpec)) textBackCard

/-- THE TIED CARD OF 'valiselaw22.TextBoth'. -/
def textBothCard : Claim7 := { stood := { row := textBothRow, standIns := [], harness := (true, "249398891971304c948bb90cde20e138541ee5aefa077d2e414ea8aa41891e49"), looks := false }, kinds := [], alts := [], laidByText := true, laidKinds := [.data, .pinned], laidTests := true, laidLooks := .later }
def TextBothCardSaid : Prop := Claim7.holds Tryd.pinned (.plain (OpenSpec.ofChange textBothSpec)) textBothCard

/-- THE SECOND FORM's CARD OF 'valiselaw22.TextLines'. -/
def textLinesUptoCard : Claim7 := { stood := { row := textLinesUptoRow, standIns := [], harness := (true, "249398891971304c948bb90cde20e138541ee5aefa077d2e414ea8aa41891e49"), looks := false }, kinds := [], alts := [], laidByText := true, laidKinds := [.data, .pinned], laidTests := true, laidLooks := .later }
def TextLinesUptoCardSaid : Prop := Claim7.holds Tryd.pinned (.plain (OpenSpec.upto textLinesSpec)) textLinesUptoCard

/-- THE SECOND FORM's CARD OF 'valiselaw22.TextBack'. -/
def textBackUptoCard : Claim7 := { stood := { row := textBackUptoRow, standIns := [], harness := (true, "249398891971304c948bb90cde20e138541ee5aefa077d2e414ea8aa41891e49"), looks := false }, kinds := [], alts := [], laidByText := true, laidKinds := [.data, .pinned], laidTests := true, laidLooks := .later }
def TextBackUptoCardSaid : Prop := Claim7.holds Tryd.pinned (.plain (OpenSpec.upto textBackSpec)) textBackUptoCard

/-- THE SECOND FORM's CARD OF 'valiselaw22.TextBoth'. -/
def textBothUptoCard : Claim7 := { stood := { row := textBothUptoRow, standIns := [], harness := (true, "249398891971304c948bb90cde20e138541ee5aefa077d2e414ea8aa41891e49"), looks := false }, kinds := [], alts := [], laidByText := true, laidKinds := [.data, .pinned], laidTests := true, laidLooks := .later }
def TextBothUptoCardSaid : Prop := Claim7.holds Tryd.pinned (.plain (OpenSpec.upto textBothSpec)) textBothUptoCard
end Rows
end Go.Proofs.YthnljfogfaoahaaDoor
