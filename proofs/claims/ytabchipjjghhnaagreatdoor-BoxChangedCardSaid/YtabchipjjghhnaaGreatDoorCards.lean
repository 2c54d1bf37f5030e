/-
  DERIVED. GIVEN WITH THE SEED: THE CARDS: each row of YtabchipjjghhnaaGreatDoorRows.lean that lists a variable, with what it lists TIED to the program's text (the seventh form; the later family's looks); each row that meets fmt, with fmt's text TOLD by the authors' own Lean function (tested against real Go, not proved from fmt's source: count such statements apart). THE CARD IS WHAT COUNTS. Prove the row's statement (the work); the ties are given (YtabchipjjghhnaaGreatDoorTie.lean); close each card by the builder's one call (the guide's Derived/Test/ToyasCard.lean, 'card_holds'). Laid BY PROGRAM, IN A SANDBOX (cutbox-door.mjs). By AI agents, Wed Nov 11 2026. No macro, syntax, notation, axiom, sorry.
-/
import Derived.Test.YtabchipjjghhnaaGreatDoorRows
import GoSem.ClaimSeven
namespace Go.Proofs.YtabchipjjghhnaaGreatDoor
namespace Rows

/-- THE TIED CARD OF 'valiselaw29.BoxSame'. -/
def boxSameCard : Claim7 := { stood := { row := boxSameRow, standIns := [], harness := (true, "b39156980a1f8064c203d4e7d6901e61129c89a9edea1c8997afafaef1c7be24"), looks := false }, kinds := [], alts := [], laidByText := true, laidKinds := [.data, .pinned], laidTests := true, laidLooks := .later }
def BoxSameCardSaid : Prop := Claim7.holds Tryz.pinned (.plain (OpenSpec.ofChange boxSameSpec)) boxSameCard

/-- THE TIED CARD OF 'valiselaw29.BoxTotal'. -/
def boxTotalCard : Claim7 := { stood := { row := boxTotalRow, standIns := [], harness := (true, "b39156980a1f8064c203d4e7d6901e61129c89a9edea1c8997afafaef1c7be24"), looks := false }, kinds := [], alts := [], laidByText := true, laidKinds := [.data, .pinned], laidTests := true, laidLooks := .later }
def BoxTotalCardSaid : Prop := Claim7.holds Tryz.pinned (.plain (OpenSpec.ofChange boxTotalSpec)) boxTotalCard

/-- THE TIED CARD OF 'valiselaw29.BoxChanged'. -/
def boxChangedCard : Claim7 := { stood := { row := boxChangedRow, standIns := [], harness := (true, "b39156980a1f8064c203d4e7d6901e61129c89a9edea1c8997afafaef1c7be24"), looks := false }, kinds := [], alts := [], laidByText := true, laidKinds := [.data, .pinned], laidTests := true, laidLooks := .later }
def BoxChangedCardSaid : Prop := Claim7.holds Tryz.pinned (.plain (OpenSpec.ofChange boxChangedSpec)) boxChangedCard

/-- THE SECOND FORM's CARD OF 'valiselaw29.BoxSame'. -/
def boxSameUptoCard : Claim7 := { stood := { row := boxSameUptoRow, standIns := [], harness := (true, "b39156980a1f8064c203d4e7d6901e61129c89a9edea1c8997afafaef1c7be24"), looks := false }, kinds := [], alts := [], laidByText := true, laidKinds := [.data, .pinned], laidTests := true, laidLooks := .later }
def BoxSameUptoCardSaid : Prop := Claim7.holds Tryz.pinned (.plain (OpenSpec.upto boxSameSpec)) boxSameUptoCard

/-- THE SECOND FORM's CARD OF 'valiselaw29.BoxTotal'. -/
def boxTotalUptoCard : Claim7 := { stood := { row := boxTotalUptoRow, standIns := [], harness := (true, "b39156980a1f8064c203d4e7d6901e61129c89a9edea1c8997afafaef1c7be24"), looks := false }, kinds := [], alts := [], laidByText := true, laidKinds := [.data, .pinned], laidTests := true, laidLooks := .later }
def BoxTotalUptoCardSaid : Prop := Claim7.holds Tryz.pinned (.plain (OpenSpec.upto boxTotalSpec)) boxTotalUptoCard

/-- THE SECOND FORM's CARD OF 'valiselaw29.BoxChanged'. -/
def boxChangedUptoCard : Claim7 := { stood := { row := boxChangedUptoRow, standIns := [], harness := (true, "b39156980a1f8064c203d4e7d6901e61129c89a9edea1c8997afafaef1c7be24"), looks := false }, kinds := [], alts := [], laidByText := true, laidKinds := [.data, .pinned], laidTests := true, laidLooks := .later }
def BoxChangedUptoCardSaid : Prop := Claim7.holds Tryz.pinned (.plain (OpenSpec.upto boxChangedSpec)) boxChangedUptoCard
end Rows
end Go.Proofs.YtabchipjjghhnaaGreatDoor
