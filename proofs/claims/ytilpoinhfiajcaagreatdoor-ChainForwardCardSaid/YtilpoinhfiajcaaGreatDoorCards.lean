/-
  DERIVED. GIVEN WITH THE SEED: THE CARDS: each row of YtilpoinhfiajcaaGreatDoorRows.lean that lists a variable, with what it lists TIED to the program's text (the seventh form; the later family's looks); each row that meets fmt, with fmt's text TOLD by the authors' own Lean function (tested against real Go, not proved from fmt's source: count such statements apart). THE CARD IS WHAT COUNTS. Prove the row's statement (the work); the ties are given (YtilpoinhfiajcaaGreatDoorTie.lean); close each card by the builder's one call (the guide's Derived/Test/ToyasCard.lean, 'card_holds'). Laid BY PROGRAM, IN A SANDBOX (cutbox-door.mjs). By AI agents, Wed Nov 11 2026. No macro, syntax, notation, axiom, sorry.
-/
import Derived.Test.YtilpoinhfiajcaaGreatDoorRows
import GoSem.ClaimSeven
namespace Go.Proofs.YtilpoinhfiajcaaGreatDoor
namespace Rows

/-- THE TIED CARD OF 'valiselaw23.ChainTells'. -/
def chainTellsCard : Claim7 := { stood := { row := chainTellsRow, standIns := [], harness := (true, "102f36d5e99e03633ad1784cdd36b8a77938164648b0e74ebc9cf9882882ea10"), looks := false }, kinds := [], alts := [], laidByText := true, laidKinds := [.data, .pinned], laidTests := true, laidLooks := .later }
def ChainTellsCardSaid : Prop := Claim7.holds Tryz.pinned (.plain (OpenSpec.ofChange chainTellsSpec)) chainTellsCard

/-- THE TIED CARD OF 'valiselaw23.ChainForward'. -/
def chainForwardCard : Claim7 := { stood := { row := chainForwardRow, standIns := [], harness := (true, "102f36d5e99e03633ad1784cdd36b8a77938164648b0e74ebc9cf9882882ea10"), looks := false }, kinds := [], alts := [], laidByText := true, laidKinds := [.data, .pinned], laidTests := true, laidLooks := .later }
def ChainForwardCardSaid : Prop := Claim7.holds Tryz.pinned (.plain (OpenSpec.ofChange chainForwardSpec)) chainForwardCard

/-- THE TIED CARD OF 'valiselaw23.ChainBack'. -/
def chainBackCard : Claim7 := { stood := { row := chainBackRow, standIns := [], harness := (true, "102f36d5e99e03633ad1784cdd36b8a77938164648b0e74ebc9cf9882882ea10"), looks := false }, kinds := [], alts := [], laidByText := true, laidKinds := [.data, .pinned], laidTests := true, laidLooks := .later }
def ChainBackCardSaid : Prop := Claim7.holds Tryz.pinned (.plain (OpenSpec.ofChange chainBackSpec)) chainBackCard

/-- THE SECOND FORM's CARD OF 'valiselaw23.ChainTells'. -/
def chainTellsUptoCard : Claim7 := { stood := { row := chainTellsUptoRow, standIns := [], harness := (true, "102f36d5e99e03633ad1784cdd36b8a77938164648b0e74ebc9cf9882882ea10"), looks := false }, kinds := [], alts := [], laidByText := true, laidKinds := [.data, .pinned], laidTests := true, laidLooks := .later }
def ChainTellsUptoCardSaid : Prop := Claim7.holds Tryz.pinned (.plain (OpenSpec.upto chainTellsSpec)) chainTellsUptoCard

/-- THE SECOND FORM's CARD OF 'valiselaw23.ChainForward'. -/
def chainForwardUptoCard : Claim7 := { stood := { row := chainForwardUptoRow, standIns := [], harness := (true, "102f36d5e99e03633ad1784cdd36b8a77938164648b0e74ebc9cf9882882ea10"), looks := false }, kinds := [], alts := [], laidByText := true, laidKinds := [.data, .pinned], laidTests := true, laidLooks := .later }
def ChainForwardUptoCardSaid : Prop := Claim7.holds Tryz.pinned (.plain (OpenSpec.upto chainForwardSpec)) chainForwardUptoCard

/-- THE SECOND FORM's CARD OF 'valiselaw23.ChainBack'. -/
def chainBackUptoCard : Claim7 := { stood := { row := chainBackUptoRow, standIns := [], harness := (true, "102f36d5e99e03633ad1784cdd36b8a77938164648b0e74ebc9cf9882882ea10"), looks := false }, kinds := [], alts := [], laidByText := true, laidKinds := [.data, .pinned], laidTests := true, laidLooks := .later }
def ChainBackUptoCardSaid : Prop := Claim7.holds Tryz.pinned (.plain (OpenSpec.upto chainBackSpec)) chainBackUptoCard
end Rows
end Go.Proofs.YtilpoinhfiajcaaGreatDoor
