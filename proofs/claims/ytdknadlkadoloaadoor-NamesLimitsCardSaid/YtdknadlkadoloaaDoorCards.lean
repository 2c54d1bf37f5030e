/-
  DERIVED. GIVEN WITH THE SEED: THE CARDS: each row of YtdknadlkadoloaaDoorRows.lean that lists a variable, with what it lists TIED to the program's text (the seventh form; the later family's looks); each row that meets fmt, with fmt's text TOLD by the authors' own Lean function (tested against real Go, not proved from fmt's source: count such statements apart). THE CARD IS WHAT COUNTS. Prove the row's statement (the work); the ties are given (YtdknadlkadoloaaDoorTie.lean); close each card by the builder's one call (the guide's Derived/Test/ToyasCard.lean, 'card_holds'). Laid BY PROGRAM, IN A SANDBOX (cutbox-door.mjs). By AI agents, Wed Nov 11 2026. No macro, syntax, notation, axiom, sorry.
-/
import Derived.Test.YtdknadlkadoloaaDoorRows
import GoSem.ClaimSeven
namespace Go.Proofs.YtdknadlkadoloaaDoor
namespace Rows

/-- THE TIED CARD OF 'valiselaw28.NamesRight'. -/
def namesRightCard : Claim7 := { stood := { row := namesRightRow, standIns := [], harness := (true, "6f2bc146ced71fb30284599b41ebc7e418278a354eae5c5e74853b252540aab1"), looks := false }, kinds := [], alts := [], laidByText := true, laidKinds := [.data, .pinned], laidTests := true, laidLooks := .later }
def NamesRightCardSaid : Prop := Claim7.holds Tryd.pinned (.plain (OpenSpec.ofChange namesRightSpec)) namesRightCard

/-- THE TIED CARD OF 'valiselaw28.NamesSort'. -/
def namesSortCard : Claim7 := { stood := { row := namesSortRow, standIns := [], harness := (true, "6f2bc146ced71fb30284599b41ebc7e418278a354eae5c5e74853b252540aab1"), looks := false }, kinds := [], alts := [], laidByText := true, laidKinds := [.data, .pinned], laidTests := true, laidLooks := .later }
def NamesSortCardSaid : Prop := Claim7.holds Tryd.pinned (.plain (OpenSpec.ofChange namesSortSpec)) namesSortCard

/-- THE TIED CARD OF 'valiselaw28.NamesLimits'. -/
def namesLimitsCard : Claim7 := { stood := { row := namesLimitsRow, standIns := [], harness := (true, "6f2bc146ced71fb30284599b41ebc7e418278a354eae5c5e74853b252540aab1"), looks := false }, kinds := [], alts := [], laidByText := true, laidKinds := [.data, .pinned], laidTests := true, laidLooks := .later }
def NamesLimitsCardSaid : Prop := Claim7.holds Tryd.pinned (.plain (OpenSpec.ofChange namesLimitsSpec)) namesLimitsCard

/-- THE TIED CARD OF 'valiselaw28.NamesOrder'. -/
def namesOrderCard : Claim7 := { stood := { row := namesOrderRow, standIns := [], harness := (true, "6f2bc146ced71fb30284599b41ebc7e418278a354eae5c5e74853b252540aab1"), looks := false }, kinds := [], alts := [], laidByText := true, laidKinds := [.data, .pinned], laidTests := true, laidLooks := .later }
def NamesOrderCardSaid : Prop := Claim7.holds Tryd.pinned (.plain (OpenSpec.ofChange namesOrderSpec)) namesOrderCard

/-- THE TIED CARD OF 'valiselaw28.NamesPut'. -/
def namesPutCard : Claim7 := { stood := { row := namesPutRow, standIns := [], harness := (true, "6f2bc146ced71fb30284599b41ebc7e418278a354eae5c5e74853b252540aab1"), looks := false }, kinds := [], alts := [], laidByText := true, laidKinds := [.data, .pinned], laidTests := true, laidLooks := .later }
def NamesPutCardSaid : Prop := Claim7.holds Tryd.pinned (.plain (OpenSpec.ofChange namesPutSpec)) namesPutCard

/-- THE TIED CARD OF 'valiselaw28.NamesMap'. -/
def namesMapCard : Claim7 := { stood := { row := namesMapRow, standIns := [], harness := (true, "6f2bc146ced71fb30284599b41ebc7e418278a354eae5c5e74853b252540aab1"), looks := false }, kinds := [], alts := [], laidByText := true, laidKinds := [.data, .pinned], laidTests := true, laidLooks := .later }
def NamesMapCardSaid : Prop := Claim7.holds Tryd.pinned (.plain (OpenSpec.ofChange namesMapSpec)) namesMapCard

/-- THE SECOND FORM's CARD OF 'valiselaw28.NamesRight'. -/
def namesRightUptoCard : Claim7 := { stood := { row := namesRightUptoRow, standIns := [], harness := (true, "6f2bc146ced71fb30284599b41ebc7e418278a354eae5c5e74853b252540aab1"), looks := false }, kinds := [], alts := [], laidByText := true, laidKinds := [.data, .pinned], laidTests := true, laidLooks := .later }
def NamesRightUptoCardSaid : Prop := Claim7.holds Tryd.pinned (.plain (OpenSpec.upto namesRightSpec)) namesRightUptoCard

/-- THE SECOND FORM's CARD OF 'valiselaw28.NamesSort'. -/
def namesSortUptoCard : Claim7 := { stood := { row := namesSortUptoRow, standIns := [], harness := (true, "6f2bc146ced71fb30284599b41ebc7e418278a354eae5c5e74853b252540aab1"), looks := false }, kinds := [], alts := [], laidByText := true, laidKinds := [.data, .pinned], laidTests := true, laidLooks := .later }
def NamesSortUptoCardSaid : Prop := Claim7.holds Tryd.pinned (.plain (OpenSpec.upto namesSortSpec)) namesSortUptoCard

/-- THE SECOND FORM's CARD OF 'valiselaw28.NamesLimits'. -/
def namesLimitsUptoCard : Claim7 := { stood := { row := namesLimitsUptoRow, standIns := [], harness := (true, "6f2bc146ced71fb30284599b41ebc7e418278a354eae5c5e74853b252540aab1"), looks := false }, kinds := [], alts := [], laidByText := true, laidKinds := [.data, .pinned], laidTests := true, laidLooks := .later }
def NamesLimitsUptoCardSaid : Prop := Claim7.holds Tryd.pinned (.plain (OpenSpec.upto namesLimitsSpec)) namesLimitsUptoCard

/-- THE SECOND FORM's CARD OF 'valiselaw28.NamesOrder'. -/
def namesOrderUptoCard : Claim7 := { stood := { row := namesOrderUptoRow, standIns := [], harness := (true, "6f2bc146ced71fb30284599b41ebc7e418278a354eae5c5e74853b252540aab1"), looks := false }, kinds := [], alts := [], laidByText := true, laidKinds := [.data, .pinned], laidTests := true, laidLooks := .later }
def NamesOrderUptoCardSaid : Prop := Claim7.holds Tryd.pinned (.plain (OpenSpec.upto namesOrderSpec)) namesOrderUptoCard

/-- THE SECOND FORM's CARD OF 'valiselaw28.NamesPut'. -/
def namesPutUptoCard : Claim7 := { stood := { row := namesPutUptoRow, standIns := [], harness := (true, "6f2bc146ced71fb30284599b41ebc7e418278a354eae5c5e74853b252540aab1"), looks := false }, kinds := [], alts := [], laidByText := true, laidKinds := [.data, .pinned], laidTests := true, laidLooks := .later }
def NamesPutUptoCardSaid : Prop := Claim7.holds Tryd.pinned (.plain (OpenSpec.upto namesPutSpec)) namesPutUptoCard

/-- THE SECOND FORM's CARD OF 'valiselaw28.NamesMap'. -/
def namesMapUptoCard : Claim7 := { stood := { row := namesMapUptoRow, standIns := [], harness := (true, "6f2bc146ced71fb30284599b41ebc7e418278a354eae5c5e74853b252540aab1"), looks := false }, kinds := [], alts := [], laidByText := true, laidKinds := [.data, .pinned], laidTests := true, laidLooks := .later }
def NamesMapUptoCardSaid : Prop := Claim7.holds Tryd.pinned (.plain (OpenSpec.upto namesMapSpec)) namesMapUptoCard
end Rows
end Go.Proofs.YtdknadlkadoloaaDoor
