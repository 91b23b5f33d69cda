/-
  DERIVED. GIVEN WITH THE SEED: THE CARDS: each row of YtnlleopcokhkoaaDoorRows.lean that lists a variable, with what it lists TIED to the program's text (the seventh form; the later family's looks); each row that meets fmt, with fmt's text TOLD by the authors' own Lean function (tested against real Go, not proved from fmt's source: count such statements apart). THE CARD IS WHAT COUNTS. Prove the row's statement (the work); the ties are given (YtnlleopcokhkoaaDoorTie.lean); close each card by the builder's one call (the guide's Derived/Test/ToyasCard.lean, 'card_holds'). Laid BY PROGRAM, IN A SANDBOX (cutbox-door.mjs). By AI agents, Wed Nov 11 2026. No macro, syntax, notation, axiom, sorry.
-/
import Derived.Test.YtnlleopcokhkoaaDoorRows
import GoSem.ClaimSeven
namespace Go.Proofs.YtnlleopcokhkoaaDoor
namespace Rows

/-- THE TIED CARD OF 'cyanotypelaw16.MarkBack'. -/
def markBackCard : Claim7 := { stood := { row := markBackRow, standIns := [], harness := (true, "cbd6621fbeb90fb92ce6dc3d47f9c43ffa01a74d926fa69964d4ab9af210d707"), looks := true }, kinds := [], alts := [], laidByText := true, laidKinds := [.data, .data], laidTests := true, laidLooks := .later }
def MarkBackCardSaid : Prop := Claim7.holds Tryd.pinned (.plain (OpenSpec.ofChange markBackSpec)) markBackCard

/-- THE TIED CARD OF 'cyanotypelaw16.MarkCut'. -/
def markCutCard : Claim7 := { stood := { row := markCutRow, standIns := [], harness := (true, "cbd6621fbeb90fb92ce6dc3d47f9c43ffa01a74d926fa69964d4ab9af210d707"), looks := true }, kinds := [], alts := [], laidByText := true, laidKinds := [.data, .data], laidTests := true, laidLooks := .later }
def MarkCutCardSaid : Prop := Claim7.holds Tryd.pinned (.plain (OpenSpec.ofChange markCutSpec)) markCutCard

/-- THE TIED CARD OF 'cyanotypelaw16.MarkProfile'. -/
def markProfileCard : Claim7 := { stood := { row := markProfileRow, standIns := [], harness := (true, "cbd6621fbeb90fb92ce6dc3d47f9c43ffa01a74d926fa69964d4ab9af210d707"), looks := true }, kinds := [], alts := [], laidByText := true, laidKinds := [.data, .data], laidTests := true, laidLooks := .later }
def MarkProfileCardSaid : Prop := Claim7.holds Tryd.pinned (.plain (OpenSpec.ofChange markProfileSpec)) markProfileCard

/-- THE TIED CARD OF 'cyanotypelaw16.MarkSkips'. -/
def markSkipsCard : Claim7 := { stood := { row := markSkipsRow, standIns := [], harness := (true, "cbd6621fbeb90fb92ce6dc3d47f9c43ffa01a74d926fa69964d4ab9af210d707"), looks := true }, kinds := [], alts := [], laidByText := true, laidKinds := [.data, .data], laidTests := true, laidLooks := .later }
def MarkSkipsCardSaid : Prop := Claim7.holds Tryd.pinned (.plain (OpenSpec.ofChange markSkipsSpec)) markSkipsCard

/-- THE TIED CARD OF 'cyanotypelaw16.MarkOrders'. -/
def markOrdersCard : Claim7 := { stood := { row := markOrdersRow, standIns := [], harness := (true, "cbd6621fbeb90fb92ce6dc3d47f9c43ffa01a74d926fa69964d4ab9af210d707"), looks := true }, kinds := [], alts := [], laidByText := true, laidKinds := [.data, .data], laidTests := true, laidLooks := .later }
def MarkOrdersCardSaid : Prop := Claim7.holds Tryd.pinned (.plain (OpenSpec.ofChange markOrdersSpec)) markOrdersCard

/-- THE TIED CARD OF 'cyanotypelaw16.MarkPuts'. -/
def markPutsCard : Claim7 := { stood := { row := markPutsRow, standIns := [], harness := (true, "cbd6621fbeb90fb92ce6dc3d47f9c43ffa01a74d926fa69964d4ab9af210d707"), looks := true }, kinds := [], alts := [], laidByText := true, laidKinds := [.data, .data], laidTests := true, laidLooks := .later }
def MarkPutsCardSaid : Prop := Claim7.holds Tryd.pinned (.plain (OpenSpec.ofChange markPutsSpec)) markPutsCard

/-- THE SECOND FORM's CARD OF 'cyanotypelaw16.MarkBack'. -/
def markBackUptoCard : Claim7 := { stood := { row := markBackUptoRow, standIns := [], harness := (true, "cbd6621fbeb90fb92ce6dc3d47f9c43ffa01a74d926fa69964d4ab9af210d707"), looks := true }, kinds := [], alts := [], laidByText := true, laidKinds := [.data, .data], laidTests := true, laidLooks := .later }
def MarkBackUptoCardSaid : Prop := Claim7.holds Tryd.pinned (.plain (OpenSpec.upto markBackSpec)) markBackUptoCard

/-- THE SECOND FORM's CARD OF 'cyanotypelaw16.MarkCut'. -/
def markCutUptoCard : Claim7 := { stood := { row := markCutUptoRow, standIns := [], harness := (true, "cbd6621fbeb90fb92ce6dc3d47f9c43ffa01a74d926fa69964d4ab9af210d707"), looks := true }, kinds := [], alts := [], laidByText := true, laidKinds := [.data, .data], laidTests := true, laidLooks := .later }
def MarkCutUptoCardSaid : Prop := Claim7.holds Tryd.pinned (.plain (OpenSpec.upto markCutSpec)) markCutUptoCard

/-- THE SECOND FORM's CARD OF 'cyanotypelaw16.MarkProfile'. -/
def markProfileUptoCard : Claim7 := { stood := { row := markProfileUptoRow, standIns := [], harness := (true, "cbd6621fbeb90fb92ce6dc3d47f9c43ffa01a74d926fa69964d4ab9af210d707"), looks := true }, kinds := [], alts := [], laidByText := true, laidKinds := [.data, .data], laidTests := true, laidLooks := .later }
def MarkProfileUptoCardSaid : Prop := Claim7.holds Tryd.pinned (.plain (OpenSpec.upto markProfileSpec)) markProfileUptoCard

/-- THE SECOND FORM's CARD OF 'cyanotypelaw16.MarkSkips'. -/
def markSkipsUptoCard : Claim7 := { stood := { row := markSkipsUptoRow, standIns := [], harness := (true, "cbd6621fbeb90fb92ce6dc3d47f9c43ffa01a74d926fa69964d4ab9af210d707"), looks := true }, kinds := [], alts := [], laidByText := true, laidKinds := [.data, .data], laidTests := true, laidLooks := .later }
def MarkSkipsUptoCardSaid : Prop := Claim7.holds Tryd.pinned (.plain (OpenSpec.upto markSkipsSpec)) markSkipsUptoCard

/-- THE SECOND FORM's CARD OF 'cyanotypelaw16.MarkOrders'. -/
def markOrdersUptoCard : Claim7 := { stood := { row := markOrdersUptoRow, standIns := [], harness := (true, "cbd6621fbeb90fb92ce6dc3d47f9c43ffa01a74d926fa69964d4ab9af210d707"), looks := true }, kinds := [], alts := [], laidByText := true, laidKinds := [.data, .data], laidTests := true, laidLooks := .later }
def MarkOrdersUptoCardSaid : Prop := Claim7.holds Tryd.pinned (.plain (OpenSpec.upto markOrdersSpec)) markOrdersUptoCard

/-- THE SECOND FORM's CARD OF 'cyanotypelaw16.MarkPuts'. -/
def markPutsUptoCard : Claim7 := { stood := { row := markPutsUptoRow, standIns := [], harness := (true, "cbd6621fbeb90fb92ce6dc3d47f9c43ffa01a74d926fa69964d4ab9af210d707"), looks := true }, kinds := [], alts := [], laidByText := true, laidKinds := [.data, .data], laidTests := true, laidLooks := .later }
def MarkPutsUptoCardSaid : Prop := Claim7.holds Tryd.pinned (.plain (OpenSpec.upto markPutsSpec)) markPutsUptoCard
end Rows
end Go.Proofs.YtnlleopcokhkoaaDoor
