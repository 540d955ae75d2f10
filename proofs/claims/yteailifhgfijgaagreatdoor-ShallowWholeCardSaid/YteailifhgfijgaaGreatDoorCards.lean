/-
  DERIVED. GIVEN WITH THE SEED: THE CARDS: each row of YteailifhgfijgaaGreatDoorRows.lean that lists a variable, with what it lists TIED to the program's text (the seventh form; the later family's looks); each row that meets fmt, with fmt's text TOLD by the authors' own Lean function (tested against real Go, not proved from fmt's source: count such statements apart). THE CARD IS WHAT COUNTS. Prove the row's statement (the work); the ties are given (YteailifhgfijgaaGreatDoorTie.lean); close each card by the builder's one call (the guide's Derived/Test/ToyasCard.lean, 'card_holds'). Laid BY PROGRAM, IN A SANDBOX (cutbox-door.mjs). By AI agents, Wed Nov 11 2026. No macro, syntax, notation, axiom, sorry.
-/
import Derived.Test.YteailifhgfijgaaGreatDoorRows
import GoSem.ClaimSeven
namespace Go.Proofs.YteailifhgfijgaaGreatDoor
namespace Rows

/-- THE TIED CARD OF 'graftagelaw47.ShallowDepths'. -/
def shallowDepthsCard : Claim7 := { stood := { row := shallowDepthsRow, standIns := [], harness := (true, "07c7dc9d805979d1552564cccc6a4f18f5b42aa446f0e01130177840715cdcd5"), looks := true }, kinds := [], alts := [], laidByText := true, laidKinds := [.data, .data, .data, .data, .sentinel, .sentinel, .pinned], laidTests := true, laidLooks := .later }
def ShallowDepthsCardSaid : Prop := Claim7.holds Tryz.pinned (.plain (OpenSpec.ofChange shallowDepthsSpec)) shallowDepthsCard

/-- THE TIED CARD OF 'graftagelaw47.ShallowReaches'. -/
def shallowReachesCard : Claim7 := { stood := { row := shallowReachesRow, standIns := [], harness := (true, "07c7dc9d805979d1552564cccc6a4f18f5b42aa446f0e01130177840715cdcd5"), looks := true }, kinds := [], alts := [], laidByText := true, laidKinds := [.data, .data, .data, .data, .sentinel, .sentinel, .pinned], laidTests := true, laidLooks := .later }
def ShallowReachesCardSaid : Prop := Claim7.holds Tryz.pinned (.plain (OpenSpec.ofChange shallowReachesSpec)) shallowReachesCard

/-- THE TIED CARD OF 'graftagelaw47.ShallowLinks'. -/
def shallowLinksCard : Claim7 := { stood := { row := shallowLinksRow, standIns := [], harness := (true, "07c7dc9d805979d1552564cccc6a4f18f5b42aa446f0e01130177840715cdcd5"), looks := true }, kinds := [], alts := [], laidByText := true, laidKinds := [.data, .data, .data, .data, .sentinel, .sentinel, .pinned], laidTests := true, laidLooks := .later }
def ShallowLinksCardSaid : Prop := Claim7.holds Tryz.pinned (.plain (OpenSpec.ofChange shallowLinksSpec)) shallowLinksCard

/-- THE TIED CARD OF 'graftagelaw47.ShallowWhole'. -/
def shallowWholeCard : Claim7 := { stood := { row := shallowWholeRow, standIns := [], harness := (true, "07c7dc9d805979d1552564cccc6a4f18f5b42aa446f0e01130177840715cdcd5"), looks := true }, kinds := [], alts := [], laidByText := true, laidKinds := [.data, .data, .data, .data, .sentinel, .sentinel, .pinned], laidTests := true, laidLooks := .later }
def ShallowWholeCardSaid : Prop := Claim7.holds Tryz.pinned (.plain (OpenSpec.ofChange shallowWholeSpec)) shallowWholeCard

/-- THE SECOND FORM's CARD OF 'graftagelaw47.ShallowDepths'. -/
def shallowDepthsUptoCard : Claim7 := { stood := { row := shallowDepthsUptoRow, standIns := [], harness := (true, "07c7dc9d805979d1552564cccc6a4f18f5b42aa446f0e01130177840715cdcd5"), looks := true }, kinds := [], alts := [], laidByText := true, laidKinds := [.data, .data, .data, .data, .sentinel, .sentinel, .pinned], laidTests := true, laidLooks := .later }
def ShallowDepthsUptoCardSaid : Prop := Claim7.holds Tryz.pinned (.plain (OpenSpec.upto shallowDepthsSpec)) shallowDepthsUptoCard

/-- THE SECOND FORM's CARD OF 'graftagelaw47.ShallowReaches'. -/
def shallowReachesUptoCard : Claim7 := { stood := { row := shallowReachesUptoRow, standIns := [], harness := (true, "07c7dc9d805979d1552564cccc6a4f18f5b42aa446f0e01130177840715cdcd5"), looks := true }, kinds := [], alts := [], laidByText := true, laidKinds := [.data, .data, .data, .data, .sentinel, .sentinel, .pinned], laidTests := true, laidLooks := .later }
def ShallowReachesUptoCardSaid : Prop := Claim7.holds Tryz.pinned (.plain (OpenSpec.upto shallowReachesSpec)) shallowReachesUptoCard

/-- THE SECOND FORM's CARD OF 'graftagelaw47.ShallowLinks'. -/
def shallowLinksUptoCard : Claim7 := { stood := { row := shallowLinksUptoRow, standIns := [], harness := (true, "07c7dc9d805979d1552564cccc6a4f18f5b42aa446f0e01130177840715cdcd5"), looks := true }, kinds := [], alts := [], laidByText := true, laidKinds := [.data, .data, .data, .data, .sentinel, .sentinel, .pinned], laidTests := true, laidLooks := .later }
def ShallowLinksUptoCardSaid : Prop := Claim7.holds Tryz.pinned (.plain (OpenSpec.upto shallowLinksSpec)) shallowLinksUptoCard

/-- THE SECOND FORM's CARD OF 'graftagelaw47.ShallowWhole'. -/
def shallowWholeUptoCard : Claim7 := { stood := { row := shallowWholeUptoRow, standIns := [], harness := (true, "07c7dc9d805979d1552564cccc6a4f18f5b42aa446f0e01130177840715cdcd5"), looks := true }, kinds := [], alts := [], laidByText := true, laidKinds := [.data, .data, .data, .data, .sentinel, .sentinel, .pinned], laidTests := true, laidLooks := .later }
def ShallowWholeUptoCardSaid : Prop := Claim7.holds Tryz.pinned (.plain (OpenSpec.upto shallowWholeSpec)) shallowWholeUptoCard
end Rows
end Go.Proofs.YteailifhgfijgaaGreatDoor
