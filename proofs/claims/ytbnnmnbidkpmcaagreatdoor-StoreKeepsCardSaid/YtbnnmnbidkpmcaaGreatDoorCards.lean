/-
  DERIVED. GIVEN WITH THE SEED: THE CARDS: each row of YtbnnmnbidkpmcaaGreatDoorRows.lean that lists a variable, with what it lists TIED to the program's text (the seventh form; the later family's looks); each row that meets fmt, with fmt's text TOLD by the authors' own Lean function (tested against real Go, not proved from fmt's source: count such statements apart). THE CARD IS WHAT COUNTS. Prove the row's statement (the work); the ties are given (YtbnnmnbidkpmcaaGreatDoorTie.lean); close each card by the builder's one call (the guide's Derived/Test/ToyasCard.lean, 'card_holds'). Laid BY PROGRAM, IN A SANDBOX (cutbox-door.mjs). By AI agents, Wed Nov 11 2026. No macro, syntax, notation, axiom, sorry.
-/
import Derived.Test.YtbnnmnbidkpmcaaGreatDoorRows
import GoSem.ClaimSeven
namespace Go.Proofs.YtbnnmnbidkpmcaaGreatDoor
namespace Rows

/-- THE TIED CARD OF 'graftagelaw17.StoreRights'. -/
def storeRightsCard : Claim7 := { stood := { row := storeRightsRow, standIns := [], harness := (true, "9e54dca1ea43922e5e6cb49179b4ac4e8da0e10883ad77a8c69e33fb19bdce23"), looks := true }, kinds := [], alts := [], laidByText := true, laidKinds := [.data, .data, .data, .data, .sentinel, .sentinel, .data, .pinned], laidTests := true, laidLooks := .later }
def StoreRightsCardSaid : Prop := Claim7.holds Tryz.pinned (.plain (OpenSpec.ofChange storeRightsSpec)) storeRightsCard

/-- THE TIED CARD OF 'graftagelaw17.StoreKeeps'. -/
def storeKeepsCard : Claim7 := { stood := { row := storeKeepsRow, standIns := [], harness := (true, "9e54dca1ea43922e5e6cb49179b4ac4e8da0e10883ad77a8c69e33fb19bdce23"), looks := true }, kinds := [], alts := [], laidByText := true, laidKinds := [.data, .data, .data, .data, .sentinel, .sentinel, .data, .pinned], laidTests := true, laidLooks := .later }
def StoreKeepsCardSaid : Prop := Claim7.holds Tryz.pinned (.plain (OpenSpec.ofChange storeKeepsSpec)) storeKeepsCard

/-- THE TIED CARD OF 'graftagelaw17.StoreAsks'. -/
def storeAsksCard : Claim7 := { stood := { row := storeAsksRow, standIns := [], harness := (true, "9e54dca1ea43922e5e6cb49179b4ac4e8da0e10883ad77a8c69e33fb19bdce23"), looks := true }, kinds := [], alts := [], laidByText := true, laidKinds := [.data, .data, .data, .data, .sentinel, .sentinel, .data, .pinned], laidTests := true, laidLooks := .later }
def StoreAsksCardSaid : Prop := Claim7.holds Tryz.pinned (.plain (OpenSpec.ofChange storeAsksSpec)) storeAsksCard

/-- THE TIED CARD OF 'graftagelaw17.StoreReaches'. -/
def storeReachesCard : Claim7 := { stood := { row := storeReachesRow, standIns := [], harness := (true, "9e54dca1ea43922e5e6cb49179b4ac4e8da0e10883ad77a8c69e33fb19bdce23"), looks := true }, kinds := [], alts := [], laidByText := true, laidKinds := [.data, .data, .data, .data, .sentinel, .sentinel, .data, .pinned], laidTests := true, laidLooks := .later }
def StoreReachesCardSaid : Prop := Claim7.holds Tryz.pinned (.plain (OpenSpec.ofChange storeReachesSpec)) storeReachesCard

/-- THE TIED CARD OF 'graftagelaw17.StoreUnions'. -/
def storeUnionsCard : Claim7 := { stood := { row := storeUnionsRow, standIns := [], harness := (true, "9e54dca1ea43922e5e6cb49179b4ac4e8da0e10883ad77a8c69e33fb19bdce23"), looks := true }, kinds := [], alts := [], laidByText := true, laidKinds := [.data, .data, .data, .data, .sentinel, .sentinel, .data, .pinned], laidTests := true, laidLooks := .later }
def StoreUnionsCardSaid : Prop := Claim7.holds Tryz.pinned (.plain (OpenSpec.ofChange storeUnionsSpec)) storeUnionsCard

/-- THE SECOND FORM's CARD OF 'graftagelaw17.StoreRights'. -/
def storeRightsUptoCard : Claim7 := { stood := { row := storeRightsUptoRow, standIns := [], harness := (true, "9e54dca1ea43922e5e6cb49179b4ac4e8da0e10883ad77a8c69e33fb19bdce23"), looks := true }, kinds := [], alts := [], laidByText := true, laidKinds := [.data, .data, .data, .data, .sentinel, .sentinel, .data, .pinned], laidTests := true, laidLooks := .later }
def StoreRightsUptoCardSaid : Prop := Claim7.holds Tryz.pinned (.plain (OpenSpec.upto storeRightsSpec)) storeRightsUptoCard

/-- THE SECOND FORM's CARD OF 'graftagelaw17.StoreKeeps'. -/
def storeKeepsUptoCard : Claim7 := { stood := { row := storeKeepsUptoRow, standIns := [], harness := (true, "9e54dca1ea43922e5e6cb49179b4ac4e8da0e10883ad77a8c69e33fb19bdce23"), looks := true }, kinds := [], alts := [], laidByText := true, laidKinds := [.data, .data, .data, .data, .sentinel, .sentinel, .data, .pinned], laidTests := true, laidLooks := .later }
def StoreKeepsUptoCardSaid : Prop := Claim7.holds Tryz.pinned (.plain (OpenSpec.upto storeKeepsSpec)) storeKeepsUptoCard

/-- THE SECOND FORM's CARD OF 'graftagelaw17.StoreAsks'. -/
def storeAsksUptoCard : Claim7 := { stood := { row := storeAsksUptoRow, standIns := [], harness := (true, "9e54dca1ea43922e5e6cb49179b4ac4e8da0e10883ad77a8c69e33fb19bdce23"), looks := true }, kinds := [], alts := [], laidByText := true, laidKinds := [.data, .data, .data, .data, .sentinel, .sentinel, .data, .pinned], laidTests := true, laidLooks := .later }
def StoreAsksUptoCardSaid : Prop := Claim7.holds Tryz.pinned (.plain (OpenSpec.upto storeAsksSpec)) storeAsksUptoCard

/-- THE SECOND FORM's CARD OF 'graftagelaw17.StoreReaches'. -/
def storeReachesUptoCard : Claim7 := { stood := { row := storeReachesUptoRow, standIns := [], harness := (true, "9e54dca1ea43922e5e6cb49179b4ac4e8da0e10883ad77a8c69e33fb19bdce23"), looks := true }, kinds := [], alts := [], laidByText := true, laidKinds := [.data, .data, .data, .data, .sentinel, .sentinel, .data, .pinned], laidTests := true, laidLooks := .later }
def StoreReachesUptoCardSaid : Prop := Claim7.holds Tryz.pinned (.plain (OpenSpec.upto storeReachesSpec)) storeReachesUptoCard

/-- THE SECOND FORM's CARD OF 'graftagelaw17.StoreUnions'. -/
def storeUnionsUptoCard : Claim7 := { stood := { row := storeUnionsUptoRow, standIns := [], harness := (true, "9e54dca1ea43922e5e6cb49179b4ac4e8da0e10883ad77a8c69e33fb19bdce23"), looks := true }, kinds := [], alts := [], laidByText := true, laidKinds := [.data, .data, .data, .data, .sentinel, .sentinel, .data, .pinned], laidTests := true, laidLooks := .later }
def StoreUnionsUptoCardSaid : Prop := Claim7.holds Tryz.pinned (.plain (OpenSpec.upto storeUnionsSpec)) storeUnionsUptoCard
end Rows
end Go.Proofs.YtbnnmnbidkpmcaaGreatDoor
