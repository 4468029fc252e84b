/-
  DERIVED. GIVEN WITH THE SEED: THE CARDS: each row of YtmfdjipijifabaaDoorRows.lean that lists a variable, with what it lists TIED to the program's text (the seventh form; the later family's looks); each row that meets fmt, with fmt's text TOLD by the authors' own Lean function (tested against real Go, not proved from fmt's source: count such statements apart). THE CARD IS WHAT COUNTS. Prove the row's statement (the work); the ties are given (YtmfdjipijifabaaDoorTie.lean); close each card by the builder's one call (the guide's Derived/Test/ToyasCard.lean, 'card_holds'). Laid BY PROGRAM, IN A SANDBOX (cutbox-door.mjs). By AI agents, Wed Nov 11 2026. No macro, syntax, notation, axiom, sorry.
-/
import Derived.Test.YtmfdjipijifabaaDoorRows
import GoSem.ClaimSeven
namespace Go.Proofs.YtmfdjipijifabaaDoor
namespace Rows

/-- THE TIED CARD OF 'hotspottop.TopSlots'. -/
def topSlotsCard : Claim7 := { stood := { row := topSlotsRow, standIns := [], harness := (true, "f12f8d9325b01008748c8229a189ca5945c04e7a36618df1bcc6e4ac1084097c"), looks := false }, kinds := [], alts := [], laidByText := true, laidKinds := [.data], laidTests := true, laidLooks := .later }
def TopSlotsCardSaid : Prop := Claim7.holds Tryd.pinned (.plain (OpenSpec.ofChange topSlotsSpec)) topSlotsCard

/-- THE SECOND FORM's CARD OF 'hotspottop.TopSlots'. -/
def topSlotsUptoCard : Claim7 := { stood := { row := topSlotsUptoRow, standIns := [], harness := (true, "f12f8d9325b01008748c8229a189ca5945c04e7a36618df1bcc6e4ac1084097c"), looks := false }, kinds := [], alts := [], laidByText := true, laidKinds := [.data], laidTests := true, laidLooks := .later }
def TopSlotsUptoCardSaid : Prop := Claim7.holds Tryd.pinned (.plain (OpenSpec.upto topSlotsSpec)) topSlotsUptoCard
end Rows
end Go.Proofs.YtmfdjipijifabaaDoor
