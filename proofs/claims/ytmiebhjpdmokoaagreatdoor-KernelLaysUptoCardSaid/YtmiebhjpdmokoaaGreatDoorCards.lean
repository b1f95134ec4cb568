/-
  DERIVED. GIVEN WITH THE SEED: THE CARDS: each row of YtmiebhjpdmokoaaGreatDoorRows.lean that lists a variable, with what it lists TIED to the program's text (the seventh form; the later family's looks); each row that meets fmt, with fmt's text TOLD by the authors' own Lean function (tested against real Go, not proved from fmt's source: count such statements apart). THE CARD IS WHAT COUNTS. Prove the row's statement (the work); the ties are given (YtmiebhjpdmokoaaGreatDoorTie.lean); close each card by the builder's one call (the guide's Derived/Test/ToyasCard.lean, 'card_holds'). Laid BY PROGRAM, IN A SANDBOX (cutbox-door.mjs). By AI agents, Wed Nov 11 2026. No macro, syntax, notation, axiom, sorry.
-/
import Derived.Test.YtmiebhjpdmokoaaGreatDoorRows
import GoSem.ClaimSeven
namespace Go.Proofs.YtmiebhjpdmokoaaGreatDoor
namespace Rows

/-- THE TIED CARD OF 'portcullislaw28.KernelLays'. -/
def kernelLaysCard : Claim7 := { stood := { row := kernelLaysRow, standIns := [], harness := (true, "042d3a75ee16bc0ecc8c6163d4f9121227be5cdf37becf6cb9bf94cfc52709b6"), looks := true }, kinds := [], alts := [], laidByText := true, laidKinds := [.sentinel, .handle], laidTests := true, laidLooks := .later }
def KernelLaysCardSaid : Prop := Claim7.holds Tryz.pinned (.plain (OpenSpec.ofChange kernelLaysSpec)) kernelLaysCard

/-- THE TIED CARD OF 'portcullislaw28.KernelNone'. -/
def kernelNoneCard : Claim7 := { stood := { row := kernelNoneRow, standIns := [], harness := (true, "042d3a75ee16bc0ecc8c6163d4f9121227be5cdf37becf6cb9bf94cfc52709b6"), looks := true }, kinds := [], alts := [], laidByText := true, laidKinds := [.sentinel, .handle], laidTests := true, laidLooks := .later }
def KernelNoneCardSaid : Prop := Claim7.holds Tryz.pinned (.plain (OpenSpec.ofChange kernelNoneSpec)) kernelNoneCard

/-- THE TIED CARD OF 'portcullislaw28.KernelDraws'. -/
def kernelDrawsCard : Claim7 := { stood := { row := kernelDrawsRow, standIns := [], harness := (true, "042d3a75ee16bc0ecc8c6163d4f9121227be5cdf37becf6cb9bf94cfc52709b6"), looks := true }, kinds := [], alts := [], laidByText := true, laidKinds := [.sentinel, .handle], laidTests := true, laidLooks := .later }
def KernelDrawsCardSaid : Prop := Claim7.holds Tryz.pinned (.plain (OpenSpec.ofChange kernelDrawsSpec)) kernelDrawsCard

/-- THE TIED CARD OF 'portcullistop.TopCounts'. -/
def topCountsCard : Claim7 := { stood := { row := topCountsRow, standIns := [], harness := (true, "042d3a75ee16bc0ecc8c6163d4f9121227be5cdf37becf6cb9bf94cfc52709b6"), looks := true }, kinds := [], alts := [], laidByText := true, laidKinds := [.sentinel, .handle], laidTests := true, laidLooks := .later }
def TopCountsCardSaid : Prop := Claim7.holds Tryz.pinned (.plain (OpenSpec.ofChange topCountsSpec)) topCountsCard

/-- THE SECOND FORM's CARD OF 'portcullislaw28.KernelLays'. -/
def kernelLaysUptoCard : Claim7 := { stood := { row := kernelLaysUptoRow, standIns := [], harness := (true, "042d3a75ee16bc0ecc8c6163d4f9121227be5cdf37becf6cb9bf94cfc52709b6"), looks := true }, kinds := [], alts := [], laidByText := true, laidKinds := [.sentinel, .handle], laidTests := true, laidLooks := .later }
def KernelLaysUptoCardSaid : Prop := Claim7.holds Tryz.pinned (.plain (OpenSpec.upto kernelLaysSpec)) kernelLaysUptoCard

/-- THE SECOND FORM's CARD OF 'portcullislaw28.KernelNone'. -/
def kernelNoneUptoCard : Claim7 := { stood := { row := kernelNoneUptoRow, standIns := [], harness := (true, "042d3a75ee16bc0ecc8c6163d4f9121227be5cdf37becf6cb9bf94cfc52709b6"), looks := true }, kinds := [], alts := [], laidByText := true, laidKinds := [.sentinel, .handle], laidTests := true, laidLooks := .later }
def KernelNoneUptoCardSaid : Prop := Claim7.holds Tryz.pinned (.plain (OpenSpec.upto kernelNoneSpec)) kernelNoneUptoCard

/-- THE SECOND FORM's CARD OF 'portcullislaw28.KernelDraws'. -/
def kernelDrawsUptoCard : Claim7 := { stood := { row := kernelDrawsUptoRow, standIns := [], harness := (true, "042d3a75ee16bc0ecc8c6163d4f9121227be5cdf37becf6cb9bf94cfc52709b6"), looks := true }, kinds := [], alts := [], laidByText := true, laidKinds := [.sentinel, .handle], laidTests := true, laidLooks := .later }
def KernelDrawsUptoCardSaid : Prop := Claim7.holds Tryz.pinned (.plain (OpenSpec.upto kernelDrawsSpec)) kernelDrawsUptoCard

/-- THE SECOND FORM's CARD OF 'portcullistop.TopCounts'. -/
def topCountsUptoCard : Claim7 := { stood := { row := topCountsUptoRow, standIns := [], harness := (true, "042d3a75ee16bc0ecc8c6163d4f9121227be5cdf37becf6cb9bf94cfc52709b6"), looks := true }, kinds := [], alts := [], laidByText := true, laidKinds := [.sentinel, .handle], laidTests := true, laidLooks := .later }
def TopCountsUptoCardSaid : Prop := Claim7.holds Tryz.pinned (.plain (OpenSpec.upto topCountsSpec)) topCountsUptoCard
end Rows
end Go.Proofs.YtmiebhjpdmokoaaGreatDoor
