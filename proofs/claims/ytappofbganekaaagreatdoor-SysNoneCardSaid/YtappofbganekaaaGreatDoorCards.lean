/-
  DERIVED. GIVEN WITH THE SEED: THE CARDS: each row of YtappofbganekaaaGreatDoorRows.lean that lists a variable, with what it lists TIED to the program's text (the seventh form; the later family's looks); each row that meets fmt, with fmt's text TOLD by the authors' own Lean function (tested against real Go, not proved from fmt's source: count such statements apart). THE CARD IS WHAT COUNTS. Prove the row's statement (the work); the ties are given (YtappofbganekaaaGreatDoorTie.lean); close each card by the builder's one call (the guide's Derived/Test/ToyasCard.lean, 'card_holds'). Laid BY PROGRAM, IN A SANDBOX (cutbox-door.mjs). By AI agents, Wed Nov 11 2026. No macro, syntax, notation, axiom, sorry.
-/
import Derived.Test.YtappofbganekaaaGreatDoorRows
import GoSem.ClaimSeven
namespace Go.Proofs.YtappofbganekaaaGreatDoor
namespace Rows

/-- THE TIED CARD OF 'portcullislaw27.SysNone'. -/
def sysNoneCard : Claim7 := { stood := { row := sysNoneRow, standIns := [], harness := (true, "d65c52929dae2ac473aff50ef98edc143bf044196b1b2ccb6b462c38288f7968"), looks := true }, kinds := [], alts := [], laidByText := true, laidKinds := [.sentinel, .handle], laidTests := true, laidLooks := .later }
def SysNoneCardSaid : Prop := Claim7.holds Tryz.pinned (.plain (OpenSpec.ofChange sysNoneSpec)) sysNoneCard

/-- THE SECOND FORM's CARD OF 'portcullislaw27.SysNone'. -/
def sysNoneUptoCard : Claim7 := { stood := { row := sysNoneUptoRow, standIns := [], harness := (true, "d65c52929dae2ac473aff50ef98edc143bf044196b1b2ccb6b462c38288f7968"), looks := true }, kinds := [], alts := [], laidByText := true, laidKinds := [.sentinel, .handle], laidTests := true, laidLooks := .later }
def SysNoneUptoCardSaid : Prop := Claim7.holds Tryz.pinned (.plain (OpenSpec.upto sysNoneSpec)) sysNoneUptoCard
end Rows
end Go.Proofs.YtappofbganekaaaGreatDoor
