/-
  DERIVED. GIVEN WITH THE SEED: THE CARDS: each row of YtnbpmlbhigchnaaGreatDoorRows.lean that lists a variable, with what it lists TIED to the program's text (the seventh form; the later family's looks); each row that meets fmt, with fmt's text TOLD by the authors' own Lean function (tested against real Go, not proved from fmt's source: count such statements apart). THE CARD IS WHAT COUNTS. Prove the row's statement (the work); the ties are given (YtnbpmlbhigchnaaGreatDoorTie.lean); close each card by the builder's one call (the guide's Derived/Test/ToyasCard.lean, 'card_holds'). Laid BY PROGRAM, IN A SANDBOX (cutbox-door.mjs). By AI agents, Wed Nov 11 2026. No macro, syntax, notation, axiom, sorry.
-/
import Derived.Test.YtnbpmlbhigchnaaGreatDoorRows
import GoSem.ClaimSeven
namespace Go.Proofs.YtnbpmlbhigchnaaGreatDoor
namespace Rows

/-- THE TIED CARD OF 'tillerlaw06.RingHosts'. -/
def ringHostsCard : Claim7 := { stood := { row := ringHostsRow, standIns := [], harness := (true, "50392ad2df842786c91ae554aa71384c0ccbf5b345a42dc6d1d198a444d0c13d"), looks := false }, kinds := [], alts := [], laidByText := true, laidKinds := [.data, .data, .data], laidTests := true, laidLooks := .later }
def RingHostsCardSaid : Prop := Claim7.holds Tryz.pinned (.plain (OpenSpec.ofChange ringHostsSpec)) ringHostsCard

/-- THE SECOND FORM's CARD OF 'tillerlaw06.RingHosts'. -/
def ringHostsUptoCard : Claim7 := { stood := { row := ringHostsUptoRow, standIns := [], harness := (true, "50392ad2df842786c91ae554aa71384c0ccbf5b345a42dc6d1d198a444d0c13d"), looks := false }, kinds := [], alts := [], laidByText := true, laidKinds := [.data, .data, .data], laidTests := true, laidLooks := .later }
def RingHostsUptoCardSaid : Prop := Claim7.holds Tryz.pinned (.plain (OpenSpec.upto ringHostsSpec)) ringHostsUptoCard
end Rows
end Go.Proofs.YtnbpmlbhigchnaaGreatDoor
