/-
  DERIVED. GIVEN WITH THE SEED: THE CARDS: each row of YtnbpmlbhigchnaaDoorRows.lean that lists a variable, with what it lists TIED to the program's text (the seventh form; the later family's looks); each row that meets fmt, with fmt's text TOLD by the authors' own Lean function (tested against real Go, not proved from fmt's source: count such statements apart). THE CARD IS WHAT COUNTS. Prove the row's statement (the work); the ties are given (YtnbpmlbhigchnaaDoorTie.lean); close each card by the builder's one call (the guide's Derived/Test/ToyasCard.lean, 'card_holds'). Laid BY PROGRAM, IN A SANDBOX (cutbox-door.mjs). By AI agents, Wed Nov 11 2026. No macro, syntax, notation, axiom, sorry.
-/
import Derived.Test.YtnbpmlbhigchnaaDoorRows
import GoSem.ClaimSeven
namespace Go.Proofs.YtnbpmlbhigchnaaDoor
namespace Rows

/-- THE TIED CARD OF 'tillerlaw06.RingPoints'. -/
def ringPointsCard : Claim7 := { stood := { row := ringPointsRow, standIns := [], harness := (true, "bbd1159b691882eede43b0d6b5d62905dc3b7d58c10d4a433648afefafd08bfb"), looks := false }, kinds := [], alts := [], laidByText := true, laidKinds := [.data, .data, .data], laidTests := true, laidLooks := .later }
def RingPointsCardSaid : Prop := Claim7.holds Tryd.pinned (.plain (OpenSpec.ofChange ringPointsSpec)) ringPointsCard

/-- THE TIED CARD OF 'tillerlaw06.RingMoves'. -/
def ringMovesCard : Claim7 := { stood := { row := ringMovesRow, standIns := [], harness := (true, "bbd1159b691882eede43b0d6b5d62905dc3b7d58c10d4a433648afefafd08bfb"), looks := false }, kinds := [], alts := [], laidByText := true, laidKinds := [.data, .data, .data], laidTests := true, laidLooks := .later }
def RingMovesCardSaid : Prop := Claim7.holds Tryd.pinned (.plain (OpenSpec.ofChange ringMovesSpec)) ringMovesCard

/-- THE TIED CARD OF 'tillerlaw06.RingExact'. -/
def ringExactCard : Claim7 := { stood := { row := ringExactRow, standIns := [], harness := (true, "bbd1159b691882eede43b0d6b5d62905dc3b7d58c10d4a433648afefafd08bfb"), looks := false }, kinds := [], alts := [], laidByText := true, laidKinds := [.data, .data, .data], laidTests := true, laidLooks := .later }
def RingExactCardSaid : Prop := Claim7.holds Tryd.pinned (.plain (OpenSpec.ofChange ringExactSpec)) ringExactCard

/-- THE TIED CARD OF 'tillerlaw06.RingShards'. -/
def ringShardsCard : Claim7 := { stood := { row := ringShardsRow, standIns := [], harness := (true, "bbd1159b691882eede43b0d6b5d62905dc3b7d58c10d4a433648afefafd08bfb"), looks := false }, kinds := [], alts := [], laidByText := true, laidKinds := [.data, .data, .data], laidTests := true, laidLooks := .later }
def RingShardsCardSaid : Prop := Claim7.holds Tryd.pinned (.plain (OpenSpec.ofChange ringShardsSpec)) ringShardsCard

/-- THE TIED CARD OF 'tillerlaw06.RingParts'. -/
def ringPartsCard : Claim7 := { stood := { row := ringPartsRow, standIns := [], harness := (true, "bbd1159b691882eede43b0d6b5d62905dc3b7d58c10d4a433648afefafd08bfb"), looks := false }, kinds := [], alts := [], laidByText := true, laidKinds := [.data, .data, .data], laidTests := true, laidLooks := .later }
def RingPartsCardSaid : Prop := Claim7.holds Tryd.pinned (.plain (OpenSpec.ofChange ringPartsSpec)) ringPartsCard

/-- THE TIED CARD OF 'tillerlaw06.RingNext'. -/
def ringNextCard : Claim7 := { stood := { row := ringNextRow, standIns := [], harness := (true, "bbd1159b691882eede43b0d6b5d62905dc3b7d58c10d4a433648afefafd08bfb"), looks := false }, kinds := [], alts := [], laidByText := true, laidKinds := [.data, .data, .data], laidTests := true, laidLooks := .later }
def RingNextCardSaid : Prop := Claim7.holds Tryd.pinned (.plain (OpenSpec.ofChange ringNextSpec)) ringNextCard

/-- THE TIED CARD OF 'tillerlaw06.RingGiven'. -/
def ringGivenCard : Claim7 := { stood := { row := ringGivenRow, standIns := [], harness := (true, "bbd1159b691882eede43b0d6b5d62905dc3b7d58c10d4a433648afefafd08bfb"), looks := false }, kinds := [], alts := [], laidByText := true, laidKinds := [.data, .data, .data], laidTests := true, laidLooks := .later }
def RingGivenCardSaid : Prop := Claim7.holds Tryd.pinned (.plain (OpenSpec.ofChange ringGivenSpec)) ringGivenCard

/-- THE TIED CARD OF 'tillerlaw06.RingViews'. -/
def ringViewsCard : Claim7 := { stood := { row := ringViewsRow, standIns := [], harness := (true, "bbd1159b691882eede43b0d6b5d62905dc3b7d58c10d4a433648afefafd08bfb"), looks := false }, kinds := [], alts := [], laidByText := true, laidKinds := [.data, .data, .data], laidTests := true, laidLooks := .later }
def RingViewsCardSaid : Prop := Claim7.holds Tryd.pinned (.plain (OpenSpec.ofChange ringViewsSpec)) ringViewsCard

/-- THE SECOND FORM's CARD OF 'tillerlaw06.RingPoints'. -/
def ringPointsUptoCard : Claim7 := { stood := { row := ringPointsUptoRow, standIns := [], harness := (true, "bbd1159b691882eede43b0d6b5d62905dc3b7d58c10d4a433648afefafd08bfb"), looks := false }, kinds := [], alts := [], laidByText := true, laidKinds := [.data, .data, .data], laidTests := true, laidLooks := .later }
def RingPointsUptoCardSaid : Prop := Claim7.holds Tryd.pinned (.plain (OpenSpec.upto ringPointsSpec)) ringPointsUptoCard

/-- THE SECOND FORM's CARD OF 'tillerlaw06.RingMoves'. -/
def ringMovesUptoCard : Claim7 := { stood := { row := ringMovesUptoRow, standIns := [], harness := (true, "bbd1159b691882eede43b0d6b5d62905dc3b7d58c10d4a433648afefafd08bfb"), looks := false }, kinds := [], alts := [], laidByText := true, laidKinds := [.data, .data, .data], laidTests := true, laidLooks := .later }
def RingMovesUptoCardSaid : Prop := Claim7.holds Tryd.pinned (.plain (OpenSpec.upto ringMovesSpec)) ringMovesUptoCard

/-- THE SECOND FORM's CARD OF 'tillerlaw06.RingExact'. -/
def ringExactUptoCard : Claim7 := { stood := { row := ringExactUptoRow, standIns := [], harness := (true, "bbd1159b691882eede43b0d6b5d62905dc3b7d58c10d4a433648afefafd08bfb"), looks := false }, kinds := [], alts := [], laidByText := true, laidKinds := [.data, .data, .data], laidTests := true, laidLooks := .later }
def RingExactUptoCardSaid : Prop := Claim7.holds Tryd.pinned (.plain (OpenSpec.upto ringExactSpec)) ringExactUptoCard

/-- THE SECOND FORM's CARD OF 'tillerlaw06.RingShards'. -/
def ringShardsUptoCard : Claim7 := { stood := { row := ringShardsUptoRow, standIns := [], harness := (true, "bbd1159b691882eede43b0d6b5d62905dc3b7d58c10d4a433648afefafd08bfb"), looks := false }, kinds := [], alts := [], laidByText := true, laidKinds := [.data, .data, .data], laidTests := true, laidLooks := .later }
def RingShardsUptoCardSaid : Prop := Claim7.holds Tryd.pinned (.plain (OpenSpec.upto ringShardsSpec)) ringShardsUptoCard

/-- THE SECOND FORM's CARD OF 'tillerlaw06.RingParts'. -/
def ringPartsUptoCard : Claim7 := { stood := { row := ringPartsUptoRow, standIns := [], harness := (true, "bbd1159b691882eede43b0d6b5d62905dc3b7d58c10d4a433648afefafd08bfb"), looks := false }, kinds := [], alts := [], laidByText := true, laidKinds := [.data, .data, .data], laidTests := true, laidLooks := .later }
def RingPartsUptoCardSaid : Prop := Claim7.holds Tryd.pinned (.plain (OpenSpec.upto ringPartsSpec)) ringPartsUptoCard

/-- THE SECOND FORM's CARD OF 'tillerlaw06.RingNext'. -/
def ringNextUptoCard : Claim7 := { stood := { row := ringNextUptoRow, standIns := [], harness := (true, "bbd1159b691882eede43b0d6b5d62905dc3b7d58c10d4a433648afefafd08bfb"), looks := false }, kinds := [], alts := [], laidByText := true, laidKinds := [.data, .data, .data], laidTests := true, laidLooks := .later }
def RingNextUptoCardSaid : Prop := Claim7.holds Tryd.pinned (.plain (OpenSpec.upto ringNextSpec)) ringNextUptoCard

/-- THE SECOND FORM's CARD OF 'tillerlaw06.RingGiven'. -/
def ringGivenUptoCard : Claim7 := { stood := { row := ringGivenUptoRow, standIns := [], harness := (true, "bbd1159b691882eede43b0d6b5d62905dc3b7d58c10d4a433648afefafd08bfb"), looks := false }, kinds := [], alts := [], laidByText := true, laidKinds := [.data, .data, .data], laidTests := true, laidLooks := .later }
def RingGivenUptoCardSaid : Prop := Claim7.holds Tryd.pinned (.plain (OpenSpec.upto ringGivenSpec)) ringGivenUptoCard

/-- THE SECOND FORM's CARD OF 'tillerlaw06.RingViews'. -/
def ringViewsUptoCard : Claim7 := { stood := { row := ringViewsUptoRow, standIns := [], harness := (true, "bbd1159b691882eede43b0d6b5d62905dc3b7d58c10d4a433648afefafd08bfb"), looks := false }, kinds := [], alts := [], laidByText := true, laidKinds := [.data, .data, .data], laidTests := true, laidLooks := .later }
def RingViewsUptoCardSaid : Prop := Claim7.holds Tryd.pinned (.plain (OpenSpec.upto ringViewsSpec)) ringViewsUptoCard
end Rows
end Go.Proofs.YtnbpmlbhigchnaaDoor
