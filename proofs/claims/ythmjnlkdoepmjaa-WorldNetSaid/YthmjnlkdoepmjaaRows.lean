/-
  No cell of these rows narrows 'for every input' (looked for: loops, veiled, ifaces, maps, wideKeys, modest, calm, conditions, laid).
  DERIVED. THE GIVEN ROWS OF THIS SEAT. 8 by the template 'for every input the law returns true; each argument reads behind the call as it read before'; 0 by the template 'total and deterministic' (their statements: YthmjnlkdoepmjaaTotals.lean).
  GIVEN WITH THE SEED: the statements are not yours to turn. If you find one false, say at which input.
  Laid BY PROGRAM, IN A SANDBOX (cutbox-rows.mjs): the forced cells as the released guide's own fill.sh prints them over the translation 4f967a4c75e75903… (all of the seat's roots in one cut). By AI agents, Wed Nov 11 2026. No macro, syntax, notation, axiom, sorry.
-/
import Derived.Test.YthmjnlkdoepmjaaChecked
import GoSem.Claim
import GoSem.ClaimJoined
import GoSem.ClaimMapViews
import Derived.JoinedTies
import Derived.KernelRfl
namespace Go.Proofs.Ythmjnlkdoepmjaa
/- THE CELL 'sum', in the pinned program and in every row, IS THE sha256 OF THE DUMP (.gsa) THAT YthmjnlkdoepmjaaProg.lean LOADS. Nothing in Lean hashes anything: it is a label: what it is worth is what the hold of that sum in a sandbox is worth. -/
noncomputable def Try.pinned : Pinned := { name := "ythmjnlkdoepmjaa", sum := "4f967a4c75e759039ec91bb47e701d6e1c1067befd3ca1940f8feee1f9325658", checked := Try.checked }
namespace Rows
def none {H : Type} : Left H := { results := [], args := [] }

/-- 'tillerlaw01.WorldKeeps': WHATEVER THE INPUT: true; the input reads as it did. -/
def worldKeepsSpec : ChangeSpec := { name := "worldKeeps", fn := fun _ => fun
  | [d1, d2, d3] => { results := [.lit (.bool true)], args := [d1, d2, d3] }
  | _ => none }
def worldKeepsRow : OpenClaim := { program := "ythmjnlkdoepmjaa", sum := "4f967a4c75e759039ec91bb47e701d6e1c1067befd3ca1940f8feee1f9325658", func := "tiller/tillerlaw01.WorldKeeps", spec := "worldKeeps", unfollowed := true, recurses := true, apart := false }
def WorldKeepsSaid : Prop := worldKeepsRow.holds Try.pinned (OpenSpec.ofChange worldKeepsSpec)

/-- ITS FALSE NEIGHBOUR: 'it returns false'. Refute it at one input. -/
def worldKeepsWrong : ChangeSpec := { name := "worldKeeps", fn := fun _ => fun
  | [d1, d2, d3] => { results := [.lit (.bool false)], args := [d1, d2, d3] }
  | _ => none }
def WorldKeepsWrongFalsely : Prop := worldKeepsRow.holds Try.pinned (OpenSpec.ofChange worldKeepsWrong)

/-- 'tillerlaw01.WorldFaults': WHATEVER THE INPUT: true; the input reads as it did. -/
def worldFaultsSpec : ChangeSpec := { name := "worldFaults", fn := fun _ => fun
  | [d] => { results := [.lit (.bool true)], args := [d] }
  | _ => none }
def worldFaultsRow : OpenClaim := { program := "ythmjnlkdoepmjaa", sum := "4f967a4c75e759039ec91bb47e701d6e1c1067befd3ca1940f8feee1f9325658", func := "tiller/tillerlaw01.WorldFaults", spec := "worldFaults", unfollowed := true, recurses := true, apart := false }
def WorldFaultsSaid : Prop := worldFaultsRow.holds Try.pinned (OpenSpec.ofChange worldFaultsSpec)

/-- ITS FALSE NEIGHBOUR: 'it returns false'. Refute it at one input. -/
def worldFaultsWrong : ChangeSpec := { name := "worldFaults", fn := fun _ => fun
  | [d] => { results := [.lit (.bool false)], args := [d] }
  | _ => none }
def WorldFaultsWrongFalsely : Prop := worldFaultsRow.holds Try.pinned (OpenSpec.ofChange worldFaultsWrong)

/-- 'tillerlaw01.WorldClock': WHATEVER THE INPUT: true; the input reads as it did. -/
def worldClockSpec : ChangeSpec := { name := "worldClock", fn := fun _ => fun
  | [d] => { results := [.lit (.bool true)], args := [d] }
  | _ => none }
def worldClockRow : OpenClaim := { program := "ythmjnlkdoepmjaa", sum := "4f967a4c75e759039ec91bb47e701d6e1c1067befd3ca1940f8feee1f9325658", func := "tiller/tillerlaw01.WorldClock", spec := "worldClock", unfollowed := true, recurses := true, apart := false }
def WorldClockSaid : Prop := worldClockRow.holds Try.pinned (OpenSpec.ofChange worldClockSpec)

/-- ITS FALSE NEIGHBOUR: 'it returns false'. Refute it at one input. -/
def worldClockWrong : ChangeSpec := { name := "worldClock", fn := fun _ => fun
  | [d] => { results := [.lit (.bool false)], args := [d] }
  | _ => none }
def WorldClockWrongFalsely : Prop := worldClockRow.holds Try.pinned (OpenSpec.ofChange worldClockWrong)

/-- 'tillerlaw01.WorldStops': WHATEVER THE INPUT: true; the input reads as it did. -/
def worldStopsSpec : ChangeSpec := { name := "worldStops", fn := fun _ => fun
  | [d1, d2] => { results := [.lit (.bool true)], args := [d1, d2] }
  | _ => none }
def worldStopsRow : OpenClaim := { program := "ythmjnlkdoepmjaa", sum := "4f967a4c75e759039ec91bb47e701d6e1c1067befd3ca1940f8feee1f9325658", func := "tiller/tillerlaw01.WorldStops", spec := "worldStops", unfollowed := true, recurses := true, apart := false }
def WorldStopsSaid : Prop := worldStopsRow.holds Try.pinned (OpenSpec.ofChange worldStopsSpec)

/-- ITS FALSE NEIGHBOUR: 'it returns false'. Refute it at one input. -/
def worldStopsWrong : ChangeSpec := { name := "worldStops", fn := fun _ => fun
  | [d1, d2] => { results := [.lit (.bool false)], args := [d1, d2] }
  | _ => none }
def WorldStopsWrongFalsely : Prop := worldStopsRow.holds Try.pinned (OpenSpec.ofChange worldStopsWrong)

/-- 'tillerlaw01.WorldDisk': WHATEVER THE INPUT: true; the input reads as it did. -/
def worldDiskSpec : ChangeSpec := { name := "worldDisk", fn := fun _ => fun
  | [d] => { results := [.lit (.bool true)], args := [d] }
  | _ => none }
def worldDiskRow : OpenClaim := { program := "ythmjnlkdoepmjaa", sum := "4f967a4c75e759039ec91bb47e701d6e1c1067befd3ca1940f8feee1f9325658", func := "tiller/tillerlaw01.WorldDisk", spec := "worldDisk", unfollowed := true, recurses := true, apart := false }
def WorldDiskSaid : Prop := worldDiskRow.holds Try.pinned (OpenSpec.ofChange worldDiskSpec)

/-- ITS FALSE NEIGHBOUR: 'it returns false'. Refute it at one input. -/
def worldDiskWrong : ChangeSpec := { name := "worldDisk", fn := fun _ => fun
  | [d] => { results := [.lit (.bool false)], args := [d] }
  | _ => none }
def WorldDiskWrongFalsely : Prop := worldDiskRow.holds Try.pinned (OpenSpec.ofChange worldDiskWrong)

/-- 'tillerlaw01.WorldTwice': WHATEVER THE INPUT: true; the input reads as it did. -/
def worldTwiceSpec : ChangeSpec := { name := "worldTwice", fn := fun _ => fun
  | [d1, d2, d3] => { results := [.lit (.bool true)], args := [d1, d2, d3] }
  | _ => none }
def worldTwiceRow : OpenClaim := { program := "ythmjnlkdoepmjaa", sum := "4f967a4c75e759039ec91bb47e701d6e1c1067befd3ca1940f8feee1f9325658", func := "tiller/tillerlaw01.WorldTwice", spec := "worldTwice", unfollowed := true, recurses := true, apart := false }
def WorldTwiceSaid : Prop := worldTwiceRow.holds Try.pinned (OpenSpec.ofChange worldTwiceSpec)

/-- ITS FALSE NEIGHBOUR: 'it returns false'. Refute it at one input. -/
def worldTwiceWrong : ChangeSpec := { name := "worldTwice", fn := fun _ => fun
  | [d1, d2, d3] => { results := [.lit (.bool false)], args := [d1, d2, d3] }
  | _ => none }
def WorldTwiceWrongFalsely : Prop := worldTwiceRow.holds Try.pinned (OpenSpec.ofChange worldTwiceWrong)

/-- 'tillerlaw01.WorldNet': WHATEVER THE INPUT: true; the input reads as it did. -/
def worldNetSpec : ChangeSpec := { name := "worldNet", fn := fun _ => fun
  | [d1, d2, d3] => { results := [.lit (.bool true)], args := [d1, d2, d3] }
  | _ => none }
def worldNetRow : OpenClaim := { program := "ythmjnlkdoepmjaa", sum := "4f967a4c75e759039ec91bb47e701d6e1c1067befd3ca1940f8feee1f9325658", func := "tiller/tillerlaw01.WorldNet", spec := "worldNet", unfollowed := true, recurses := true, apart := false }
def WorldNetSaid : Prop := worldNetRow.holds Try.pinned (OpenSpec.ofChange worldNetSpec)

/-- ITS FALSE NEIGHBOUR: 'it returns false'. Refute it at one input. -/
def worldNetWrong : ChangeSpec := { name := "worldNet", fn := fun _ => fun
  | [d1, d2, d3] => { results := [.lit (.bool false)], args := [d1, d2, d3] }
  | _ => none }
def WorldNetWrongFalsely : Prop := worldNetRow.holds Try.pinned (OpenSpec.ofChange worldNetWrong)

/-- 'tillerlaw01.WorldBag': WHATEVER THE INPUT: true; the input reads as it did. -/
def worldBagSpec : ChangeSpec := { name := "worldBag", fn := fun _ => fun
  | [d1, d2] => { results := [.lit (.bool true)], args := [d1, d2] }
  | _ => none }
def worldBagRow : OpenClaim := { program := "ythmjnlkdoepmjaa", sum := "4f967a4c75e759039ec91bb47e701d6e1c1067befd3ca1940f8feee1f9325658", func := "tiller/tillerlaw01.WorldBag", spec := "worldBag", unfollowed := true, recurses := true, apart := false }
def WorldBagSaid : Prop := worldBagRow.holds Try.pinned (OpenSpec.ofChange worldBagSpec)

/-- ITS FALSE NEIGHBOUR: 'it returns false'. Refute it at one input. -/
def worldBagWrong : ChangeSpec := { name := "worldBag", fn := fun _ => fun
  | [d1, d2] => { results := [.lit (.bool false)], args := [d1, d2] }
  | _ => none }
def WorldBagWrongFalsely : Prop := worldBagRow.holds Try.pinned (OpenSpec.ofChange worldBagWrong)

/- THE SECOND FORM. 'bulk': how many values and letters a reading holds, each counted each time it is reached (what is shared counts as often as it is met; a slice's spare places count too). A statement '..UptoSaid' is the law's where the arguments, and the package variables that the reading takes, are together of bulk at most 1048576: NARROWER than '..Said'. Prove '..Said' where nothing that the law and all that it calls make is longer than what came in: it says more and counts as full. Else prove '..UptoSaid'. A law counts once. -/
mutual
def uptoBulk {H : Type} : DataW H → Nat
  | .lit (.string bytes) => bytes.length + 1
  | .lit _ => 1
  | .nil => 1
  | .ptr d => uptoBulk d + 1
  | .slice elems spare => uptoBulkAll elems + uptoBulkAll spare + 1
  | .agg parts => uptoBulkAll parts + 1
  | .iface _ d => uptoBulk d + 1
  | .map entries => uptoBulkEntries entries + 1
  | .held _ => 1
def uptoBulkAll {H : Type} : List (DataW H) → Nat
  | [] => 0
  | d :: r => uptoBulk d + uptoBulkAll r
def uptoBulkEntries {H : Type} : List (Lit × DataW H) → Nat
  | [] => 0
  | x :: r => uptoBulkEntry x + uptoBulkEntries r
def uptoBulkEntry {H : Type} : Lit × DataW H → Nat
  | (.string bytes, d) => bytes.length + uptoBulk d + 1
  | (_, d) => uptoBulk d + 1
 end
def uptoSmall : (H : Type) → List (DataW H) → Bool := fun _ ds => decide (uptoBulkAll ds ≤ 1048576)
def OpenSpec.upto (s : _root_.Go.ChangeSpec) : _root_.Go.OpenSpec := { _root_.Go.OpenSpec.ofChange s with cond := some uptoSmall }

/-- 'tillerlaw01.WorldKeeps', WHERE WHAT IT READS IS OF BULK AT MOST 1048576: true; the input reads as it did. -/
def worldKeepsUptoRow : OpenClaim := { program := "ythmjnlkdoepmjaa", sum := "4f967a4c75e759039ec91bb47e701d6e1c1067befd3ca1940f8feee1f9325658", func := "tiller/tillerlaw01.WorldKeeps", spec := "worldKeeps", unfollowed := true, recurses := true, apart := false, narrowed := true }
def WorldKeepsUptoSaid : Prop := worldKeepsUptoRow.holds Try.pinned (OpenSpec.upto worldKeepsSpec)

/-- 'tillerlaw01.WorldFaults', WHERE WHAT IT READS IS OF BULK AT MOST 1048576: true; the input reads as it did. -/
def worldFaultsUptoRow : OpenClaim := { program := "ythmjnlkdoepmjaa", sum := "4f967a4c75e759039ec91bb47e701d6e1c1067befd3ca1940f8feee1f9325658", func := "tiller/tillerlaw01.WorldFaults", spec := "worldFaults", unfollowed := true, recurses := true, apart := false, narrowed := true }
def WorldFaultsUptoSaid : Prop := worldFaultsUptoRow.holds Try.pinned (OpenSpec.upto worldFaultsSpec)

/-- 'tillerlaw01.WorldClock', WHERE WHAT IT READS IS OF BULK AT MOST 1048576: true; the input reads as it did. -/
def worldClockUptoRow : OpenClaim := { program := "ythmjnlkdoepmjaa", sum := "4f967a4c75e759039ec91bb47e701d6e1c1067befd3ca1940f8feee1f9325658", func := "tiller/tillerlaw01.WorldClock", spec := "worldClock", unfollowed := true, recurses := true, apart := false, narrowed := true }
def WorldClockUptoSaid : Prop := worldClockUptoRow.holds Try.pinned (OpenSpec.upto worldClockSpec)

/-- 'tillerlaw01.WorldStops', WHERE WHAT IT READS IS OF BULK AT MOST 1048576: true; the input reads as it did. -/
def worldStopsUptoRow : OpenClaim := { program := "ythmjnlkdoepmjaa", sum := "4f967a4c75e759039ec91bb47e701d6e1c1067befd3ca1940f8feee1f9325658", func := "tiller/tillerlaw01.WorldStops", spec := "worldStops", unfollowed := true, recurses := true, apart := false, narrowed := true }
def WorldStopsUptoSaid : Prop := worldStopsUptoRow.holds Try.pinned (OpenSpec.upto worldStopsSpec)

/-- 'tillerlaw01.WorldDisk', WHERE WHAT IT READS IS OF BULK AT MOST 1048576: true; the input reads as it did. -/
def worldDiskUptoRow : OpenClaim := { program := "ythmjnlkdoepmjaa", sum := "4f967a4c75e759039ec91bb47e701d6e1c1067befd3ca1940f8feee1f9325658", func := "tiller/tillerlaw01.WorldDisk", spec := "worldDisk", unfollowed := true, recurses := true, apart := false, narrowed := true }
def WorldDiskUptoSaid : Prop := worldDiskUptoRow.holds Try.pinned (OpenSpec.upto worldDiskSpec)

/-- 'tillerlaw01.WorldTwice', WHERE WHAT IT READS IS OF BULK AT MOST 1048576: true; the input reads as it did. -/
def worldTwiceUptoRow : OpenClaim := { program := "ythmjnlkdoepmjaa", sum := "4f967a4c75e759039ec91bb47e701d6e1c1067befd3ca1940f8feee1f9325658", func := "tiller/tillerlaw01.WorldTwice", spec := "worldTwice", unfollowed := true, recurses := true, apart := false, narrowed := true }
def WorldTwiceUptoSaid : Prop := worldTwiceUptoRow.holds Try.pinned (OpenSpec.upto worldTwiceSpec)

/-- 'tillerlaw01.WorldNet', WHERE WHAT IT READS IS OF BULK AT MOST 1048576: true; the input reads as it did. -/
def worldNetUptoRow : OpenClaim := { program := "ythmjnlkdoepmjaa", sum := "4f967a4c75e759039ec91bb47e701d6e1c1067befd3ca1940f8feee1f9325658", func := "tiller/tillerlaw01.WorldNet", spec := "worldNet", unfollowed := true, recurses := true, apart := false, narrowed := true }
def WorldNetUptoSaid : Prop := worldNetUptoRow.holds Try.pinned (OpenSpec.upto worldNetSpec)

/-- 'tillerlaw01.WorldBag', WHERE WHAT IT READS IS OF BULK AT MOST 1048576: true; the input reads as it did. -/
def worldBagUptoRow : OpenClaim := { program := "ythmjnlkdoepmjaa", sum := "4f967a4c75e759039ec91bb47e701d6e1c1067befd3ca1940f8feee1f9325658", func := "tiller/tillerlaw01.WorldBag", spec := "worldBag", unfollowed := true, recurses := true, apart := false, narrowed := true }
def WorldBagUptoSaid : Prop := worldBagUptoRow.holds Try.pinned (OpenSpec.upto worldBagSpec)

end Rows
end Go.Proofs.Ythmjnlkdoepmjaa
