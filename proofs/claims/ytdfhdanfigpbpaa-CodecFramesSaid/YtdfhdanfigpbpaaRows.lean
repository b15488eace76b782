/-
  No cell of these rows narrows 'for every input' (looked for: loops, veiled, ifaces, maps, wideKeys, modest, calm, conditions, laid).
  DERIVED. THE GIVEN ROWS OF THIS SEAT. 11 by the template 'for every input the law returns true; each argument reads behind the call as it read before'; 0 by the template 'total and deterministic' (their statements: YtdfhdanfigpbpaaTotals.lean).
  GIVEN WITH THE SEED: the statements are not yours to turn. If you find one false, say at which input.
  Laid BY PROGRAM, IN A SANDBOX (cutbox-rows.mjs): the forced cells as the released guide's own fill.sh prints them over the translation beb0d3ca773a992b… (all of the seat's roots in one cut). By AI agents, Wed Nov 11 2026. No macro, syntax, notation, axiom, sorry.
-/
import Derived.Test.YtdfhdanfigpbpaaChecked
import GoSem.Claim
import GoSem.ClaimJoined
import GoSem.ClaimMapViews
import Derived.JoinedTies
import Derived.KernelRfl
namespace Go.Proofs.Ytdfhdanfigpbpaa
/- THE CELL 'sum', in the pinned program and in every row, IS THE sha256 OF THE DUMP (.gsa) THAT YtdfhdanfigpbpaaProg.lean LOADS. Nothing in Lean hashes anything: it is a label: what it is worth is what the hold of that sum in a sandbox is worth. -/
noncomputable def Try.pinned : Pinned := { name := "ytdfhdanfigpbpaa", sum := "beb0d3ca773a992bcd706402f9202544d728b103e17332af6d3762209ca6def8", checked := Try.checked }
namespace Rows
def none {H : Type} : Left H := { results := [], args := [] }

/-- 'tillerlaw02.CodecEvent': WHATEVER THE INPUT: true; the input reads as it did. -/
def codecEventSpec : ChangeSpec := { name := "codecEvent", fn := fun _ => fun
  | [d1, d2] => { results := [.lit (.bool true)], args := [d1, d2] }
  | _ => none }
def codecEventRow : OpenClaim := { program := "ytdfhdanfigpbpaa", sum := "beb0d3ca773a992bcd706402f9202544d728b103e17332af6d3762209ca6def8", func := "tiller/tillerlaw02.CodecEvent", spec := "codecEvent", unfollowed := true, recurses := true, apart := false }
def CodecEventSaid : Prop := codecEventRow.holds Try.pinned (OpenSpec.ofChange codecEventSpec)

/-- ITS FALSE NEIGHBOUR: 'it returns false'. Refute it at one input. -/
def codecEventWrong : ChangeSpec := { name := "codecEvent", fn := fun _ => fun
  | [d1, d2] => { results := [.lit (.bool false)], args := [d1, d2] }
  | _ => none }
def CodecEventWrongFalsely : Prop := codecEventRow.holds Try.pinned (OpenSpec.ofChange codecEventWrong)

/-- 'tillerlaw02.CodecSum': WHATEVER THE INPUT: true; the input reads as it did. -/
def codecSumSpec : ChangeSpec := { name := "codecSum", fn := fun _ => fun
  | [d] => { results := [.lit (.bool true)], args := [d] }
  | _ => none }
def codecSumRow : OpenClaim := { program := "ytdfhdanfigpbpaa", sum := "beb0d3ca773a992bcd706402f9202544d728b103e17332af6d3762209ca6def8", func := "tiller/tillerlaw02.CodecSum", spec := "codecSum", unfollowed := true, recurses := true, apart := false }
def CodecSumSaid : Prop := codecSumRow.holds Try.pinned (OpenSpec.ofChange codecSumSpec)

/-- ITS FALSE NEIGHBOUR: 'it returns false'. Refute it at one input. -/
def codecSumWrong : ChangeSpec := { name := "codecSum", fn := fun _ => fun
  | [d] => { results := [.lit (.bool false)], args := [d] }
  | _ => none }
def CodecSumWrongFalsely : Prop := codecSumRow.holds Try.pinned (OpenSpec.ofChange codecSumWrong)

/-- 'tillerlaw02.CodecBounds': WHATEVER THE INPUT: true; the input reads as it did. -/
def codecBoundsSpec : ChangeSpec := { name := "codecBounds", fn := fun _ => fun
  | [d1, d2] => { results := [.lit (.bool true)], args := [d1, d2] }
  | _ => none }
def codecBoundsRow : OpenClaim := { program := "ytdfhdanfigpbpaa", sum := "beb0d3ca773a992bcd706402f9202544d728b103e17332af6d3762209ca6def8", func := "tiller/tillerlaw02.CodecBounds", spec := "codecBounds", unfollowed := true, recurses := true, apart := false }
def CodecBoundsSaid : Prop := codecBoundsRow.holds Try.pinned (OpenSpec.ofChange codecBoundsSpec)

/-- ITS FALSE NEIGHBOUR: 'it returns false'. Refute it at one input. -/
def codecBoundsWrong : ChangeSpec := { name := "codecBounds", fn := fun _ => fun
  | [d1, d2] => { results := [.lit (.bool false)], args := [d1, d2] }
  | _ => none }
def CodecBoundsWrongFalsely : Prop := codecBoundsRow.holds Try.pinned (OpenSpec.ofChange codecBoundsWrong)

/-- 'tillerlaw02.CodecLease': WHATEVER THE INPUT: true; the input reads as it did. -/
def codecLeaseSpec : ChangeSpec := { name := "codecLease", fn := fun _ => fun
  | [d1, d2] => { results := [.lit (.bool true)], args := [d1, d2] }
  | _ => none }
def codecLeaseRow : OpenClaim := { program := "ytdfhdanfigpbpaa", sum := "beb0d3ca773a992bcd706402f9202544d728b103e17332af6d3762209ca6def8", func := "tiller/tillerlaw02.CodecLease", spec := "codecLease", unfollowed := true, recurses := true, apart := false }
def CodecLeaseSaid : Prop := codecLeaseRow.holds Try.pinned (OpenSpec.ofChange codecLeaseSpec)

/-- ITS FALSE NEIGHBOUR: 'it returns false'. Refute it at one input. -/
def codecLeaseWrong : ChangeSpec := { name := "codecLease", fn := fun _ => fun
  | [d1, d2] => { results := [.lit (.bool false)], args := [d1, d2] }
  | _ => none }
def CodecLeaseWrongFalsely : Prop := codecLeaseRow.holds Try.pinned (OpenSpec.ofChange codecLeaseWrong)

/-- 'tillerlaw02.CodecNumber': WHATEVER THE INPUT: true; the input reads as it did. -/
def codecNumberSpec : ChangeSpec := { name := "codecNumber", fn := fun _ => fun
  | [d1, d2] => { results := [.lit (.bool true)], args := [d1, d2] }
  | _ => none }
def codecNumberRow : OpenClaim := { program := "ytdfhdanfigpbpaa", sum := "beb0d3ca773a992bcd706402f9202544d728b103e17332af6d3762209ca6def8", func := "tiller/tillerlaw02.CodecNumber", spec := "codecNumber", unfollowed := true, recurses := true, apart := false }
def CodecNumberSaid : Prop := codecNumberRow.holds Try.pinned (OpenSpec.ofChange codecNumberSpec)

/-- ITS FALSE NEIGHBOUR: 'it returns false'. Refute it at one input. -/
def codecNumberWrong : ChangeSpec := { name := "codecNumber", fn := fun _ => fun
  | [d1, d2] => { results := [.lit (.bool false)], args := [d1, d2] }
  | _ => none }
def CodecNumberWrongFalsely : Prop := codecNumberRow.holds Try.pinned (OpenSpec.ofChange codecNumberWrong)

/-- 'tillerlaw02.CodecOps': WHATEVER THE INPUT: true; the input reads as it did. -/
def codecOpsSpec : ChangeSpec := { name := "codecOps", fn := fun _ => fun
  | [d1, d2] => { results := [.lit (.bool true)], args := [d1, d2] }
  | _ => none }
def codecOpsRow : OpenClaim := { program := "ytdfhdanfigpbpaa", sum := "beb0d3ca773a992bcd706402f9202544d728b103e17332af6d3762209ca6def8", func := "tiller/tillerlaw02.CodecOps", spec := "codecOps", unfollowed := true, recurses := true, apart := false }
def CodecOpsSaid : Prop := codecOpsRow.holds Try.pinned (OpenSpec.ofChange codecOpsSpec)

/-- ITS FALSE NEIGHBOUR: 'it returns false'. Refute it at one input. -/
def codecOpsWrong : ChangeSpec := { name := "codecOps", fn := fun _ => fun
  | [d1, d2] => { results := [.lit (.bool false)], args := [d1, d2] }
  | _ => none }
def CodecOpsWrongFalsely : Prop := codecOpsRow.holds Try.pinned (OpenSpec.ofChange codecOpsWrong)

/-- 'tillerlaw02.CodecEnvelope': WHATEVER THE INPUT: true; the input reads as it did. -/
def codecEnvelopeSpec : ChangeSpec := { name := "codecEnvelope", fn := fun _ => fun
  | [d1, d2] => { results := [.lit (.bool true)], args := [d1, d2] }
  | _ => none }
def codecEnvelopeRow : OpenClaim := { program := "ytdfhdanfigpbpaa", sum := "beb0d3ca773a992bcd706402f9202544d728b103e17332af6d3762209ca6def8", func := "tiller/tillerlaw02.CodecEnvelope", spec := "codecEnvelope", unfollowed := true, recurses := true, apart := false }
def CodecEnvelopeSaid : Prop := codecEnvelopeRow.holds Try.pinned (OpenSpec.ofChange codecEnvelopeSpec)

/-- ITS FALSE NEIGHBOUR: 'it returns false'. Refute it at one input. -/
def codecEnvelopeWrong : ChangeSpec := { name := "codecEnvelope", fn := fun _ => fun
  | [d1, d2] => { results := [.lit (.bool false)], args := [d1, d2] }
  | _ => none }
def CodecEnvelopeWrongFalsely : Prop := codecEnvelopeRow.holds Try.pinned (OpenSpec.ofChange codecEnvelopeWrong)

/-- 'tillerlaw02.CodecState': WHATEVER THE INPUT: true; the input reads as it did. -/
def codecStateSpec : ChangeSpec := { name := "codecState", fn := fun _ => fun
  | [d1, d2] => { results := [.lit (.bool true)], args := [d1, d2] }
  | _ => none }
def codecStateRow : OpenClaim := { program := "ytdfhdanfigpbpaa", sum := "beb0d3ca773a992bcd706402f9202544d728b103e17332af6d3762209ca6def8", func := "tiller/tillerlaw02.CodecState", spec := "codecState", unfollowed := true, recurses := true, apart := false }
def CodecStateSaid : Prop := codecStateRow.holds Try.pinned (OpenSpec.ofChange codecStateSpec)

/-- ITS FALSE NEIGHBOUR: 'it returns false'. Refute it at one input. -/
def codecStateWrong : ChangeSpec := { name := "codecState", fn := fun _ => fun
  | [d1, d2] => { results := [.lit (.bool false)], args := [d1, d2] }
  | _ => none }
def CodecStateWrongFalsely : Prop := codecStateRow.holds Try.pinned (OpenSpec.ofChange codecStateWrong)

/-- 'tillerlaw02.CodecFlips': WHATEVER THE INPUT: true; the input reads as it did. -/
def codecFlipsSpec : ChangeSpec := { name := "codecFlips", fn := fun _ => fun
  | [d1, d2, d3] => { results := [.lit (.bool true)], args := [d1, d2, d3] }
  | _ => none }
def codecFlipsRow : OpenClaim := { program := "ytdfhdanfigpbpaa", sum := "beb0d3ca773a992bcd706402f9202544d728b103e17332af6d3762209ca6def8", func := "tiller/tillerlaw02.CodecFlips", spec := "codecFlips", inPlace := ["internal/bytealg.MakeNoZero"], unfollowed := true, recurses := true, apart := false }
def CodecFlipsSaid : Prop := codecFlipsRow.holds Try.pinned (OpenSpec.ofChange codecFlipsSpec)

/-- ITS FALSE NEIGHBOUR: 'it returns false'. Refute it at one input. -/
def codecFlipsWrong : ChangeSpec := { name := "codecFlips", fn := fun _ => fun
  | [d1, d2, d3] => { results := [.lit (.bool false)], args := [d1, d2, d3] }
  | _ => none }
def CodecFlipsWrongFalsely : Prop := codecFlipsRow.holds Try.pinned (OpenSpec.ofChange codecFlipsWrong)

/-- 'tillerlaw02.CodecFrames': WHATEVER THE INPUT: true; the input reads as it did. -/
def codecFramesSpec : ChangeSpec := { name := "codecFrames", fn := fun _ => fun
  | [d1, d2, d3] => { results := [.lit (.bool true)], args := [d1, d2, d3] }
  | _ => none }
def codecFramesRow : OpenClaim := { program := "ytdfhdanfigpbpaa", sum := "beb0d3ca773a992bcd706402f9202544d728b103e17332af6d3762209ca6def8", func := "tiller/tillerlaw02.CodecFrames", spec := "codecFrames", inPlace := ["internal/bytealg.MakeNoZero"], unfollowed := true, recurses := true, apart := false }
def CodecFramesSaid : Prop := codecFramesRow.holds Try.pinned (OpenSpec.ofChange codecFramesSpec)

/-- ITS FALSE NEIGHBOUR: 'it returns false'. Refute it at one input. -/
def codecFramesWrong : ChangeSpec := { name := "codecFrames", fn := fun _ => fun
  | [d1, d2, d3] => { results := [.lit (.bool false)], args := [d1, d2, d3] }
  | _ => none }
def CodecFramesWrongFalsely : Prop := codecFramesRow.holds Try.pinned (OpenSpec.ofChange codecFramesWrong)

/-- 'tillerlaw02.CodecSplit': WHATEVER THE INPUT: true; the input reads as it did. -/
def codecSplitSpec : ChangeSpec := { name := "codecSplit", fn := fun _ => fun
  | [d1, d2] => { results := [.lit (.bool true)], args := [d1, d2] }
  | _ => none }
def codecSplitRow : OpenClaim := { program := "ytdfhdanfigpbpaa", sum := "beb0d3ca773a992bcd706402f9202544d728b103e17332af6d3762209ca6def8", func := "tiller/tillerlaw02.CodecSplit", spec := "codecSplit", inPlace := ["internal/bytealg.MakeNoZero"], unfollowed := true, recurses := true, apart := false }
def CodecSplitSaid : Prop := codecSplitRow.holds Try.pinned (OpenSpec.ofChange codecSplitSpec)

/-- ITS FALSE NEIGHBOUR: 'it returns false'. Refute it at one input. -/
def codecSplitWrong : ChangeSpec := { name := "codecSplit", fn := fun _ => fun
  | [d1, d2] => { results := [.lit (.bool false)], args := [d1, d2] }
  | _ => none }
def CodecSplitWrongFalsely : Prop := codecSplitRow.holds Try.pinned (OpenSpec.ofChange codecSplitWrong)

/- THE SECOND FORM. 'bulk': how many values and letters a reading holds, each counted each time it is reached (what is shared counts as often as it is met; a slice's spare places count too). A statement '..UptoSaid' is the law's where the arguments, and the package variables that the reading takes, are together of bulk at most 1048576: NARROWER than '..Said'. Prove '..Said' where nothing that the law and all that it calls make is longer than what came in: it says more and counts as full. Else prove '..UptoSaid'. A law counts once. -/
mutual
def uptoBulk {H : Type} : DataW H → Nat
  | .lit (.string bytes) => bytes.length + 1
  | .lit _ => 1
  | .nil => 1
  | .ptr d => uptoBulk d + 1
  | .slice elems spare => uptoBulkAll elems + uptoBulkAll spare + 1
  | .agg parts => uptoBulkAll parts + 1
  | .iface _ d => uptoBulk d + 1
  | .map entries => uptoBulkEntries entries + 1
  | .held _ => 1
def uptoBulkAll {H : Type} : List (DataW H) → Nat
  | [] => 0
  | d :: r => uptoBulk d + uptoBulkAll r
def uptoBulkEntries {H : Type} : List (Lit × DataW H) → Nat
  | [] => 0
  | x :: r => uptoBulkEntry x + uptoBulkEntries r
def uptoBulkEntry {H : Type} : Lit × DataW H → Nat
  | (.string bytes, d) => bytes.length + uptoBulk d + 1
  | (_, d) => uptoBulk d + 1
 end
def uptoSmall : (H : Type) → List (DataW H) → Bool := fun _ ds => decide (uptoBulkAll ds ≤ 1048576)
def OpenSpec.upto (s : _root_.Go.ChangeSpec) : _root_.Go.OpenSpec := { _root_.Go.OpenSpec.ofChange s with cond := some uptoSmall }

/-- 'tillerlaw02.CodecEvent', WHERE WHAT IT READS IS OF BULK AT MOST 1048576: true; the input reads as it did. -/
def codecEventUptoRow : OpenClaim := { program := "ytdfhdanfigpbpaa", sum := "beb0d3ca773a992bcd706402f9202544d728b103e17332af6d3762209ca6def8", func := "tiller/tillerlaw02.CodecEvent", spec := "codecEvent", unfollowed := true, recurses := true, apart := false, narrowed := true }
def CodecEventUptoSaid : Prop := codecEventUptoRow.holds Try.pinned (OpenSpec.upto codecEventSpec)

/-- 'tillerlaw02.CodecSum', WHERE WHAT IT READS IS OF BULK AT MOST 1048576: true; the input reads as it did. -/
def codecSumUptoRow : OpenClaim := { program := "ytdfhdanfigpbpaa", sum := "beb0d3ca773a992bcd706402f9202544d728b103e17332af6d3762209ca6def8", func := "tiller/tillerlaw02.CodecSum", spec := "codecSum", unfollowed := true, recurses := true, apart := false, narrowed := true }
def CodecSumUptoSaid : Prop := codecSumUptoRow.holds Try.pinned (OpenSpec.upto codecSumSpec)

/-- 'tillerlaw02.CodecBounds', WHERE WHAT IT READS IS OF BULK AT MOST 1048576: true; the input reads as it did. -/
def codecBoundsUptoRow : OpenClaim := { program := "ytdfhdanfigpbpaa", sum := "beb0d3ca773a992bcd706402f9202544d728b103e17332af6d3762209ca6def8", func := "tiller/tillerlaw02.CodecBounds", spec := "codecBounds", unfollowed := true, recurses := true, apart := false, narrowed := true }
def CodecBoundsUptoSaid : Prop := codecBoundsUptoRow.holds Try.pinned (OpenSpec.upto codecBoundsSpec)

/-- 'tillerlaw02.CodecLease', WHERE WHAT IT READS IS OF BULK AT MOST 1048576: true; the input reads as it did. -/
def codecLeaseUptoRow : OpenClaim := { program := "ytdfhdanfigpbpaa", sum := "beb0d3ca773a992bcd706402f9202544d728b103e17332af6d3762209ca6def8", func := "tiller/tillerlaw02.CodecLease", spec := "codecLease", unfollowed := true, recurses := true, apart := false, narrowed := true }
def CodecLeaseUptoSaid : Prop := codecLeaseUptoRow.holds Try.pinned (OpenSpec.upto codecLeaseSpec)

/-- 'tillerlaw02.CodecNumber', WHERE WHAT IT READS IS OF BULK AT MOST 1048576: true; the input reads as it did. -/
def codecNumberUptoRow : OpenClaim := { program := "ytdfhdanfigpbpaa", sum := "beb0d3ca773a992bcd706402f9202544d728b103e17332af6d3762209ca6def8", func := "tiller/tillerlaw02.CodecNumber", spec := "codecNumber", unfollowed := true, recurses := true, apart := false, narrowed := true }
def CodecNumberUptoSaid : Prop := codecNumberUptoRow.holds Try.pinned (OpenSpec.upto codecNumberSpec)

/-- 'tillerlaw02.CodecOps', WHERE WHAT IT READS IS OF BULK AT MOST 1048576: true; the input reads as it did. -/
def codecOpsUptoRow : OpenClaim := { program := "ytdfhdanfigpbpaa", sum := "beb0d3ca773a992bcd706402f9202544d728b103e17332af6d3762209ca6def8", func := "tiller/tillerlaw02.CodecOps", spec := "codecOps", unfollowed := true, recurses := true, apart := false, narrowed := true }
def CodecOpsUptoSaid : Prop := codecOpsUptoRow.holds Try.pinned (OpenSpec.upto codecOpsSpec)

/-- 'tillerlaw02.CodecEnvelope', WHERE WHAT IT READS IS OF BULK AT MOST 1048576: true; the input reads as it did. -/
def codecEnvelopeUptoRow : OpenClaim := { program := "ytdfhdanfigpbpaa", sum := "beb0d3ca773a992bcd706402f9202544d728b103e17332af6d3762209ca6def8", func := "tiller/tillerlaw02.CodecEnvelope", spec := "codecEnvelope", unfollowed := true, recurses := true, apart := false, narrowed := true }
def CodecEnvelopeUptoSaid : Prop := codecEnvelopeUptoRow.holds Try.pinned (OpenSpec.upto codecEnvelopeSpec)

/-- 'tillerlaw02.CodecState', WHERE WHAT IT READS IS OF BULK AT MOST 1048576: true; the input reads as it did. -/
def codecStateUptoRow : OpenClaim := { program := "ytdfhdanfigpbpaa", sum := "beb0d3ca773a992bcd706402f9202544d728b103e17332af6d3762209ca6def8", func := "tiller/tillerlaw02.CodecState", spec := "codecState", unfollowed := true, recurses := true, apart := false, narrowed := true }
def CodecStateUptoSaid : Prop := codecStateUptoRow.holds Try.pinned (OpenSpec.upto codecStateSpec)

/-- 'tillerlaw02.CodecFlips', WHERE WHAT IT READS IS OF BULK AT MOST 1048576: true; the input reads as it did. -/
def codecFlipsUptoRow : OpenClaim := { program := "ytdfhdanfigpbpaa", sum := "beb0d3ca773a992bcd706402f9202544d728b103e17332af6d3762209ca6def8", func := "tiller/tillerlaw02.CodecFlips", spec := "codecFlips", inPlace := ["internal/bytealg.MakeNoZero"], unfollowed := true, recurses := true, apart := false, narrowed := true }
def CodecFlipsUptoSaid : Prop := codecFlipsUptoRow.holds Try.pinned (OpenSpec.upto codecFlipsSpec)

/-- 'tillerlaw02.CodecFrames', WHERE WHAT IT READS IS OF BULK AT MOST 1048576: true; the input reads as it did. -/
def codecFramesUptoRow : OpenClaim := { program := "ytdfhdanfigpbpaa", sum := "beb0d3ca773a992bcd706402f9202544d728b103e17332af6d3762209ca6def8", func := "tiller/tillerlaw02.CodecFrames", spec := "codecFrames", inPlace := ["internal/bytealg.MakeNoZero"], unfollowed := true, recurses := true, apart := false, narrowed := true }
def CodecFramesUptoSaid : Prop := codecFramesUptoRow.holds Try.pinned (OpenSpec.upto codecFramesSpec)

/-- 'tillerlaw02.CodecSplit', WHERE WHAT IT READS IS OF BULK AT MOST 1048576: true; the input reads as it did. -/
def codecSplitUptoRow : OpenClaim := { program := "ytdfhdanfigpbpaa", sum := "beb0d3ca773a992bcd706402f9202544d728b103e17332af6d3762209ca6def8", func := "tiller/tillerlaw02.CodecSplit", spec := "codecSplit", inPlace := ["internal/bytealg.MakeNoZero"], unfollowed := true, recurses := true, apart := false, narrowed := true }
def CodecSplitUptoSaid : Prop := codecSplitUptoRow.holds Try.pinned (OpenSpec.upto codecSplitSpec)

end Rows
end Go.Proofs.Ytdfhdanfigpbpaa
