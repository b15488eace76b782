/-
  No cell of these rows narrows 'for every input' (looked for: loops, veiled, ifaces, maps, wideKeys, modest, calm, conditions, laid).
  DERIVED. THE GIVEN ROWS OF THIS SEAT. 8 by the template 'for every input the law returns true; each argument reads behind the call as it read before'; 0 by the template 'total and deterministic' (their statements: YtlcmnihpfpmajaaGreatTotals.lean).
  GIVEN WITH THE SEED: the statements are not yours to turn. If you find one false, say at which input.
  Laid BY PROGRAM, IN A SANDBOX (cutbox-rows.mjs): the forced cells as the released guide's own fill.sh prints them over the translation d416e24cb9d6c15a… (all of the seat's roots in one cut). By AI agents, Wed Nov 11 2026. No macro, syntax, notation, axiom, sorry.
-/
import Derived.Test.YtlcmnihpfpmajaaGreatChecked
import GoSem.Claim
import GoSem.ClaimJoined
import GoSem.ClaimMapViews
import Derived.JoinedTies
import Derived.KernelRfl
namespace Go.Proofs.YtlcmnihpfpmajaaGreat
/- THE CELL 'sum', in the pinned program and in every row, IS THE sha256 OF THE DUMP (.gsa) THAT YtlcmnihpfpmajaaGreatProg.lean LOADS. Nothing in Lean hashes anything: it is a label: what it is worth is what the hold of that sum in a sandbox is worth. -/
noncomputable def Tryz.pinned : Pinned := { name := "ytlcmnihpfpmajaagreat", sum := "d416e24cb9d6c15ad9e8826daa85a1e50e30719c21dc1aa305402bcfdf6be725", checked := Tryz.checked }
namespace Rows
def none {H : Type} : Left H := { results := [], args := [] }

/-- 'tillerlaw03.WalKeeps': WHATEVER THE INPUT: true; the input reads as it did. -/
def walKeepsSpec : ChangeSpec := { name := "walKeeps", fn := fun _ => fun
  | [d] => { results := [.lit (.bool true)], args := [d] }
  | _ => none }
def walKeepsRow : OpenClaim := { program := "ytlcmnihpfpmajaagreat", sum := "d416e24cb9d6c15ad9e8826daa85a1e50e30719c21dc1aa305402bcfdf6be725", func := "tiller/tillerlaw03.WalKeeps", spec := "walKeeps", inPlace := ["internal/bytealg.MakeNoZero"], unfollowed := true, recurses := true, apart := false }
def WalKeepsSaid : Prop := walKeepsRow.holds Tryz.pinned (OpenSpec.ofChange walKeepsSpec)

/-- ITS FALSE NEIGHBOUR: 'it returns false'. Refute it at one input. -/
def walKeepsWrong : ChangeSpec := { name := "walKeeps", fn := fun _ => fun
  | [d] => { results := [.lit (.bool false)], args := [d] }
  | _ => none }
def WalKeepsWrongFalsely : Prop := walKeepsRow.holds Tryz.pinned (OpenSpec.ofChange walKeepsWrong)

/-- 'tillerlaw03.WalResumes': WHATEVER THE INPUT: true; the input reads as it did. -/
def walResumesSpec : ChangeSpec := { name := "walResumes", fn := fun _ => fun
  | [d1, d2, d3] => { results := [.lit (.bool true)], args := [d1, d2, d3] }
  | _ => none }
def walResumesRow : OpenClaim := { program := "ytlcmnihpfpmajaagreat", sum := "d416e24cb9d6c15ad9e8826daa85a1e50e30719c21dc1aa305402bcfdf6be725", func := "tiller/tillerlaw03.WalResumes", spec := "walResumes", inPlace := ["internal/bytealg.MakeNoZero"], unfollowed := true, recurses := true, apart := false }
def WalResumesSaid : Prop := walResumesRow.holds Tryz.pinned (OpenSpec.ofChange walResumesSpec)

/-- ITS FALSE NEIGHBOUR: 'it returns false'. Refute it at one input. -/
def walResumesWrong : ChangeSpec := { name := "walResumes", fn := fun _ => fun
  | [d1, d2, d3] => { results := [.lit (.bool false)], args := [d1, d2, d3] }
  | _ => none }
def WalResumesWrongFalsely : Prop := walResumesRow.holds Tryz.pinned (OpenSpec.ofChange walResumesWrong)

/-- 'tillerlaw03.WalBeside': WHATEVER THE INPUT: true; the input reads as it did. -/
def walBesideSpec : ChangeSpec := { name := "walBeside", fn := fun _ => fun
  | [d1, d2, d3] => { results := [.lit (.bool true)], args := [d1, d2, d3] }
  | _ => none }
def walBesideRow : OpenClaim := { program := "ytlcmnihpfpmajaagreat", sum := "d416e24cb9d6c15ad9e8826daa85a1e50e30719c21dc1aa305402bcfdf6be725", func := "tiller/tillerlaw03.WalBeside", spec := "walBeside", inPlace := ["internal/bytealg.MakeNoZero"], unfollowed := true, recurses := true, apart := false }
def WalBesideSaid : Prop := walBesideRow.holds Tryz.pinned (OpenSpec.ofChange walBesideSpec)

/-- ITS FALSE NEIGHBOUR: 'it returns false'. Refute it at one input. -/
def walBesideWrong : ChangeSpec := { name := "walBeside", fn := fun _ => fun
  | [d1, d2, d3] => { results := [.lit (.bool false)], args := [d1, d2, d3] }
  | _ => none }
def WalBesideWrongFalsely : Prop := walBesideRow.holds Tryz.pinned (OpenSpec.ofChange walBesideWrong)

/-- 'tillerlaw03.WalReads': WHATEVER THE INPUT: true; the input reads as it did. -/
def walReadsSpec : ChangeSpec := { name := "walReads", fn := fun _ => fun
  | [d1, d2, d3] => { results := [.lit (.bool true)], args := [d1, d2, d3] }
  | _ => none }
def walReadsRow : OpenClaim := { program := "ytlcmnihpfpmajaagreat", sum := "d416e24cb9d6c15ad9e8826daa85a1e50e30719c21dc1aa305402bcfdf6be725", func := "tiller/tillerlaw03.WalReads", spec := "walReads", inPlace := ["internal/bytealg.MakeNoZero"], unfollowed := true, recurses := true, apart := false }
def WalReadsSaid : Prop := walReadsRow.holds Tryz.pinned (OpenSpec.ofChange walReadsSpec)

/-- ITS FALSE NEIGHBOUR: 'it returns false'. Refute it at one input. -/
def walReadsWrong : ChangeSpec := { name := "walReads", fn := fun _ => fun
  | [d1, d2, d3] => { results := [.lit (.bool false)], args := [d1, d2, d3] }
  | _ => none }
def WalReadsWrongFalsely : Prop := walReadsRow.holds Tryz.pinned (OpenSpec.ofChange walReadsWrong)

/-- 'tillerlaw03.WalGreat': WHATEVER THE INPUT: true; the input reads as it did. -/
def walGreatSpec : ChangeSpec := { name := "walGreat", fn := fun _ => fun
  | [d1, d2, d3] => { results := [.lit (.bool true)], args := [d1, d2, d3] }
  | _ => none }
def walGreatRow : OpenClaim := { program := "ytlcmnihpfpmajaagreat", sum := "d416e24cb9d6c15ad9e8826daa85a1e50e30719c21dc1aa305402bcfdf6be725", func := "tiller/tillerlaw03.WalGreat", spec := "walGreat", inPlace := ["internal/bytealg.MakeNoZero"], unfollowed := true, recurses := true, apart := false }
def WalGreatSaid : Prop := walGreatRow.holds Tryz.pinned (OpenSpec.ofChange walGreatSpec)

/-- ITS FALSE NEIGHBOUR: 'it returns false'. Refute it at one input. -/
def walGreatWrong : ChangeSpec := { name := "walGreat", fn := fun _ => fun
  | [d1, d2, d3] => { results := [.lit (.bool false)], args := [d1, d2, d3] }
  | _ => none }
def WalGreatWrongFalsely : Prop := walGreatRow.holds Tryz.pinned (OpenSpec.ofChange walGreatWrong)

/-- 'tillerlaw03.WalTorn': WHATEVER THE INPUT: true; the input reads as it did. -/
def walTornSpec : ChangeSpec := { name := "walTorn", fn := fun _ => fun
  | [d] => { results := [.lit (.bool true)], args := [d] }
  | _ => none }
def walTornRow : OpenClaim := { program := "ytlcmnihpfpmajaagreat", sum := "d416e24cb9d6c15ad9e8826daa85a1e50e30719c21dc1aa305402bcfdf6be725", func := "tiller/tillerlaw03.WalTorn", spec := "walTorn", inPlace := ["internal/bytealg.MakeNoZero"], unfollowed := true, recurses := true, apart := false }
def WalTornSaid : Prop := walTornRow.holds Tryz.pinned (OpenSpec.ofChange walTornSpec)

/-- ITS FALSE NEIGHBOUR: 'it returns false'. Refute it at one input. -/
def walTornWrong : ChangeSpec := { name := "walTorn", fn := fun _ => fun
  | [d] => { results := [.lit (.bool false)], args := [d] }
  | _ => none }
def WalTornWrongFalsely : Prop := walTornRow.holds Tryz.pinned (OpenSpec.ofChange walTornWrong)

/-- 'tillerlaw03.WalFront': WHATEVER THE INPUT: true; the input reads as it did. -/
def walFrontSpec : ChangeSpec := { name := "walFront", fn := fun _ => fun
  | [d1, d2, d3] => { results := [.lit (.bool true)], args := [d1, d2, d3] }
  | _ => none }
def walFrontRow : OpenClaim := { program := "ytlcmnihpfpmajaagreat", sum := "d416e24cb9d6c15ad9e8826daa85a1e50e30719c21dc1aa305402bcfdf6be725", func := "tiller/tillerlaw03.WalFront", spec := "walFront", inPlace := ["internal/bytealg.MakeNoZero"], unfollowed := true, recurses := true, apart := false }
def WalFrontSaid : Prop := walFrontRow.holds Tryz.pinned (OpenSpec.ofChange walFrontSpec)

/-- ITS FALSE NEIGHBOUR: 'it returns false'. Refute it at one input. -/
def walFrontWrong : ChangeSpec := { name := "walFront", fn := fun _ => fun
  | [d1, d2, d3] => { results := [.lit (.bool false)], args := [d1, d2, d3] }
  | _ => none }
def WalFrontWrongFalsely : Prop := walFrontRow.holds Tryz.pinned (OpenSpec.ofChange walFrontWrong)

/-- 'tillerlaw03.WalEmpty': WHATEVER THE INPUT: true; the input reads as it did. -/
def walEmptySpec : ChangeSpec := { name := "walEmpty", fn := fun _ => fun
  | [d1, d2, d3] => { results := [.lit (.bool true)], args := [d1, d2, d3] }
  | _ => none }
def walEmptyRow : OpenClaim := { program := "ytlcmnihpfpmajaagreat", sum := "d416e24cb9d6c15ad9e8826daa85a1e50e30719c21dc1aa305402bcfdf6be725", func := "tiller/tillerlaw03.WalEmpty", spec := "walEmpty", inPlace := ["internal/bytealg.MakeNoZero"], unfollowed := true, recurses := true, apart := false }
def WalEmptySaid : Prop := walEmptyRow.holds Tryz.pinned (OpenSpec.ofChange walEmptySpec)

/-- ITS FALSE NEIGHBOUR: 'it returns false'. Refute it at one input. -/
def walEmptyWrong : ChangeSpec := { name := "walEmpty", fn := fun _ => fun
  | [d1, d2, d3] => { results := [.lit (.bool false)], args := [d1, d2, d3] }
  | _ => none }
def WalEmptyWrongFalsely : Prop := walEmptyRow.holds Tryz.pinned (OpenSpec.ofChange walEmptyWrong)

/- THE SECOND FORM. 'bulk': how many values and letters a reading holds, each counted each time it is reached (what is shared counts as often as it is met; a slice's spare places count too). A statement '..UptoSaid' is the law's where the arguments, and the package variables that the reading takes, are together of bulk at most 1048576: NARROWER than '..Said'. Prove '..Said' where nothing that the law and all that it calls make is longer than what came in: it says more and counts as full. Else prove '..UptoSaid'. A law counts once. -/
mutual
def uptoBulk {H : Type} : DataW H → Nat
  | .lit (.string bytes) => bytes.length + 1
  | .lit _ => 1
  | .nil => 1
  | .ptr d => uptoBulk d + 1
  | .slice elems spare => uptoBulkAll elems + uptoBulkAll spare + 1
  | .agg parts => uptoBulkAll parts + 1
  | .iface _ d => uptoBulk d + 1
  | .map entries => uptoBulkEntries entries + 1
  | .held _ => 1
def uptoBulkAll {H : Type} : List (DataW H) → Nat
  | [] => 0
  | d :: r => uptoBulk d + uptoBulkAll r
def uptoBulkEntries {H : Type} : List (Lit × DataW H) → Nat
  | [] => 0
  | x :: r => uptoBulkEntry x + uptoBulkEntries r
def uptoBulkEntry {H : Type} : Lit × DataW H → Nat
  | (.string bytes, d) => bytes.length + uptoBulk d + 1
  | (_, d) => uptoBulk d + 1
 end
def uptoSmall : (H : Type) → List (DataW H) → Bool := fun _ ds => decide (uptoBulkAll ds ≤ 1048576)
def OpenSpec.upto (s : _root_.Go.ChangeSpec) : _root_.Go.OpenSpec := { _root_.Go.OpenSpec.ofChange s with cond := some uptoSmall }

/-- 'tillerlaw03.WalKeeps', WHERE WHAT IT READS IS OF BULK AT MOST 1048576: true; the input reads as it did. -/
def walKeepsUptoRow : OpenClaim := { program := "ytlcmnihpfpmajaagreat", sum := "d416e24cb9d6c15ad9e8826daa85a1e50e30719c21dc1aa305402bcfdf6be725", func := "tiller/tillerlaw03.WalKeeps", spec := "walKeeps", inPlace := ["internal/bytealg.MakeNoZero"], unfollowed := true, recurses := true, apart := false, narrowed := true }
def WalKeepsUptoSaid : Prop := walKeepsUptoRow.holds Tryz.pinned (OpenSpec.upto walKeepsSpec)

/-- 'tillerlaw03.WalResumes', WHERE WHAT IT READS IS OF BULK AT MOST 1048576: true; the input reads as it did. -/
def walResumesUptoRow : OpenClaim := { program := "ytlcmnihpfpmajaagreat", sum := "d416e24cb9d6c15ad9e8826daa85a1e50e30719c21dc1aa305402bcfdf6be725", func := "tiller/tillerlaw03.WalResumes", spec := "walResumes", inPlace := ["internal/bytealg.MakeNoZero"], unfollowed := true, recurses := true, apart := false, narrowed := true }
def WalResumesUptoSaid : Prop := walResumesUptoRow.holds Tryz.pinned (OpenSpec.upto walResumesSpec)

/-- 'tillerlaw03.WalBeside', WHERE WHAT IT READS IS OF BULK AT MOST 1048576: true; the input reads as it did. -/
def walBesideUptoRow : OpenClaim := { program := "ytlcmnihpfpmajaagreat", sum := "d416e24cb9d6c15ad9e8826daa85a1e50e30719c21dc1aa305402bcfdf6be725", func := "tiller/tillerlaw03.WalBeside", spec := "walBeside", inPlace := ["internal/bytealg.MakeNoZero"], unfollowed := true, recurses := true, apart := false, narrowed := true }
def WalBesideUptoSaid : Prop := walBesideUptoRow.holds Tryz.pinned (OpenSpec.upto walBesideSpec)

/-- 'tillerlaw03.WalReads', WHERE WHAT IT READS IS OF BULK AT MOST 1048576: true; the input reads as it did. -/
def walReadsUptoRow : OpenClaim := { program := "ytlcmnihpfpmajaagreat", sum := "d416e24cb9d6c15ad9e8826daa85a1e50e30719c21dc1aa305402bcfdf6be725", func := "tiller/tillerlaw03.WalReads", spec := "walReads", inPlace := ["internal/bytealg.MakeNoZero"], unfollowed := true, recurses := true, apart := false, narrowed := true }
def WalReadsUptoSaid : Prop := walReadsUptoRow.holds Tryz.pinned (OpenSpec.upto walReadsSpec)

/-- 'tillerlaw03.WalGreat', WHERE WHAT IT READS IS OF BULK AT MOST 1048576: true; the input reads as it did. -/
def walGreatUptoRow : OpenClaim := { program := "ytlcmnihpfpmajaagreat", sum := "d416e24cb9d6c15ad9e8826daa85a1e50e30719c21dc1aa305402bcfdf6be725", func := "tiller/tillerlaw03.WalGreat", spec := "walGreat", inPlace := ["internal/bytealg.MakeNoZero"], unfollowed := true, recurses := true, apart := false, narrowed := true }
def WalGreatUptoSaid : Prop := walGreatUptoRow.holds Tryz.pinned (OpenSpec.upto walGreatSpec)

/-- 'tillerlaw03.WalTorn', WHERE WHAT IT READS IS OF BULK AT MOST 1048576: true; the input reads as it did. -/
def walTornUptoRow : OpenClaim := { program := "ytlcmnihpfpmajaagreat", sum := "d416e24cb9d6c15ad9e8826daa85a1e50e30719c21dc1aa305402bcfdf6be725", func := "tiller/tillerlaw03.WalTorn", spec := "walTorn", inPlace := ["internal/bytealg.MakeNoZero"], unfollowed := true, recurses := true, apart := false, narrowed := true }
def WalTornUptoSaid : Prop := walTornUptoRow.holds Tryz.pinned (OpenSpec.upto walTornSpec)

/-- 'tillerlaw03.WalFront', WHERE WHAT IT READS IS OF BULK AT MOST 1048576: true; the input reads as it did. -/
def walFrontUptoRow : OpenClaim := { program := "ytlcmnihpfpmajaagreat", sum := "d416e24cb9d6c15ad9e8826daa85a1e50e30719c21dc1aa305402bcfdf6be725", func := "tiller/tillerlaw03.WalFront", spec := "walFront", inPlace := ["internal/bytealg.MakeNoZero"], unfollowed := true, recurses := true, apart := false, narrowed := true }
def WalFrontUptoSaid : Prop := walFrontUptoRow.holds Tryz.pinned (OpenSpec.upto walFrontSpec)

/-- 'tillerlaw03.WalEmpty', WHERE WHAT IT READS IS OF BULK AT MOST 1048576: true; the input reads as it did. -/
def walEmptyUptoRow : OpenClaim := { program := "ytlcmnihpfpmajaagreat", sum := "d416e24cb9d6c15ad9e8826daa85a1e50e30719c21dc1aa305402bcfdf6be725", func := "tiller/tillerlaw03.WalEmpty", spec := "walEmpty", inPlace := ["internal/bytealg.MakeNoZero"], unfollowed := true, recurses := true, apart := false, narrowed := true }
def WalEmptyUptoSaid : Prop := walEmptyUptoRow.holds Tryz.pinned (OpenSpec.upto walEmptySpec)

end Rows
end Go.Proofs.YtlcmnihpfpmajaaGreat
