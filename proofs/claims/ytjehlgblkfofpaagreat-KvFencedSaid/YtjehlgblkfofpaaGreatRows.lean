/-
  No cell of these rows narrows 'for every input' (looked for: loops, veiled, ifaces, maps, wideKeys, modest, calm, conditions, laid).
  DERIVED. THE GIVEN ROWS OF THIS SEAT. 8 by the template 'for every input the law returns true; each argument reads behind the call as it read before'; 0 by the template 'total and deterministic' (their statements: YtjehlgblkfofpaaGreatTotals.lean).
  GIVEN WITH THE SEED: the statements are not yours to turn. If you find one false, say at which input.
  Laid BY PROGRAM, IN A SANDBOX (cutbox-rows.mjs): the forced cells as the released guide's own fill.sh prints them over the translation 05d4b643b4539f14… (all of the seat's roots in one cut). By AI agents, Wed Nov 11 2026. No macro, syntax, notation, axiom, sorry.
-/
import Derived.Test.YtjehlgblkfofpaaGreatChecked
import GoSem.Claim
import GoSem.ClaimJoined
import GoSem.ClaimMapViews
import Derived.JoinedTies
import Derived.KernelRfl
namespace Go.Proofs.YtjehlgblkfofpaaGreat
/- THE CELL 'sum', in the pinned program and in every row, IS THE sha256 OF THE DUMP (.gsa) THAT YtjehlgblkfofpaaGreatProg.lean LOADS. Nothing in Lean hashes anything: it is a label: what it is worth is what the hold of that sum in a sandbox is worth. -/
noncomputable def Tryz.pinned : Pinned := { name := "ytjehlgblkfofpaagreat", sum := "05d4b643b4539f14d09a10ac5fd8be9c482c39a26ac82073cbba9ae2aa6f46be", checked := Tryz.checked }
namespace Rows
def none {H : Type} : Left H := { results := [], args := [] }

/-- 'tillerlaw04.KvAtomic': WHATEVER THE INPUT: true; the input reads as it did. -/
def kvAtomicSpec : ChangeSpec := { name := "kvAtomic", fn := fun _ => fun
  | [d] => { results := [.lit (.bool true)], args := [d] }
  | _ => none }
def kvAtomicRow : OpenClaim := { program := "ytjehlgblkfofpaagreat", sum := "05d4b643b4539f14d09a10ac5fd8be9c482c39a26ac82073cbba9ae2aa6f46be", func := "tiller/tillerlaw04.KvAtomic", spec := "kvAtomic", inPlace := ["slices.overlaps[string]", "internal/bytealg.MakeNoZero"], unfollowed := true, recurses := true, apart := false }
def KvAtomicSaid : Prop := kvAtomicRow.holds Tryz.pinned (OpenSpec.ofChange kvAtomicSpec)

/-- ITS FALSE NEIGHBOUR: 'it returns false'. Refute it at one input. -/
def kvAtomicWrong : ChangeSpec := { name := "kvAtomic", fn := fun _ => fun
  | [d] => { results := [.lit (.bool false)], args := [d] }
  | _ => none }
def KvAtomicWrongFalsely : Prop := kvAtomicRow.holds Tryz.pinned (OpenSpec.ofChange kvAtomicWrong)

/-- 'tillerlaw04.KvSame': WHATEVER THE INPUT: true; the input reads as it did. -/
def kvSameSpec : ChangeSpec := { name := "kvSame", fn := fun _ => fun
  | [d1, d2] => { results := [.lit (.bool true)], args := [d1, d2] }
  | _ => none }
def kvSameRow : OpenClaim := { program := "ytjehlgblkfofpaagreat", sum := "05d4b643b4539f14d09a10ac5fd8be9c482c39a26ac82073cbba9ae2aa6f46be", func := "tiller/tillerlaw04.KvSame", spec := "kvSame", inPlace := ["slices.overlaps[string]", "internal/bytealg.MakeNoZero"], unfollowed := true, recurses := true, apart := false }
def KvSameSaid : Prop := kvSameRow.holds Tryz.pinned (OpenSpec.ofChange kvSameSpec)

/-- ITS FALSE NEIGHBOUR: 'it returns false'. Refute it at one input. -/
def kvSameWrong : ChangeSpec := { name := "kvSame", fn := fun _ => fun
  | [d1, d2] => { results := [.lit (.bool false)], args := [d1, d2] }
  | _ => none }
def KvSameWrongFalsely : Prop := kvSameRow.holds Tryz.pinned (OpenSpec.ofChange kvSameWrong)

/-- 'tillerlaw04.KvFinds': WHATEVER THE INPUT: true; the input reads as it did. -/
def kvFindsSpec : ChangeSpec := { name := "kvFinds", fn := fun _ => fun
  | [d] => { results := [.lit (.bool true)], args := [d] }
  | _ => none }
def kvFindsRow : OpenClaim := { program := "ytjehlgblkfofpaagreat", sum := "05d4b643b4539f14d09a10ac5fd8be9c482c39a26ac82073cbba9ae2aa6f46be", func := "tiller/tillerlaw04.KvFinds", spec := "kvFinds", inPlace := ["slices.overlaps[string]", "internal/bytealg.MakeNoZero"], unfollowed := true, recurses := true, apart := false }
def KvFindsSaid : Prop := kvFindsRow.holds Tryz.pinned (OpenSpec.ofChange kvFindsSpec)

/-- ITS FALSE NEIGHBOUR: 'it returns false'. Refute it at one input. -/
def kvFindsWrong : ChangeSpec := { name := "kvFinds", fn := fun _ => fun
  | [d] => { results := [.lit (.bool false)], args := [d] }
  | _ => none }
def KvFindsWrongFalsely : Prop := kvFindsRow.holds Tryz.pinned (OpenSpec.ofChange kvFindsWrong)

/-- 'tillerlaw04.KvExact': WHATEVER THE INPUT: true; the input reads as it did. -/
def kvExactSpec : ChangeSpec := { name := "kvExact", fn := fun _ => fun
  | [d] => { results := [.lit (.bool true)], args := [d] }
  | _ => none }
def kvExactRow : OpenClaim := { program := "ytjehlgblkfofpaagreat", sum := "05d4b643b4539f14d09a10ac5fd8be9c482c39a26ac82073cbba9ae2aa6f46be", func := "tiller/tillerlaw04.KvExact", spec := "kvExact", inPlace := ["slices.overlaps[string]", "internal/bytealg.MakeNoZero"], unfollowed := true, recurses := true, apart := false }
def KvExactSaid : Prop := kvExactRow.holds Tryz.pinned (OpenSpec.ofChange kvExactSpec)

/-- ITS FALSE NEIGHBOUR: 'it returns false'. Refute it at one input. -/
def kvExactWrong : ChangeSpec := { name := "kvExact", fn := fun _ => fun
  | [d] => { results := [.lit (.bool false)], args := [d] }
  | _ => none }
def KvExactWrongFalsely : Prop := kvExactRow.holds Tryz.pinned (OpenSpec.ofChange kvExactWrong)

/-- 'tillerlaw04.KvSurvives': WHATEVER THE INPUT: true; the input reads as it did. -/
def kvSurvivesSpec : ChangeSpec := { name := "kvSurvives", fn := fun _ => fun
  | [d] => { results := [.lit (.bool true)], args := [d] }
  | _ => none }
def kvSurvivesRow : OpenClaim := { program := "ytjehlgblkfofpaagreat", sum := "05d4b643b4539f14d09a10ac5fd8be9c482c39a26ac82073cbba9ae2aa6f46be", func := "tiller/tillerlaw04.KvSurvives", spec := "kvSurvives", inPlace := ["slices.overlaps[string]", "internal/bytealg.MakeNoZero"], unfollowed := true, recurses := true, apart := false }
def KvSurvivesSaid : Prop := kvSurvivesRow.holds Tryz.pinned (OpenSpec.ofChange kvSurvivesSpec)

/-- ITS FALSE NEIGHBOUR: 'it returns false'. Refute it at one input. -/
def kvSurvivesWrong : ChangeSpec := { name := "kvSurvives", fn := fun _ => fun
  | [d] => { results := [.lit (.bool false)], args := [d] }
  | _ => none }
def KvSurvivesWrongFalsely : Prop := kvSurvivesRow.holds Tryz.pinned (OpenSpec.ofChange kvSurvivesWrong)

/-- 'tillerlaw04.KvFenced': WHATEVER THE INPUT: true; the input reads as it did. -/
def kvFencedSpec : ChangeSpec := { name := "kvFenced", fn := fun _ => fun
  | [d1, d2, d3] => { results := [.lit (.bool true)], args := [d1, d2, d3] }
  | _ => none }
def kvFencedRow : OpenClaim := { program := "ytjehlgblkfofpaagreat", sum := "05d4b643b4539f14d09a10ac5fd8be9c482c39a26ac82073cbba9ae2aa6f46be", func := "tiller/tillerlaw04.KvFenced", spec := "kvFenced", inPlace := ["slices.overlaps[string]", "internal/bytealg.MakeNoZero"], unfollowed := true, recurses := true, apart := false }
def KvFencedSaid : Prop := kvFencedRow.holds Tryz.pinned (OpenSpec.ofChange kvFencedSpec)

/-- ITS FALSE NEIGHBOUR: 'it returns false'. Refute it at one input. -/
def kvFencedWrong : ChangeSpec := { name := "kvFenced", fn := fun _ => fun
  | [d1, d2, d3] => { results := [.lit (.bool false)], args := [d1, d2, d3] }
  | _ => none }
def KvFencedWrongFalsely : Prop := kvFencedRow.holds Tryz.pinned (OpenSpec.ofChange kvFencedWrong)

/-- 'tillerlaw04.KvLong': WHATEVER THE INPUT: true; the input reads as it did. -/
def kvLongSpec : ChangeSpec := { name := "kvLong", fn := fun _ => fun
  | [d1, d2, d3] => { results := [.lit (.bool true)], args := [d1, d2, d3] }
  | _ => none }
def kvLongRow : OpenClaim := { program := "ytjehlgblkfofpaagreat", sum := "05d4b643b4539f14d09a10ac5fd8be9c482c39a26ac82073cbba9ae2aa6f46be", func := "tiller/tillerlaw04.KvLong", spec := "kvLong", inPlace := ["slices.overlaps[string]", "internal/bytealg.MakeNoZero"], unfollowed := true, recurses := true, apart := false }
def KvLongSaid : Prop := kvLongRow.holds Tryz.pinned (OpenSpec.ofChange kvLongSpec)

/-- ITS FALSE NEIGHBOUR: 'it returns false'. Refute it at one input. -/
def kvLongWrong : ChangeSpec := { name := "kvLong", fn := fun _ => fun
  | [d1, d2, d3] => { results := [.lit (.bool false)], args := [d1, d2, d3] }
  | _ => none }
def KvLongWrongFalsely : Prop := kvLongRow.holds Tryz.pinned (OpenSpec.ofChange kvLongWrong)

/-- 'tillerlaw04.KvRaises': WHATEVER THE INPUT: true; the input reads as it did. -/
def kvRaisesSpec : ChangeSpec := { name := "kvRaises", fn := fun _ => fun
  | [d] => { results := [.lit (.bool true)], args := [d] }
  | _ => none }
def kvRaisesRow : OpenClaim := { program := "ytjehlgblkfofpaagreat", sum := "05d4b643b4539f14d09a10ac5fd8be9c482c39a26ac82073cbba9ae2aa6f46be", func := "tiller/tillerlaw04.KvRaises", spec := "kvRaises", inPlace := ["slices.overlaps[string]", "internal/bytealg.MakeNoZero"], unfollowed := true, recurses := true, apart := false }
def KvRaisesSaid : Prop := kvRaisesRow.holds Tryz.pinned (OpenSpec.ofChange kvRaisesSpec)

/-- ITS FALSE NEIGHBOUR: 'it returns false'. Refute it at one input. -/
def kvRaisesWrong : ChangeSpec := { name := "kvRaises", fn := fun _ => fun
  | [d] => { results := [.lit (.bool false)], args := [d] }
  | _ => none }
def KvRaisesWrongFalsely : Prop := kvRaisesRow.holds Tryz.pinned (OpenSpec.ofChange kvRaisesWrong)

/- THE SECOND FORM. 'bulk': how many values and letters a reading holds, each counted each time it is reached (what is shared counts as often as it is met; a slice's spare places count too). A statement '..UptoSaid' is the law's where the arguments, and the package variables that the reading takes, are together of bulk at most 1048576: NARROWER than '..Said'. Prove '..Said' where nothing that the law and all that it calls make is longer than what came in: it says more and counts as full. Else prove '..UptoSaid'. A law counts once. -/
mutual
def uptoBulk {H : Type} : DataW H → Nat
  | .lit (.string bytes) => bytes.length + 1
  | .lit _ => 1
  | .nil => 1
  | .ptr d => uptoBulk d + 1
  | .slice elems spare => uptoBulkAll elems + uptoBulkAll spare + 1
  | .agg parts => uptoBulkAll parts + 1
  | .iface _ d => uptoBulk d + 1
  | .map entries => uptoBulkEntries entries + 1
  | .held _ => 1
def uptoBulkAll {H : Type} : List (DataW H) → Nat
  | [] => 0
  | d :: r => uptoBulk d + uptoBulkAll r
def uptoBulkEntries {H : Type} : List (Lit × DataW H) → Nat
  | [] => 0
  | x :: r => uptoBulkEntry x + uptoBulkEntries r
def uptoBulkEntry {H : Type} : Lit × DataW H → Nat
  | (.string bytes, d) => bytes.length + uptoBulk d + 1
  | (_, d) => uptoBulk d + 1
 end
def uptoSmall : (H : Type) → List (DataW H) → Bool := fun _ ds => decide (uptoBulkAll ds ≤ 1048576)
def OpenSpec.upto (s : _root_.Go.ChangeSpec) : _root_.Go.OpenSpec := { _root_.Go.OpenSpec.ofChange s with cond := some uptoSmall }

/-- 'tillerlaw04.KvAtomic', WHERE WHAT IT READS IS OF BULK AT MOST 1048576: true; the input reads as it did. -/
def kvAtomicUptoRow : OpenClaim := { program := "ytjehlgblkfofpaagreat", sum := "05d4b643b4539f14d09a10ac5fd8be9c482c39a26ac82073cbba9ae2aa6f46be", func := "tiller/tillerlaw04.KvAtomic", spec := "kvAtomic", inPlace := ["slices.overlaps[string]", "internal/bytealg.MakeNoZero"], unfollowed := true, recurses := true, apart := false, narrowed := true }
def KvAtomicUptoSaid : Prop := kvAtomicUptoRow.holds Tryz.pinned (OpenSpec.upto kvAtomicSpec)

/-- 'tillerlaw04.KvSame', WHERE WHAT IT READS IS OF BULK AT MOST 1048576: true; the input reads as it did. -/
def kvSameUptoRow : OpenClaim := { program := "ytjehlgblkfofpaagreat", sum := "05d4b643b4539f14d09a10ac5fd8be9c482c39a26ac82073cbba9ae2aa6f46be", func := "tiller/tillerlaw04.KvSame", spec := "kvSame", inPlace := ["slices.overlaps[string]", "internal/bytealg.MakeNoZero"], unfollowed := true, recurses := true, apart := false, narrowed := true }
def KvSameUptoSaid : Prop := kvSameUptoRow.holds Tryz.pinned (OpenSpec.upto kvSameSpec)

/-- 'tillerlaw04.KvFinds', WHERE WHAT IT READS IS OF BULK AT MOST 1048576: true; the input reads as it did. -/
def kvFindsUptoRow : OpenClaim := { program := "ytjehlgblkfofpaagreat", sum := "05d4b643b4539f14d09a10ac5fd8be9c482c39a26ac82073cbba9ae2aa6f46be", func := "tiller/tillerlaw04.KvFinds", spec := "kvFinds", inPlace := ["slices.overlaps[string]", "internal/bytealg.MakeNoZero"], unfollowed := true, recurses := true, apart := false, narrowed := true }
def KvFindsUptoSaid : Prop := kvFindsUptoRow.holds Tryz.pinned (OpenSpec.upto kvFindsSpec)

/-- 'tillerlaw04.KvExact', WHERE WHAT IT READS IS OF BULK AT MOST 1048576: true; the input reads as it did. -/
def kvExactUptoRow : OpenClaim := { program := "ytjehlgblkfofpaagreat", sum := "05d4b643b4539f14d09a10ac5fd8be9c482c39a26ac82073cbba9ae2aa6f46be", func := "tiller/tillerlaw04.KvExact", spec := "kvExact", inPlace := ["slices.overlaps[string]", "internal/bytealg.MakeNoZero"], unfollowed := true, recurses := true, apart := false, narrowed := true }
def KvExactUptoSaid : Prop := kvExactUptoRow.holds Tryz.pinned (OpenSpec.upto kvExactSpec)

/-- 'tillerlaw04.KvSurvives', WHERE WHAT IT READS IS OF BULK AT MOST 1048576: true; the input reads as it did. -/
def kvSurvivesUptoRow : OpenClaim := { program := "ytjehlgblkfofpaagreat", sum := "05d4b643b4539f14d09a10ac5fd8be9c482c39a26ac82073cbba9ae2aa6f46be", func := "tiller/tillerlaw04.KvSurvives", spec := "kvSurvives", inPlace := ["slices.overlaps[string]", "internal/bytealg.MakeNoZero"], unfollowed := true, recurses := true, apart := false, narrowed := true }
def KvSurvivesUptoSaid : Prop := kvSurvivesUptoRow.holds Tryz.pinned (OpenSpec.upto kvSurvivesSpec)

/-- 'tillerlaw04.KvFenced', WHERE WHAT IT READS IS OF BULK AT MOST 1048576: true; the input reads as it did. -/
def kvFencedUptoRow : OpenClaim := { program := "ytjehlgblkfofpaagreat", sum := "05d4b643b4539f14d09a10ac5fd8be9c482c39a26ac82073cbba9ae2aa6f46be", func := "tiller/tillerlaw04.KvFenced", spec := "kvFenced", inPlace := ["slices.overlaps[string]", "internal/bytealg.MakeNoZero"], unfollowed := true, recurses := true, apart := false, narrowed := true }
def KvFencedUptoSaid : Prop := kvFencedUptoRow.holds Tryz.pinned (OpenSpec.upto kvFencedSpec)

/-- 'tillerlaw04.KvLong', WHERE WHAT IT READS IS OF BULK AT MOST 1048576: true; the input reads as it did. -/
def kvLongUptoRow : OpenClaim := { program := "ytjehlgblkfofpaagreat", sum := "05d4b643b4539f14d09a10ac5fd8be9c482c39a26ac82073cbba9ae2aa6f46be", func := "tiller/tillerlaw04.KvLong", spec := "kvLong", inPlace := ["slices.overlaps[string]", "internal/bytealg.MakeNoZero"], unfollowed := true, recurses := true, apart := false, narrowed := true }
def KvLongUptoSaid : Prop := kvLongUptoRow.holds Tryz.pinned (OpenSpec.upto kvLongSpec)

/-- 'tillerlaw04.KvRaises', WHERE WHAT IT READS IS OF BULK AT MOST 1048576: true; the input reads as it did. -/
def kvRaisesUptoRow : OpenClaim := { program := "ytjehlgblkfofpaagreat", sum := "05d4b643b4539f14d09a10ac5fd8be9c482c39a26ac82073cbba9ae2aa6f46be", func := "tiller/tillerlaw04.KvRaises", spec := "kvRaises", inPlace := ["slices.overlaps[string]", "internal/bytealg.MakeNoZero"], unfollowed := true, recurses := true, apart := false, narrowed := true }
def KvRaisesUptoSaid : Prop := kvRaisesUptoRow.holds Tryz.pinned (OpenSpec.upto kvRaisesSpec)

end Rows
end Go.Proofs.YtjehlgblkfofpaaGreat
