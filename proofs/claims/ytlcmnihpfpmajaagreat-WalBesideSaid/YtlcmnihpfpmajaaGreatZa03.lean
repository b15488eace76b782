/- The wal claims' texts, several in one: Spec. Conditions stand with each theorem. -/
import Derived.Test.YtlcmnihpfpmajaaGreatZa01
/- The plain law of a disk: what its calls do, on lists. No program is in sight here. -/
namespace Go.Proofs.YtlcmnihpfpmajaaGreat

/-- A file: its number, its bytes, how many of them are kept. -/
structure Fl where
  n : Int
  raw : List UInt8
  kept : Nat
/-- A disk: its files, rising; how many operations there were; the faults that wait (at, kind); whether and where it stops. -/
structure Dk where
  fs : List Fl
  ops : Nat
  faults : List (Int × Int)
  stopped : Bool
  stop : Int
namespace Dk
def new : Dk := ⟨[], 0, [], false, 0⟩
def later (d : Dk) (after : Int) : Int := if 9223372036854775807 - (d.ops : Int) < max after 0 then -1 else d.ops + max after 0
def fail (d : Dk) (after kind : Int) : Dk := { d with faults := d.faults ++ [(d.later after, kind)] }
def halt (d : Dk) (after : Int) : Dk := { d with stopped := decide (d.later after ≠ -1), stop := d.later after }
def hit (d : Dk) : Option (Int × Int) := d.faults.find? fun f => decide (f.1 = (d.ops : Int))
def next (d : Dk) : Dk := { d with ops := d.ops + 1, faults := d.faults.filter fun f => decide (f.1 ≠ (d.ops : Int)) }
def dead (d : Dk) : Bool := d.stopped && decide (d.stop ≤ (d.ops : Int))
/-- why an operation on a file is refused (0: it is not) -/
def why (d : Dk) (file : Int) : Int := if d.dead then 4 else if d.hit.isSome then 3 else if file < 0 then 1 else 0
def kind (d : Dk) : Int := if d.dead then 0 else match d.hit with | some f => f.2 | none => 0
end Dk
def Fl.at_ (fs : List Fl) (n : Int) : Option Fl := fs.find? fun f => decide (f.n = n)
/-- a file's number stands among them -/
def Fl.has (fs : List Fl) (n : Int) : Prop := ∃ f ∈ fs, f.n = n
def Fl.ins (n : Int) (b : List UInt8) : List Fl → List Fl
  | [] => [⟨n, b, 0⟩]
  | f :: r => if n < f.n then ⟨n, b, 0⟩ :: f :: r else if f.n = n then ⟨n, f.raw ++ b, f.kept⟩ :: r else f :: Fl.ins n b r
def Fl.add (n : Int) (b : List UInt8) (fs : List Fl) : List Fl := if b = [] then fs else Fl.ins n b fs
def Fl.ways (f : Fl) (cut : Int) : Nat := (cut % (2 * ((f.raw.length : Int) - f.kept) + 1)).toNat
/-- what a crash leaves of a file -/
def Fl.lose (f : Fl) (cut : Int) : Fl :=
  let k := f.ways cut
  let m := f.kept + (k + 1) / 2
  ⟨f.n, if k % 2 = 0 ∧ 0 < k then (f.raw.take m).set (m - 1) (255 - f.raw.getD (m - 1) 0) else f.raw.take m, m⟩
def Fl.crash : List Fl → List Int → List Fl
  | [], _ => []
  | f :: r, cuts => if (f.lose (cuts.headD 0)).kept = 0 then Fl.crash r cuts.tail else f.lose (cuts.headD 0) :: Fl.crash r cuts.tail
def Fl.sync (n : Int) (fs : List Fl) : List Fl := fs.map fun f => if f.n = n then ⟨f.n, f.raw, f.raw.length⟩ else f
namespace Dk
def append (d : Dk) (file : Int) (b : List UInt8) : Dk :=
  if d.why file = 0 then { d.next with fs := Fl.add file b d.fs }
  else if d.why file = 3 ∧ d.kind = 2 ∧ 0 ≤ file then { d.next with fs := Fl.add file (b.take (b.length / 2)) d.fs }
  else d.next
def sync (d : Dk) (file : Int) : Dk := if d.why file = 0 then { d.next with fs := Fl.sync file d.fs } else d.next
def delete (d : Dk) (file : Int) : Dk := if d.why file = 0 then { d.next with fs := d.fs.filter fun f => decide (f.n ≠ file) } else d.next
def crash (d : Dk) (cuts : List Int) : Dk := { d with fs := Fl.crash d.fs cuts, faults := [], stopped := false }
def read (d : Dk) (file : Int) : List UInt8 := match Fl.at_ d.fs file with | some f => f.raw | none => []
def kept (d : Dk) (file : Int) : Nat := match Fl.at_ d.fs file with | some f => f.kept | none => 0
end Dk
end Go.Proofs.YtlcmnihpfpmajaaGreat
