/- How slices of bytes, of bools and a Torn lie that are handed in. -/
import Derived.Test.YtlcmnihpfpmajaaGreatZa50
import Derived.Test.YtlcmnihpfpmajaaGreatPgkZ
namespace Go.Proofs.YtlcmnihpfpmajaaGreat
open Go.ChangeShapes Go.WideShapes Go.ChangeAt Go.RowKit Go.Deep
/-- a slice of bytes that is handed in -/
structure BsX (w : World) where
  x : BsD
  bs : Bs w x.A x.m x.c x.xs
  lt : ∀ a, x.A = some a → 0 < x.m → a.block < w.heap.size
theorem open_bsx {H : Type} {enc : TypeId × Value → H} {w : World} {base : Nat} {held : Bool} (n : Nat) (cs : List Value) (y : DataW H × List MemPlace) (h : DataW.trod enc Tryz.prog w base (fun _ => true) held n 26 cs = some y) :
    ∃ x : BsX w, cs = x.x.cells ∧ 0 ≤ Rows.uptoBulk y.1 := by
  obtain ⟨a3, l3, p3, z3, e3, s3, _⟩ := open_row Tryz.underlying26 Tryz.underlying5 (by kernel_rfl) h
  exact ⟨⟨⟨a3, l3, p3, _⟩, s3.bs.1, s3.bs.2⟩, e3, Nat.zero_le _⟩
theorem open_bss {H : Type} {enc : TypeId × Value → H} {w : World} {base : Nat} {held : Bool} {fuel : Nat} {cs : List Value} {x : DataW H × List MemPlace} (h : DataW.trod enc Tryz.prog w base (fun _ => true) held fuel 33 cs = some x) :
    ∃ (A : Option Addr) (n c : Nat) (l : List BsD), cs = [.slice A n c] ∧ BssAt w A n c l := by
  obtain ⟨A, n, c, l, e, hv, hlt, _, _⟩ := open_recs (sz := 1) (fun x : BsX w => x.x.cells) (fun _ => 0) Tryz.underlying33 (by kernel_rfl) (by decide) (fun _ => rfl) open_bsx h
  refine ⟨A, n, c, l.map (·.x), e, ⟨?_, hlt, fun o ho => ?_⟩⟩
  · rw [List.flatMap_map]
    exact hv
  · obtain ⟨x, _, rfl⟩ := List.mem_map.1 ho
    exact ⟨x.bs, x.lt⟩
theorem open_blx {H : Type} {enc : TypeId × Value → H} {w : World} {base : Nat} {held : Bool} (n : Nat) (cs : List Value) (y : DataW H × List MemPlace) (h : DataW.trod enc Tryz.prog w base (fun _ => true) held n 4 cs = some y) :
    ∃ b : Bool, cs = [.bool b] ∧ 0 ≤ Rows.uptoBulk y.1 := by
  obtain ⟨b, e, _⟩ := DataW.trod_bool Tryz.underlying4 h
  exact ⟨b, e, Nat.zero_le _⟩
theorem open_bls {H : Type} {enc : TypeId × Value → H} {w : World} {base : Nat} {held : Bool} {fuel : Nat} {cs : List Value} {x : DataW H × List MemPlace} (h : DataW.trod enc Tryz.prog w base (fun _ => true) held fuel 69 cs = some x) :
    ∃ (A : Option Addr) (n c : Nat) (l : List Bool), cs = [.slice A n c] ∧ BoolsAt w A n c l := by
  obtain ⟨A, n, c, l, e, hv, _, _, _⟩ := open_recs (sz := 1) (fun b : Bool => [.bool b]) (fun _ => 0) Tryz.underlying69 (by kernel_rfl) (by decide) (fun _ => rfl) open_blx h
  exact ⟨A, n, c, l, e, ⟨hv⟩⟩
/-- a Torn that is handed in -/
structure TornAt (w : World) (v : Value) : Prop where
  is : ∃ (RA : Option Addr) (rn rc : Nat) (recs : List BsD) (x : BsD) (st : Int) (CA : Option Addr) (cn cc : Nat) (cuts : List Int), v = .agg #[.slice RA rn rc, .slice x.A x.m x.c, .int .i64 st, .slice CA cn cc] ∧ BssAt w RA rn rc recs ∧ Bs w x.A x.m x.c x.xs ∧ (∀ a, x.A = some a → 0 < x.m → a.block < w.heap.size) ∧
    IsInts w CA cn cc cuts ∧ (∀ x ∈ cuts, -9223372036854775808 ≤ x ∧ x ≤ 9223372036854775807) ∧ ∀ a, CA = some a → 0 < cn → a.block < w.heap.size
end Go.Proofs.YtlcmnihpfpmajaaGreat
