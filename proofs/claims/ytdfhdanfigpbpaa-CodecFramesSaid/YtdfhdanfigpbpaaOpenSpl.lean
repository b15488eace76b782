/- How a slice of slices of bytes that is handed in lies. -/
import Derived.Test.YtdfhdanfigpbpaaLawSpl
import Derived.Test.YtdfhdanfigpbpaaOpenOps
namespace Go.Proofs.Ytdfhdanfigpbpaa
open Go.ChangeShapes Go.WideShapes Go.ChangeAt Go.RowKit Go.Deep

/-- a slice of bytes that can be read -/
structure Bsl (w : World) where
  A : Option Addr
  n : Nat
  c : Nat
  p : List UInt8
  bs : Bs w A n c p
def Bsl.v {w : World} (x : Bsl w) : Value := .slice x.A x.n x.c
theorem Bsl.all {w : World} (l : List (Bsl w)) : Bss w (l.flatMap fun x => [x.v]) (l.map (·.p)) := by
  have e : (l.flatMap fun x => [x.v]) = l.map Bsl.v := by induction l with
    | nil => rfl
    | cons x l ih => rw [List.flatMap_cons, ih]; rfl
  rw [e]
  refine ⟨by simp, fun i v hv => ?_⟩
  rw [List.getElem?_map] at hv
  obtain ⟨x, hx, rfl⟩ := Option.map_eq_some_iff.1 hv
  exact ⟨x.A, x.n, x.c, x.p, rfl, by rw [List.getElem?_map, hx]; rfl, x.bs⟩
theorem open_bytes {H : Type} {enc : TypeId × Value → H} {w : World} {base : Nat} {held : Bool} (n : Nat) (cs : List Value) (y : DataW H × List MemPlace) (h : DataW.trod enc Try.prog w base (fun _ => true) held n 24 cs = some y) :
    ∃ x : Bsl w, cs = [x.v] ∧ 0 ≤ Rows.uptoBulk y.1 := by
  rcases open_ints Try.underlying24 Try.underlying5 (by kernel_rfl) h with ⟨hcs, _⟩ | ⟨x, l, c, zs, hcs, _, hl, hm, hz, _, hcell, hwz⟩
  · exact ⟨⟨none, 0, 0, [], (show IsRow .u8 w none 0 0 [] from .inl ⟨rfl, rfl, rfl, rfl⟩).bs.1⟩, hcs, Nat.zero_le _⟩
  · exact ⟨⟨_, _, _, _, (show IsRow .u8 w (some x) l c zs from .inr ⟨_, rfl, hl, hm, by simpa using hz, hcell, hwz⟩).bs.1⟩, hcs, Nat.zero_le _⟩
theorem open_bss {H : Type} {enc : TypeId × Value → H} {w : World} {base : Nat} {held : Bool} {fuel : Nat} {cs : List Value} {x : DataW H × List MemPlace} (h : DataW.trod enc Try.prog w base (fun _ => true) held fuel 76 cs = some x) :
    ∃ (A : Option Addr) (n c : Nat) (vs : List Value) (ps : List (List UInt8)), cs = [.slice A n c] ∧ Vs w 1 A n c vs ∧ Bss w vs ps := by
  obtain ⟨A, n, c, l, e, hv, _⟩ := open_recs (fun x : Bsl w => [x.v]) (fun _ => 0) Try.underlying76 (by kernel_rfl) (by decide) (fun _ => rfl) open_bytes h
  exact ⟨A, n, c, _, _, e, hv, Bsl.all l⟩
end Go.Proofs.Ytdfhdanfigpbpaa
