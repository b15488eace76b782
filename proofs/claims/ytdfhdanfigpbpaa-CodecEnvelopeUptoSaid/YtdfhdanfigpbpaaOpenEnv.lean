/- How an envelope that is handed in lies: its eleven cells, and what is told of them. -/
import Derived.Test.YtdfhdanfigpbpaaFrame
import Derived.Lib.SmallJoins
namespace Go.Proofs.Ytdfhdanfigpbpaa
open Go.ChangeShapes Go.WideShapes Go.ChangeAt Go.RowKit

set_option maxRecDepth 100000 in
theorem open_env {H : Type} {enc : TypeId × Value → H} {w : World} {b0 base : Nat} {spare : Nat → Bool} {held : Bool} {v : Value} {d : DataW H} {p : List MemPlace}
    (hv : Value.okWide Try.prog w .any b0 59 v) (h : DataW.Trod enc Try.prog w base spare held 59 v d p) :
    ∃ (k f t q mk st : Int) (to fr node name tx : ByteArray), v = .agg #[.int .i64 k, .int .i64 f, .int .i64 t, .int .i64 q, .int .i64 mk, .string to, .string fr, .string node, .string name, .string tx, .int .i64 st] ∧ p = [] ∧
      d = .agg [.lit (.int .i64 k), .lit (.int .i64 f), .lit (.int .i64 t), .lit (.int .i64 q), .agg [.lit (.int .i64 mk), .lit (.string to.data.toList), .lit (.string fr.data.toList), .lit (.string node.data.toList), .lit (.string name.data.toList), .lit (.string tx.data.toList), .lit (.int .i64 st)]] := by
  obtain ⟨cs, rfl, hsz⟩ := okWide_struct Try.underlying59 hv
  have hsz' : cs.size = 11 := hsz.trans (by kernel_rfl)
  obtain ⟨l⟩ := cs
  match l, hsz' with
  | [c0, c1, c2, c3, c4, c5, c6, c7, c8, c9, c10], _ =>
  obtain ⟨fuel, hf⟩ := h
  obtain ⟨xs, n, _, hx, _, hlen, hf⟩ := DataW.trod_struct Try.underlying59 hf
  match xs, hlen with
  | [y0, y1, y2, y3, y4], _ =>
  have g0 := hf 0 _ rfl
  have g1 := hf 1 _ rfl
  have g2 := hf 2 _ rfl
  have g3 := hf 3 _ rfl
  have g4 := hf 4 _ rfl
  have hi : Try.prog.cellsOf 3 = 1 := by kernel_rfl
  have hs : Try.prog.cellsOf 9 = 1 := by kernel_rfl
  have hm : Try.prog.cellsOf 57 = 7 := by kernel_rfl
  simp [hi, hm, Value.cells] at g0 g1 g2 g3 g4
  obtain ⟨xm, nm, _, hxm, _, hlenm, hfm⟩ := DataW.trod_struct Try.underlying57 g4
  match xm, hlenm with
  | [z0, z1, z2, z3, z4, z5, z6], _ =>
  have e0 := hfm 0 _ rfl
  have e1 := hfm 1 _ rfl
  have e2 := hfm 2 _ rfl
  have e3 := hfm 3 _ rfl
  have e4 := hfm 4 _ rfl
  have e5 := hfm 5 _ rfl
  have e6 := hfm 6 _ rfl
  simp [hi, hs] at e0 e1 e2 e3 e4 e5 e6
  obtain ⟨k, a0, rfl, _⟩ := DataW.trod_int Try.underlying3 g0
  obtain ⟨f, a1, rfl, _⟩ := DataW.trod_int Try.underlying3 g1
  obtain ⟨t, a2, rfl, _⟩ := DataW.trod_int Try.underlying3 g2
  obtain ⟨q, a3, rfl, _⟩ := DataW.trod_int Try.underlying3 g3
  obtain ⟨mk, a4, rfl, _⟩ := DataW.trod_int Try.underlying3 e0
  obtain ⟨to, a5, rfl, _⟩ := DataW.trod_string Try.underlying9 e1
  obtain ⟨fr, a6, rfl, _⟩ := DataW.trod_string Try.underlying9 e2
  obtain ⟨node, a7, rfl, _⟩ := DataW.trod_string Try.underlying9 e3
  obtain ⟨name, a8, rfl, _⟩ := DataW.trod_string Try.underlying9 e4
  obtain ⟨tx, a9, rfl, _⟩ := DataW.trod_string Try.underlying9 e5
  obtain ⟨st, a10, rfl, _⟩ := DataW.trod_int Try.underlying3 e6
  simp at a0 a1 a2 a3 a4 a5 a6 a7 a8 a9 a10
  subst a0 a1 a2 a3 a4 a5 a6 a7 a8 a9 a10
  subst hxm
  simp only [Prod.mk.injEq] at hx
  exact ⟨k, f, t, q, mk, st, to, fr, node, name, tx, rfl, by rw [hx.2]; rfl, by rw [hx.1]; rfl⟩
end Go.Proofs.Ytdfhdanfigpbpaa
