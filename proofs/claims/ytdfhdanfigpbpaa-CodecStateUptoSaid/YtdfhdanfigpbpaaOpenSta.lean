/- How a workflow's state that is handed in lies: its cells, its rows, and what is told of them (printed by gen_opensta.py). -/
import Derived.Test.YtdfhdanfigpbpaaOpenOps
import Derived.Test.YtdfhdanfigpbpaaStaW
namespace Go.Proofs.Ytdfhdanfigpbpaa
open Go.ChangeShapes Go.WideShapes Go.ChangeAt Go.RowKit Go.Deep

set_option maxRecDepth 100000 in
theorem open_nd {H : Type} {enc : TypeId × Value → H} {w : World} {base : Nat} {spare : Nat → Bool} {held : Bool} (n : Nat) (cs : List Value) (y : DataW H × List MemPlace) (h : DataW.trod enc Try.prog w base spare held n 127 cs = some y) :
    ∃ o : Dec.Nd, cs = ndV o ∧ o.x.length ≤ Rows.uptoBulk y.1 := by
  obtain ⟨xs, n', _, hx, hlen0, hlen, hf⟩ := DataW.trod_struct Try.underlying127 h
  have hlen1 : cs.length = 3 := hlen0.trans (by kernel_rfl)
  match cs, hlen1 with
  | [c0, c1, c2], _ =>
  match xs, hlen with
  | [y0, y1, y2], _ =>
  have g0 := hf 0 _ rfl
  have g1 := hf 1 _ rfl
  have g2 := hf 2 _ rfl
  have hs : Try.prog.cellsOf 9 = 1 := by kernel_rfl
  have hb : Try.prog.cellsOf 3 = 1 := by kernel_rfl
  simp [hs, hb] at g0 g1 g2
  obtain ⟨k, a0, rfl, _⟩ := DataW.trod_int Try.underlying3 g0
  obtain ⟨v, a1, rfl, _⟩ := DataW.trod_int Try.underlying3 g1
  obtain ⟨g, a2, rfl, _⟩ := DataW.trod_string Try.underlying9 g2
  simp at a0 a1 a2
  subst a0 a1 a2
  subst hx
  refine ⟨⟨k, v, g.data.toList⟩, rfl, ?_⟩
  simp [Rows.uptoBulk, Rows.uptoBulkAll]
  omega
set_option maxRecDepth 100000 in
theorem open_sg {H : Type} {enc : TypeId × Value → H} {w : World} {base : Nat} {spare : Nat → Bool} {held : Bool} (n : Nat) (cs : List Value) (y : DataW H × List MemPlace) (h : DataW.trod enc Try.prog w base spare held n 129 cs = some y) :
    ∃ o : Dec.Sg, cs = sgV o ∧ o.n.length + o.x.length ≤ Rows.uptoBulk y.1 := by
  obtain ⟨xs, n', _, hx, hlen0, hlen, hf⟩ := DataW.trod_struct Try.underlying129 h
  have hlen1 : cs.length = 2 := hlen0.trans (by kernel_rfl)
  match cs, hlen1 with
  | [c0, c1], _ =>
  match xs, hlen with
  | [y0, y1], _ =>
  have g0 := hf 0 _ rfl
  have g1 := hf 1 _ rfl
  have hs : Try.prog.cellsOf 9 = 1 := by kernel_rfl
  simp [hs] at g0 g1
  obtain ⟨k, a0, rfl, _⟩ := DataW.trod_string Try.underlying9 g0
  obtain ⟨v, a1, rfl, _⟩ := DataW.trod_string Try.underlying9 g1
  simp at a0 a1
  subst a0 a1
  subst hx
  refine ⟨⟨k.data.toList, v.data.toList⟩, rfl, ?_⟩
  simp [Rows.uptoBulk, Rows.uptoBulkAll]
  omega

set_option maxRecDepth 100000 in
theorem open_sta {H : Type} {enc : TypeId × Value → H} {w : World} {b0 base : Nat} {spare : Nat → Bool} {held : Bool} {v : Value} {d : DataW H} {p : List MemPlace}
    (hv : Value.okWide Try.prog w .any b0 67 v) (h : DataW.Trod enc Try.prog w base spare held 67 v d p) :
    ∃ (s : Dec.Sta) (A : Option Addr) (c : Nat) (B : Option Addr) (d' : Nat), v = .agg #[.string ⟨s.df.toArray⟩, .string ⟨s.id.toArray⟩, .string ⟨s.pa.toArray⟩, .string ⟨s.pn.toArray⟩, .int .i64 s.st, .string ⟨s.tx.toArray⟩, .slice A s.nd.length c, .slice B s.sg.length d', .int .i64 s.ev] ∧ StaAt w s A c B d' ∧ StaBlk s A B w.heap.size ∧ s.nd.length ≤ Rows.uptoBulk d ∧ s.sg.length ≤ Rows.uptoBulk d ∧ StaLe s (Rows.uptoBulk d) := by
  obtain ⟨cs, rfl, hsz⟩ := okWide_struct Try.underlying67 hv
  have hsz' : cs.size = 9 := hsz.trans (by kernel_rfl)
  obtain ⟨l⟩ := cs
  match l, hsz' with
  | [c0, c1, c2, c3, c4, c5, c6, c7, c8], _ =>
  obtain ⟨fuel, hf⟩ := h
  obtain ⟨xs, n, _, hx, _, hlen, hf⟩ := DataW.trod_struct Try.underlying67 hf
  match xs, hlen with
  | [y0, y1, y2, y3, y4, y5, y6, y7, y8], _ =>
  have g0 := hf 0 _ rfl
  have g1 := hf 1 _ rfl
  have g2 := hf 2 _ rfl
  have g3 := hf 3 _ rfl
  have g4 := hf 4 _ rfl
  have g5 := hf 5 _ rfl
  have g6 := hf 6 _ rfl
  have g7 := hf 7 _ rfl
  have g8 := hf 8 _ rfl
  have hi : Try.prog.cellsOf 3 = 1 := by kernel_rfl
  have hs : Try.prog.cellsOf 9 = 1 := by kernel_rfl
  have hn : Try.prog.cellsOf 64 = 1 := by kernel_rfl
  have hm : Try.prog.cellsOf 65 = 1 := by kernel_rfl
  simp [hi, hs, hn, hm, Value.cells] at g0 g1 g2 g3 g4 g5 g6 g7 g8
  obtain ⟨df, a0, rfl, _⟩ := DataW.trod_string Try.underlying9 g0
  obtain ⟨id, a1, rfl, _⟩ := DataW.trod_string Try.underlying9 g1
  obtain ⟨pa, a2, rfl, _⟩ := DataW.trod_string Try.underlying9 g2
  obtain ⟨pn, a3, rfl, _⟩ := DataW.trod_string Try.underlying9 g3
  obtain ⟨st, a4, rfl, _⟩ := DataW.trod_int Try.underlying3 g4
  obtain ⟨tx, a5, rfl, _⟩ := DataW.trod_string Try.underlying9 g5
  obtain ⟨A, n6, c, nd, a6, v6, b6, m6, l6⟩ := open_recs (sz := 3) ndV (fun o => o.x.length) Try.underlying64 (by kernel_rfl) (by decide) (fun _ => rfl) open_nd g6
  obtain ⟨B, n7, d', sg, a7, v7, b7, m7, l7⟩ := open_recs (sz := 2) sgV (fun o => o.n.length + o.x.length) Try.underlying65 (by kernel_rfl) (by decide) (fun _ => rfl) open_sg g7
  obtain ⟨ev, a8, rfl, _⟩ := DataW.trod_int Try.underlying3 g8
  simp at a0 a1 a2 a3 a4 a5 a6 a7 a8
  subst a0 a1 a2 a3 a4 a5 a6 a7 a8
  have e6 : nd.length = n6 := by have := v6.1; rw [flat_length ndV 3 (fun _ => rfl)] at this; omega
  have e7 : sg.length = n7 := by have := v7.1; rw [flat_length sgV 2 (fun _ => rfl)] at this; omega
  subst e6 e7
  simp only [Prod.mk.injEq] at hx
  have hd : Rows.uptoBulk d = df.data.toList.length + 1 + (id.data.toList.length + 1 + (pa.data.toList.length + 1 + (pn.data.toList.length + 1 + (1 + (tx.data.toList.length + 1 + (Rows.uptoBulk y6.1 + (Rows.uptoBulk y7.1 + (1 + 0)))))))) + 1 := by
    rw [hx.1]
    simp only [List.map_cons, List.map_nil, Rows.uptoBulk, Rows.uptoBulkAll]
  refine ⟨⟨df.data.toList, id.data.toList, pa.data.toList, pn.data.toList, st, tx.data.toList, nd, sg, ev⟩, A, c, B, d', rfl, ⟨v6, v7⟩, ⟨b6, b7⟩, ?_, ?_, ⟨?_, ?_, ?_, ?_, ?_, ?_, ?_⟩⟩
  · show nd.length ≤ _
    omega
  · show sg.length ≤ _
    omega
  · show df.data.toList.length ≤ _
    omega
  · show id.data.toList.length ≤ _
    omega
  · show pa.data.toList.length ≤ _
    omega
  · show pn.data.toList.length ≤ _
    omega
  · show tx.data.toList.length ≤ _
    omega
  · intro o ho
    have := l6 o ho
    omega
  · intro o ho
    have := l7 o ho
    omega
end Go.Proofs.Ytdfhdanfigpbpaa
