/- The wal claims' texts, several in one: Frame, OpenO. Conditions stand with each theorem. -/
import Derived.Test.YtlcmnihpfpmajaaGreatZa49
import Derived.Deep.Slices
import Derived.ProofKit
import Derived.OpenShut
import Derived.ShutString
import Derived.ChangeOld
import Derived.Below
/- Words for the frames of this seat's claims: a slice of bytes that came in can be read. No condition. -/
namespace Go.Proofs.YtlcmnihpfpmajaaGreat
open Go.ChangeShapes Go.WideShapes Go.ChangeAt Go.RowKit
open Go.ChangeMaps (open_string shut_string)

theorem own : ownKnob Tryz.prog.godebug = none := by kernel_rfl
theorem laidOut : laidOutB Tryz.prog = true := by kernel_rfl

/-- a slice of integers that came in -/
def IsRow (k : IntKind) (w : World) (a : Option Addr) (len cap : Nat) (zs : List Int) : Prop :=
  (a = none ∧ len = 0 ∧ cap = 0 ∧ zs = []) ∨
  ∃ x, a = some x ∧ len ≤ cap ∧ cap ≤ maxLen ∧ zs.length = cap ∧ (∀ i, i < zs.length → w.cell? (x.add i) = some (.int k (zs.getD i 0))) ∧ ∀ n ∈ zs, (Lit.int k n).wf = true

def toU8 (zs : List Int) : List UInt8 := zs.map fun n => UInt8.ofNat n.toNat
theorem IsRow.bs {w : World} {a : Option Addr} {len cap : Nat} {zs : List Int} (h : IsRow .u8 w a len cap zs) :
    Bs w a len cap (toU8 (zs.take len)) ∧ ∀ x, a = some x → 0 < len → x.block < w.heap.size := by
  rcases h with ⟨rfl, rfl, rfl, rfl⟩ | ⟨x, rfl, hl, hm, hz, hcell, hwf⟩
  · exact ⟨⟨rfl, Nat.le_refl _, by decide, fun h => by omega⟩, fun x hx => by cases hx⟩
  · have hlen : (toU8 (zs.take len)).length = len := by rw [toU8, List.length_map, List.length_take]; omega
    refine ⟨⟨hlen, hl, hm, fun h0 => ?_⟩, ?_⟩
    · obtain ⟨b, off, spot⟩ := x
      have hc := hcell 0 (by omega)
      have hspot : spot = none := by simpa [Addr.add] using World.cell?_spot hc
      subst hspot
      refine ⟨b, off, rfl, fun j y hy => ?_⟩
      have hj : j < len := by
        rcases Nat.lt_or_ge j len with h | h
        · exact h
        · rw [List.getElem?_eq_none (by omega)] at hy; cases hy
      have hcj := hcell j (by omega)
      rw [add_flat] at hcj
      rw [hcj]
      have hyz : y = UInt8.ofNat (zs.getD j 0).toNat := by
        rw [toU8, List.getElem?_map, List.getElem?_take, if_pos hj, List.getElem?_eq_getElem (by omega)] at hy
        simp only [Option.map_some, Option.some.injEq] at hy
        rw [← hy, List.getD_eq_getElem?_getD, List.getElem?_eq_getElem (by omega)]
        rfl
      have hin : zs.getD j 0 ∈ zs := by
        rw [List.getD_eq_getElem?_getD, List.getElem?_eq_getElem (by omega)]
        exact List.getElem_mem _
      have hw := hwf _ hin
      generalize zs.getD j 0 = z at *
      have hw2 : 0 ≤ z ∧ z < 256 := by
        simp [Lit.wf, IntKind.min, IntKind.max, IntKind.bits, IntKind.signed] at hw
        omega
      subst hyz
      congr 2
      simp only [UInt8.toNat_ofNat']
      omega
    · rintro y e h0
      injection e with e
      subst e
      have := block_lt_of_cell (hcell 0 (by omega))
      simpa [Addr.add] using this
theorem IsRow.ints {w : World} {a : Option Addr} {len cap : Nat} {zs : List Int} (h : IsRow .i64 w a len cap zs) :
    IsInts w a len cap (zs.take len) ∧ (∀ x ∈ zs.take len, -9223372036854775808 ≤ x ∧ x ≤ 9223372036854775807) ∧ ∀ x, a = some x → 0 < len → x.block < w.heap.size := by
  rcases h with ⟨rfl, rfl, rfl, rfl⟩ | ⟨x, rfl, hl, hm, hz, hcell, hwf⟩
  · exact ⟨⟨rfl, Nat.le_refl _, by decide, fun h => by omega⟩, (fun x hx => by simp at hx), fun x hx => by cases hx⟩
  · refine ⟨⟨by rw [List.length_take]; omega, hl, hm, fun h0 => ?_⟩, fun y hy => ?_, ?_⟩
    · obtain ⟨b, off, spot⟩ := x
      have hc := hcell 0 (by omega)
      have hspot : spot = none := by simpa [Addr.add] using World.cell?_spot hc
      subst hspot
      refine ⟨b, off, rfl, fun j y hy => ?_⟩
      have hj : j < len := by
        rcases Nat.lt_or_ge j len with h | h
        · exact h
        · rw [List.getElem?_eq_none (by rw [List.length_take]; omega)] at hy; cases hy
      have hcj := hcell j (by omega)
      rw [add_flat] at hcj
      rw [hcj]
      rw [List.getElem?_take, if_pos hj, List.getElem?_eq_getElem (by omega)] at hy
      simp only [Option.some.injEq] at hy
      rw [← hy, List.getD_eq_getElem?_getD, List.getElem?_eq_getElem (by omega)]
      rfl
    · have hw := hwf y (List.mem_of_mem_take hy)
      simp only [Lit.wf, Bool.and_eq_true, decide_eq_true_eq] at hw
      exact hw
    · rintro y e h0
      injection e with e
      subst e
      have := block_lt_of_cell (hcell 0 (by omega))
      simpa [Addr.add] using this
end Go.Proofs.YtlcmnihpfpmajaaGreat

/- How a slice of Ops that is handed in lies: its cells, and what is told of them. -/
namespace Go.Proofs.YtlcmnihpfpmajaaGreat
open Go.ChangeShapes Go.WideShapes Go.ChangeAt Go.RowKit Go.Deep

theorem bulk_pos {H : Type} : ∀ d : DataW H, 0 < Rows.uptoBulk d
  | .lit (.string b) => by unfold Rows.uptoBulk; omega
  | .lit (.bool _) | .lit (.int _ _) | .lit (.float _ _) | .lit .nil => by unfold Rows.uptoBulk; omega
  | .nil => by unfold Rows.uptoBulk; omega
  | .ptr _ => by unfold Rows.uptoBulk; omega
  | .slice _ _ => by unfold Rows.uptoBulk; omega
  | .agg _ => by unfold Rows.uptoBulk; omega
  | .iface _ _ => by unfold Rows.uptoBulk; omega
  | .map _ => by unfold Rows.uptoBulk; omega
  | .held _ => by unfold Rows.uptoBulk; omega
theorem bulk_mem {H : Type} {d : DataW H} : ∀ {ds : List (DataW H)}, d ∈ ds → Rows.uptoBulk d ≤ Rows.uptoBulkAll ds
  | e :: ds, h => by
    unfold Rows.uptoBulkAll
    rcases List.mem_cons.1 h with rfl | h
    · omega
    · have := bulk_mem h; omega
theorem bulk_len {H : Type} : ∀ ds : List (DataW H), ds.length ≤ Rows.uptoBulkAll ds
  | [] => by simp
  | d :: ds => by
    have := bulk_len ds
    have := bulk_pos d
    unfold Rows.uptoBulkAll
    simp only [List.length_cons]; omega
theorem list_of {α : Type} {P : Nat → α → Prop} : ∀ n : Nat, (∀ i, i < n → ∃ a, P i a) → ∃ l : List α, l.length = n ∧ ∀ i a, l[i]? = some a → P i a
  | 0, _ => ⟨[], rfl, fun i a h => by cases h⟩
  | n + 1, h => by
    obtain ⟨l, hl, hp⟩ := list_of n fun i hi => h i (by omega)
    obtain ⟨a, ha⟩ := h n (by omega)
    refine ⟨l ++ [a], by simp [hl], fun i b hb => ?_⟩
    rcases Nat.lt_or_ge i l.length with hi | hi
    · rw [List.getElem?_append_left hi] at hb
      exact hp i b hb
    · rw [List.getElem?_append_right hi] at hb
      have : i - l.length = 0 := by
        rcases Nat.eq_zero_or_pos (i - l.length) with h0 | h0
        · exact h0
        · rw [List.getElem?_eq_none (by simp; omega)] at hb; cases hb
      rw [this] at hb
      simp only [List.getElem?_cons_zero, Option.some.injEq] at hb
      subst hb
      rw [show i = n by omega]
      exact ha

/-- a slice of records: e's cells are rv's, of bulk blk at least -/
theorem open_recs {H : Type} {enc : TypeId × Value → H} {w : World} {base : Nat} {spare : Nat → Bool} {held : Bool} {t e : TypeId} {sz : Nat} {α : Type} (rv : α → List Value) (blk : α → Nat)
    (ht : Tryz.prog.underlying t = some (.slice e)) (hsz : Tryz.prog.cellsOf e = sz) (hsz0 : 0 < sz) (hrv : ∀ a, (rv a).length = sz)
    (hel : ∀ (n : Nat) (cs : List Value) (y : DataW H × List MemPlace), DataW.trod enc Tryz.prog w base spare held n e cs = some y → ∃ a : α, cs = rv a ∧ blk a ≤ Rows.uptoBulk y.1)
    {fuel : Nat} {cs : List Value} {x : DataW H × List MemPlace} (h : DataW.trod enc Tryz.prog w base spare held fuel t cs = some x) :
    ∃ (A : Option Addr) (n c : Nat) (l : List α), cs = [.slice A n c] ∧ Vs w sz A n c (l.flatMap rv) ∧ (∀ a, A = some a → 0 < n → a.block < w.heap.size) ∧ n ≤ Rows.uptoBulk x.1 ∧ ∀ a ∈ l, blk a ≤ Rows.uptoBulk x.1 := by
  rcases open_slice ht h with ⟨rfl, rfl⟩ | ⟨a, len, cap, m, n, D, Pl, rfl, hb, hl, hm, hmm, rfl, hx⟩
  · exact ⟨none, 0, 0, [], rfl, ⟨by simp, Nat.le_refl _, by decide, fun h => by omega⟩, fun a ha => (by cases ha), Nat.zero_le _, fun a ha => (by cases ha)⟩
  have hlm : len ≤ m := by rw [hmm]; split <;> omega
  obtain ⟨l, hll, hp⟩ := list_of (P := fun i a' => (∀ j x, (rv a')[j]? = some x → w.cell? (a.add (i * sz + j)) = some x) ∧ blk a' ≤ Rows.uptoBulk (D i)) len (fun i hi => by
    obtain ⟨cs', h1, h2⟩ := hx i (by omega)
    obtain ⟨a', rfl, hbk⟩ := hel _ _ _ h2
    refine ⟨a', fun j x hj => ?_, hbk⟩
    have h3 := World.cells?_some h1
    have hjl : j < sz := by
      rw [← hrv a']
      exact (List.getElem?_eq_some_iff.1 hj).1
    have h4 := h3.2.2 j (by rw [hsz]; exact hjl)
    rw [hsz, add_add] at h4
    rw [h4, hj])
  have hcell : ∀ j x, (l.flatMap rv)[j]? = some x → w.cell? (a.add j) = some x := by
    intro j x hj
    have hjl : j < l.length * sz := by
      rw [← flat_length rv sz hrv]
      exact (List.getElem?_eq_some_iff.1 hj).1
    have hi : j / sz < l.length := Nat.div_lt_of_lt_mul (by rw [Nat.mul_comm]; exact hjl)
    have hr : j % sz < sz := Nat.mod_lt _ hsz0
    have he : j / sz * sz + j % sz = j := by rw [Nat.mul_comm]; exact Nat.div_add_mod j sz
    have h5 := flat_at rv sz hrv l (j / sz) (j % sz) l[j / sz] (List.getElem?_eq_getElem hi) hr
    rw [he, hj] at h5
    have h6 := (hp (j / sz) _ (List.getElem?_eq_getElem hi)).1 (j % sz) x h5.symm
    rw [he] at h6
    exact h6
  have hbulk : Rows.uptoBulkAll ((List.range len).map D) ≤ Rows.uptoBulk (DataW.slice ((List.range len).map D) ((List.range (m - len)).map fun j => D (len + j))) := by
    conv => rhs; unfold Rows.uptoBulk
    omega
  have h0 : 0 < len → ∃ x, w.cell? (a.add 0) = some x := by
    intro h0
    have h7 : 0 < (l.flatMap rv).length := by rw [flat_length rv sz hrv, hll]; exact Nat.mul_pos h0 hsz0
    exact ⟨_, hcell 0 _ (List.getElem?_eq_getElem h7)⟩
  refine ⟨some a, len, cap, l, rfl, ⟨by rw [flat_length rv sz hrv, hll], hl, hm, fun h1 => ?_⟩, ?_, ?_, ?_⟩
  · obtain ⟨b, off, spot⟩ := a
    obtain ⟨x, hc⟩ := h0 h1
    have hspot : spot = none := by simpa [Addr.add] using World.cell?_spot hc
    subst hspot
    refine ⟨b, off, rfl, fun j y hy => ?_⟩
    have := hcell j y hy
    rwa [add_flat] at this
  · rintro y ey h1
    injection ey with ey
    subst ey
    obtain ⟨x, hc⟩ := h0 h1
    have := block_lt_of_cell hc
    simpa [Addr.add] using this
  · have := bulk_len ((List.range len).map D)
    simp only [List.length_map, List.length_range] at this
    exact Nat.le_trans this hbulk
  · intro a' ha'
    obtain ⟨i, hi⟩ := List.mem_iff_getElem?.1 ha'
    have h8 := (hp i a' hi).2
    have hil : i < len := by rw [← hll]; exact (List.getElem?_eq_some_iff.1 hi).1
    have h9 := bulk_mem (d := D i) (ds := (List.range len).map D) (List.mem_map.2 ⟨i, List.mem_range.2 hil, rfl⟩)
    exact Nat.le_trans h8 (Nat.le_trans h9 hbulk)

theorem lits_len {H : Type} (k : IntKind) (zs : List Int) : (lits (H := H) k zs).length = zs.length := by simp [lits]
/-- a slice of ints that is handed in -/
theorem open_row {H : Type} {enc : TypeId × Value → H} {w : World} {base : Nat} {held : Bool} {t e : TypeId} {k : IntKind} {fuel : Nat} {cs : List Value} {x : DataW H × List MemPlace} (ht : Tryz.prog.underlying t = some (.slice e)) (he : Tryz.prog.underlying e = some (.int k)) (hc : Tryz.prog.cellsOf e = 1)
    (h : DataW.trod enc Tryz.prog w base (fun _ => true) held fuel t cs = some x) :
    ∃ a len cap zs, cs = [.slice a len cap] ∧ IsRow k w a len cap zs ∧ len ≤ Rows.uptoBulk x.1 := by
  rcases open_ints ht he hc h with ⟨hcs, _⟩ | ⟨a, l, c, zs, hcs, _, hl, hm, hz, hx, hcell, hwz⟩
  · exact ⟨none, 0, 0, [], hcs, .inl ⟨rfl, rfl, rfl, rfl⟩, Nat.zero_le _⟩
  · refine ⟨some a, l, c, zs, hcs, .inr ⟨_, rfl, hl, hm, by simpa using hz, hcell, hwz⟩, ?_⟩
    have hz' : zs.length = c := by simpa using hz
    rw [hx]
    have h1 := bulk_len (lits (H := H) k (zs.take l))
    rw [lits_len, List.length_take, Nat.min_eq_left (by omega)] at h1
    conv => rhs; unfold Rows.uptoBulk
    omega
/-- an Op that is handed in -/
structure OpX (w : World) where
  o : OpD
  at_ : OpAt w.heap.size w o

set_option maxRecDepth 100000 in
theorem open_lop {H : Type} {enc : TypeId × Value → H} {w : World} {base : Nat} {held : Bool} (n : Nat) (cs : List Value) (y : DataW H × List MemPlace) (h : DataW.trod enc Tryz.prog w base (fun _ => true) held n 29 cs = some y) :
    ∃ o : OpX w, cs = o.o.cells ∧ 0 ≤ Rows.uptoBulk y.1 := by
  obtain ⟨xs, n', _, hx, hlen0, hlen, hf⟩ := DataW.trod_struct Tryz.underlying29 h
  have hlen1 : cs.length = 5 := hlen0.trans (by kernel_rfl)
  match cs, hlen1 with
  | [c0, c1, c2, c3, c4], _ =>
  match xs, hlen with
  | [y0, y1, y2, y3, y4], _ =>
  have g0 := hf 0 _ rfl
  have g1 := hf 1 _ rfl
  have g2 := hf 2 _ rfl
  have g3 := hf 3 _ rfl
  have g4 := hf 4 _ rfl
  have hi : Tryz.prog.cellsOf 3 = 1 := by kernel_rfl
  have hb : Tryz.prog.cellsOf 26 = 1 := by kernel_rfl
  have hs : Tryz.prog.cellsOf 27 = 1 := by kernel_rfl
  simp [hi, hb, hs] at g0 g1 g2 g3 g4
  obtain ⟨k0, e0, f0, r0⟩ := DataW.trod_int Tryz.underlying3 g0
  obtain ⟨k1, e1, f1, r1⟩ := DataW.trod_int Tryz.underlying3 g1
  obtain ⟨k2, e2, f2, r2⟩ := DataW.trod_int Tryz.underlying3 g2
  obtain ⟨a3, l3, p3, z3, e3, s3, _⟩ := open_row Tryz.underlying26 Tryz.underlying5 (by kernel_rfl) g3
  obtain ⟨a4, l4, p4, z4, e4, s4, _⟩ := open_row Tryz.underlying27 Tryz.underlying3 (by kernel_rfl) g4
  simp at e0 e1 e2 e3 e4
  subst e0 e1 e2 e3 e4
  subst hx
  exact ⟨⟨⟨k0, k1, k2, a3, l3, p3, _, a4, l4, p4, _⟩, s3.bs.1, s3.bs.2, s4.ints.1, s4.ints.2.2, s4.ints.2.1⟩, rfl, Nat.zero_le _⟩
/-- a slice of Ops that is handed in -/
theorem open_ops {H : Type} {enc : TypeId × Value → H} {w : World} {base : Nat} {held : Bool} {fuel : Nat} {cs : List Value} {x : DataW H × List MemPlace} (h : DataW.trod enc Tryz.prog w base (fun _ => true) held fuel 22 cs = some x) :
    ∃ (A : Option Addr) (n c : Nat) (ops : List OpD), cs = [.slice A n c] ∧ OpsAt w A n c ops := by
  obtain ⟨A, n, c, l, e, hv, hlt, _, _⟩ := open_recs (sz := 5) (fun x : OpX w => x.o.cells) (fun _ => 0) Tryz.underlying22 (by kernel_rfl) (by decide) (fun _ => rfl) open_lop h
  refine ⟨A, n, c, l.map (·.o), e, ⟨?_, hlt, fun o ho => ?_⟩⟩
  · rw [List.flatMap_map]
    exact hv
  · obtain ⟨x, _, rfl⟩ := List.mem_map.1 ho
    exact x.at_
end Go.Proofs.YtlcmnihpfpmajaaGreat
