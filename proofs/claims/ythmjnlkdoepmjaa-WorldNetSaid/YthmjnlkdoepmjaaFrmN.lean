/- The contract of what the net's All returns, each round told with the bytes behind its parcel. Conditions stand with it. -/
import Derived.Test.YthmjnlkdoepmjaaSeqO
namespace Go.Proofs.Ythmjnlkdoepmjaa
open Go.RowKit
attribute [local go_sem] Oper.semAt_some

theorem Blk.own_ {A B : World} {row : Option Nat} {g : Nat} {t : TypeId} {cs : Array Value} (h : Blk A g t cs) (hg : A.grownBy B row) (hr : ∀ r, row = some r → ∃ o : Obj, A.heap[r]? = some o ∧ o.isCells = false) : Blk B g t cs := by
  refine h.grown hg fun e => ?_
  obtain ⟨o, ho, hc⟩ := hr g e.symm
  have := h.symm.trans ho
  injection this with this
  subst this
  simp [Obj.isCells] at hc
theorem own_own_ {A B : World} {row : Option Nat} {b : Nat} {e : TypeId} {sz n : Nat} {v : Value} {us : List Value} (h : A.ownsRow b e sz v n us) (hg : A.grownBy B row) (hr : ∀ r, row = some r → ∃ o : Obj, A.heap[r]? = some o ∧ o.isCells = false) : B.ownsRow b e sz v n us := by
  refine ⟨h.1, ?_⟩
  rcases h.2 with hnil | ⟨g, cap, cur, rfl, hb', hh, rest⟩
  · exact .inl hnil
  · exact .inr ⟨g, cap, cur, rfl, hb', Blk.own_ (t := e) hh hg hr, rest⟩
theorem Own.own_ {A B : World} {row : Option Nat} {e : TypeId} {sz n : Nat} {v : Value} {us : List Value} (h : Own A e sz v n us) (hg : A.grownBy B row) (hr : ∀ r, row = some r → ∃ o : Obj, A.heap[r]? = some o ∧ o.isCells = false) : Own B e sz v n us := by
  rcases h.2 with hnil | ⟨g, cap, cur, rfl, hh, rest⟩
  · exact ⟨h.1, .inl hnil⟩
  · exact ⟨h.1, .inr ⟨g, cap, cur, rfl, Blk.own_ (t := e) hh hg hr, rest⟩⟩
theorem PcV.own_ {A B : World} {row : Option Nat} {p : Pc} (h : PcV A p) (hg : A.grownBy B row) (hr : ∀ r, row = some r → ∃ o : Obj, A.heap[r]? = some o ∧ o.isCells = false) : PcV B p := ⟨own_own_ h.1 hg hr, h.2⟩
theorem NT.own_ {A B : World} {row : Option Nat} {t : TypeId} {bn : Nat} {most : Int} {rv : Value} {ps : List Pc} (h : NT A t bn most rv ps) (hg : A.grownBy B row) (hr : ∀ r, row = some r → ∃ o : Obj, A.heap[r]? = some o ∧ o.isCells = false) : NT B t bn most rv ps :=
  ⟨h.blk.own_ hg hr, h.row.own_ hg hr, fun p hp => (h.byt p hp).own_ hg hr⟩
theorem putHr {W : World} {l : Nat} {o : Obj} (hl : W.heap[l]? = some o) (hc : o.isCells = false) : ∀ r, some l = some r → ∃ o : Obj, W.heap[r]? = some o ∧ o.isCells = false := fun r e => by cases e; exact ⟨o, hl, hc⟩
theorem keepsF {V W : World} (h : Fresh V W) : KeepsOthers V W := ⟨h.size, fun _ _ hk _ => h.heap hk id⟩
theorem keepsD (V : World) (q : Nat) : KeepsOthers V (V.drewN q) := ⟨Nat.le_refl _, fun _ _ h _ => h⟩
theorem keepsN (V : World) (q : Nat) (p : Addr) (u : Value) : KeepsOthers V ((V.drewN q).setCell p u) :=
  KeepsOthers.trans (⟨Nat.le_refl _, fun _ _ h _ => h⟩ : KeepsOthers V (V.drewN q)) (KeepsOthers.setCell _ _ _)
theorem bel_drewN (B : Nat) (V : World) : ∀ q, Below B V (V.drewN q)
  | 0 => Below.refl B V
  | q + 1 => (bel_drewN B V q).drew

/-- a parcel told: its place, the parcel -/
abbrev PcY := Nat × Pc
def pcEnc (x : PcY) : Array Value := #[.int .i64 x.1, .agg #[.int .i64 x.2.a, .int .i64 x.2.b, x.2.v]]
/-- what a round finds: the parcel of its place, its bytes in a row of their own -/
def PcOk (base : Nat) (ps : List Pc) (pre : List PcY) (x : PcY) (W : World) : Prop := x.1 = pre.length ∧ (∃ p, ps[pre.length]? = some p ∧ x.2.pl = p.pl) ∧ PcV W x.2 ∧ (∀ k, x.2.v.ownBlock = some k → base ≤ k)
theorem PcOk.put {base : Nat} {ps : List Pc} {pre : List PcY} {x : PcY} {W : World} {l : Nat} {o o' : Obj} (h : PcOk base ps pre x W) (hl : W.heap[l]? = some o) (hc : o.isCells = false) : PcOk base ps pre x (W.putObj l o') :=
  ⟨h.1, h.2.1, h.2.2.1.own_ (grownBy_putObj' W l o') (putHr hl hc), h.2.2.2⟩
theorem PcOk.fresh {base : Nat} {ps : List Pc} {pre : List PcY} {x : PcY} {W W1 : World} (h : PcOk base ps pre x W) (hf : Fresh W W1) : PcOk base ps pre x W1 :=
  ⟨h.1, h.2.1, h.2.2.1.touch hf fun _ _ => id, h.2.2.2⟩
/-- what a round of a loop over All keeps: every row but those of S -/
def NKp (S : Nat → Prop) (W W' : World) : Prop := ∀ k t cs, ¬ S k → Blk W k t cs → Blk W' k t cs
theorem NKp.trans_ {S : Nat → Prop} {A B C : World} (h : NKp S A B) (h' : NKp S B C) : NKp S A C := fun k t cs hk hb => h' k t cs hk (h k t cs hk hb)
theorem NKp.fresh {S : Nat → Prop} {A B : World} (h : Fresh A B) : NKp S A B := fun _ _ _ _ hb => hb.touch h id
theorem NKp.touch {S : Nat → Prop} {A B : World} (h : Touch S A B) : NKp S A B := fun _ _ _ hk hb => hb.touch h hk
theorem NKp.put {S : Nat → Prop} (W : World) (l : Nat) (o o' : Obj) (hl : W.heap[l]? = some o) (hc : o.isCells = false) : NKp S W (W.putObj l o') := fun _ _ _ _ hb => hb.own_ (grownBy_putObj' W l o') (putHr hl hc)
theorem NKp.own {S : Nat → Prop} {W W' : World} {e : TypeId} {sz n : Nat} {v : Value} {us : List Value} (h : NKp S W W') (ho : Own W e sz v n us) (hn : ∀ k, v.ownBlock = some k → ¬ S k) : Own W' e sz v n us := by
  rcases ho.2 with hnil | ⟨g, cap, cur, rfl, hh, rest⟩
  · exact ⟨ho.1, .inl hnil⟩
  · exact ⟨ho.1, .inr ⟨g, cap, cur, rfl, h g e cur (hn g rfl) hh, rest⟩⟩
theorem NKp.pcv {S : Nat → Prop} {W W' : World} {p : Pc} (h : NKp S W W') (ho : PcV W p) (hn : ∀ k, p.v.ownBlock = some k → ¬ S k) : PcV W' p := by
  refine ⟨⟨ho.1.1, ?_⟩, ho.2⟩
  rcases ho.1.2 with hnil | ⟨g, cap, cur, e, hb', hh, rest⟩
  · exact .inl hnil
  · exact .inr ⟨g, cap, cur, e, hb', h g _ cur (hn g (by rw [e]; rfl)) hh, rest⟩
theorem pcCells_length (ps : List Pc) : (pcCells ps).length = ps.length * 3 := by
  induction ps with
  | nil => rfl
  | cons p ps ih => simp [pcCells, Pc.cells] at ih ⊢; omega
theorem pcCells_get {ps : List Pc} {i : Nat} {p : Pc} (h : ps[i]? = some p) (j : Nat) (hj : j < 3) : (pcCells ps)[i * 3 + j]? = p.cells[j]? := by
  induction ps generalizing i with
  | nil => cases h
  | cons q ps ih =>
    rw [show pcCells (q :: ps) = q.cells ++ pcCells ps from rfl]
    cases i with
    | zero =>
      simp only [List.getElem?_cons_zero, Option.some.injEq] at h
      subst h
      rw [Nat.zero_mul, Nat.zero_add, List.getElem?_append_left (by simpa [Pc.cells] using hj)]
    | succ i =>
      rw [List.getElem?_append_right (by simp [Pc.cells]; omega)]
      rw [← ih (by simpa using h)]
      congr 1
      simp only [Pc.cells, List.length_cons, List.length_nil]
      omega

set_option maxRecDepth 100000 in
set_option maxHeartbeats 4000000 in
theorem all_told (m fb bn : Nat) (most : Int) (rv : Value) (ps : List Pc) (S : Nat → Prop) (w : World) (hm : 1 ≤ m) (hb : Blk w fb 60 #[.pointer (some ⟨bn, 0, none⟩)]) (hn : NT w 110 bn most rv ps) (hl : ps.length ≤ 1000000)
    (hS : ∀ k, S k → k < w.heap.size) (hp : ∀ p ∈ ps, ∀ k, p.v.ownBlock = some k → ¬ S k) :
    SeqO Fence.wide m Try.prog 71 #[.pointer (some ⟨fb, 0, none⟩)] pcEnc (PcOk w.heap.size ps) (NKp S) (fun ys => ys.length = ps.length) (fun pre => pre.length ≤ ps.length) ps.length w := fun l J Jx W hW hJ hJx hY h0 => by
  have hBW : Blk W fb 60 #[.pointer (some ⟨bn, 0, none⟩)] := (hW.block fb hb.lt).trans hb
  have hwW : Touch (fun _ => False) w W := Touch.ofBelow hW _
  have hNW : NT W 110 bn most rv ps := hn.fresh hwW
  have hsz := hW.size
  refine callsIn_of_wp Try.func71 rfl trivial ?_ rfl
  simp only [Try.ntmps71, List.size_toArray, List.length_cons, List.length_nil, Nat.reduceAdd, Nat.reduceSub, Array.replicate_succ, Array.replicate_zero, List.push_toArray, List.append_toArray, List.nil_append, List.cons_append]
  refine wpIn_wide.2 ?_
  have HB0 := Lib.hid hBW; have HN0 := Lib.hid hNW; have HJ := Lib.hid hJ; have HY := Lib.hid hY; have HJ0 := Lib.hid h0; have HP := Lib.hid hp; have HS := Lib.hid hS
  have c0 := hBW.cell 0
  have c1 := hNW.blk.cell 1
  simp only [List.getElem?_toArray, List.getElem?_cons_zero, List.getElem?_cons_succ] at c0 c1
  clear hb hn hBW hNW hJ hY h0 hp hW hwW hS
  go_wp2_with fail
  refine (cloneP_any rv ps.length (pcCells ps) W HN0.out.row (pcCells_one HN0.out.byt) hl).mono ?_
  rintro e w1 ⟨hf1, B, c, rfl, ho1, hnew⟩
  have HO1 := Lib.hid ho1; have HF1 := Lib.hid hf1
  have HNEW := Lib.hid hnew
  have HJ1 := Lib.hid (HJ.out [] _ _ none HJ0.out hf1.grown_ (fun r e => by cases e))
  have HV1 := Lib.hid (fun p (hp : p ∈ ps) => (HN0.out.byt p hp).touch hf1 fun _ _ => id)
  clear hf1 ho1 hnew c0 c1
  go_wp2_with fail
  go_loopw [11] (fun i wr => ∃ pre : List PcY, pre.length ≤ ps.length ∧ i = .int .i64 pre.length ∧ J pre wr ∧ Own wr 65 3 (.slice B ps.length c) ps.length (pcCells ps) ∧ (∀ p ∈ ps, PcV wr p) ∧ True) (fun i _ => ps.length - (intOf i).toNat)
  case atStart =>
    exact ⟨[], Nat.zero_le _, rfl, HJ1.out, HO1.out, HV1.out, trivial⟩
  case round =>
    obtain ⟨pre, hpl, rfl, hj, ho, hv, hsz1⟩ := hrel
    have HJR := Lib.hid hj; have HOR := Lib.hid ho; have HVR := Lib.hid hv
    obtain ⟨k, hk⟩ : ∃ k, k = pre.length := ⟨_, rfl⟩
    rw [← hk] at hpl ⊢
    have HK := Lib.hid hk
    clear hj ho hv hk
    by_cases hlt : k < ps.length
    · obtain ⟨p, hpk⟩ : ∃ p, ps[k]? = some p := ⟨_, List.getElem?_eq_getElem hlt⟩
      obtain ⟨g, rfl⟩ : ∃ g, B = some ⟨g, 0, none⟩ := by
        obtain ⟨A', c', hv, _, _, hA'⟩ := HOR.out.form
        injection hv with e1 _ _
        rcases hA' with ⟨_, h0, _⟩ | ⟨g, hg⟩
        · omega
        · exact ⟨g, e1.trans hg⟩
      have hc0 : wr.cell? ⟨g, k * 3, none⟩ = some (.int .i64 p.a) := by
        have := HOR.out.cell (j := k * 3 + 0) (by omega)
        rw [pcCells_get hpk 0 (by omega)] at this
        exact this
      have hc1 : wr.cell? ⟨g, k * 3 + 1, none⟩ = some (.int .i64 p.b) := by
        have := HOR.out.cell (j := k * 3 + 1) (by omega)
        rw [pcCells_get hpk 1 (by omega)] at this
        exact this
      have hc2 : wr.cell? ⟨g, k * 3 + 2, none⟩ = some p.v := by
        have := HOR.out.cell (j := k * 3 + 2) (by omega)
        rw [pcCells_get hpk 2 (by omega)] at this
        exact this
      have hpm : p ∈ ps := List.mem_of_getElem? hpk
      have hpv := HVR.out p hpm
      obtain ⟨pa, pb, raw, pv⟩ := p
      have hfm := hpv.1.form
      dsimp only at hfm
      obtain ⟨A, cp, rfl, hcp1, hcp2, _⟩ := hfm
      have hraw := hpv.2
      obtain ⟨wx, hwx⟩ : ∃ wx, wx = wr.alloc (.cells #[.int .i64 pa, .int .i64 pb, .slice A raw.length cp] 65) := ⟨_, rfl⟩
      have HWX := Lib.hid hwx
      have hfx : Fresh wr wx := by rw [hwx]; exact (Touch.refl _ wr).alloc _
      have hbx : Blk wx wr.heap.size 65 #[.int .i64 pa, .int .i64 pb, .slice A raw.length cp] := by rw [hwx]; exact Blk.new _ _ _
      have KC := Lib.hid (copiedW_any pa pb A raw.length cp raw wx (Row.bs (hpv.1.touch hfx fun _ _ => id)) hraw)
      have x0 := hbx.cell 0
      have x1 := hbx.cell 1
      have x2 := hbx.cell 2
      simp only [List.getElem?_toArray, List.getElem?_cons_zero, List.getElem?_cons_succ] at x0 x1 x2
      have HFX := Lib.hid hfx
      have HPK := Lib.hid hpk
      clear hwx hfx hbx hpv hpk
      refine wpIn_wide (n := m).1 ?_
      gi_wp2
      rw [← HWX.out]
      gi_wp2
      refine ⟨trivial, (callsIn_wide (n := m - 1).2 KC.out).mono ?_⟩
      rintro e w3 ⟨hf3, B3, c3, rfl, hr3, hn3⟩
      have hf03 : Fresh wr w3 := HFX.out.trans hf3 fun _ _ => id
      have HF3 := Lib.hid hf03
      have HX := Lib.hid (show PcOk w.heap.size ps pre (k, ⟨pa, pb, raw, .slice B3 raw.length c3⟩) w3 from ⟨HK.out, ⟨⟨pa, pb, raw, .slice A raw.length cp⟩, by rw [← HK.out]; exact HPK.out, rfl⟩, ⟨hr3, hraw⟩, fun q hq => by
        cases B3 with
        | none => cases hq
        | some a =>
          have h1 := hn3 a rfl
          have h2 := HFX.out.size
          have h3 := HNEW.out g rfl
          have h4 := HOR.out.lt g rfl
          have hak : a.block = q := by simpa [Value.ownBlock] using hq
          omega⟩)
      have HJ3 := Lib.hid (HJ.out pre _ _ none HJR.out hf03.grown_ (fun r e => by cases e))
      have hy0 := HY.out pre (k, ⟨pa, pb, raw, .slice B3 raw.length c3⟩) w3 HJ3.out HX.out (by have := HK.out; omega)
      clear hf3 hf03 hr3 hn3
      obtain ⟨fn, tmps, assign, body, hy, hR⟩ := hy0
      dsimp only [pcEnc] at hy
      gi_wp2
      refine hR.mono ?_
      rintro e W3 (⟨rfl, hJ3, hk3⟩ | ⟨rfl, hJx3⟩)
      · have HOW := Lib.hid (hk3.own ((HOR.out.touch HF3.out fun _ _ => id)) fun q hq e => by
          have h1 := HNEW.out q hq
          have h2 := HS.out q e
          omega)
        have HVW := Lib.hid (fun p (hp : p ∈ ps) => hk3.pcv ((HVR.out p hp).touch HF3.out fun _ _ => id) fun q hq => HP.out p hp q hq)
        have HJW := Lib.hid hJ3
        clear hk3 hJ3 hR
        gi_wp2
        go_roundw
        case rel =>
          exact ⟨_, by simp; have := HK.out; omega, by have := HK.out; go_num, HJW.out, HOW.out, HVW.out, trivial⟩
        case measure => simp [intOf] <;> omega
      · have HJW := Lib.hid hJx3
        clear hJx3 hR
        gi_wp2
        refine bodyPost_ret (results_none rfl _ _ _) rfl ?_
        exact ⟨⟨_, rfl⟩, .inr ⟨_, by have := HK.out; simp; omega, HJW.out⟩⟩
    · obtain rfl : k = ps.length := by omega
      go_wp2_with fail
      go_end0
      exact ⟨⟨_, rfl⟩, .inl ⟨pre, HK.out.symm, HJR.out⟩⟩
end Go.Proofs.Ythmjnlkdoepmjaa
