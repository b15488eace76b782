/- The law WalGreat, walked. Conditions stand with it. -/
import Derived.Test.YtlcmnihpfpmajaaGreatQfZ
import Derived.Deep.RegionHeld3
import Derived.Deep.RegionLaw
import Derived.Deep.CutRange
namespace Go.Proofs.YtlcmnihpfpmajaaGreat
open Go.RowKit
section
variable {w w' w1 W W1 W2 : World} {bp bd bl n g : Nat} {F S : Nat → Prop} {p : PS} {vA : Option Addr} {vc i T : Nat}
/-- a block of the caller's own is written -/
theorem PG.aside (h : PG w1 W bp bd F S p n) (hf : Fresh W W1) (ht : Touch (fun k => k = g) W1 W2) (hg : W.heap.size ≤ g) : PG w1 W2 bp bd F S p n := by
  obtain ⟨bl, S1, R1, Q1, l1, sv1, rv1, vs1, cv1, mv1, kv1, tv1, hx⟩ := h
  have hlt := hx.pm.lt
  have hSl := hx.pm.ld.dk.below
  have hs := hx.tch.size
  exact ((hx.fresh hf).aside ht fun k hk => ⟨by omega, fun e => by have := hlt k e; omega, fun e => by have := hSl k e; omega⟩).pg
/-- a record behind the content, and the law's calls with it -/
theorem with_calls (h : PT w1 W bp bd F S p n bl vA vc) (hn : p.c.rows.length ≤ 1000000) (hs : p.struck.length ≤ 1000000) (hk : p.cuts.length ≤ 1000000) (hm2 : p.maybe.length ≤ 1000000) {A : Option Addr} {m c : Nat} {x : List UInt8} (hx : Bs W A m c x) (hm : m ≤ 1000000000) :
    Calls Tryz.prog 22 #[.agg #[.int .i64 (p.c.first : Int), .slice vA p.c.rows.length vc], .slice A m c] W fun e W' => Fresh W W' ∧ ∃ xA xc, e = .returned (.agg #[.int .i64 (p.c.first : Int), .slice xA (p.c.add x).rows.length xc]) ∧
      ∀ (ee : Int) (lo : Nat), Calls Tryz.prog 30 #[.pointer (some ⟨bp, 0, none⟩), .agg #[.int .i64 (p.c.first : Int), .slice xA (p.c.add x).rows.length xc], .int .i64 ee, .int .i64 (lo : Int)] W' fun x' w' => x' = .returned (.bool (p.calledB ee lo)) ∧ PG w1 w' bp bd F S (p.called (p.c.add x) ee) n := by
  obtain ⟨S1, R1, Q1, l1, sv1, rv1, vs1, mv1, kv1, tv1, hx1⟩ := h
  refine (cwith_any (first := p.c.first) hx1.pm.c hx1.pm.Qlt hn hx hm).mono ?_
  rintro e W' ⟨hf, v', rfl, hcm⟩
  obtain ⟨xA, xc, rfl, _⟩ := CM.form (rows := (p.c.add x).rows) hcm
  have h2 := hx1.moreQ hf
  refine ⟨hf, xA, xc, rfl, fun ee lo => ?_⟩
  refine (calls_any h2.pm hs hk hm2 (next := p.c.add x) hcm ee lo).mono ?_
  rintro x' w' ⟨rfl, cv', mv', kv', hx3⟩
  exact ⟨rfl, (h2.trans hx3 (fun _ => id) fun _ => id).pg⟩
set_option maxRecDepth 20000 in
set_option maxHeartbeats 2000000 in
/-- a record above the limit is refused -/
theorem large_pt (h : PT w1 W bp bd F S p n bl vA vc) {A : Option Addr} {m c : Nat} (hm : 1048576 < m) (hm2 : m ≤ 1000000000) :
    Calls Tryz.prog 19 #[.pointer (some ⟨bl, 0, none⟩), .slice A m c] W fun e w4 => e = .returned (.tuple #[.int .i64 0, .int .i64 9]) ∧ PT w1 w4 bp bd F S { p with l := { p.l with failed := false } } n bl vA vc := by
  obtain ⟨S1, R1, Q1, l1, sv1, rv1, vs1, mv1, kv1, tv1, hx⟩ := h
  have hb := hx.pm.ld.lm.blk
  have c5 : W.cell? ⟨bl, 5, none⟩ = some (.bool l1.failed) := hb.cell 5
  have f5 : W.frozen? ⟨bl, 5, none⟩ = false := hb.frozen 5
  have HEND := Lib.hid (show PT w1 (W.setCell ⟨bl, 5, none⟩ (.bool false)) bp bd F S { p with l := { p.l with failed := false } } n bl vA vc from by
    obtain ⟨w4, hw4⟩ : ∃ w4, w4 = W.setCell ⟨bl, 5, none⟩ (.bool false) := ⟨_, rfl⟩
    have ht : Touch (fun k => k = bl) W w4 := by rw [hw4]; exact (Touch.refl (fun k => k = bl) W).setCell (p := ⟨bl, 5, none⟩) (.inr rfl) _
    rw [← hw4]
    have hlx := hx.pm.ld.same.block (l'' := { l1 with failed := false }) ht rfl rfl (by
      rw [hw4]
      have := hb.set_ 5 (.bool false)
      simpa using this)
    have ha := hx.pm.alk
    exact ⟨S1, R1, Q1, _, sv1, rv1, vs1, mv1, kv1, tv1, hx.log (d2 := p.d) (pl2 := { p.l with failed := false }) hlx ⟨ha.base, ha.c, rfl, ha.dirty, ha.segs⟩⟩)
  have hd : decide ((m : Int) > 1048576) = true := decide_eq_true (by omega)
  have hd2 : decide ((1048576 : Int) < (m : Int)) = true := decide_eq_true (by omega)
  have hd3 : decide (1048576 < m) = true := decide_eq_true hm
  clear hx hb
  go_enter Tryz.func19, Tryz.ntmps19
  go_wp2_with fail
  go_ret2
  exact ⟨rfl, HEND.out⟩
set_option maxRecDepth 20000 in
set_option maxHeartbeats 1000000 in
theorem within_great (i m : Int) (w : World) (h0 : 0 < m) (h1 : m ≤ 1000000) :
    Calls Tryz.prog 26 #[.int .i64 i, .int .i64 m] w fun e w' => w = w' ∧ e = .returned (.int .i64 (i % m)) := by
  have hz : m ≠ 0 := by omega
  have hlt : i.tmod m < m := Int.tmod_lt_of_pos i h0
  have hgt : -m < i.tmod m := by
    have := Int.tmod_lt_of_pos (-i) h0
    rw [Int.neg_tmod] at this
    omega
  have hwr : IntKind.i64.wrap (i.tmod m) = i.tmod m := IntWalk.i64_in _ (by omega)
  have hem := emod_tmod i m h0
  have HEM := Lib.hid hem
  clear hem
  by_cases hn : i.tmod m < 0
  · have hwa : IntKind.i64.wrap (i.tmod m + m) = i.tmod m + m := IntWalk.i64_in _ (by omega)
    go_enter Tryz.func26, Tryz.ntmps26
    go_wp2_with fail
    go_ret
    have h2 := HEM.out
    rw [if_pos hn] at h2
    rw [h2]
    exact ⟨rfl, rfl⟩
  · go_enter Tryz.func26, Tryz.ntmps26
    go_wp2_with fail
    go_ret
    have h2 := HEM.out
    rw [if_neg (by omega)] at h2
    rw [h2]
    exact ⟨rfl, rfl⟩
theorem made_zero (m : Nat) : (madeCells #[.int .u8 0] m).toList = u8s (List.replicate m 0) := by
  refine List.ext_getElem? fun j => ?_
  rw [u8s_get, List.getElem?_replicate]
  unfold madeCells
  by_cases h : j < m
  · simp [h, Nat.mod_one]
  · simp [h]
theorem make_bytes (m : Nat) (hm : m ≤ 100000000) (W : World) : (Instr.makeSlice 26 (.int .i64 (m : Int)) (.int .i64 (m : Int))).run Tryz.prog W = .ok (.slice (some ⟨W.heap.size, 0, none⟩) m m) (W.alloc (.cells (madeCells #[.int .u8 0] m) 5)) := by
  obtain ⟨i, hi, hz, hs1, hb1⟩ := info_parts Tryz.info5
  have := run_make (P := Tryz.prog) W 26 5 i (.int .u8 0) Tryz.underlying26 hi hz .i64 .i64 (m : Int) (m : Int) (by omega) (Int.le_refl _) (by rw [hb1]; omega) (by omega)
  rw [hs1, Int.toNat_natCast, Nat.mul_one] at this
  exact this
theorem made_row (m : Nat) (hm : m ≤ 100000000) (W : World) : Row (W.alloc (.cells (madeCells #[.int .u8 0] m) 5)) (.slice (some ⟨W.heap.size, 0, none⟩) m m) (List.replicate m 0) := by
  have := World.ownsRow_lit (base := 0) (e := 5) (size := 1) W (madeCells #[.int .u8 0] m) m (Nat.zero_le _) (by unfold maxLen; omega) (by rw [size_madeCells, Nat.mul_one])
  rw [made_zero] at this
  unfold Row
  rw [List.length_replicate]
  exact this
end
set_option maxRecDepth 200000 in
set_option maxHeartbeats 16000000 in
theorem law_great (w : World) (KA : Option Addr) (kn kc : Nat) (ks : List Int) (hk : IsInts w KA kn kc ks) (hkw : ∀ x ∈ ks, -9223372036854775808 ≤ x ∧ x ≤ 9223372036854775807) (bef : Int)
    (CA : Option Addr) (cn cc : Nat) (cuts : List Int) (hz : IsInts w CA cn cc cuts) (hzw : ∀ x ∈ cuts, -9223372036854775808 ≤ x ∧ x ≤ 9223372036854775807) (hzB : ∀ a, CA = some a → 0 < cn → a.block < w.heap.size) :
    Calls Tryz.prog 7 #[.slice KA kn kc, .int .i64 bef, .slice CA cn cc] w fun e w' => e = .returned (.bool true) ∧ Fresh w w' := by
  have hnc := hk.2.1
  have hcm := hk.2.2.1
  unfold maxLen at hcm
  have KB := Lib.hid (show Calls Tryz.prog 11 #[.int .i64 1] w (BgnEnd w 1) from begunL_any w (n := 1) (by omega))
  have HK := Lib.hid hk; have HKW := Lib.hid hkw; have HZ := Lib.hid hz; have HZW := Lib.hid hzw; have HZB := Lib.hid hzB
  clear hk hkw hz hzw hzB
  go_enter Tryz.func7, Tryz.ntmps7
  go_wp2_with fail
  refine KB.out.mono ?_
  rintro e w1 ⟨bp, bd, F, S, rfl, hf1, hpg, hnew⟩
  have HPG := Lib.hid hpg; have HF1 := Lib.hid hf1; have HNEW := Lib.hid hnew
  have HLO := Lib.hid (show LoF w.heap.size w1 F S from ⟨hf1.size, hnew⟩)
  clear hpg hf1 hnew KB
  go_wp2_with fail
  go_loopw [8] (fun i W => ∃ (k : Nat) (p : PS), k ≤ kn ∧ k ≤ 12 ∧ i = .int .i64 (k : Int) ∧ PG w1 W bp bd F S p 1 ∧ PInv p (k + 1) (k * 40025) ∧ Calm p ∧ p.l.base = 1 * 1048576) (fun i _ => kn - (intOf i).toNat)
  case atStart => exact ⟨0, PS.new (1 * 1048576), Nat.zero_le _, Nat.zero_le _, rfl, HPG.out, PInv.new _, Calm.new _, by show (openP [] (1 * 1048576)).base = _; rw [open_nil]⟩
  case round =>
    obtain ⟨k, p, hk, hk2, rfl, hpg, hv, hcl, hb0⟩ := hrel
    have hfw := hpg.new_ HF1.out HNEW.out
    have HFW := Lib.hid hfw
    obtain ⟨bl, vA, vc, hpt⟩ := hpg.pt
    have HV := Lib.hid hv; have HB0 := Lib.hid hb0; have HCL := Lib.hid hcl; have HPG1 := Lib.hid hpg; have HPT := Lib.hid hpt
    by_cases hlt : k < kn ∧ k < 12
    · obtain ⟨hl1, hl2⟩ := hlt
      obtain ⟨kb, koff, z, rfl, hzm, k0⟩ := ints_rd HK.out hl1 hfw
      have hkd : decide ((k : Int) < (kn : Int)) = true := decide_eq_true (by omega)
      have hkd2 : decide ((k : Int) < 12) = true := decide_eq_true (by omega)
      have hwk : IntKind.i64.wrap ((k : Int) + 1) = (k : Int) + 1 := IntWalk.i64_in _ (by omega)
      have h60 := Int.emod_nonneg z (show (40000 : Int) ≠ 0 by omega)
      have h61 := Int.emod_lt_of_pos z (show (0 : Int) < 40000 by omega)
      obtain ⟨m, hm⟩ : ∃ m : Nat, z % 40000 = (m : Int) := ⟨(z % 40000).toNat, by omega⟩
      have hmb : m < 40000 := by omega
      have hzr := HKW.out z hzm
      have KWI := Lib.hid (show Calls Tryz.prog 26 #[.int .i64 z, .int .i64 40000] wr fun e w' => wr = w' ∧ e = .returned (.int .i64 (m : Int)) from by have := within_great z 40000 wr (by omega) (by omega); rw [hm] at this; exact this)
      have hmk := make_bytes m (by omega) wr
      obtain ⟨wM, hwM⟩ : ∃ wM, wM = wr.alloc (.cells (madeCells #[.int .u8 0] m) 5) := ⟨_, rfl⟩
      have hrow := made_row m (by omega) wr
      rw [← hwM] at hmk hrow
      have hfM : Fresh wr wM := by rw [hwM]; exact (Touch.refl (fun _ => False) wr).alloc _
      obtain ⟨g, hg⟩ : ∃ g, g = wr.heap.size := ⟨_, rfl⟩
      have hgM : g < wM.heap.size := by rw [hwM, alloc_size, hg]; exact Nat.lt_succ_self _
      rw [← hg] at hmk hrow
      have HROW := Lib.hid hrow
      have HFG := Lib.hid (show ∀ W, Touch (fun k => k = g) wM W → Fresh wr W ∧ g < W.heap.size from fun W hW => ⟨hfM.trans hW fun q hq e => by omega, Nat.lt_of_lt_of_le hgM hW.size⟩)
      have HGE := Lib.hid (show wr.heap.size ≤ g by omega)
      have HAP := Lib.hid (show ∀ (b : List UInt8), b.length = m → (appendP p.d p.l b).2.2.2 = 0 ∧ (appendP p.d p.l b).2.2.1 = p.c.next ∧ PInv (p.app b) (k + 1 + 1) ((k + 1) * 40025) ∧ Calm (p.app b) ∧ (p.app b).l.base = p.l.base ∧ ({ p with d := (appendP p.d p.l b).1, l := (appendP p.d p.l b).2.1 } : PS).calledB 0 p.d.ops = true ∧ p.app b = ({ p with d := (appendP p.d p.l b).1, l := (appendP p.d p.l b).2.1 } : PS).called (p.c.add b) 0 from fun b hb => by
        obtain ⟨q1, q2, q3, q4, q5, q6⟩ := hv.app_calm (b := b) (by omega) (by omega) (by omega) hcl
        obtain ⟨_, r2, _, _⟩ := hv.app (b := b) (by omega) (by omega) (by omega)
        rw [q1] at r2
        refine ⟨q1, q2, q3.mono (Nat.le_refl _) (by omega), q4, q6, r2, ?_⟩
        unfold PS.app
        rw [q1])
      have KAP := Lib.hid (show ∀ W ys, Touch (fun k => k = g) wM W → Bs W (some ⟨g, 0, none⟩) m m ys → Calls Tryz.prog 19 #[.pointer (some ⟨bl, 0, none⟩), .slice (some ⟨g, 0, none⟩) m m] W fun e w4 => e = .returned (.tuple #[.int .i64 (p.c.next : Int), .int .i64 0]) ∧ PT w1 w4 bp bd F S { p with d := (appendP p.d p.l ys).1, l := (appendP p.d p.l ys).2.1 } 1 bl vA vc ∧ Bs w4 (some ⟨g, 0, none⟩) m m ys from fun W ys hW hys => by
        obtain ⟨hfW, hgW⟩ := HFG.out W hW
        have h1 := append_pt hpt HLO.out hv (by omega) (by rw [hb0]; omega) hfW hys (fun a ha _ => by
          injection ha with ha
          subst ha
          exact ⟨.inl (by show _ ≤ g; omega), hgW⟩) (by omega)
        obtain ⟨q1, q2, _⟩ := HAP.out ys hys.1
        rw [q1, q2] at h1
        exact h1)
      have KOP := Lib.hid (show ∀ W, Touch (fun k => k = g) wM W → Calls Tryz.prog 17 #[.pointer (some ⟨bd, 0, none⟩)] W fun e w' => W = w' ∧ e = .returned (.int .i64 (p.d.ops : Int)) from fun W hW => by
        obtain ⟨S1, R1, Q1, l1, sv1, rv1, vs1, mv1, kv1, tv1, hx⟩ := hpt
        exact disk_ops (hx.fresh (HFG.out W hW).1).pm.ld.dk)
      have HCE := Lib.hid (show ∀ W, Touch (fun k => k = g) wM W → W.cell? ⟨bp, 0, none⟩ = some (.pointer (some ⟨bd, 0, none⟩)) ∧ W.cell? ⟨bp, 1, none⟩ = some (.pointer (some ⟨bl, 0, none⟩)) from fun W hW => by
        obtain ⟨q0, q1, _⟩ := (hpt.fresh (HFG.out W hW).1).cells
        exact ⟨q0, q1⟩)
      have HPL := Lib.hid (show p.c.next ≤ 1000 ∧ p.c.rows.length ≤ 1000 from by have := hv.next; unfold Ct.next at this ⊢; omega)
      clear hpg hv hb0 hcl hpt hfw hzm hm h60 h61 hzr hrow hfM hwM hg hgM
      go_wp2_with fail
      refine KWI.out.mono ?_
      rintro e w' ⟨rfl, rfl⟩
      clear KWI
      go_wp2_with fail
      go_loopw [10] (fun j W => ∃ jj : Nat, jj ≤ m ∧ j = .int .i64 (jj : Int) ∧ Touch (fun k => k = g) wM W ∧ ∃ ys : List UInt8, ys.length = m ∧ Row W (.slice (some ⟨g, 0, none⟩) m m) ys) (fun j _ => m - (intOf j).toNat)
      case atStart => exact ⟨0, Nat.zero_le _, rfl, Touch.refl _ _, _, List.length_replicate .., HROW.out⟩
      case round =>
        obtain ⟨j, hj, rfl, ht, ys, hyl, hr⟩ := hrel
        by_cases hjm : j < m
        · have hr' : wr.ownsRow 0 5 1 (.slice (some ⟨g, 0, none⟩) m m) m (u8s ys) := by unfold Row at hr; rw [hyl] at hr; exact hr
          have hcell := hr'.cellAt j (by omega)
          have hfro := hr'.frozenAt j
          rw [u8s_get, List.getElem?_eq_getElem (by omega)] at hcell
          simp only [Option.map_some] at hcell
          have hst := fun u => (hr'.stored j u).1
          generalize (ys[j]'(by omega)).toNat = y at hcell
          have hjj2 : j * j ≤ 40000 * 40000 := Nat.mul_le_mul (by omega) (by omega)
          obtain ⟨v, hv2⟩ : ∃ v : Nat, v = j * j := ⟨_, rfl⟩
          have hjj : IntKind.i64.wrap ((j : Int) * (j : Int)) = (v : Int) := by rw [hv2, Int.natCast_mul]; exact IntWalk.i64_in _ (by rw [← Int.natCast_mul]; omega)
          have hvk : IntKind.i64.wrap ((v : Int) + (k : Int)) = (v : Int) + (k : Int) := IntWalk.i64_in _ (by omega)
          obtain ⟨zz, hzz⟩ : ∃ zz : UInt8, IntKind.u8.wrap ((v : Int) + (k : Int)) = (zz.toNat : Int) := ⟨UInt8.ofNat (v + k), by
            simp [IntKind.wrap, IntKind.bits, IntKind.signed]⟩
          have hwj : IntKind.i64.wrap ((j : Int) + 1) = (j : Int) + 1 := IntWalk.i64_in _ (by omega)
          have hst := hst (.int .u8 (zz.toNat : Int))
          have HST := Lib.hid hst
          have HT := Lib.hid (ht.setCell (p := ⟨g, j, none⟩) (.inr rfl) (.int .u8 (zz.toNat : Int)))
          have HYL := Lib.hid hyl
          clear hst hr hr' ht hyl hv2 hjj2
          go_wp2_with fail
          go_roundw
          case rel =>
            refine ⟨j + 1, by omega, by go_num, HT.out, ys.set j zz, by rw [List.length_set]; exact HYL.out, ?_⟩
            have h1 := HST.out
            unfold Row
            rw [List.length_set, HYL.out, show u8s (ys.set j zz) = (u8s ys).set j (.int .u8 (zz.toNat : Int)) from List.map_set]
            exact h1
          case measure => simp [intOf] <;> omega
        · obtain rfl : j = m := by omega
          have hbs : Bs wr (some ⟨g, 0, none⟩) j j ys := Row.bs (by rw [← hyl] at hr ⊢; exact hr)
          obtain ⟨b0, b1⟩ := HCE.out wr ht
          have KO := Lib.hid (KOP.out wr ht)
          have KA := Lib.hid (KAP.out wr ys ht hbs)
          obtain ⟨od, hod⟩ : ∃ od, od = p.d.ops := ⟨_, rfl⟩
          rw [← hod] at KO
          obtain ⟨q1, q2, q3, q4, q5, q6, q7⟩ := HAP.out ys hyl
          rw [← hod] at q6
          have Q3 := Lib.hid q3; have Q4 := Lib.hid q4; have Q5 := Lib.hid q5; have Q6 := Lib.hid q6; have Q7 := Lib.hid q7
          have HLN := Lib.hid (show p.struck.length ≤ 1000000 ∧ p.cuts.length ≤ 1000000 ∧ p.maybe.length ≤ 1000000 from by
            have h1 := HCL.out
            rw [h1.1, h1.2.2.1, h1.2.2.2]
            simp)
          have hwk2 : IntKind.i64.wrap ((k : Int) + 1) = (k : Int) + 1 := IntWalk.i64_in _ (by omega)
          clear hr ht hyl hbs hod q1 q2 q3 q4 q5 q6 q7 KOP KAP HAP hmk
          go_wp2_with fail
          refine KO.out.mono ?_
          rintro e w' ⟨rfl, rfl⟩
          go_wp2_with fail
          refine KA.out.mono ?_
          rintro e w4 ⟨rfl, hpt4, hbs4⟩
          obtain ⟨_, y1, y3, y4⟩ := hpt4.cells
          dsimp only at y3 y4
          have KW := Lib.hid (with_calls hpt4 (by have := HPL.out.2; dsimp only; omega) HLN.out.1 HLN.out.2.1 HLN.out.2.2 hbs4 (by omega))
          dsimp only at KW
          clear hpt4 hbs4 b0 b1 KO KA
          go_wp2_with fail
          refine KW.out.mono ?_
          rintro e w5 ⟨hf5, xA, xc, rfl, hcalls⟩
          have KCA := Lib.hid (hcalls 0 od)
          rw [Q6.out, ← Q7.out] at KCA
          clear hf5 hcalls KW y1 y3 y4
          go_wp2_with fail
          refine KCA.out.mono ?_
          rintro e w6 ⟨rfl, hpg6⟩
          have HPG6 := Lib.hid hpg6
          clear hpg6 KCA
          go_wp2_with fail
          go_roundw
          case rel => exact ⟨k + 1, _, by omega, by omega, by go_num, HPG6.out, Q3.out, Q4.out, by rw [Q5.out]; exact HB0.out⟩
          case measure => simp [intOf] <;> omega
    · obtain ⟨bN, hbN⟩ : ∃ bN : Nat, bef % 14 = (bN : Int) := ⟨(bef % 14).toNat, by have := Int.emod_nonneg bef (show (14 : Int) ≠ 0 by omega); omega⟩
      have KWI := Lib.hid (show ∀ W, Calls Tryz.prog 26 #[.int .i64 bef, .int .i64 14] W fun e w' => W = w' ∧ e = .returned (.int .i64 (bN : Int)) from fun W => by have := within_any bef 14 W (by omega) (by omega); rw [hbN] at this; exact this)
      obtain ⟨r1, r2, r3, r4, r5⟩ := hv.cut_calm (by omega) (by omega) (bN : Int) hcl
      have KD := Lib.hid (show Calls Tryz.prog 12 #[.pointer (some ⟨bp, 0, none⟩), .agg #[.int .i64 2, .int .i64 (bN : Int), .int .i64 0, .slice none 0 0, .slice none 0 0]] wr fun e w' => e = .returned (.bool true) ∧ PG w1 w' bp bd F S (p.cutS (bN : Int)) 1 from by
        have := does_pg (n := 1) hpg HLO.out hv (by omega) (by omega) (by omega) hb0 (opN_at wr 2 (bN : Int))
        rw [doS_2] at this
        exact this)
      obtain ⟨p2, hp2⟩ : ∃ p2, p2 = p.cutS (bN : Int) := ⟨_, rfl⟩
      rw [← hp2] at KD r2 r3 r5
      have R2 := Lib.hid r2; have R3 := Lib.hid r3; have R5 := Lib.hid (r5.trans hb0)
      have hidle := r2.idle
      have HID := Lib.hid hidle
      obtain ⟨pz, hpz⟩ : ∃ pz : PS, pz = { p2 with l := { p2.l with failed := false } } := ⟨_, rfl⟩
      rw [← hpz] at HID
      have HPZ := Lib.hid hpz
      have HPZB := Lib.hid (show pz.l.base = 1 * 1048576 from by rw [hpz]; exact r5.trans hb0)
      have HPZC := Lib.hid (show Calm pz from by rw [hpz]; exact r3)
      obtain ⟨big, hbig⟩ : ∃ big, big = madeCells #[.int .u8 0] 1048577 := ⟨_, rfl⟩
      have hmk : ∀ W : World, (Instr.makeSlice 26 (.int .i64 1048577) (.int .i64 1048577)).run Tryz.prog W = .ok (.slice (some ⟨W.heap.size, 0, none⟩) 1048577 1048577) (W.alloc (.cells big 5)) := fun W => by rw [hbig]; exact make_bytes 1048577 (by omega) W
      have HMK := Lib.hid hmk
      clear hpg hv hb0 hcl hpt hfw hbN r1 r2 r3 r4 r5 hp2 hpz hidle hbig hmk
      go_upto_region 5 with fail
      go_cut [26] from 19 to 26 (fun v W => v = .bool false ∧ wr = W)
      case first =>
        go_wp2_with fail
        all_goals
          go_meet
          case rel => exact ⟨by first | rfl | (rw [decide_eq_false (by omega)]), rfl⟩
      case rest =>
        obtain ⟨rfl, rfl⟩ := hcut
        go_wp2_with fail
        refine (KWI.out _).mono ?_
        rintro e w' ⟨rfl, rfl⟩
        go_wp2_with fail
        refine KD.out.mono ?_
        rintro e w3 ⟨rfl, hpg3⟩
        obtain ⟨bl3, vA3, vc3, hpt3⟩ := hpg3.pt
        have y1 := hpt3.cells.2.1
        have KL := Lib.hid (show ∀ W (A : Option Addr) (c : Nat), Fresh w3 W → Calls Tryz.prog 19 #[.pointer (some ⟨bl3, 0, none⟩), .slice A 1048577 c] W fun e w4 => e = .returned (.tuple #[.int .i64 0, .int .i64 9]) ∧ PT w1 w4 bp bd F S pz 1 bl3 vA3 vc3 from fun W A c hW => by
          rw [HPZ.out]
          exact large_pt (hpt3.fresh hW) (by omega) (by omega))
        have hmk := HMK.out
        have y1a : ∀ o, (w3.alloc o).cell? ⟨bp, 1, none⟩ = some (.pointer (some ⟨bl3, 0, none⟩)) := fun o => ((Touch.refl (fun _ => False) w3).alloc o).cell y1 id
        clear hpg3 hpt3 KD KWI
        go_upto_region 18 with fail
        go_cut [14, 15] from 81 to 89 (fun u v W => u = .int .i64 0 ∧ v = .int .i64 9 ∧ PT w1 W bp bd F S pz 1 bl3 vA3 vc3)
        case first =>
          go_region_law (first
            | (go_simp; go_at_call 19; refine (KL.out _ _ _ (by first | exact ((Touch.refl _ w3).alloc _).drew | exact ((Touch.refl _ w3).drew).alloc _ | exact (Touch.refl _ w3).alloc _)).mono ?_; rintro e w4 ⟨rfl, hpt4⟩; have HPT4 := Lib.hid hpt4; clear hpt4))
          all_goals
            go_wp2_with fail
            go_meet
            case rel => exact ⟨rfl, rfl, HPT4.out⟩
        case rest =>
          obtain ⟨rfl, rfl, hpt4⟩ := hcut
          have c0 := hpt4.cells.1
          have hfw4 := hpt4.pg.new_ HF1.out HNEW.out
          have KCR := Lib.hid (crash_pg hpt4.pg HID.out (by omega) (HZ.out.touch2 hfw4 fun _ _ _ => id) HZW.out HLO.out HZB.out)
          clear hpt4 hfw4 y1 y1a KL hmk
          go_wp2_with fail
          refine KCR.out.mono ?_
          rintro e w5 ⟨rfl, p', rfl, hpg5⟩
          have KO := Lib.hid (show ∀ W, Fresh w5 W → Calls Tryz.prog 15 #[.pointer (some ⟨bp, 0, none⟩), .bool true] W fun e w6 => e = .returned (.bool true) ∧ ∃ p6 i6 T6, PG w1 w6 bp bd F S p6 1 ∧ PInv p6 i6 T6 ∧ i6 ≤ 200 from fun W hW => by
            refine (reopen_pg (n := 1) (hpg5.fresh hW) HID.out (by omega) (by omega) HPZB.out).mono ?_
            rintro e w6 ⟨rfl, p6, h1, h2, _, h4, h5, _⟩
            have h6 : ({ p6 with struck := [], stop := -1 } : PS) = p6 := by
              have e1 : p6.struck = [] := h4.trans HPZC.out.1
              have e2 : p6.stop = -1 := h5.trans HPZC.out.2.1
              cases p6
              simp only at e1 e2
              subst e1 e2
              rfl
            rw [h6] at h2
            exact ⟨rfl, p6, _, _, h1, h2, by omega⟩)
          clear hpg5 KCR c0
          go_upto_region 20 with fail
          go_region_law (go_simp; first
            | (go_at_call 15; refine (KO.out _ (by first | exact (Touch.refl _ w5).drew | exact Touch.refl _ w5)).mono ?_; rintro e w6 ⟨rfl, p6, i6, T6, hpg6, hv6, hi6⟩; obtain ⟨bl6, vA6, vc6, hpt6⟩ := hpg6.pt; obtain ⟨_, y1, y3, y4⟩ := hpt6.cells; have HF6 := Lib.hid (hpg6.new_ HF1.out HNEW.out); have KT := Lib.hid (show ∀ W, Fresh w6 W → Calls Tryz.prog 13 #[.pointer (some ⟨bl6, 0, none⟩), .agg #[.int .i64 (p6.c.first : Int), .slice vA6 p6.c.rows.length vc6]] W fun e w' => Fresh w6 w' ∧ e = .returned (.bool true) from fun W hW => ((hpt6.fresh hW).tells hv6 hi6).mono fun e w' q => ⟨hW.trans q.1 fun _ _ => id, q.2⟩); clear hpt6 hpg6 hv6)
            | (go_at_call 13; refine (KT.out _ (by first | exact (Touch.refl _ w6).drew | exact Touch.refl _ w6)).mono ?_; rintro e w7 ⟨hf7, rfl⟩; have HF7 := Lib.hid (HF6.out.trans hf7 fun _ _ => id); clear hf7)
            | (go_at_call 16; refine (wakesL_any _).mono ?_; rintro e w8 ⟨rfl, hf8⟩; have HF8 := Lib.hid (HF7.out.trans (by first | exact hf8 | exact (Touch.refl _ w7).drew.trans hf8 fun _ _ => id) fun _ _ => id); clear hf8))
          all_goals
            go_wp2_with fail
            go_ret
            exact ⟨rfl, HF8.out⟩
end Go.Proofs.YtlcmnihpfpmajaaGreat
