/- The law WalBeside, walked. Conditions stand with it. -/
import Derived.Test.YtlcmnihpfpmajaaGreatBsmZ
import Derived.Deep.RegionLaw
import Derived.Deep.CutRange
namespace Go.Proofs.YtlcmnihpfpmajaaGreat
open Go.RowKit
set_option maxRecDepth 200000 in
set_option maxHeartbeats 16000000 in
theorem law_beside (w : World) (A1 : Option Addr) (n1 c1 : Nat) (ops1 : List OpD) (ha : OpsAt w A1 n1 c1 ops1) (A2 : Option Addr) (n2 c2 : Nat) (ops2 : List OpD) (hb : OpsAt w A2 n2 c2 ops2)
    (CA : Option Addr) (cn cc : Nat) (cuts : List Int) (hz : IsInts w CA cn cc cuts) (hzw : ∀ x ∈ cuts, -9223372036854775808 ≤ x ∧ x ≤ 9223372036854775807) (hzB : ∀ a, CA = some a → 0 < cn → a.block < w.heap.size) :
    Calls Tryz.prog 5 #[.slice A1 n1 c1, .slice A2 n2 c2, .slice CA cn cc] w fun e w' => e = .returned (.bool true) ∧ Fresh w w' := by
  have hnc := ha.vs.2.1
  have hcm := ha.vs.2.2.1
  have hnc2 := hb.vs.2.1
  have hcm2 := hb.vs.2.2.1
  unfold maxLen at hcm hcm2
  have KB := Lib.hid (show Calls Tryz.prog 11 #[.int .i64 2] w (BgnEnd w 2) from begunL_any w (n := 2) (by omega))
  have HA := Lib.hid ha; have HB := Lib.hid hb; have HZ := Lib.hid hz; have HZW := Lib.hid hzw; have HZB := Lib.hid hzB
  clear ha hb hz hzw hzB
  go_enter Tryz.func5, Tryz.ntmps5
  go_wp2_with fail
  refine KB.out.mono ?_
  rintro e w1 ⟨bp, bd, F, S, rfl, hf1, hpg, hnew⟩
  have b0 : w1.cell? ⟨bp, 0, none⟩ = some (.pointer (some ⟨bd, 0, none⟩)) := by
    obtain ⟨bl, vA, vc, hpt⟩ := hpg.pt
    exact hpt.cells.1
  have KO := Lib.hid (second_open (n := 7) hpg rfl (B := w.heap.size) ⟨hf1.size, hnew⟩ (by omega))
  have HF1 := Lib.hid hf1
  clear hpg hf1 hnew KB
  go_wp2_with fail
  refine KO.out.mono ?_
  rintro e w2 ⟨bl2, rfl, ht2, b0', htp⟩
  have HT2 := Lib.hid ht2; have HTP := Lib.hid htp
  clear ht2 htp b0 KO
  obtain ⟨w3, hw3⟩ : ∃ w3, w3 = w2.alloc (.cells #[.pointer (some ⟨bd, 0, none⟩), .pointer (some ⟨bl2, 0, none⟩), .int .i64 7, .int .i64 0, .slice none 0 0, .slice none 0 0, .slice none 0 0, .slice none 0 0, .int .i64 (-1)] 38) := ⟨_, rfl⟩
  have HTP3 := Lib.hid (HTP.out w3 hw3)
  have HF3 := Lib.hid (show Fresh w w3 from (HF1.out.trans HT2.out fun q hq e => by omega).trans (by rw [hw3]; exact (Touch.refl (fun _ => False) w2).alloc _) fun _ _ => id)
  have HW3 := Lib.hid hw3
  clear hw3
  go_upto_region 8 with fail
  rw [← HW3.out]
  clear b0'
  obtain ⟨bq, hbq⟩ : ∃ bq, bq = w2.heap.size := ⟨_, rfl⟩
  rw [← hbq] at HTP3 ⊢
  clear hbq
  go_wp2_with fail
  go_loopw [11] (fun i W => ∃ (k : Nat) (p q : PS), k ≤ 20 ∧ i = .int .i64 (k : Int) ∧ TP W bp bq bd w.heap.size p q 2 7 ∧ PInv p (2 * k + 1) (k * 450) ∧ PInv q (2 * k + 1) (k * 450) ∧ Calm p ∧ Calm q ∧ p.l.base = 2 * 1048576 ∧ q.l.base = 7 * 1048576 ∧ Fresh w W) (fun i _ => 20 - (intOf i).toNat)
  case atStart =>
    exact ⟨0, PS.new (2 * 1048576), PS.new (7 * 1048576), Nat.zero_le _, rfl, HTP3.out, PInv.new _, PInv.new _, Calm.new _, Calm.new _, by show (openP [] (2 * 1048576)).base = _; rw [open_nil], by show (openP [] (7 * 1048576)).base = _; rw [open_nil], HF3.out⟩
  case round =>
    obtain ⟨k, p, q, hk, rfl, htp, hvp, hvq, hcp, hcq, hbp, hbq, hfw⟩ := hrel
    by_cases hlt : k < 20
    · have hk20 : decide ((k : Int) < 20) = true := decide_eq_true (by omega)
      have hwk : IntKind.i64.wrap ((k : Int) + 1) = (k : Int) + 1 := IntWalk.i64_in _ (by omega)
      have HFWa := Lib.hid hfw
      clear hfw
      go_upto_if 49 with fail
      go_cut [] from 42 to 77 (fun W => ∃ p q : PS, TP W bp bq bd w.heap.size p q 2 7 ∧ PInv p (2 * k + 2) (k * 450 + 225) ∧ PInv q (2 * k + 2) (k * 450 + 225) ∧ Calm p ∧ Calm q ∧ p.l.base = 2 * 1048576 ∧ q.l.base = 7 * 1048576 ∧ Fresh w W)
      case first =>
        by_cases hla : k < n1
        · obtain ⟨b, off, o, rfl, ho⟩ := HA.out.spot hla
          obtain ⟨hop, k0, k1, k2, k3, k4⟩ := HA.out.rd ho HFWa.out
          have hkd : decide ((k : Int) < (n1 : Int)) = true := decide_eq_true (by omega)
          obtain ⟨w2, hw2⟩ : ∃ w2, w2 = wr.alloc (.cells #[.int .i64 o.Do, .int .i64 o.N, .int .i64 o.K, .slice o.A o.m o.c, .slice o.C o.nc o.cc] 29) := ⟨_, rfl⟩
          have hf2 : Fresh wr w2 := by rw [hw2]; exact (Touch.refl (fun _ => False) wr).alloc _
          have hb9 : Blk w2 wr.heap.size 29 #[.int .i64 o.Do, .int .i64 o.N, .int .i64 o.K, .slice o.A o.m o.c, .slice o.C o.nc o.cc] := by rw [hw2]; exact Blk.new _ _ _
          obtain ⟨w3, hw3⟩ : ∃ w3, w3 = w2.setCell ⟨wr.heap.size, 0, none⟩ (.int .i64 (o.Do % 3)) := ⟨_, rfl⟩
          have hf3 : Fresh wr w3 := by rw [hw3]; exact hf2.setCell (p := ⟨wr.heap.size, 0, none⟩) (.inl (Nat.le_refl _)) _
          have hb9' : Blk w3 wr.heap.size 29 #[.int .i64 (o.Do % 3), .int .i64 o.N, .int .i64 o.K, .slice o.A o.m o.c, .slice o.C o.nc o.cc] := by rw [hw3]; simpa using hb9.set_ 0 (.int .i64 (o.Do % 3))
          have x0 : w2.cell? ⟨wr.heap.size, 0, none⟩ = some (.int .i64 o.Do) := hb9.cell 0
          have x0f : w2.frozen? ⟨wr.heap.size, 0, none⟩ = false := hb9.frozen 0
          have y0 : w3.cell? ⟨wr.heap.size, 0, none⟩ = some (.int .i64 (o.Do % 3)) := hb9'.cell 0
          have y1 : w3.cell? ⟨wr.heap.size, 1, none⟩ = some (.int .i64 o.N) := hb9'.cell 1
          have y2 : w3.cell? ⟨wr.heap.size, 2, none⟩ = some (.int .i64 o.K) := hb9'.cell 2
          have y3 : w3.cell? ⟨wr.heap.size, 3, none⟩ = some (.slice o.A o.m o.c) := hb9'.cell 3
          have y4 : w3.cell? ⟨wr.heap.size, 4, none⟩ = some (.slice o.C o.nc o.cc) := hb9'.cell 4
          obtain ⟨o2, ho2⟩ : ∃ o2 : OpD, o2 = { o with Do := o.Do % 3 } := ⟨_, rfl⟩
          have hop2 : OpAt w.heap.size w3 o2 := by
            rw [ho2]
            have := hop.touch hf3 fun _ e => e.elim
            exact ⟨this.bs, this.bsB, this.cs, this.csB, this.rng⟩
          have ho7 : o2.Do % 7 = 0 ∨ o2.Do % 7 = 1 ∨ o2.Do % 7 = 2 := by rw [ho2]; show (o.Do % 3) % 7 = 0 ∨ (o.Do % 3) % 7 = 1 ∨ (o.Do % 3) % 7 = 2; omega
          have hsz3 : w.heap.size ≤ w3.heap.size := Nat.le_trans HFWa.out.size hf3.size
          have KW := Lib.hid (show Calls Tryz.prog 26 #[.int .i64 o.Do, .int .i64 3] w2 fun e w' => w2 = w' ∧ e = .returned (.int .i64 (o.Do % 3)) from within_any o.Do 3 w2 (by omega) (by omega))
          have KD := Lib.hid (show Calls Tryz.prog 12 #[.pointer (some ⟨bp, 0, none⟩), .agg #[.int .i64 (o.Do % 3), .int .i64 o.N, .int .i64 o.K, .slice o.A o.m o.c, .slice o.C o.nc o.cc]] w3 fun e w' => e = .returned (.bool true) ∧ TP w' bp bq bd w.heap.size (p.doS o2) { q with d := (p.doS o2).d } 2 7 ∧ Touch (fun k => w.heap.size ≤ k) w3 w' from by
            have := does_tp (htp.fresh hf3) hvp (by omega) (by omega) (by omega) hbp hop2 hsz3
            rw [ho2] at this
            rw [ho2]
            exact this)
          obtain ⟨cal, awy⟩ := doS_away hvp (by omega) (by omega) hcp ho7
          have hdo := hvp.doS (by omega) (by omega) o2
          have HV1 := Lib.hid (hdo.1.mono (i' := (2 * k + 1) + 1) (T' := (k * 450) + 225) (Nat.le_refl _) (by omega))
          have HV2 := Lib.hid (PInv.beside hvq hdo.1 (Nat.le_succ _) (by omega) (by rw [htp.eqd]; exact awy) (fun m h1 h2 => by unfold InR at h1 h2; rw [hbq] at h1; rw [hbp] at h2; omega) hcq cal)
          have HB1 := Lib.hid (hdo.2.trans hbp)
          have HC1 := Lib.hid cal; have HC2 := Lib.hid hcq; have HB2 := Lib.hid hbq
          have HF3 := Lib.hid (HFWa.out.trans hf3 fun _ _ => id)
          have HW2 := Lib.hid hw2; have HW3 := Lib.hid hw3
          clear ho hop hop2 ho2 ho7 hb9 hb9' hf2 hf3 hw2 hw3 cal awy hdo hsz3 htp hvp hvq hcp hcq hbp hbq
          go_upto_region 13 with fail
          rw [← HW2.out]
          go_wp2_with fail
          refine KW.out.mono ?_
          rintro e w' ⟨rfl, rfl⟩
          go_upto_region 14 with fail
          rw [← HW3.out]
          clear x0 x0f k0 k1 k2 k3 k4
          go_wp2_with fail
          refine KD.out.mono ?_
          rintro e w4 ⟨rfl, htp4, ht4⟩
          have HTP4 := Lib.hid htp4
          have HF4 := Lib.hid (HF3.out.trans ht4 fun q hq e => by omega)
          clear htp4 ht4 KD KW y0 y1 y2 y3 y4
          go_wp2_with fail
          go_meet
          case rel => exact ⟨p.doS o2, { q with d := (p.doS o2).d }, HTP4.out, HV1.out, HV2.out.mono (Nat.le_refl _) (by omega), HC1.out, HC2.out, HB1.out, HB2.out, HF4.out⟩
        · have hkd : decide ((k : Int) < (n1 : Int)) = false := decide_eq_false (by omega)
          have HZZ := Lib.hid (show _ ∧ _ from And.intro htp (And.intro hvp (And.intro hvq (And.intro hcp (And.intro hcq (And.intro hbp hbq))))))
          clear htp hvp hvq hcp hcq hbp hbq
          go_wp2_with fail
          go_meet
          case rel => exact ⟨p, q, HZZ.out.1, HZZ.out.2.1.mono (by omega) (by omega), HZZ.out.2.2.1.mono (by omega) (by omega), HZZ.out.2.2.2.1, HZZ.out.2.2.2.2.1, HZZ.out.2.2.2.2.2.1, HZZ.out.2.2.2.2.2.2, HFWa.out⟩
      case rest =>
        clear htp hvp hvq hcp hcq hbp hbq
        obtain ⟨p, q, htp, hvp, hvq, hcp, hcq, hbp, hbq, hfw⟩ := hcut
        have HFWb := Lib.hid hfw
        clear hfw
        go_upto_if 65 with fail
        by_cases hlb : k < n2
        · obtain ⟨b, off, o, rfl, ho⟩ := HB.out.spot hlb
          obtain ⟨hop, k0, k1, k2, k3, k4⟩ := HB.out.rd ho HFWb.out
          have hkd : decide ((k : Int) < (n2 : Int)) = true := decide_eq_true (by omega)
          obtain ⟨w2, hw2⟩ : ∃ w2, w2 = wc.alloc (.cells #[.int .i64 o.Do, .int .i64 o.N, .int .i64 o.K, .slice o.A o.m o.c, .slice o.C o.nc o.cc] 29) := ⟨_, rfl⟩
          have hf2 : Fresh wc w2 := by rw [hw2]; exact (Touch.refl (fun _ => False) wc).alloc _
          have hb9 : Blk w2 wc.heap.size 29 #[.int .i64 o.Do, .int .i64 o.N, .int .i64 o.K, .slice o.A o.m o.c, .slice o.C o.nc o.cc] := by rw [hw2]; exact Blk.new _ _ _
          obtain ⟨w3, hw3⟩ : ∃ w3, w3 = w2.setCell ⟨wc.heap.size, 0, none⟩ (.int .i64 (o.Do % 3)) := ⟨_, rfl⟩
          have hf3 : Fresh wc w3 := by rw [hw3]; exact hf2.setCell (p := ⟨wc.heap.size, 0, none⟩) (.inl (Nat.le_refl _)) _
          have hb9' : Blk w3 wc.heap.size 29 #[.int .i64 (o.Do % 3), .int .i64 o.N, .int .i64 o.K, .slice o.A o.m o.c, .slice o.C o.nc o.cc] := by rw [hw3]; simpa using hb9.set_ 0 (.int .i64 (o.Do % 3))
          have x0 : w2.cell? ⟨wc.heap.size, 0, none⟩ = some (.int .i64 o.Do) := hb9.cell 0
          have x0f : w2.frozen? ⟨wc.heap.size, 0, none⟩ = false := hb9.frozen 0
          have y0 : w3.cell? ⟨wc.heap.size, 0, none⟩ = some (.int .i64 (o.Do % 3)) := hb9'.cell 0
          have y1 : w3.cell? ⟨wc.heap.size, 1, none⟩ = some (.int .i64 o.N) := hb9'.cell 1
          have y2 : w3.cell? ⟨wc.heap.size, 2, none⟩ = some (.int .i64 o.K) := hb9'.cell 2
          have y3 : w3.cell? ⟨wc.heap.size, 3, none⟩ = some (.slice o.A o.m o.c) := hb9'.cell 3
          have y4 : w3.cell? ⟨wc.heap.size, 4, none⟩ = some (.slice o.C o.nc o.cc) := hb9'.cell 4
          obtain ⟨o2, ho2⟩ : ∃ o2 : OpD, o2 = { o with Do := o.Do % 3 } := ⟨_, rfl⟩
          have hop2 : OpAt w.heap.size w3 o2 := by
            rw [ho2]
            have := hop.touch hf3 fun _ e => e.elim
            exact ⟨this.bs, this.bsB, this.cs, this.csB, this.rng⟩
          have ho7 : o2.Do % 7 = 0 ∨ o2.Do % 7 = 1 ∨ o2.Do % 7 = 2 := by rw [ho2]; show (o.Do % 3) % 7 = 0 ∨ (o.Do % 3) % 7 = 1 ∨ (o.Do % 3) % 7 = 2; omega
          have hsz3 : w.heap.size ≤ w3.heap.size := Nat.le_trans HFWb.out.size hf3.size
          have KW := Lib.hid (show Calls Tryz.prog 26 #[.int .i64 o.Do, .int .i64 3] w2 fun e w' => w2 = w' ∧ e = .returned (.int .i64 (o.Do % 3)) from within_any o.Do 3 w2 (by omega) (by omega))
          have KD := Lib.hid (show Calls Tryz.prog 12 #[.pointer (some ⟨bq, 0, none⟩), .agg #[.int .i64 (o.Do % 3), .int .i64 o.N, .int .i64 o.K, .slice o.A o.m o.c, .slice o.C o.nc o.cc]] w3 fun e w' => e = .returned (.bool true) ∧ TP w' bq bp bd w.heap.size (q.doS o2) { p with d := (q.doS o2).d } 7 2 ∧ Touch (fun k => w.heap.size ≤ k) w3 w' from by
            have := does_tp (htp.fresh hf3).swap hvq (by omega) (by omega) (by omega) hbq hop2 hsz3
            rw [ho2] at this
            rw [ho2]
            exact this)
          obtain ⟨cal, awy⟩ := doS_away hvq (by omega) (by omega) hcq ho7
          have hdo := hvq.doS (by omega) (by omega) o2
          have HV1 := Lib.hid (hdo.1.mono (i' := (2 * k + 2) + 1) (T' := (k * 450 + 225) + 225) (Nat.le_refl _) (by omega))
          have HV2 := Lib.hid (PInv.beside hvp hdo.1 (Nat.le_succ _) (by omega) (by rw [← htp.eqd]; exact awy) (fun m h1 h2 => by unfold InR at h1 h2; rw [hbp] at h1; rw [hbq] at h2; omega) hcp cal)
          have HB1 := Lib.hid (hdo.2.trans hbq)
          have HC1 := Lib.hid cal; have HC2 := Lib.hid hcp; have HB2 := Lib.hid hbp
          have HF3 := Lib.hid (HFWb.out.trans hf3 fun _ _ => id)
          have HW2 := Lib.hid hw2; have HW3 := Lib.hid hw3
          clear ho hop hop2 ho2 ho7 hb9 hb9' hf2 hf3 hw2 hw3 cal awy hdo hsz3 htp hvp hvq hcp hcq hbp hbq
          go_upto_region 18 with fail
          rw [← HW2.out]
          go_wp2_with fail
          refine KW.out.mono ?_
          rintro e w' ⟨rfl, rfl⟩
          go_upto_region 19 with fail
          rw [← HW3.out]
          clear x0 x0f k0 k1 k2 k3 k4
          go_wp2_with fail
          refine KD.out.mono ?_
          rintro e w4 ⟨rfl, htp4, ht4⟩
          have HTP4 := Lib.hid htp4
          have HF4 := Lib.hid (HF3.out.trans ht4 fun q hq e => by omega)
          clear htp4 ht4 KD KW y0 y1 y2 y3 y4
          go_wp2_with fail
          go_roundw
          case rel => exact ⟨k + 1, { p with d := (q.doS o2).d }, q.doS o2, by omega, by go_num, HTP4.out.swap, HV2.out.mono (by omega) (by omega), HV1.out.mono (by omega) (by omega), HC2.out, HC1.out, HB2.out, HB1.out, HF4.out⟩
          case measure => simp [intOf] <;> omega
        · have hkd : decide ((k : Int) < (n2 : Int)) = false := decide_eq_false (by omega)
          have HZZ := Lib.hid (show _ ∧ _ from And.intro htp (And.intro hvq (And.intro hvp (And.intro hcq (And.intro hcp (And.intro hbq hbp))))))
          clear htp hvp hvq hcp hcq hbp hbq
          go_wp2_with fail
          go_roundw
          case rel => exact ⟨k + 1, p, q, by omega, by go_num, HZZ.out.1, HZZ.out.2.2.1.mono (by omega) (by omega), HZZ.out.2.1.mono (by omega) (by omega), HZZ.out.2.2.2.2.1, HZZ.out.2.2.2.1, HZZ.out.2.2.2.2.2.2, HZZ.out.2.2.2.2.2.1, HFWb.out⟩
          case measure => simp [intOf] <;> omega
    · have hk20 : decide ((k : Int) < 20) = false := decide_eq_false (by omega)
      have hki : ¬ (k : Int) < 20 := by omega
      have b0 : wr.cell? ⟨bp, 0, none⟩ = some (.pointer (some ⟨bd, 0, none⟩)) := by
        obtain ⟨_, _, bl, vA, vc, hpt⟩ := htp.pt
        exact hpt.cells.1
      have hwsz := hfw.size
      have KCR := Lib.hid (crash_tp htp hvp (by omega) (HZ.out.touch2 hfw fun _ _ _ => id) HZW.out HZB.out hwsz)
      have HEQ := Lib.hid htp.eqd
      have HVP := Lib.hid hvp; have HVQ := Lib.hid hvq; have HCP := Lib.hid hcp; have HCQ := Lib.hid hcq; have HBP := Lib.hid hbp; have HBQ := Lib.hid hbq; have HFW := Lib.hid hfw
      clear htp hvp hvq hcp hcq hbp hbq hfw
      go_upto_region 21 with fail
      go_wp2_with fail
      refine KCR.out.mono ?_
      rintro e w5 ⟨rfl, htp5, ht5⟩
      have b5 : w5.cell? ⟨bp, 0, none⟩ = some (.pointer (some ⟨bd, 0, none⟩)) := by
        obtain ⟨_, _, bl, vA, vc, hpt⟩ := htp5.pt
        exact hpt.cells.1
      have KX := Lib.hid (show Calls Tryz.prog 25 #[.pointer (some ⟨bd, 0, none⟩), .int .i64 16] w5 fun e W' => e = .returned (.tuple #[.pointer none, .int .i64 1]) ∧ W' = w5 from open_bad w5 (some ⟨bd, 0, none⟩) 16 (.inr rfl) (Nat.le_refl _))
      have KY := Lib.hid (show Calls Tryz.prog 25 #[.pointer none, .int .i64 0] w5 fun e W' => e = .returned (.tuple #[.pointer none, .int .i64 1]) ∧ W' = w5 from open_bad w5 none 0 (.inl rfl) (by omega))
      have HF5 := Lib.hid (HFW.out.trans ht5 fun x hx e => by omega)
      have HTP5 := Lib.hid htp5
      clear htp5 ht5 b0 KCR
      go_wp2_with fail
      refine KX.out.mono ?_
      rintro e w6 ⟨rfl, rfl⟩
      go_wp2_with fail
      refine KY.out.mono ?_
      rintro e w6 ⟨rfl, rfl⟩
      clear KX KY b5
      go_upto_region 24 with fail
      have s5 := HTP5.out.cells
      unfold TwoC at s5
      have h56 := HF5.out.size
      have K1 := Lib.hid (show ∀ W, Fresh w6 W → Calls Tryz.prog 15 #[.pointer (some ⟨bp, 0, none⟩), .bool true] W fun e W' => e = .returned (.bool true) ∧ ∃ p2, TP W' bp bq bd w.heap.size p2 { q with d := p.d.crash cuts } 2 7 ∧ PInv p2 42 9000 ∧ Fresh w W' from fun W hW => by
        refine (open_tp (HTP5.out.fresh hW) HVP.out HCP.out (by omega) (by omega) HBP.out (Nat.le_trans h56 hW.size)).mono ?_
        rintro e W' ⟨rfl, p2, h1, h2, h3⟩
        exact ⟨rfl, p2, h1, h2.mono (by omega) (by omega), (HF5.out.trans hW fun _ _ => id).trans h3 fun x hx e => by omega⟩)
      have K2 := Lib.hid (show ∀ W p2, TP W bp bq bd w.heap.size p2 { q with d := p.d.crash cuts } 2 7 → Fresh w W → Calls Tryz.prog 15 #[.pointer (some ⟨bq, 0, none⟩), .bool true] W fun e W' => e = .returned (.bool true) ∧ ∃ q2, TP W' bp bq bd w.heap.size p2 q2 2 7 ∧ PInv q2 42 9000 ∧ Fresh w W' from fun W p2 hW hfW => by
        rw [← HEQ.out] at hW
        refine (open_tp hW.swap HVQ.out HCQ.out (by omega) (by omega) HBQ.out hfW.size).mono ?_
        rintro e W' ⟨rfl, q2, h1, h2, h3⟩
        exact ⟨rfl, q2, h1.swap, h2.mono (by omega) (by omega), hfW.trans h3 fun x hx e => by omega⟩)
      rename_i k2 a2 k1 a1
      clear a2
      refine wp_region_any (by kernel_rfl) ?_
      try (change wpAny _ _ _ _ _ _ _ (World.drew _))
      refine wpAny_take (i := 0) (oi := ?oi1) (v := ?v1) ?hi1 (by kernel_rfl) (by kernel_rfl) (by kernel_rfl) ?hq1 ?hy1 ?rest1
      case hi1 => (first | (simp only [List.getElem?_toArray, List.getElem?_cons_zero]; rfl) | rfl)
      case hq1 => exact fun _ _ _ h => h
      case hy1 => (refine Or.inl ⟨by rfl, ?_⟩; intro wx; go_simp; try with_reducible rfl)
      try simp only [Act.put, List.setIfInBounds_toArray, List.set_cons_zero, List.set_cons_succ]
      refine wpAny_ready (rs := [1]) (by kernel_rfl) (by simp) ?_
      refine AllReady.cons (o := ?o2) ?ho2 ?st2 ?more2
      case ho2 => (first | (simp only [List.getElem?_toArray, List.getElem?_cons_succ, List.getElem?_cons_zero]; rfl) | rfl)
      case st2 =>
        intro K hK
        go_simp; go_at_call 15; refine (K1.out _ (by first | exact (Touch.refl _ w6).drew | exact Touch.refl _ w6)).mono ?_; rintro e w7 ⟨rfl, p2, htp7, hv7, hf7⟩; have s7 := htp7.cells; unfold TwoC at s7; have K27 := Lib.hid (fun W (hW : Fresh w7 W) => K2.out W p2 (htp7.fresh hW) (hf7.trans hW fun _ _ => id)); have HV7 := Lib.hid hv7; clear htp7 hv7 hf7 K1 s5; (try go_simp); refine hK _ _ ?_
        clear hK K
        try simp only [Act.put, List.setIfInBounds_toArray, List.set_cons_zero, List.set_cons_succ]
        refine wpAny_take (i := 2) (oi := ?oi3) (v := ?v3) ?hi3 (by kernel_rfl) (by kernel_rfl) (by kernel_rfl) ?hq3 ?hy3 ?rest3
        case hi3 => (first | (simp only [List.getElem?_toArray, List.getElem?_cons_succ, List.getElem?_cons_zero]; rfl) | rfl)
        case hq3 => exact fun _ _ _ h => h
        case hy3 => (refine Or.inl ⟨by rfl, ?_⟩; intro wx; go_simp; try with_reducible rfl)
        try simp only [Act.put, List.setIfInBounds_toArray, List.set_cons_zero, List.set_cons_succ]
        refine wpAny_take (i := 3) (oi := ?oi4) (v := ?v4) ?hi4 (by kernel_rfl) (by kernel_rfl) (by kernel_rfl) ?hq4 ?hy4 ?rest4
        case hi4 => (first | (simp only [List.getElem?_toArray, List.getElem?_cons_succ, List.getElem?_cons_zero]; rfl) | rfl)
        case hq4 => exact fun _ _ _ h => h
        case hy4 => (refine Or.inl ⟨by rfl, ?_⟩; intro wx; go_simp; try with_reducible rfl)
        try simp only [Act.put, List.setIfInBounds_toArray, List.set_cons_zero, List.set_cons_succ]
        refine wpAny_ready (rs := [4]) (by kernel_rfl) (by simp) ?_
        refine AllReady.cons (o := ?o5) ?ho5 ?st5 ?more5
        case ho5 => (first | (simp only [List.getElem?_toArray, List.getElem?_cons_succ, List.getElem?_cons_zero]; rfl) | rfl)
        case st5 =>
          intro K hK
          go_simp; go_at_call 15; refine (K27.out _ (by first | exact (Touch.refl _ w7).drew | exact Touch.refl _ w7)).mono ?_; rintro e w8 ⟨rfl, q2, htp8, hv8, hf8⟩; have s8 := htp8.cells; unfold TwoC at s8; have KT1 := Lib.hid (htp8.tells HV7.out (by omega)); have HTP8 := Lib.hid htp8; have HV8 := Lib.hid hv8; have HF8 := Lib.hid hf8; clear htp8 hv8 hf8 K27 s7; (try go_simp); refine hK _ _ ?_
          clear hK K
          try simp only [Act.put, List.setIfInBounds_toArray, List.set_cons_zero, List.set_cons_succ]
          refine wpAny_take (i := 5) (oi := ?oi6) (v := ?v6) ?hi6 (by kernel_rfl) (by kernel_rfl) (by kernel_rfl) ?hq6 ?hy6 ?rest6
          case hi6 => (first | (simp only [List.getElem?_toArray, List.getElem?_cons_succ, List.getElem?_cons_zero]; rfl) | rfl)
          case hq6 => exact fun _ _ _ h => h
          case hy6 => (refine Or.inl ⟨by rfl, ?_⟩; intro wx; go_simp; try with_reducible rfl)
          try simp only [Act.put, List.setIfInBounds_toArray, List.set_cons_zero, List.set_cons_succ]
          refine wpAny_take (i := 6) (oi := ?oi7) (v := ?v7) ?hi7 (by kernel_rfl) (by kernel_rfl) (by kernel_rfl) ?hq7 ?hy7 ?rest7
          case hi7 => (first | (simp only [List.getElem?_toArray, List.getElem?_cons_succ, List.getElem?_cons_zero]; rfl) | rfl)
          case hq7 => exact fun _ _ _ h => h
          case hy7 => (refine Or.inl ⟨by rfl, ?_⟩; intro wx; go_simp; try with_reducible rfl)
          try simp only [Act.put, List.setIfInBounds_toArray, List.set_cons_zero, List.set_cons_succ]
          refine wpAny_take (i := 7) (oi := ?oi8) (v := ?v8) ?hi8 (by kernel_rfl) (by kernel_rfl) (by kernel_rfl) ?hq8 ?hy8 ?rest8
          case hi8 => (first | (simp only [List.getElem?_toArray, List.getElem?_cons_succ, List.getElem?_cons_zero]; rfl) | rfl)
          case hq8 => exact fun _ _ _ h => h
          case hy8 => (refine Or.inl ⟨by rfl, ?_⟩; intro wx; go_simp; try with_reducible rfl)
          try simp only [Act.put, List.setIfInBounds_toArray, List.set_cons_zero, List.set_cons_succ]
          refine wpAny_take (i := 8) (oi := ?oi9) (v := ?v9) ?hi9 (by kernel_rfl) (by kernel_rfl) (by kernel_rfl) ?hq9 ?hy9 ?rest9
          case hi9 => (first | (simp only [List.getElem?_toArray, List.getElem?_cons_succ, List.getElem?_cons_zero]; rfl) | rfl)
          case hq9 => exact fun _ _ _ h => h
          case hy9 => (refine Or.inl ⟨by rfl, ?_⟩; intro wx; go_simp; try with_reducible rfl)
          try simp only [Act.put, List.setIfInBounds_toArray, List.set_cons_zero, List.set_cons_succ]
          refine wpAny_take (i := 9) (oi := ?oi10) (v := ?v10) ?hi10 (by kernel_rfl) (by kernel_rfl) (by kernel_rfl) ?hq10 ?hy10 ?rest10
          case hi10 => (first | (simp only [List.getElem?_toArray, List.getElem?_cons_succ, List.getElem?_cons_zero]; rfl) | rfl)
          case hq10 => exact fun _ _ _ h => h
          case hy10 => (refine Or.inl ⟨by rfl, ?_⟩; intro wx; go_simp; try with_reducible rfl)
          try simp only [Act.put, List.setIfInBounds_toArray, List.set_cons_zero, List.set_cons_succ]
          refine wpAny_take (i := 11) (oi := ?oi11) (v := ?v11) ?hi11 (by kernel_rfl) (by kernel_rfl) (by kernel_rfl) ?hq11 ?hy11 ?rest11
          case hi11 => (first | (simp only [List.getElem?_toArray, List.getElem?_cons_succ, List.getElem?_cons_zero]; rfl) | rfl)
          case hq11 => exact fun _ _ _ h => h
          case hy11 => (refine Or.inl ⟨by rfl, ?_⟩; intro wx; go_simp; try with_reducible rfl)
          try simp only [Act.put, List.setIfInBounds_toArray, List.set_cons_zero, List.set_cons_succ]
          refine wpAny_take (i := 12) (oi := ?oi12) (v := ?v12) ?hi12 (by kernel_rfl) (by kernel_rfl) (by kernel_rfl) ?hq12 ?hy12 ?rest12
          case hi12 => (first | (simp only [List.getElem?_toArray, List.getElem?_cons_succ, List.getElem?_cons_zero]; rfl) | rfl)
          case hq12 => exact fun _ _ _ h => h
          case hy12 => (refine Or.inl ⟨by rfl, ?_⟩; intro wx; go_simp; try with_reducible rfl)
          try simp only [Act.put, List.setIfInBounds_toArray, List.set_cons_zero, List.set_cons_succ]
          refine wpAny_take (i := 13) (oi := ?oi13) (v := ?v13) ?hi13 (by kernel_rfl) (by kernel_rfl) (by kernel_rfl) ?hq13 ?hy13 ?rest13
          case hi13 => (first | (simp only [List.getElem?_toArray, List.getElem?_cons_succ, List.getElem?_cons_zero]; rfl) | rfl)
          case hq13 => exact fun _ _ _ h => h
          case hy13 => (refine Or.inl ⟨by rfl, ?_⟩; intro wx; go_simp; try with_reducible rfl)
          try simp only [Act.put, List.setIfInBounds_toArray, List.set_cons_zero, List.set_cons_succ]
          refine wpAny_ready (rs := [10, 14]) (by kernel_rfl) (by simp) ?_
          refine AllReady.cons (o := ?o14) ?ho14 ?st14 ?more14
          case ho14 => (first | (simp only [List.getElem?_toArray, List.getElem?_cons_succ, List.getElem?_cons_zero]; rfl) | rfl)
          case st14 =>
            intro K hK
            go_simp; refine hK _ _ ?_
            clear hK K
            try simp only [Act.put, List.setIfInBounds_toArray, List.set_cons_zero, List.set_cons_succ]
            refine wpAny_ready (rs := [14]) (by kernel_rfl) (by simp) ?_
            refine AllReady.cons (o := ?o15) ?ho15 ?st15 ?more15
            case ho15 => (first | (simp only [List.getElem?_toArray, List.getElem?_cons_succ, List.getElem?_cons_zero]; rfl) | rfl)
            case st15 =>
              intro K hK
              go_simp; refine hK _ _ ?_
              clear hK K
              try simp only [Act.put, List.setIfInBounds_toArray, List.set_cons_zero, List.set_cons_succ]
              refine wpAny_ready (rs := [15]) (by kernel_rfl) (by simp) ?_
              refine AllReady.cons (o := ?o16) ?ho16 ?st16 ?more16
              case ho16 => (first | (simp only [List.getElem?_toArray, List.getElem?_cons_succ, List.getElem?_cons_zero]; rfl) | rfl)
              case st16 =>
                intro K hK
                go_simp; go_at_call 13; refine (KT1.out _ (by first | exact (Touch.refl _ w8).drew | exact Touch.refl _ w8)).mono ?_; rintro e w9 ⟨rfl, hf9⟩; have s9 := (HTP8.out.fresh hf9).cells; unfold TwoC at s9; have KT2 := Lib.hid ((HTP8.out.fresh hf9).swap.tells HV8.out (by omega)); have HF9 := Lib.hid (HF8.out.trans hf9 fun _ _ => id); have HTP9 := Lib.hid (HTP8.out.fresh hf9); clear hf9 KT1 s8; (try go_simp); refine hK _ _ ?_
                clear hK K
                try simp only [Act.put, List.setIfInBounds_toArray, List.set_cons_zero, List.set_cons_succ]
                refine wpAny_take (i := 16) (oi := ?oi17) (v := ?v17) ?hi17 (by kernel_rfl) (by kernel_rfl) (by kernel_rfl) ?hq17 ?hy17 ?rest17
                case hi17 => (first | (simp only [List.getElem?_toArray, List.getElem?_cons_succ, List.getElem?_cons_zero]; rfl) | rfl)
                case hq17 => exact fun _ _ _ h => h
                case hy17 => (refine Or.inl ⟨by rfl, ?_⟩; intro wx; go_simp; try with_reducible rfl)
                try simp only [Act.put, List.setIfInBounds_toArray, List.set_cons_zero, List.set_cons_succ]
                refine wpAny_take (i := 17) (oi := ?oi18) (v := ?v18) ?hi18 (by kernel_rfl) (by kernel_rfl) (by kernel_rfl) ?hq18 ?hy18 ?rest18
                case hi18 => (first | (simp only [List.getElem?_toArray, List.getElem?_cons_succ, List.getElem?_cons_zero]; rfl) | rfl)
                case hq18 => exact fun _ _ _ h => h
                case hy18 => (refine Or.inl ⟨by rfl, ?_⟩; intro wx; go_simp; try with_reducible rfl)
                try simp only [Act.put, List.setIfInBounds_toArray, List.set_cons_zero, List.set_cons_succ]
                refine wpAny_take (i := 18) (oi := ?oi19) (v := ?v19) ?hi19 (by kernel_rfl) (by kernel_rfl) (by kernel_rfl) ?hq19 ?hy19 ?rest19
                case hi19 => (first | (simp only [List.getElem?_toArray, List.getElem?_cons_succ, List.getElem?_cons_zero]; rfl) | rfl)
                case hq19 => exact fun _ _ _ h => h
                case hy19 => (refine Or.inl ⟨by rfl, ?_⟩; intro wx; go_simp; try with_reducible rfl)
                try simp only [Act.put, List.setIfInBounds_toArray, List.set_cons_zero, List.set_cons_succ]
                refine wpAny_take (i := 19) (oi := ?oi20) (v := ?v20) ?hi20 (by kernel_rfl) (by kernel_rfl) (by kernel_rfl) ?hq20 ?hy20 ?rest20
                case hi20 => (first | (simp only [List.getElem?_toArray, List.getElem?_cons_succ, List.getElem?_cons_zero]; rfl) | rfl)
                case hq20 => exact fun _ _ _ h => h
                case hy20 => (refine Or.inl ⟨by rfl, ?_⟩; intro wx; go_simp; try with_reducible rfl)
                try simp only [Act.put, List.setIfInBounds_toArray, List.set_cons_zero, List.set_cons_succ]
                refine wpAny_take (i := 20) (oi := ?oi21) (v := ?v21) ?hi21 (by kernel_rfl) (by kernel_rfl) (by kernel_rfl) ?hq21 ?hy21 ?rest21
                case hi21 => (first | (simp only [List.getElem?_toArray, List.getElem?_cons_succ, List.getElem?_cons_zero]; rfl) | rfl)
                case hq21 => exact fun _ _ _ h => h
                case hy21 => (refine Or.inl ⟨by rfl, ?_⟩; intro wx; go_simp; try with_reducible rfl)
                try simp only [Act.put, List.setIfInBounds_toArray, List.set_cons_zero, List.set_cons_succ]
                refine wpAny_take (i := 22) (oi := ?oi22) (v := ?v22) ?hi22 (by kernel_rfl) (by kernel_rfl) (by kernel_rfl) ?hq22 ?hy22 ?rest22
                case hi22 => (first | (simp only [List.getElem?_toArray, List.getElem?_cons_succ, List.getElem?_cons_zero]; rfl) | rfl)
                case hq22 => exact fun _ _ _ h => h
                case hy22 => (refine Or.inl ⟨by rfl, ?_⟩; intro wx; go_simp; try with_reducible rfl)
                try simp only [Act.put, List.setIfInBounds_toArray, List.set_cons_zero, List.set_cons_succ]
                refine wpAny_take (i := 23) (oi := ?oi23) (v := ?v23) ?hi23 (by kernel_rfl) (by kernel_rfl) (by kernel_rfl) ?hq23 ?hy23 ?rest23
                case hi23 => (first | (simp only [List.getElem?_toArray, List.getElem?_cons_succ, List.getElem?_cons_zero]; rfl) | rfl)
                case hq23 => exact fun _ _ _ h => h
                case hy23 => (refine Or.inl ⟨by rfl, ?_⟩; intro wx; go_simp; try with_reducible rfl)
                try simp only [Act.put, List.setIfInBounds_toArray, List.set_cons_zero, List.set_cons_succ]
                refine wpAny_take (i := 24) (oi := ?oi24) (v := ?v24) ?hi24 (by kernel_rfl) (by kernel_rfl) (by kernel_rfl) ?hq24 ?hy24 ?rest24
                case hi24 => (first | (simp only [List.getElem?_toArray, List.getElem?_cons_succ, List.getElem?_cons_zero]; rfl) | rfl)
                case hq24 => exact fun _ _ _ h => h
                case hy24 => (refine Or.inl ⟨by rfl, ?_⟩; intro wx; go_simp; try with_reducible rfl)
                try simp only [Act.put, List.setIfInBounds_toArray, List.set_cons_zero, List.set_cons_succ]
                refine wpAny_ready (rs := [21, 25]) (by kernel_rfl) (by simp) ?_
                refine AllReady.cons (o := ?o25) ?ho25 ?st25 ?more25
                case ho25 => (first | (simp only [List.getElem?_toArray, List.getElem?_cons_succ, List.getElem?_cons_zero]; rfl) | rfl)
                case st25 =>
                  intro K hK
                  go_simp; refine hK _ _ ?_
                  clear hK K
                  try simp only [Act.put, List.setIfInBounds_toArray, List.set_cons_zero, List.set_cons_succ]
                  refine wpAny_ready (rs := [25]) (by kernel_rfl) (by simp) ?_
                  refine AllReady.cons (o := ?o26) ?ho26 ?st26 ?more26
                  case ho26 => (first | (simp only [List.getElem?_toArray, List.getElem?_cons_succ, List.getElem?_cons_zero]; rfl) | rfl)
                  case st26 =>
                    intro K hK
                    go_simp; refine hK _ _ ?_
                    clear hK K
                    try simp only [Act.put, List.setIfInBounds_toArray, List.set_cons_zero, List.set_cons_succ]
                    refine wpAny_ready (rs := [26]) (by kernel_rfl) (by simp) ?_
                    refine AllReady.cons (o := ?o27) ?ho27 ?st27 ?more27
                    case ho27 => (first | (simp only [List.getElem?_toArray, List.getElem?_cons_succ, List.getElem?_cons_zero]; rfl) | rfl)
                    case st27 =>
                      intro K hK
                      go_simp; go_at_call 13; refine (KT2.out _ (by first | exact (Touch.refl _ w9).drew | exact Touch.refl _ w9)).mono ?_; rintro e w10 ⟨rfl, hf10⟩; have s10 := (HTP9.out.fresh hf10).cells; unfold TwoC at s10; have HF10 := Lib.hid (HF9.out.trans hf10 fun _ _ => id); have HTP10 := Lib.hid (HTP9.out.fresh hf10); clear hf10 KT2 s9; (try go_simp); refine hK _ _ ?_
                      clear hK K
                      try simp only [Act.put, List.setIfInBounds_toArray, List.set_cons_zero, List.set_cons_succ]
                      refine wpAny_take (i := 27) (oi := ?oi28) (v := ?v28) ?hi28 (by kernel_rfl) (by kernel_rfl) (by kernel_rfl) ?hq28 ?hy28 ?rest28
                      case hi28 => (first | (simp only [List.getElem?_toArray, List.getElem?_cons_succ, List.getElem?_cons_zero]; rfl) | rfl)
                      case hq28 => exact fun _ _ _ h => h
                      case hy28 => (refine Or.inl ⟨by rfl, ?_⟩; intro wx; go_simp; try with_reducible rfl)
                      try simp only [Act.put, List.setIfInBounds_toArray, List.set_cons_zero, List.set_cons_succ]
                      refine wpAny_take (i := 28) (oi := ?oi29) (v := ?v29) ?hi29 (by kernel_rfl) (by kernel_rfl) (by kernel_rfl) ?hq29 ?hy29 ?rest29
                      case hi29 => (first | (simp only [List.getElem?_toArray, List.getElem?_cons_succ, List.getElem?_cons_zero]; rfl) | rfl)
                      case hq29 => exact fun _ _ _ h => h
                      case hy29 => (refine Or.inl ⟨by rfl, ?_⟩; intro wx; go_simp; try with_reducible rfl)
                      try simp only [Act.put, List.setIfInBounds_toArray, List.set_cons_zero, List.set_cons_succ]
                      refine wpAny_take (i := 29) (oi := ?oi30) (v := ?v30) ?hi30 (by kernel_rfl) (by kernel_rfl) (by kernel_rfl) ?hq30 ?hy30 ?rest30
                      case hi30 => (first | (simp only [List.getElem?_toArray, List.getElem?_cons_succ, List.getElem?_cons_zero]; rfl) | rfl)
                      case hq30 => exact fun _ _ _ h => h
                      case hy30 => (refine Or.inl ⟨by rfl, ?_⟩; intro wx; go_simp; try with_reducible rfl)
                      try simp only [Act.put, List.setIfInBounds_toArray, List.set_cons_zero, List.set_cons_succ]
                      refine wpAny_take (i := 30) (oi := ?oi31) (v := ?v31) ?hi31 (by kernel_rfl) (by kernel_rfl) (by kernel_rfl) ?hq31 ?hy31 ?rest31
                      case hi31 => (first | (simp only [List.getElem?_toArray, List.getElem?_cons_succ, List.getElem?_cons_zero]; rfl) | rfl)
                      case hq31 => exact fun _ _ _ h => h
                      case hy31 => (refine Or.inl ⟨by rfl, ?_⟩; intro wx; go_simp; try with_reducible rfl)
                      try simp only [Act.put, List.setIfInBounds_toArray, List.set_cons_zero, List.set_cons_succ]
                      refine wpAny_take (i := 31) (oi := ?oi32) (v := ?v32) ?hi32 (by kernel_rfl) (by kernel_rfl) (by kernel_rfl) ?hq32 ?hy32 ?rest32
                      case hi32 => (first | (simp only [List.getElem?_toArray, List.getElem?_cons_succ, List.getElem?_cons_zero]; rfl) | rfl)
                      case hq32 => exact fun _ _ _ h => h
                      case hy32 => (refine Or.inl ⟨by rfl, ?_⟩; intro wx; go_simp; try with_reducible rfl)
                      try simp only [Act.put, List.setIfInBounds_toArray, List.set_cons_zero, List.set_cons_succ]
                      refine wpAny_take (i := 32) (oi := ?oi33) (v := ?v33) ?hi33 (by kernel_rfl) (by kernel_rfl) (by kernel_rfl) ?hq33 ?hy33 ?rest33
                      case hi33 => (first | (simp only [List.getElem?_toArray, List.getElem?_cons_succ, List.getElem?_cons_zero]; rfl) | rfl)
                      case hq33 => exact fun _ _ _ h => h
                      case hy33 => (refine Or.inl ⟨by rfl, ?_⟩; intro wx; go_simp; try with_reducible rfl)
                      try simp only [Act.put, List.setIfInBounds_toArray, List.set_cons_zero, List.set_cons_succ]
                      refine wpAny_take (i := 33) (oi := ?oi34) (v := ?v34) ?hi34 (by kernel_rfl) (by kernel_rfl) (by kernel_rfl) ?hq34 ?hy34 ?rest34
                      case hi34 => (first | (simp only [List.getElem?_toArray, List.getElem?_cons_succ, List.getElem?_cons_zero]; rfl) | rfl)
                      case hq34 => exact fun _ _ _ h => h
                      case hy34 => (refine Or.inl ⟨by rfl, ?_⟩; intro wx; go_simp; try with_reducible rfl)
                      try simp only [Act.put, List.setIfInBounds_toArray, List.set_cons_zero, List.set_cons_succ]
                      refine wpAny_take (i := 34) (oi := ?oi35) (v := ?v35) ?hi35 (by kernel_rfl) (by kernel_rfl) (by kernel_rfl) ?hq35 ?hy35 ?rest35
                      case hi35 => (first | (simp only [List.getElem?_toArray, List.getElem?_cons_succ, List.getElem?_cons_zero]; rfl) | rfl)
                      case hq35 => exact fun _ _ _ h => h
                      case hy35 => (refine Or.inl ⟨by rfl, ?_⟩; intro wx; go_simp; try with_reducible rfl)
                      try simp only [Act.put, List.setIfInBounds_toArray, List.set_cons_zero, List.set_cons_succ]
                      refine wpAny_take (i := 35) (oi := ?oi36) (v := ?v36) ?hi36 (by kernel_rfl) (by kernel_rfl) (by kernel_rfl) ?hq36 ?hy36 ?rest36
                      case hi36 => (first | (simp only [List.getElem?_toArray, List.getElem?_cons_succ, List.getElem?_cons_zero]; rfl) | rfl)
                      case hq36 => exact fun _ _ _ h => h
                      case hy36 => (refine Or.inl ⟨by rfl, ?_⟩; intro wx; go_simp; try with_reducible rfl)
                      try simp only [Act.put, List.setIfInBounds_toArray, List.set_cons_zero, List.set_cons_succ]
                      refine wpAny_take (i := 36) (oi := ?oi37) (v := ?v37) ?hi37 (by kernel_rfl) (by kernel_rfl) (by kernel_rfl) ?hq37 ?hy37 ?rest37
                      case hi37 => (first | (simp only [List.getElem?_toArray, List.getElem?_cons_succ, List.getElem?_cons_zero]; rfl) | rfl)
                      case hq37 => exact fun _ _ _ h => h
                      case hy37 => (refine Or.inl ⟨by rfl, ?_⟩; intro wx; go_simp; try with_reducible rfl)
                      try simp only [Act.put, List.setIfInBounds_toArray, List.set_cons_zero, List.set_cons_succ]
                      refine wpAny_ready (rs := [37]) (by kernel_rfl) (by simp) ?_
                      refine AllReady.cons (o := ?o38) ?ho38 ?st38 ?more38
                      case ho38 => (first | (simp only [List.getElem?_toArray, List.getElem?_cons_succ, List.getElem?_cons_zero]; rfl) | rfl)
                      case st38 =>
                        intro K hK
                        go_simp; go_at_call 16; refine (wakesL_any _).mono ?_; rintro e w11 ⟨rfl, hf11⟩; have s11 := (HTP10.out.fresh hf11).cells; unfold TwoC at s11; have HF11 := Lib.hid (HF10.out.trans hf11 fun _ _ => id); clear hf11 s10; (try go_simp); refine hK _ _ ?_
                        clear hK K
                        try simp only [Act.put, List.setIfInBounds_toArray, List.set_cons_zero, List.set_cons_succ]
                        refine wpAny_take (i := 38) (oi := ?oi39) (v := ?v39) ?hi39 (by kernel_rfl) (by kernel_rfl) (by kernel_rfl) ?hq39 ?hy39 ?rest39
                        case hi39 => (first | (simp only [List.getElem?_toArray, List.getElem?_cons_succ, List.getElem?_cons_zero]; rfl) | rfl)
                        case hq39 => exact fun _ _ _ h => h
                        case hy39 => (refine Or.inl ⟨by rfl, ?_⟩; intro wx; go_simp; try with_reducible rfl)
                        try simp only [Act.put, List.setIfInBounds_toArray, List.set_cons_zero, List.set_cons_succ]
                        refine wpAny_take (i := 39) (oi := ?oi40) (v := ?v40) ?hi40 (by kernel_rfl) (by kernel_rfl) (by kernel_rfl) ?hq40 ?hy40 ?rest40
                        case hi40 => (first | (simp only [List.getElem?_toArray, List.getElem?_cons_succ, List.getElem?_cons_zero]; rfl) | rfl)
                        case hq40 => exact fun _ _ _ h => h
                        case hy40 => (refine Or.inl ⟨by rfl, ?_⟩; intro wx; go_simp; try with_reducible rfl)
                        try simp only [Act.put, List.setIfInBounds_toArray, List.set_cons_zero, List.set_cons_succ]
                        refine wpAny_done (by kernel_rfl) ?_ _
                        go_wp2_with fail
                        go_ret
                        exact ⟨rfl, HF11.out⟩
                      exact AllReady.nil
                    exact AllReady.nil
                  exact AllReady.nil
                refine AllReady.cons (o := ?o41) ?ho41 ?st41 ?more41
                case ho41 => (first | (simp only [List.getElem?_toArray, List.getElem?_cons_succ, List.getElem?_cons_zero]; rfl) | rfl)
                case st41 =>
                  intro K hK
                  go_simp; refine hK _ _ ?_
                  clear hK K
                  try simp only [Act.put, List.setIfInBounds_toArray, List.set_cons_zero, List.set_cons_succ]
                  refine wpAny_ready (rs := [21]) (by kernel_rfl) (by simp) ?_
                  refine AllReady.cons (o := ?o42) ?ho42 ?st42 ?more42
                  case ho42 => (first | (simp only [List.getElem?_toArray, List.getElem?_cons_succ, List.getElem?_cons_zero]; rfl) | rfl)
                  case st42 =>
                    intro K hK
                    go_simp; refine hK _ _ ?_
                    clear hK K
                    try simp only [Act.put, List.setIfInBounds_toArray, List.set_cons_zero, List.set_cons_succ]
                    refine wpAny_ready (rs := [26]) (by kernel_rfl) (by simp) ?_
                    refine AllReady.cons (o := ?o43) ?ho43 ?st43 ?more43
                    case ho43 => (first | (simp only [List.getElem?_toArray, List.getElem?_cons_succ, List.getElem?_cons_zero]; rfl) | rfl)
                    case st43 =>
                      intro K hK
                      go_simp; go_at_call 13; refine (KT2.out _ (by first | exact (Touch.refl _ w9).drew | exact Touch.refl _ w9)).mono ?_; rintro e w10 ⟨rfl, hf10⟩; have s10 := (HTP9.out.fresh hf10).cells; unfold TwoC at s10; have HF10 := Lib.hid (HF9.out.trans hf10 fun _ _ => id); have HTP10 := Lib.hid (HTP9.out.fresh hf10); clear hf10 KT2 s9; (try go_simp); refine hK _ _ ?_
                      clear hK K
                      try simp only [Act.put, List.setIfInBounds_toArray, List.set_cons_zero, List.set_cons_succ]
                      refine wpAny_take (i := 27) (oi := ?oi44) (v := ?v44) ?hi44 (by kernel_rfl) (by kernel_rfl) (by kernel_rfl) ?hq44 ?hy44 ?rest44
                      case hi44 => (first | (simp only [List.getElem?_toArray, List.getElem?_cons_succ, List.getElem?_cons_zero]; rfl) | rfl)
                      case hq44 => exact fun _ _ _ h => h
                      case hy44 => (refine Or.inl ⟨by rfl, ?_⟩; intro wx; go_simp; try with_reducible rfl)
                      try simp only [Act.put, List.setIfInBounds_toArray, List.set_cons_zero, List.set_cons_succ]
                      refine wpAny_take (i := 28) (oi := ?oi45) (v := ?v45) ?hi45 (by kernel_rfl) (by kernel_rfl) (by kernel_rfl) ?hq45 ?hy45 ?rest45
                      case hi45 => (first | (simp only [List.getElem?_toArray, List.getElem?_cons_succ, List.getElem?_cons_zero]; rfl) | rfl)
                      case hq45 => exact fun _ _ _ h => h
                      case hy45 => (refine Or.inl ⟨by rfl, ?_⟩; intro wx; go_simp; try with_reducible rfl)
                      try simp only [Act.put, List.setIfInBounds_toArray, List.set_cons_zero, List.set_cons_succ]
                      refine wpAny_take (i := 29) (oi := ?oi46) (v := ?v46) ?hi46 (by kernel_rfl) (by kernel_rfl) (by kernel_rfl) ?hq46 ?hy46 ?rest46
                      case hi46 => (first | (simp only [List.getElem?_toArray, List.getElem?_cons_succ, List.getElem?_cons_zero]; rfl) | rfl)
                      case hq46 => exact fun _ _ _ h => h
                      case hy46 => (refine Or.inl ⟨by rfl, ?_⟩; intro wx; go_simp; try with_reducible rfl)
                      try simp only [Act.put, List.setIfInBounds_toArray, List.set_cons_zero, List.set_cons_succ]
                      refine wpAny_take (i := 30) (oi := ?oi47) (v := ?v47) ?hi47 (by kernel_rfl) (by kernel_rfl) (by kernel_rfl) ?hq47 ?hy47 ?rest47
                      case hi47 => (first | (simp only [List.getElem?_toArray, List.getElem?_cons_succ, List.getElem?_cons_zero]; rfl) | rfl)
                      case hq47 => exact fun _ _ _ h => h
                      case hy47 => (refine Or.inl ⟨by rfl, ?_⟩; intro wx; go_simp; try with_reducible rfl)
                      try simp only [Act.put, List.setIfInBounds_toArray, List.set_cons_zero, List.set_cons_succ]
                      refine wpAny_take (i := 31) (oi := ?oi48) (v := ?v48) ?hi48 (by kernel_rfl) (by kernel_rfl) (by kernel_rfl) ?hq48 ?hy48 ?rest48
                      case hi48 => (first | (simp only [List.getElem?_toArray, List.getElem?_cons_succ, List.getElem?_cons_zero]; rfl) | rfl)
                      case hq48 => exact fun _ _ _ h => h
                      case hy48 => (refine Or.inl ⟨by rfl, ?_⟩; intro wx; go_simp; try with_reducible rfl)
                      try simp only [Act.put, List.setIfInBounds_toArray, List.set_cons_zero, List.set_cons_succ]
                      refine wpAny_take (i := 32) (oi := ?oi49) (v := ?v49) ?hi49 (by kernel_rfl) (by kernel_rfl) (by kernel_rfl) ?hq49 ?hy49 ?rest49
                      case hi49 => (first | (simp only [List.getElem?_toArray, List.getElem?_cons_succ, List.getElem?_cons_zero]; rfl) | rfl)
                      case hq49 => exact fun _ _ _ h => h
                      case hy49 => (refine Or.inl ⟨by rfl, ?_⟩; intro wx; go_simp; try with_reducible rfl)
                      try simp only [Act.put, List.setIfInBounds_toArray, List.set_cons_zero, List.set_cons_succ]
                      refine wpAny_take (i := 33) (oi := ?oi50) (v := ?v50) ?hi50 (by kernel_rfl) (by kernel_rfl) (by kernel_rfl) ?hq50 ?hy50 ?rest50
                      case hi50 => (first | (simp only [List.getElem?_toArray, List.getElem?_cons_succ, List.getElem?_cons_zero]; rfl) | rfl)
                      case hq50 => exact fun _ _ _ h => h
                      case hy50 => (refine Or.inl ⟨by rfl, ?_⟩; intro wx; go_simp; try with_reducible rfl)
                      try simp only [Act.put, List.setIfInBounds_toArray, List.set_cons_zero, List.set_cons_succ]
                      refine wpAny_take (i := 34) (oi := ?oi51) (v := ?v51) ?hi51 (by kernel_rfl) (by kernel_rfl) (by kernel_rfl) ?hq51 ?hy51 ?rest51
                      case hi51 => (first | (simp only [List.getElem?_toArray, List.getElem?_cons_succ, List.getElem?_cons_zero]; rfl) | rfl)
                      case hq51 => exact fun _ _ _ h => h
                      case hy51 => (refine Or.inl ⟨by rfl, ?_⟩; intro wx; go_simp; try with_reducible rfl)
                      try simp only [Act.put, List.setIfInBounds_toArray, List.set_cons_zero, List.set_cons_succ]
                      refine wpAny_take (i := 35) (oi := ?oi52) (v := ?v52) ?hi52 (by kernel_rfl) (by kernel_rfl) (by kernel_rfl) ?hq52 ?hy52 ?rest52
                      case hi52 => (first | (simp only [List.getElem?_toArray, List.getElem?_cons_succ, List.getElem?_cons_zero]; rfl) | rfl)
                      case hq52 => exact fun _ _ _ h => h
                      case hy52 => (refine Or.inl ⟨by rfl, ?_⟩; intro wx; go_simp; try with_reducible rfl)
                      try simp only [Act.put, List.setIfInBounds_toArray, List.set_cons_zero, List.set_cons_succ]
                      refine wpAny_take (i := 36) (oi := ?oi53) (v := ?v53) ?hi53 (by kernel_rfl) (by kernel_rfl) (by kernel_rfl) ?hq53 ?hy53 ?rest53
                      case hi53 => (first | (simp only [List.getElem?_toArray, List.getElem?_cons_succ, List.getElem?_cons_zero]; rfl) | rfl)
                      case hq53 => exact fun _ _ _ h => h
                      case hy53 => (refine Or.inl ⟨by rfl, ?_⟩; intro wx; go_simp; try with_reducible rfl)
                      try simp only [Act.put, List.setIfInBounds_toArray, List.set_cons_zero, List.set_cons_succ]
                      refine wpAny_ready (rs := [37]) (by kernel_rfl) (by simp) ?_
                      refine AllReady.cons (o := ?o54) ?ho54 ?st54 ?more54
                      case ho54 => (first | (simp only [List.getElem?_toArray, List.getElem?_cons_succ, List.getElem?_cons_zero]; rfl) | rfl)
                      case st54 =>
                        intro K hK
                        go_simp; go_at_call 16; refine (wakesL_any _).mono ?_; rintro e w11 ⟨rfl, hf11⟩; have s11 := (HTP10.out.fresh hf11).cells; unfold TwoC at s11; have HF11 := Lib.hid (HF10.out.trans hf11 fun _ _ => id); clear hf11 s10; (try go_simp); refine hK _ _ ?_
                        clear hK K
                        try simp only [Act.put, List.setIfInBounds_toArray, List.set_cons_zero, List.set_cons_succ]
                        refine wpAny_take (i := 38) (oi := ?oi55) (v := ?v55) ?hi55 (by kernel_rfl) (by kernel_rfl) (by kernel_rfl) ?hq55 ?hy55 ?rest55
                        case hi55 => (first | (simp only [List.getElem?_toArray, List.getElem?_cons_succ, List.getElem?_cons_zero]; rfl) | rfl)
                        case hq55 => exact fun _ _ _ h => h
                        case hy55 => (refine Or.inl ⟨by rfl, ?_⟩; intro wx; go_simp; try with_reducible rfl)
                        try simp only [Act.put, List.setIfInBounds_toArray, List.set_cons_zero, List.set_cons_succ]
                        refine wpAny_take (i := 39) (oi := ?oi56) (v := ?v56) ?hi56 (by kernel_rfl) (by kernel_rfl) (by kernel_rfl) ?hq56 ?hy56 ?rest56
                        case hi56 => (first | (simp only [List.getElem?_toArray, List.getElem?_cons_succ, List.getElem?_cons_zero]; rfl) | rfl)
                        case hq56 => exact fun _ _ _ h => h
                        case hy56 => (refine Or.inl ⟨by rfl, ?_⟩; intro wx; go_simp; try with_reducible rfl)
                        try simp only [Act.put, List.setIfInBounds_toArray, List.set_cons_zero, List.set_cons_succ]
                        refine wpAny_done (by kernel_rfl) ?_ _
                        go_wp2_with fail
                        go_ret
                        exact ⟨rfl, HF11.out⟩
                      exact AllReady.nil
                    exact AllReady.nil
                  exact AllReady.nil
                exact AllReady.nil
              exact AllReady.nil
            exact AllReady.nil
          refine AllReady.cons (o := ?o57) ?ho57 ?st57 ?more57
          case ho57 => (first | (simp only [List.getElem?_toArray, List.getElem?_cons_succ, List.getElem?_cons_zero]; rfl) | rfl)
          case st57 =>
            intro K hK
            go_simp; refine hK _ _ ?_
            clear hK K
            try simp only [Act.put, List.setIfInBounds_toArray, List.set_cons_zero, List.set_cons_succ]
            refine wpAny_ready (rs := [10]) (by kernel_rfl) (by simp) ?_
            refine AllReady.cons (o := ?o58) ?ho58 ?st58 ?more58
            case ho58 => (first | (simp only [List.getElem?_toArray, List.getElem?_cons_succ, List.getElem?_cons_zero]; rfl) | rfl)
            case st58 =>
              intro K hK
              go_simp; refine hK _ _ ?_
              clear hK K
              try simp only [Act.put, List.setIfInBounds_toArray, List.set_cons_zero, List.set_cons_succ]
              refine wpAny_ready (rs := [15]) (by kernel_rfl) (by simp) ?_
              refine AllReady.cons (o := ?o59) ?ho59 ?st59 ?more59
              case ho59 => (first | (simp only [List.getElem?_toArray, List.getElem?_cons_succ, List.getElem?_cons_zero]; rfl) | rfl)
              case st59 =>
                intro K hK
                go_simp; go_at_call 13; refine (KT1.out _ (by first | exact (Touch.refl _ w8).drew | exact Touch.refl _ w8)).mono ?_; rintro e w9 ⟨rfl, hf9⟩; have s9 := (HTP8.out.fresh hf9).cells; unfold TwoC at s9; have KT2 := Lib.hid ((HTP8.out.fresh hf9).swap.tells HV8.out (by omega)); have HF9 := Lib.hid (HF8.out.trans hf9 fun _ _ => id); have HTP9 := Lib.hid (HTP8.out.fresh hf9); clear hf9 KT1 s8; (try go_simp); refine hK _ _ ?_
                clear hK K
                try simp only [Act.put, List.setIfInBounds_toArray, List.set_cons_zero, List.set_cons_succ]
                refine wpAny_take (i := 16) (oi := ?oi60) (v := ?v60) ?hi60 (by kernel_rfl) (by kernel_rfl) (by kernel_rfl) ?hq60 ?hy60 ?rest60
                case hi60 => (first | (simp only [List.getElem?_toArray, List.getElem?_cons_succ, List.getElem?_cons_zero]; rfl) | rfl)
                case hq60 => exact fun _ _ _ h => h
                case hy60 => (refine Or.inl ⟨by rfl, ?_⟩; intro wx; go_simp; try with_reducible rfl)
                try simp only [Act.put, List.setIfInBounds_toArray, List.set_cons_zero, List.set_cons_succ]
                refine wpAny_take (i := 17) (oi := ?oi61) (v := ?v61) ?hi61 (by kernel_rfl) (by kernel_rfl) (by kernel_rfl) ?hq61 ?hy61 ?rest61
                case hi61 => (first | (simp only [List.getElem?_toArray, List.getElem?_cons_succ, List.getElem?_cons_zero]; rfl) | rfl)
                case hq61 => exact fun _ _ _ h => h
                case hy61 => (refine Or.inl ⟨by rfl, ?_⟩; intro wx; go_simp; try with_reducible rfl)
                try simp only [Act.put, List.setIfInBounds_toArray, List.set_cons_zero, List.set_cons_succ]
                refine wpAny_take (i := 18) (oi := ?oi62) (v := ?v62) ?hi62 (by kernel_rfl) (by kernel_rfl) (by kernel_rfl) ?hq62 ?hy62 ?rest62
                case hi62 => (first | (simp only [List.getElem?_toArray, List.getElem?_cons_succ, List.getElem?_cons_zero]; rfl) | rfl)
                case hq62 => exact fun _ _ _ h => h
                case hy62 => (refine Or.inl ⟨by rfl, ?_⟩; intro wx; go_simp; try with_reducible rfl)
                try simp only [Act.put, List.setIfInBounds_toArray, List.set_cons_zero, List.set_cons_succ]
                refine wpAny_take (i := 19) (oi := ?oi63) (v := ?v63) ?hi63 (by kernel_rfl) (by kernel_rfl) (by kernel_rfl) ?hq63 ?hy63 ?rest63
                case hi63 => (first | (simp only [List.getElem?_toArray, List.getElem?_cons_succ, List.getElem?_cons_zero]; rfl) | rfl)
                case hq63 => exact fun _ _ _ h => h
                case hy63 => (refine Or.inl ⟨by rfl, ?_⟩; intro wx; go_simp; try with_reducible rfl)
                try simp only [Act.put, List.setIfInBounds_toArray, List.set_cons_zero, List.set_cons_succ]
                refine wpAny_take (i := 20) (oi := ?oi64) (v := ?v64) ?hi64 (by kernel_rfl) (by kernel_rfl) (by kernel_rfl) ?hq64 ?hy64 ?rest64
                case hi64 => (first | (simp only [List.getElem?_toArray, List.getElem?_cons_succ, List.getElem?_cons_zero]; rfl) | rfl)
                case hq64 => exact fun _ _ _ h => h
                case hy64 => (refine Or.inl ⟨by rfl, ?_⟩; intro wx; go_simp; try with_reducible rfl)
                try simp only [Act.put, List.setIfInBounds_toArray, List.set_cons_zero, List.set_cons_succ]
                refine wpAny_take (i := 22) (oi := ?oi65) (v := ?v65) ?hi65 (by kernel_rfl) (by kernel_rfl) (by kernel_rfl) ?hq65 ?hy65 ?rest65
                case hi65 => (first | (simp only [List.getElem?_toArray, List.getElem?_cons_succ, List.getElem?_cons_zero]; rfl) | rfl)
                case hq65 => exact fun _ _ _ h => h
                case hy65 => (refine Or.inl ⟨by rfl, ?_⟩; intro wx; go_simp; try with_reducible rfl)
                try simp only [Act.put, List.setIfInBounds_toArray, List.set_cons_zero, List.set_cons_succ]
                refine wpAny_take (i := 23) (oi := ?oi66) (v := ?v66) ?hi66 (by kernel_rfl) (by kernel_rfl) (by kernel_rfl) ?hq66 ?hy66 ?rest66
                case hi66 => (first | (simp only [List.getElem?_toArray, List.getElem?_cons_succ, List.getElem?_cons_zero]; rfl) | rfl)
                case hq66 => exact fun _ _ _ h => h
                case hy66 => (refine Or.inl ⟨by rfl, ?_⟩; intro wx; go_simp; try with_reducible rfl)
                try simp only [Act.put, List.setIfInBounds_toArray, List.set_cons_zero, List.set_cons_succ]
                refine wpAny_take (i := 24) (oi := ?oi67) (v := ?v67) ?hi67 (by kernel_rfl) (by kernel_rfl) (by kernel_rfl) ?hq67 ?hy67 ?rest67
                case hi67 => (first | (simp only [List.getElem?_toArray, List.getElem?_cons_succ, List.getElem?_cons_zero]; rfl) | rfl)
                case hq67 => exact fun _ _ _ h => h
                case hy67 => (refine Or.inl ⟨by rfl, ?_⟩; intro wx; go_simp; try with_reducible rfl)
                try simp only [Act.put, List.setIfInBounds_toArray, List.set_cons_zero, List.set_cons_succ]
                refine wpAny_ready (rs := [21, 25]) (by kernel_rfl) (by simp) ?_
                refine AllReady.cons (o := ?o68) ?ho68 ?st68 ?more68
                case ho68 => (first | (simp only [List.getElem?_toArray, List.getElem?_cons_succ, List.getElem?_cons_zero]; rfl) | rfl)
                case st68 =>
                  intro K hK
                  go_simp; refine hK _ _ ?_
                  clear hK K
                  try simp only [Act.put, List.setIfInBounds_toArray, List.set_cons_zero, List.set_cons_succ]
                  refine wpAny_ready (rs := [25]) (by kernel_rfl) (by simp) ?_
                  refine AllReady.cons (o := ?o69) ?ho69 ?st69 ?more69
                  case ho69 => (first | (simp only [List.getElem?_toArray, List.getElem?_cons_succ, List.getElem?_cons_zero]; rfl) | rfl)
                  case st69 =>
                    intro K hK
                    go_simp; refine hK _ _ ?_
                    clear hK K
                    try simp only [Act.put, List.setIfInBounds_toArray, List.set_cons_zero, List.set_cons_succ]
                    refine wpAny_ready (rs := [26]) (by kernel_rfl) (by simp) ?_
                    refine AllReady.cons (o := ?o70) ?ho70 ?st70 ?more70
                    case ho70 => (first | (simp only [List.getElem?_toArray, List.getElem?_cons_succ, List.getElem?_cons_zero]; rfl) | rfl)
                    case st70 =>
                      intro K hK
                      go_simp; go_at_call 13; refine (KT2.out _ (by first | exact (Touch.refl _ w9).drew | exact Touch.refl _ w9)).mono ?_; rintro e w10 ⟨rfl, hf10⟩; have s10 := (HTP9.out.fresh hf10).cells; unfold TwoC at s10; have HF10 := Lib.hid (HF9.out.trans hf10 fun _ _ => id); have HTP10 := Lib.hid (HTP9.out.fresh hf10); clear hf10 KT2 s9; (try go_simp); refine hK _ _ ?_
                      clear hK K
                      try simp only [Act.put, List.setIfInBounds_toArray, List.set_cons_zero, List.set_cons_succ]
                      refine wpAny_take (i := 27) (oi := ?oi71) (v := ?v71) ?hi71 (by kernel_rfl) (by kernel_rfl) (by kernel_rfl) ?hq71 ?hy71 ?rest71
                      case hi71 => (first | (simp only [List.getElem?_toArray, List.getElem?_cons_succ, List.getElem?_cons_zero]; rfl) | rfl)
                      case hq71 => exact fun _ _ _ h => h
                      case hy71 => (refine Or.inl ⟨by rfl, ?_⟩; intro wx; go_simp; try with_reducible rfl)
                      try simp only [Act.put, List.setIfInBounds_toArray, List.set_cons_zero, List.set_cons_succ]
                      refine wpAny_take (i := 28) (oi := ?oi72) (v := ?v72) ?hi72 (by kernel_rfl) (by kernel_rfl) (by kernel_rfl) ?hq72 ?hy72 ?rest72
                      case hi72 => (first | (simp only [List.getElem?_toArray, List.getElem?_cons_succ, List.getElem?_cons_zero]; rfl) | rfl)
                      case hq72 => exact fun _ _ _ h => h
                      case hy72 => (refine Or.inl ⟨by rfl, ?_⟩; intro wx; go_simp; try with_reducible rfl)
                      try simp only [Act.put, List.setIfInBounds_toArray, List.set_cons_zero, List.set_cons_succ]
                      refine wpAny_take (i := 29) (oi := ?oi73) (v := ?v73) ?hi73 (by kernel_rfl) (by kernel_rfl) (by kernel_rfl) ?hq73 ?hy73 ?rest73
                      case hi73 => (first | (simp only [List.getElem?_toArray, List.getElem?_cons_succ, List.getElem?_cons_zero]; rfl) | rfl)
                      case hq73 => exact fun _ _ _ h => h
                      case hy73 => (refine Or.inl ⟨by rfl, ?_⟩; intro wx; go_simp; try with_reducible rfl)
                      try simp only [Act.put, List.setIfInBounds_toArray, List.set_cons_zero, List.set_cons_succ]
                      refine wpAny_take (i := 30) (oi := ?oi74) (v := ?v74) ?hi74 (by kernel_rfl) (by kernel_rfl) (by kernel_rfl) ?hq74 ?hy74 ?rest74
                      case hi74 => (first | (simp only [List.getElem?_toArray, List.getElem?_cons_succ, List.getElem?_cons_zero]; rfl) | rfl)
                      case hq74 => exact fun _ _ _ h => h
                      case hy74 => (refine Or.inl ⟨by rfl, ?_⟩; intro wx; go_simp; try with_reducible rfl)
                      try simp only [Act.put, List.setIfInBounds_toArray, List.set_cons_zero, List.set_cons_succ]
                      refine wpAny_take (i := 31) (oi := ?oi75) (v := ?v75) ?hi75 (by kernel_rfl) (by kernel_rfl) (by kernel_rfl) ?hq75 ?hy75 ?rest75
                      case hi75 => (first | (simp only [List.getElem?_toArray, List.getElem?_cons_succ, List.getElem?_cons_zero]; rfl) | rfl)
                      case hq75 => exact fun _ _ _ h => h
                      case hy75 => (refine Or.inl ⟨by rfl, ?_⟩; intro wx; go_simp; try with_reducible rfl)
                      try simp only [Act.put, List.setIfInBounds_toArray, List.set_cons_zero, List.set_cons_succ]
                      refine wpAny_take (i := 32) (oi := ?oi76) (v := ?v76) ?hi76 (by kernel_rfl) (by kernel_rfl) (by kernel_rfl) ?hq76 ?hy76 ?rest76
                      case hi76 => (first | (simp only [List.getElem?_toArray, List.getElem?_cons_succ, List.getElem?_cons_zero]; rfl) | rfl)
                      case hq76 => exact fun _ _ _ h => h
                      case hy76 => (refine Or.inl ⟨by rfl, ?_⟩; intro wx; go_simp; try with_reducible rfl)
                      try simp only [Act.put, List.setIfInBounds_toArray, List.set_cons_zero, List.set_cons_succ]
                      refine wpAny_take (i := 33) (oi := ?oi77) (v := ?v77) ?hi77 (by kernel_rfl) (by kernel_rfl) (by kernel_rfl) ?hq77 ?hy77 ?rest77
                      case hi77 => (first | (simp only [List.getElem?_toArray, List.getElem?_cons_succ, List.getElem?_cons_zero]; rfl) | rfl)
                      case hq77 => exact fun _ _ _ h => h
                      case hy77 => (refine Or.inl ⟨by rfl, ?_⟩; intro wx; go_simp; try with_reducible rfl)
                      try simp only [Act.put, List.setIfInBounds_toArray, List.set_cons_zero, List.set_cons_succ]
                      refine wpAny_take (i := 34) (oi := ?oi78) (v := ?v78) ?hi78 (by kernel_rfl) (by kernel_rfl) (by kernel_rfl) ?hq78 ?hy78 ?rest78
                      case hi78 => (first | (simp only [List.getElem?_toArray, List.getElem?_cons_succ, List.getElem?_cons_zero]; rfl) | rfl)
                      case hq78 => exact fun _ _ _ h => h
                      case hy78 => (refine Or.inl ⟨by rfl, ?_⟩; intro wx; go_simp; try with_reducible rfl)
                      try simp only [Act.put, List.setIfInBounds_toArray, List.set_cons_zero, List.set_cons_succ]
                      refine wpAny_take (i := 35) (oi := ?oi79) (v := ?v79) ?hi79 (by kernel_rfl) (by kernel_rfl) (by kernel_rfl) ?hq79 ?hy79 ?rest79
                      case hi79 => (first | (simp only [List.getElem?_toArray, List.getElem?_cons_succ, List.getElem?_cons_zero]; rfl) | rfl)
                      case hq79 => exact fun _ _ _ h => h
                      case hy79 => (refine Or.inl ⟨by rfl, ?_⟩; intro wx; go_simp; try with_reducible rfl)
                      try simp only [Act.put, List.setIfInBounds_toArray, List.set_cons_zero, List.set_cons_succ]
                      refine wpAny_take (i := 36) (oi := ?oi80) (v := ?v80) ?hi80 (by kernel_rfl) (by kernel_rfl) (by kernel_rfl) ?hq80 ?hy80 ?rest80
                      case hi80 => (first | (simp only [List.getElem?_toArray, List.getElem?_cons_succ, List.getElem?_cons_zero]; rfl) | rfl)
                      case hq80 => exact fun _ _ _ h => h
                      case hy80 => (refine Or.inl ⟨by rfl, ?_⟩; intro wx; go_simp; try with_reducible rfl)
                      try simp only [Act.put, List.setIfInBounds_toArray, List.set_cons_zero, List.set_cons_succ]
                      refine wpAny_ready (rs := [37]) (by kernel_rfl) (by simp) ?_
                      refine AllReady.cons (o := ?o81) ?ho81 ?st81 ?more81
                      case ho81 => (first | (simp only [List.getElem?_toArray, List.getElem?_cons_succ, List.getElem?_cons_zero]; rfl) | rfl)
                      case st81 =>
                        intro K hK
                        go_simp; go_at_call 16; refine (wakesL_any _).mono ?_; rintro e w11 ⟨rfl, hf11⟩; have s11 := (HTP10.out.fresh hf11).cells; unfold TwoC at s11; have HF11 := Lib.hid (HF10.out.trans hf11 fun _ _ => id); clear hf11 s10; (try go_simp); refine hK _ _ ?_
                        clear hK K
                        try simp only [Act.put, List.setIfInBounds_toArray, List.set_cons_zero, List.set_cons_succ]
                        refine wpAny_take (i := 38) (oi := ?oi82) (v := ?v82) ?hi82 (by kernel_rfl) (by kernel_rfl) (by kernel_rfl) ?hq82 ?hy82 ?rest82
                        case hi82 => (first | (simp only [List.getElem?_toArray, List.getElem?_cons_succ, List.getElem?_cons_zero]; rfl) | rfl)
                        case hq82 => exact fun _ _ _ h => h
                        case hy82 => (refine Or.inl ⟨by rfl, ?_⟩; intro wx; go_simp; try with_reducible rfl)
                        try simp only [Act.put, List.setIfInBounds_toArray, List.set_cons_zero, List.set_cons_succ]
                        refine wpAny_take (i := 39) (oi := ?oi83) (v := ?v83) ?hi83 (by kernel_rfl) (by kernel_rfl) (by kernel_rfl) ?hq83 ?hy83 ?rest83
                        case hi83 => (first | (simp only [List.getElem?_toArray, List.getElem?_cons_succ, List.getElem?_cons_zero]; rfl) | rfl)
                        case hq83 => exact fun _ _ _ h => h
                        case hy83 => (refine Or.inl ⟨by rfl, ?_⟩; intro wx; go_simp; try with_reducible rfl)
                        try simp only [Act.put, List.setIfInBounds_toArray, List.set_cons_zero, List.set_cons_succ]
                        refine wpAny_done (by kernel_rfl) ?_ _
                        go_wp2_with fail
                        go_ret
                        exact ⟨rfl, HF11.out⟩
                      exact AllReady.nil
                    exact AllReady.nil
                  exact AllReady.nil
                refine AllReady.cons (o := ?o84) ?ho84 ?st84 ?more84
                case ho84 => (first | (simp only [List.getElem?_toArray, List.getElem?_cons_succ, List.getElem?_cons_zero]; rfl) | rfl)
                case st84 =>
                  intro K hK
                  go_simp; refine hK _ _ ?_
                  clear hK K
                  try simp only [Act.put, List.setIfInBounds_toArray, List.set_cons_zero, List.set_cons_succ]
                  refine wpAny_ready (rs := [21]) (by kernel_rfl) (by simp) ?_
                  refine AllReady.cons (o := ?o85) ?ho85 ?st85 ?more85
                  case ho85 => (first | (simp only [List.getElem?_toArray, List.getElem?_cons_succ, List.getElem?_cons_zero]; rfl) | rfl)
                  case st85 =>
                    intro K hK
                    go_simp; refine hK _ _ ?_
                    clear hK K
                    try simp only [Act.put, List.setIfInBounds_toArray, List.set_cons_zero, List.set_cons_succ]
                    refine wpAny_ready (rs := [26]) (by kernel_rfl) (by simp) ?_
                    refine AllReady.cons (o := ?o86) ?ho86 ?st86 ?more86
                    case ho86 => (first | (simp only [List.getElem?_toArray, List.getElem?_cons_succ, List.getElem?_cons_zero]; rfl) | rfl)
                    case st86 =>
                      intro K hK
                      go_simp; go_at_call 13; refine (KT2.out _ (by first | exact (Touch.refl _ w9).drew | exact Touch.refl _ w9)).mono ?_; rintro e w10 ⟨rfl, hf10⟩; have s10 := (HTP9.out.fresh hf10).cells; unfold TwoC at s10; have HF10 := Lib.hid (HF9.out.trans hf10 fun _ _ => id); have HTP10 := Lib.hid (HTP9.out.fresh hf10); clear hf10 KT2 s9; (try go_simp); refine hK _ _ ?_
                      clear hK K
                      try simp only [Act.put, List.setIfInBounds_toArray, List.set_cons_zero, List.set_cons_succ]
                      refine wpAny_take (i := 27) (oi := ?oi87) (v := ?v87) ?hi87 (by kernel_rfl) (by kernel_rfl) (by kernel_rfl) ?hq87 ?hy87 ?rest87
                      case hi87 => (first | (simp only [List.getElem?_toArray, List.getElem?_cons_succ, List.getElem?_cons_zero]; rfl) | rfl)
                      case hq87 => exact fun _ _ _ h => h
                      case hy87 => (refine Or.inl ⟨by rfl, ?_⟩; intro wx; go_simp; try with_reducible rfl)
                      try simp only [Act.put, List.setIfInBounds_toArray, List.set_cons_zero, List.set_cons_succ]
                      refine wpAny_take (i := 28) (oi := ?oi88) (v := ?v88) ?hi88 (by kernel_rfl) (by kernel_rfl) (by kernel_rfl) ?hq88 ?hy88 ?rest88
                      case hi88 => (first | (simp only [List.getElem?_toArray, List.getElem?_cons_succ, List.getElem?_cons_zero]; rfl) | rfl)
                      case hq88 => exact fun _ _ _ h => h
                      case hy88 => (refine Or.inl ⟨by rfl, ?_⟩; intro wx; go_simp; try with_reducible rfl)
                      try simp only [Act.put, List.setIfInBounds_toArray, List.set_cons_zero, List.set_cons_succ]
                      refine wpAny_take (i := 29) (oi := ?oi89) (v := ?v89) ?hi89 (by kernel_rfl) (by kernel_rfl) (by kernel_rfl) ?hq89 ?hy89 ?rest89
                      case hi89 => (first | (simp only [List.getElem?_toArray, List.getElem?_cons_succ, List.getElem?_cons_zero]; rfl) | rfl)
                      case hq89 => exact fun _ _ _ h => h
                      case hy89 => (refine Or.inl ⟨by rfl, ?_⟩; intro wx; go_simp; try with_reducible rfl)
                      try simp only [Act.put, List.setIfInBounds_toArray, List.set_cons_zero, List.set_cons_succ]
                      refine wpAny_take (i := 30) (oi := ?oi90) (v := ?v90) ?hi90 (by kernel_rfl) (by kernel_rfl) (by kernel_rfl) ?hq90 ?hy90 ?rest90
                      case hi90 => (first | (simp only [List.getElem?_toArray, List.getElem?_cons_succ, List.getElem?_cons_zero]; rfl) | rfl)
                      case hq90 => exact fun _ _ _ h => h
                      case hy90 => (refine Or.inl ⟨by rfl, ?_⟩; intro wx; go_simp; try with_reducible rfl)
                      try simp only [Act.put, List.setIfInBounds_toArray, List.set_cons_zero, List.set_cons_succ]
                      refine wpAny_take (i := 31) (oi := ?oi91) (v := ?v91) ?hi91 (by kernel_rfl) (by kernel_rfl) (by kernel_rfl) ?hq91 ?hy91 ?rest91
                      case hi91 => (first | (simp only [List.getElem?_toArray, List.getElem?_cons_succ, List.getElem?_cons_zero]; rfl) | rfl)
                      case hq91 => exact fun _ _ _ h => h
                      case hy91 => (refine Or.inl ⟨by rfl, ?_⟩; intro wx; go_simp; try with_reducible rfl)
                      try simp only [Act.put, List.setIfInBounds_toArray, List.set_cons_zero, List.set_cons_succ]
                      refine wpAny_take (i := 32) (oi := ?oi92) (v := ?v92) ?hi92 (by kernel_rfl) (by kernel_rfl) (by kernel_rfl) ?hq92 ?hy92 ?rest92
                      case hi92 => (first | (simp only [List.getElem?_toArray, List.getElem?_cons_succ, List.getElem?_cons_zero]; rfl) | rfl)
                      case hq92 => exact fun _ _ _ h => h
                      case hy92 => (refine Or.inl ⟨by rfl, ?_⟩; intro wx; go_simp; try with_reducible rfl)
                      try simp only [Act.put, List.setIfInBounds_toArray, List.set_cons_zero, List.set_cons_succ]
                      refine wpAny_take (i := 33) (oi := ?oi93) (v := ?v93) ?hi93 (by kernel_rfl) (by kernel_rfl) (by kernel_rfl) ?hq93 ?hy93 ?rest93
                      case hi93 => (first | (simp only [List.getElem?_toArray, List.getElem?_cons_succ, List.getElem?_cons_zero]; rfl) | rfl)
                      case hq93 => exact fun _ _ _ h => h
                      case hy93 => (refine Or.inl ⟨by rfl, ?_⟩; intro wx; go_simp; try with_reducible rfl)
                      try simp only [Act.put, List.setIfInBounds_toArray, List.set_cons_zero, List.set_cons_succ]
                      refine wpAny_take (i := 34) (oi := ?oi94) (v := ?v94) ?hi94 (by kernel_rfl) (by kernel_rfl) (by kernel_rfl) ?hq94 ?hy94 ?rest94
                      case hi94 => (first | (simp only [List.getElem?_toArray, List.getElem?_cons_succ, List.getElem?_cons_zero]; rfl) | rfl)
                      case hq94 => exact fun _ _ _ h => h
                      case hy94 => (refine Or.inl ⟨by rfl, ?_⟩; intro wx; go_simp; try with_reducible rfl)
                      try simp only [Act.put, List.setIfInBounds_toArray, List.set_cons_zero, List.set_cons_succ]
                      refine wpAny_take (i := 35) (oi := ?oi95) (v := ?v95) ?hi95 (by kernel_rfl) (by kernel_rfl) (by kernel_rfl) ?hq95 ?hy95 ?rest95
                      case hi95 => (first | (simp only [List.getElem?_toArray, List.getElem?_cons_succ, List.getElem?_cons_zero]; rfl) | rfl)
                      case hq95 => exact fun _ _ _ h => h
                      case hy95 => (refine Or.inl ⟨by rfl, ?_⟩; intro wx; go_simp; try with_reducible rfl)
                      try simp only [Act.put, List.setIfInBounds_toArray, List.set_cons_zero, List.set_cons_succ]
                      refine wpAny_take (i := 36) (oi := ?oi96) (v := ?v96) ?hi96 (by kernel_rfl) (by kernel_rfl) (by kernel_rfl) ?hq96 ?hy96 ?rest96
                      case hi96 => (first | (simp only [List.getElem?_toArray, List.getElem?_cons_succ, List.getElem?_cons_zero]; rfl) | rfl)
                      case hq96 => exact fun _ _ _ h => h
                      case hy96 => (refine Or.inl ⟨by rfl, ?_⟩; intro wx; go_simp; try with_reducible rfl)
                      try simp only [Act.put, List.setIfInBounds_toArray, List.set_cons_zero, List.set_cons_succ]
                      refine wpAny_ready (rs := [37]) (by kernel_rfl) (by simp) ?_
                      refine AllReady.cons (o := ?o97) ?ho97 ?st97 ?more97
                      case ho97 => (first | (simp only [List.getElem?_toArray, List.getElem?_cons_succ, List.getElem?_cons_zero]; rfl) | rfl)
                      case st97 =>
                        intro K hK
                        go_simp; go_at_call 16; refine (wakesL_any _).mono ?_; rintro e w11 ⟨rfl, hf11⟩; have s11 := (HTP10.out.fresh hf11).cells; unfold TwoC at s11; have HF11 := Lib.hid (HF10.out.trans hf11 fun _ _ => id); clear hf11 s10; (try go_simp); refine hK _ _ ?_
                        clear hK K
                        try simp only [Act.put, List.setIfInBounds_toArray, List.set_cons_zero, List.set_cons_succ]
                        refine wpAny_take (i := 38) (oi := ?oi98) (v := ?v98) ?hi98 (by kernel_rfl) (by kernel_rfl) (by kernel_rfl) ?hq98 ?hy98 ?rest98
                        case hi98 => (first | (simp only [List.getElem?_toArray, List.getElem?_cons_succ, List.getElem?_cons_zero]; rfl) | rfl)
                        case hq98 => exact fun _ _ _ h => h
                        case hy98 => (refine Or.inl ⟨by rfl, ?_⟩; intro wx; go_simp; try with_reducible rfl)
                        try simp only [Act.put, List.setIfInBounds_toArray, List.set_cons_zero, List.set_cons_succ]
                        refine wpAny_take (i := 39) (oi := ?oi99) (v := ?v99) ?hi99 (by kernel_rfl) (by kernel_rfl) (by kernel_rfl) ?hq99 ?hy99 ?rest99
                        case hi99 => (first | (simp only [List.getElem?_toArray, List.getElem?_cons_succ, List.getElem?_cons_zero]; rfl) | rfl)
                        case hq99 => exact fun _ _ _ h => h
                        case hy99 => (refine Or.inl ⟨by rfl, ?_⟩; intro wx; go_simp; try with_reducible rfl)
                        try simp only [Act.put, List.setIfInBounds_toArray, List.set_cons_zero, List.set_cons_succ]
                        refine wpAny_done (by kernel_rfl) ?_ _
                        go_wp2_with fail
                        go_ret
                        exact ⟨rfl, HF11.out⟩
                      exact AllReady.nil
                    exact AllReady.nil
                  exact AllReady.nil
                exact AllReady.nil
              exact AllReady.nil
            exact AllReady.nil
          exact AllReady.nil
        exact AllReady.nil
      exact AllReady.nil
end Go.Proofs.YtlcmnihpfpmajaaGreat
