/- The law WalReads, walked. Conditions stand with it. -/
import Derived.Test.YtlcmnihpfpmajaaGreatSeqBZ
import Derived.Test.YtlcmnihpfpmajaaGreatQfZ
import Derived.Test.YtlcmnihpfpmajaaGreatRdwZ
import Derived.Deep.RegionHeld3
import Derived.Deep.RegionLaw
import Derived.Deep.CutRange
namespace Go.Proofs.YtlcmnihpfpmajaaGreat
open Go.RowKit
theorem wide_fn (f : FuncId) : Fence.wide.fn f = True := rfl
theorem wide_asked (P : Program) (o : Oper) (a : Act) (C : World → Prop) : o.askedIn Fence.wide P a C = True := eq_true fun _ _ _ _ => trivial
attribute [local go_sem] Oper.semAt_some wide_fn wide_asked
def RdI (w : World) (b15 sm : Nat) (pre : List RcY) (V : World) : Prop := (Blk V b15 3 #[.int .i64 (pre.length : Int)] ∧ pre.length ≤ sm) ∧ Below w.heap.size w V
theorem RdI.own_ {w w2 : World} {b15 sm : Nat} (h2 : w.heap.size ≤ w2.heap.size) : OwnFrom w2.heap.size (RdI w b15 sm) :=
  OwnFrom.and (Own.from (fun _ _ _ _ hs hg hr => ⟨hs.1.own_ hg hr, hs.2⟩) _) (ownFrom_below (Nat.le_refl _) h2)
set_option maxRecDepth 200000 in
set_option maxHeartbeats 16000000 in
theorem law_reads (w : World) (A : Option Addr) (n c : Nat) (ops : List OpD) (h : OpsAt w A n c ops) (ZA : Option Addr) (zn zc : Nat) (zs : List Int) (hz : IsInts w ZA zn zc zs) (hzw : ∀ x ∈ zs, -9223372036854775808 ≤ x ∧ x ≤ 9223372036854775807) (st : Int) :
    Calls Tryz.prog 6 #[.slice A n c, .slice ZA zn zc, .int .i64 st] w fun e w' => e = .returned (.bool true) ∧ Fresh w w' := by
  have hnc := h.vs.2.1
  have hcm := h.vs.2.2.1
  have hzc := hz.2.1
  have hzm := hz.2.2.1
  unfold maxLen at hcm hzm
  obtain ⟨w0, hw0⟩ : ∃ w0, w0 = (w.alloc (.cells #[.int .i64 st] 3)).alloc (.cells #[.bool false] 4) := ⟨_, rfl⟩
  have hf0 : Fresh w w0 := by rw [hw0]; exact ((Touch.refl _ w).alloc _).alloc _
  have hb5 : Blk w0 w.heap.size 3 #[.int .i64 st] := by rw [hw0]; exact (Blk.new _ _ _).alloc _
  have hb6 : Blk w0 (w.heap.size + 1) 4 #[.bool false] := by rw [hw0]; have := Blk.new (w.alloc (.cells #[.int .i64 st] 3)) 4 #[.bool false]; rwa [alloc_size] at this
  have hs0 : w0.heap.size = w.heap.size + 2 := by rw [hw0, alloc_size, alloc_size]
  have KB := Lib.hid (show Calls Tryz.prog 11 #[.int .i64 0] w0 (BgnEnd w0 0) from begunL_any w0 (n := 0) (by omega))
  have H := Lib.hid h; have HZ := Lib.hid hz; have HZW := Lib.hid hzw; have HW0 := Lib.hid hw0; have HF0 := Lib.hid hf0; have H5 := Lib.hid hb5; have H6 := Lib.hid hb6; have HS0 := Lib.hid hs0
  clear h hz hzw hw0 hf0 hb5 hb6 hs0
  refine (callsIn_wide (n := 3)).1 ?_
  refine callsIn_of_wp_marks Tryz.func6 rfl trivial ?_ rfl
  simp only [Tryz.ntmps6, List.size_toArray, List.length_cons, List.length_nil, Nat.reduceAdd, Nat.reduceSub, Array.replicate_succ, Array.replicate_zero, List.push_toArray, List.append_toArray, List.nil_append, List.cons_append]
  refine wpIn_wide.2 ?_
  go_upto_region 1 with fail
  rw [← HW0.out]
  go_wp2_with fail
  refine KB.out.mono ?_
  rintro e w1 ⟨bp, bd, F, S, rfl, hf1, hpg, hnew⟩
  rw [Nat.zero_mul] at hpg
  obtain ⟨wB, hwB⟩ : ∃ wB, wB = w1.alloc (.cells #[.pointer (some ⟨bp, 0, none⟩)] 23) := ⟨_, rfl⟩
  have hfB : Fresh w1 wB := by rw [hwB]; exact (Touch.refl (fun _ => False) w1).alloc _
  have hb7 : Blk wB w1.heap.size 23 #[.pointer (some ⟨bp, 0, none⟩)] := by rw [hwB]; exact Blk.new _ _ _
  have hs1 := hf1.size
  have hsB : wB.heap.size = w1.heap.size + 1 := by rw [hwB, alloc_size]
  have hpgB : ∃ FB SB, PG wB wB bp bd FB SB (PS.new 0) 0 ∧ (∀ k, FB k ∨ SB k → w0.heap.size ≤ k ∧ k < w1.heap.size) := by
    obtain ⟨bl, S1, R1, Q1, l1, sv1, rv1, vs1, cv1, mv1, kv1, tv1, hx⟩ := hpg
    refine ⟨_, _, (hx.fresh hfB).pm.same.pg, fun k hk => ?_⟩
    rcases hk with hk | hk
    · exact ⟨(hx.sF k hk).elim (fun e => hnew k (.inl e)) (by omega), hx.pm.lt k hk⟩
    · exact ⟨(hx.sS k hk).elim (fun e => hnew k (.inr e)) (by omega), hx.pm.ld.dk.below k hk⟩
  obtain ⟨FB, SB, hpgB, hFS⟩ := hpgB
  have hfwB : Fresh w wB := (HF0.out.trans hf1 fun _ _ => id).trans hfB fun _ _ => id
  have hb5B := ((H5.out.touch hf1 id).touch hfB id)
  have hb6B := ((H6.out.touch hf1 id).touch hfB id)
  have HSZ := Lib.hid (show w.heap.size + 2 ≤ w1.heap.size ∧ wB.heap.size = w1.heap.size + 1 from by have := HS0.out; omega)
  have HLO := Lib.hid (show LoF w.heap.size wB FB SB from ⟨by have := HSZ.out; omega, fun k hk => by have := (hFS k hk).1; have := HS0.out; omega⟩)
  have HG := Lib.hid (show ∀ W p, PG wB W bp bd FB SB p 0 → Fresh w W ∧ Blk W w1.heap.size 23 #[.pointer (some ⟨bp, 0, none⟩)] ∧ Blk W w.heap.size 3 #[.int .i64 st] ∧ Blk W (w.heap.size + 1) 4 #[.bool false] from fun W p hp => by
    have hh : ∀ k, (k = w1.heap.size ∨ k = w.heap.size ∨ k = w.heap.size + 1) → ¬ (FB k ∨ SB k) := fun k hk e => by have := hFS k e; have := HS0.out; have := HSZ.out; omega
    exact ⟨hp.new_ hfwB (fun k hk => by have := (hFS k hk).1; have := HS0.out; omega), hb7.touch hp.tch (hh _ (.inl rfl)), hb5B.touch hp.tch (hh _ (.inr (.inl rfl))), hb6B.touch hp.tch (hh _ (.inr (.inr rfl)))⟩)
  have HPG := Lib.hid hpgB; have HWB := Lib.hid hwB
  clear hpg hf1 hnew hwB hfB hb7 hs1 hsB hpgB hFS hfwB hb5B hb6B KB
  go_upto_region 2 with fail
  rw [← HWB.out]
  have c7 : wB.cell? ⟨w1.heap.size, 0, none⟩ = some (.pointer (some ⟨bp, 0, none⟩)) := (HG.out _ _ HPG.out).2.1.cell 0
  go_wp2_with fail
  go_loopw [8] (fun i W => ∃ (k : Nat) (p : PS), k ≤ n ∧ k ≤ 30 ∧ i = .int .i64 (k : Int) ∧ PG wB W bp bd FB SB p 0 ∧ PInv p (k + 1) (k * 225) ∧ p.l.base = 0) (fun i _ => n - (intOf i).toNat)
  case atStart => exact ⟨0, PS.new 0, Nat.zero_le _, Nat.zero_le _, rfl, HPG.out, PInv.new 0, by show (openP [] 0).base = 0; rw [open_nil]⟩
  case round =>
    obtain ⟨k, p, hk, hk2, rfl, hpg, hv, hb0⟩ := hrel
    obtain ⟨hfw, hb7, _, _⟩ := HG.out _ _ hpg
    have HFW := Lib.hid hfw; have HV := Lib.hid hv; have HB0 := Lib.hid hb0; have HPGk := Lib.hid hpg
    clear c7
    by_cases hlt : k < n ∧ k < 30
    · obtain ⟨hl1, hl2⟩ := hlt
      obtain ⟨b, off, o, rfl, ho⟩ := H.out.spot hl1
      obtain ⟨hop, k0, k1, k2, k3, k4⟩ := H.out.rd ho hfw
      have hkd : decide ((k : Int) < (n : Int)) = true := decide_eq_true (by omega)
      have hkd2 : decide ((k : Int) < 30) = true := decide_eq_true (by omega)
      have hwk : IntKind.i64.wrap ((k : Int) + 1) = (k : Int) + 1 := IntWalk.i64_in _ (by omega)
      obtain ⟨w2, hw2⟩ : ∃ w2, w2 = wr.alloc (.cells #[.int .i64 o.Do, .int .i64 o.N, .int .i64 o.K, .slice o.A o.m o.c, .slice o.C o.nc o.cc] 29) := ⟨_, rfl⟩
      have hf2 : Fresh wr w2 := by rw [hw2]; exact (Touch.refl (fun _ => False) wr).alloc _
      have hb9 : Blk w2 wr.heap.size 29 #[.int .i64 o.Do, .int .i64 o.N, .int .i64 o.K, .slice o.A o.m o.c, .slice o.C o.nc o.cc] := by rw [hw2]; exact Blk.new _ _ _
      obtain ⟨w3, hw3⟩ : ∃ w3, w3 = w2.setCell ⟨wr.heap.size, 0, none⟩ (.int .i64 (o.Do % 3)) := ⟨_, rfl⟩
      have hf3 : Fresh wr w3 := by rw [hw3]; exact hf2.setCell (p := ⟨wr.heap.size, 0, none⟩) (.inl (Nat.le_refl _)) _
      have hb9' : Blk w3 wr.heap.size 29 #[.int .i64 (o.Do % 3), .int .i64 o.N, .int .i64 o.K, .slice o.A o.m o.c, .slice o.C o.nc o.cc] := by rw [hw3]; simpa using hb9.set_ 0 (.int .i64 (o.Do % 3))
      have c7 : w3.cell? ⟨w1.heap.size, 0, none⟩ = some (.pointer (some ⟨bp, 0, none⟩)) := (hb7.touch hf3 id).cell 0
      have x0 : w2.cell? ⟨wr.heap.size, 0, none⟩ = some (.int .i64 o.Do) := hb9.cell 0
      have x0f : w2.frozen? ⟨wr.heap.size, 0, none⟩ = false := hb9.frozen 0
      have y0 : w3.cell? ⟨wr.heap.size, 0, none⟩ = some (.int .i64 (o.Do % 3)) := hb9'.cell 0
      have y1 : w3.cell? ⟨wr.heap.size, 1, none⟩ = some (.int .i64 o.N) := hb9'.cell 1
      have y2 : w3.cell? ⟨wr.heap.size, 2, none⟩ = some (.int .i64 o.K) := hb9'.cell 2
      have y3 : w3.cell? ⟨wr.heap.size, 3, none⟩ = some (.slice o.A o.m o.c) := hb9'.cell 3
      have y4 : w3.cell? ⟨wr.heap.size, 4, none⟩ = some (.slice o.C o.nc o.cc) := hb9'.cell 4
      obtain ⟨o2, ho2⟩ : ∃ o2 : OpD, o2 = { o with Do := o.Do % 3 } := ⟨_, rfl⟩
      have hop2 : OpAt w.heap.size w3 o2 := by
        rw [ho2]
        have := hop.touch hf3 fun _ e => e.elim
        exact ⟨this.bs, this.bsB, this.cs, this.csB, this.rng⟩
      have KW := Lib.hid (show Calls Tryz.prog 26 #[.int .i64 o.Do, .int .i64 3] w2 fun e w' => w2 = w' ∧ e = .returned (.int .i64 (o.Do % 3)) from within_any o.Do 3 w2 (by omega) (by omega))
      have KD := Lib.hid (show Calls Tryz.prog 12 #[.pointer (some ⟨bp, 0, none⟩), .agg #[.int .i64 (o.Do % 3), .int .i64 o.N, .int .i64 o.K, .slice o.A o.m o.c, .slice o.C o.nc o.cc]] w3 fun e w' => e = .returned (.bool true) ∧ PG wB w' bp bd FB SB (p.doS o2) 0 from by
        have := does_pg (n := 0) (hpg.fresh hf3) HLO.out hv (by omega) (by omega) (by omega) (by rw [hb0]) hop2
        rw [ho2] at this
        rw [ho2]
        exact this)
      have HV2 := Lib.hid ((hv.doS (by omega) (by omega) o2).1.mono (i' := k + 1 + 1) (T' := (k + 1) * 225) (Nat.le_refl _) (by omega))
      have HB2 := Lib.hid ((hv.doS (by omega) (by omega) o2).2.trans hb0)
      obtain ⟨p2, hp2⟩ : ∃ p2, p2 = p.doS o2 := ⟨_, rfl⟩
      rw [← hp2] at KD HV2 HB2
      have HW2 := Lib.hid hw2; have HW3 := Lib.hid hw3
      clear hpg hv hb0 ho hop hp2 hop2 ho2 hb9 hb9' hf2 hf3 hw2 hw3 hfw hb7
      go_upto_region 8 with fail
      rw [← HW2.out]
      go_wp2_with fail
      refine KW.out.mono ?_
      rintro e w' ⟨rfl, rfl⟩
      go_upto_region 9 with fail
      rw [← HW3.out]
      clear x0 x0f k0 k1 k2 k3 k4
      go_wp2_with fail
      refine KD.out.mono ?_
      rintro e w4 ⟨rfl, hpg4⟩
      have HPG4 := Lib.hid hpg4
      clear hpg4 KD KW y0 y1 y2 y3 y4 c7
      go_wp2_with fail
      go_roundw
      case rel => exact ⟨k + 1, p2, by omega, by omega, by go_num, HPG4.out, HV2.out, HB2.out⟩
      case measure => simp [intOf] <;> omega
    · have HLT := Lib.hid hlt
      obtain ⟨bl, vA, vc, hpt⟩ := hpg.pt
      have HP := Lib.hid (show ∀ W, Touch (fun q => wr.heap.size ≤ q) wr W → PT wB W bp bd FB SB p 0 bl vA vc ∧ Fresh w W ∧ Blk W w1.heap.size 23 #[.pointer (some ⟨bp, 0, none⟩)] ∧ Blk W w.heap.size 3 #[.int .i64 st] ∧ Blk W (w.heap.size + 1) 4 #[.bool false] from fun W hW => by
        obtain ⟨g1, g2, g3, g4⟩ := HG.out _ _ hpg
        have h2 := g2.lt; have h3 := g3.lt; have h4 := g4.lt
        exact ⟨hpt.over hW, g1.trans hW fun q hq e => by have := g1.size; omega, g2.touch hW (by omega), g3.touch hW (by omega), g4.touch hW (by omega)⟩)
      have HPL := Lib.hid (show p.c.next ≤ 1000 ∧ p.c.rows.length ≤ 1000 from by have := hv.next; unfold Ct.next at this ⊢; omega)
      clear hpg hv hb0 hpt hfw hb7
      go_upto_region 5 with fail
      go_cut [28] from 21 to 28 (fun v W => v = .bool false ∧ wr = W)
      case first =>
        go_wp2_with fail
        all_goals
          go_meet
          case rel => exact ⟨by first | rfl | (rw [decide_eq_false (by omega)]), rfl⟩
      case rest =>
        obtain ⟨rfl, rfl⟩ := hcut
        obtain ⟨wC, hwC⟩ : ∃ wC, wC = wr := ⟨_, rfl⟩
        rw [← hwC] at HP
        have HWC := Lib.hid hwC
        clear hwC hlt
        go_wp2_with fail
        go_loopw [10] (fun i W => ∃ k : Nat, k ≤ zn ∧ k ≤ 30 ∧ i = .int .i64 (k : Int) ∧ Touch (fun q => wC.heap.size ≤ q) wC W) (fun i _ => zn - (intOf i).toNat)
        case atStart => exact ⟨0, Nat.zero_le _, Nat.zero_le _, rfl, by rw [HWC.out]; exact Touch.refl _ _⟩
        case round =>
          obtain ⟨k, hk, hk2, rfl, ht⟩ := hrel
          have HT := Lib.hid ht
          obtain ⟨hpt, hfw, hb7, _, _⟩ := HP.out _ ht
          obtain ⟨_, b1, b3, b4⟩ := hpt.cells
          by_cases hlt : k < zn ∧ k < 30
          · obtain ⟨hl1, hl2⟩ := hlt
            obtain ⟨zb, zoff, z, rfl, hzmem, k0⟩ := ints_rd HZ.out hl1 hfw
            have hzr := HZW.out z hzmem
            have hkd : decide ((k : Int) < (zn : Int)) = true := decide_eq_true (by omega)
            have hkd2 : decide ((k : Int) < 30) = true := decide_eq_true (by omega)
            have hwk : IntKind.i64.wrap ((k : Int) + 1) = (k : Int) + 1 := IntWalk.i64_in _ (by omega)
            have c7 : wr.cell? ⟨w1.heap.size, 0, none⟩ = some (.pointer (some ⟨bp, 0, none⟩)) := hb7.cell 0
            have KR := Lib.hid (show ∀ W, Fresh wr W → Calls Tryz.prog 27 #[.pointer (some ⟨bl, 0, none⟩), .int .i64 z] W (ReadRow W p.c z) from fun W hW => read_pt (hpt.fresh hW) HV.out (by omega) z)
            obtain ⟨rdv, hrdv⟩ : ∃ rdv : Option (List UInt8), rdv = if (p.c.first : Int) ≤ z ∧ z < (p.c.next : Int) then p.c.rows[(z - (p.c.first : Int)).toNat]? else none := ⟨_, rfl⟩
            have HRV := Lib.hid hrdv
            clear hzmem hrdv
            go_upto_region 14 with fail
            go_cut [11, 12] from 53 to 64 (fun u v W => Fresh wr W ∧ ((rdv = none ∧ u = .slice none 0 0 ∧ v = .int .i64 6) ∨ ∃ b B q, rdv = some b ∧ u = .slice B b.length q ∧ v = .int .i64 0 ∧ Row W (.slice B b.length q) b ∧ ∀ a, B = some a → wr.heap.size ≤ a.block))
            case first =>
              refine wp_region_noPanic ?_
              go_region_law (go_simp; go_at_call 27; refine (KR.out _ (by first | exact (Touch.refl _ wr).drew | exact Touch.refl _ wr)).mono ?_; rintro e w3 ⟨hf3, hcase⟩; obtain ⟨u, v, rfl, hrel⟩ : ∃ u v, e = .returned (.tuple #[u, v]) ∧ (Fresh wr w3 ∧ ((rdv = none ∧ u = .slice none 0 0 ∧ v = .int .i64 6) ∨ ∃ b B q, rdv = some b ∧ u = .slice B b.length q ∧ v = .int .i64 0 ∧ Row w3 (.slice B b.length q) b ∧ ∀ a, B = some a → wr.heap.size ≤ a.block)) := (by
                have hf3' : Fresh wr w3 := by first | exact hf3 | exact (Touch.refl _ wr).drew.trans hf3 fun _ _ => id
                rcases hcase with ⟨h, rfl⟩ | ⟨j, b, B, q, h1, h2, rfl, h4, h5⟩
                · exact ⟨_, _, rfl, hf3', .inl ⟨by rw [HRV.out, if_neg (by omega)], rfl, rfl⟩⟩
                · have hjl := (List.getElem?_eq_some_iff.1 h2).1
                  exact ⟨_, _, rfl, hf3', .inr ⟨b, B, q, by rw [HRV.out, if_pos (by unfold Ct.next; omega), show (z - (p.c.first : Int)).toNat = j by omega, h2], rfl, rfl, h4, h5⟩⟩); have HREL := Lib.hid hrel; clear hf3 hcase hrel)
              all_goals
                refine NoPanic.normal ?_
                go_wp2_with fail
                go_meet
                case rel => exact HREL.out
            case rest =>
              rcases hcut with ⟨hf3, (⟨hrn, rfl, rfl⟩ | ⟨b, B, q, hrs, rfl, rfl, hrow, hnb⟩)⟩
              · have HF3 := Lib.hid hf3
                clear hf3
                have hf3 := HF3.out
                have HT3 := Lib.hid (HT.out.trans hf3 fun q hq e => e.elim)
                obtain ⟨hpt3, hfw3, hb73, _, _⟩ := HP.out _ HT3.out
                have HE := Lib.hid (show ∀ W, Fresh wc W → W.cell? ⟨w1.heap.size, 0, none⟩ = some (.pointer (some ⟨bp, 0, none⟩)) ∧ W.cell? ⟨bp, 3, none⟩ = some (.int .i64 (p.c.first : Int)) ∧ W.cell? ⟨bp, 4, none⟩ = some (.slice vA p.c.rows.length vc) ∧ W.cell? ⟨zb, zoff + k, none⟩ = some (.int .i64 z) from fun W hW => by
                  obtain ⟨_, _, q3, q4⟩ := (hpt3.fresh hW).cells
                  exact ⟨(hb73.touch hW id).cell 0, q3, q4, (hf3.trans hW fun _ _ => id).cell k0 id⟩)
                have KN := Lib.hid (show ∀ W, Calls Tryz.prog 21 #[.agg #[.int .i64 (p.c.first : Int), .slice vA p.c.rows.length vc]] W fun e w' => Fresh W w' ∧ e = .returned (.int .i64 (p.c.next : Int)) from fun W => cnext_any W (by have := HPL.out.1; unfold Ct.next at this; omega))
                have hno : ¬ ((p.c.first : Int) ≤ z ∧ z < (p.c.next : Int)) := fun hh => by
                  have h1 := HRV.out
                  rw [hrn, if_pos hh] at h1
                  have h2 := List.getElem?_eq_none_iff.1 h1.symm
                  unfold Ct.next at hh
                  omega
                have KS := Lib.hid (fun W => spoil_any [] (.slice none 0 0) W (Row.nil_ W) (by simp))
                clear hpt3 hfw3 hb73 hpt hfw hb7 b1 b3 b4 k0 c7 KR hzr hf3 hrn
                go_upto_region 15 with fail
                have e0 := fun r : FrOf wc => (HE.out r.W ((Touch.refl _ wc).trans r.h fun _ _ => id)).1
                have e1 := fun r : FrOf wc => (HE.out r.W ((Touch.refl _ wc).trans r.h fun _ _ => id)).2.1
                have e2 := fun r : FrOf wc => (HE.out r.W ((Touch.refl _ wc).trans r.h fun _ _ => id)).2.2.1
                have e3 := fun r : FrOf wc => (HE.out r.W ((Touch.refl _ wc).trans r.h fun _ _ => id)).2.2.2
                refine wp_region_fresh (by kernel_rfl) (by kernel_rfl) ?_
                repeat (go_big_quiet_step (fail))
                refine wpQuiet_nil ?_
                rintro w5 ⟨p5, hw''⟩
                have hf5 : Fresh wc w5 := by rw [hw'']; exact p5.h
                clear hw'' p5
                have HF5 := Lib.hid hf5
                clear e0 e1 e2 e3 hf5
                go_upto_region 16 with fail
                go_cut [14] from 75 to 96 (fun v W => v = .bool false ∧ Fresh wc W)
                case first =>
                  have e0 := fun r : FrOf w5 => (HE.out r.W (HF5.out.trans r.h fun _ _ => id)).1
                  have e1 := fun r : FrOf w5 => (HE.out r.W (HF5.out.trans r.h fun _ _ => id)).2.1
                  have e2 := fun r : FrOf w5 => (HE.out r.W (HF5.out.trans r.h fun _ _ => id)).2.2.1
                  have e3 := fun r : FrOf w5 => (HE.out r.W (HF5.out.trans r.h fun _ _ => id)).2.2.2
                  by_cases hge : (p.c.first : Int) ≤ z
                  · have hlt2 : ¬ z < (p.c.next : Int) := fun e => hno ⟨hge, e⟩
                    have hge' : decide ((p.c.first : Int) ≤ z) = true := decide_eq_true hge
                    have hlt' : decide (z < (p.c.next : Int)) = false := decide_eq_false hlt2
                    clear hno
                    refine wp_region_fresh (by kernel_rfl) (by kernel_rfl) ?_
                    repeat (go_big_quiet_step (first | (go_at_call 21; exact Calls.fr_of ((KN.out _).mono fun e w' q => ⟨q.2, q.1⟩))))
                    refine wpQuiet_nil ?_
                    rintro w6 ⟨p6, hw''⟩
                    have hf6 : Fresh w5 w6 := by rw [hw'']; exact p6.h
                    clear hw'' p6
                    have HF6 := Lib.hid (HF5.out.trans hf6 fun _ _ => id)
                    have HLT' := Lib.hid hlt'
                    clear e0 e1 e2 e3 hf6
                    go_wp2_with fail
                    go_meet
                    case rel => exact ⟨by first | rfl | rw [HLT'.out], HF6.out⟩
                  · have hge' : decide ((p.c.first : Int) ≤ z) = false := decide_eq_false hge
                    clear hno
                    refine wp_region_fresh (by kernel_rfl) (by kernel_rfl) ?_
                    repeat (go_big_quiet_step (fail))
                    refine wpQuiet_nil ?_
                    rintro w6 ⟨p6, hw''⟩
                    have hf6 : Fresh w5 w6 := by rw [hw'']; exact p6.h
                    clear hw'' p6
                    have HF6 := Lib.hid (HF5.out.trans hf6 fun _ _ => id)
                    clear e0 e1 e2 e3 hf6
                    go_wp2_with fail
                    go_meet
                    case rel => exact ⟨rfl, HF6.out⟩
                case rest =>
                  obtain ⟨rfl, hf6⟩ := hcut
                  have HF6 := Lib.hid hf6
                  clear hf6
                  go_upto_region 17 with fail
                  refine wp_region_fresh (by kernel_rfl) (by kernel_rfl) ?_
                  repeat (go_big_quiet_step (fail))
                  refine wpQuiet_nil ?_
                  rintro w7 ⟨p7, hw''⟩
                  have hf7 : Fresh wc w7 := by rw [hw'']; exact p7.h
                  clear hw'' p7
                  have HF7 := Lib.hid (HF6.out.trans hf7 fun _ _ => id)
                  clear hf7
                  go_wp2_with fail
                  refine (KS.out _).mono ?_
                  rintro e w8 ⟨rfl, ht8⟩
                  have HT8 := Lib.hid ((HT3.out.trans HF7.out fun q hq e => e.elim).trans ht8 fun q hq e => by cases e)
                  clear ht8
                  go_wp2_with fail
                  go_roundw
                  case rel => exact ⟨k + 1, by omega, by omega, by go_num, HT8.out⟩
                  case measure => simp [intOf] <;> omega
              · have HF3 := Lib.hid hf3
                clear hf3
                have hf3 := HF3.out
                have HT3 := Lib.hid (HT.out.trans hf3 fun q hq e => e.elim)
                obtain ⟨hpt3, hfw3, hb73, _, _⟩ := HP.out _ HT3.out
                have HE := Lib.hid (show ∀ W, Fresh wc W → W.cell? ⟨w1.heap.size, 0, none⟩ = some (.pointer (some ⟨bp, 0, none⟩)) ∧ W.cell? ⟨bp, 3, none⟩ = some (.int .i64 (p.c.first : Int)) ∧ W.cell? ⟨bp, 4, none⟩ = some (.slice vA p.c.rows.length vc) ∧ W.cell? ⟨zb, zoff + k, none⟩ = some (.int .i64 z) from fun W hW => by
                  obtain ⟨_, _, q3, q4⟩ := (hpt3.fresh hW).cells
                  exact ⟨(hb73.touch hW id).cell 0, q3, q4, (hf3.trans hW fun _ _ => id).cell k0 id⟩)
                have KN := Lib.hid (show ∀ W, Calls Tryz.prog 21 #[.agg #[.int .i64 (p.c.first : Int), .slice vA p.c.rows.length vc]] W fun e w' => Fresh W w' ∧ e = .returned (.int .i64 (p.c.next : Int)) from fun W => cnext_any W (by have := HPL.out.1; unfold Ct.next at this; omega))
                have hin : ((p.c.first : Int) ≤ z ∧ z < (p.c.next : Int)) ∧ p.c.rows[(z - (p.c.first : Int)).toNat]? = some b := by
                  have h1 := HRV.out
                  rw [hrs] at h1
                  by_cases hh : (p.c.first : Int) ≤ z ∧ z < (p.c.next : Int)
                  · rw [if_pos hh] at h1
                    exact ⟨hh, h1.symm⟩
                  · rw [if_neg hh] at h1
                    cases h1
                obtain ⟨j, hj⟩ : ∃ j : Nat, z = (p.c.first : Int) + (j : Int) := ⟨(z - (p.c.first : Int)).toNat, by omega⟩
                have hjb : p.c.rows[j]? = some b := by
                  have := hin.2
                  rwa [show (z - (p.c.first : Int)).toNat = j by omega] at this
                have hjl : j < p.c.rows.length := (List.getElem?_eq_some_iff.1 hjb).1
                obtain ⟨g, o, A2, c2, rfl, hcR, hbs2⟩ := hpt3.row hjb
                have hbl : b.length ≤ 50000 := HV.out.rows b (List.mem_of_getElem? hjb)
                have hwz : IntKind.i64.wrap (z - (p.c.first : Int)) = (j : Int) := by rw [IntWalk.i64_in _ (by have := HPL.out; omega)]; omega
                have hge : (p.c.first : Int) ≤ z := hin.1.1
                have hlt2 : z < (p.c.next : Int) := hin.1.2
                have hge' : decide ((p.c.first : Int) ≤ z) = true := decide_eq_true hge
                have hlt' : decide (z < (p.c.next : Int)) = true := decide_eq_true hlt2
                have hji : (j : Int) < (p.c.rows.length : Int) := by omega
                have HE2 := Lib.hid (show ∀ W, Fresh wc W → W.cell? ⟨g, o + j, none⟩ = some (.slice A2 b.length c2) ∧ Bs W A2 b.length c2 b ∧ Row W (.slice B b.length q) b from fun W hW => ⟨hW.cell hcR id, hbs2.fresh hW, hrow.touch hW fun _ _ => id⟩)
                have HNB := Lib.hid (show ∀ i, (Value.slice B b.length q).ownBlock = some i → wC.heap.size ≤ i from fun i hi => by
                  cases B with
                  | none => cases hi
                  | some a =>
                    have h1 := hnb a rfl
                    have h2 := HT.out.size
                    have h3 : a.block = i := by simpa [Value.ownBlock] using hi
                    omega)
                have KS := Lib.hid (fun W (hW : Fresh wc W) => spoil_any b (.slice B b.length q) W (HE2.out W hW).2.2 (by omega))
                have hbb : (b == b) = true := beq_self_eq_true b
                clear hpt3 hfw3 hb73 hpt hfw hb7 b1 b3 b4 k0 c7 KR hzr hf3 hrs hin hjb hcR hbs2 hrow hnb hbl hj
                go_upto_region 15 with fail
                have e0 := fun r : FrOf wc => (HE.out r.W ((Touch.refl _ wc).trans r.h fun _ _ => id)).1
                have e1 := fun r : FrOf wc => (HE.out r.W ((Touch.refl _ wc).trans r.h fun _ _ => id)).2.1
                have e2 := fun r : FrOf wc => (HE.out r.W ((Touch.refl _ wc).trans r.h fun _ _ => id)).2.2.1
                have e3 := fun r : FrOf wc => (HE.out r.W ((Touch.refl _ wc).trans r.h fun _ _ => id)).2.2.2
                refine wp_region_fresh (by kernel_rfl) (by kernel_rfl) ?_
                repeat (go_big_quiet_step (fail))
                refine wpQuiet_nil ?_
                rintro w5 ⟨p5, hw''⟩
                have hf5 : Fresh wc w5 := by rw [hw'']; exact p5.h
                clear hw'' p5
                have HF5 := Lib.hid hf5
                clear e0 e1 e2 e3 hf5
                go_upto_region 16 with fail
                have e0 := fun r : FrOf w5 => (HE.out r.W (HF5.out.trans r.h fun _ _ => id)).1
                have e1 := fun r : FrOf w5 => (HE.out r.W (HF5.out.trans r.h fun _ _ => id)).2.1
                have e2 := fun r : FrOf w5 => (HE.out r.W (HF5.out.trans r.h fun _ _ => id)).2.2.1
                have e3 := fun r : FrOf w5 => (HE.out r.W (HF5.out.trans r.h fun _ _ => id)).2.2.2
                refine wp_region_fresh (by kernel_rfl) (by kernel_rfl) ?_
                repeat (go_big_quiet_step (first | (go_at_call 21; exact Calls.fr_of ((KN.out _).mono fun e w' q => ⟨q.2, q.1⟩))))
                refine wpQuiet_nil ?_
                rintro w6 ⟨p6, hw''⟩
                have hf6 : Fresh w5 w6 := by rw [hw'']; exact p6.h
                clear hw'' p6
                have HF6 := Lib.hid (HF5.out.trans hf6 fun _ _ => id)
                clear e0 e1 e2 e3 hf6
                go_upto_region 17 with fail
                have e0 := fun r : FrOf w6 => (HE.out r.W (HF6.out.trans r.h fun _ _ => id)).1
                have e1 := fun r : FrOf w6 => (HE.out r.W (HF6.out.trans r.h fun _ _ => id)).2.1
                have e2 := fun r : FrOf w6 => (HE.out r.W (HF6.out.trans r.h fun _ _ => id)).2.2.1
                have e3 := fun r : FrOf w6 => (HE.out r.W (HF6.out.trans r.h fun _ _ => id)).2.2.2
                have e4 := fun r : FrOf w6 => (HE2.out r.W (HF6.out.trans r.h fun _ _ => id)).1
                have kc1 : ∀ r : FrOf w6, (convert 26 9 (.slice B b.length q)).run Tryz.prog r.W = .ok (.string ⟨b.toArray⟩) r.W := fun r => run_convert_Bs 26 9 Tryz.underlying26 Tryz.underlying5 Tryz.underlying9 (Row.bs (HE2.out r.W (HF6.out.trans r.h fun _ _ => id)).2.2)
                have kc2 : ∀ r : FrOf w6, (convert 26 9 (.slice A2 b.length c2)).run Tryz.prog r.W = .ok (.string ⟨b.toArray⟩) r.W := fun r => run_convert_Bs 26 9 Tryz.underlying26 Tryz.underlying5 Tryz.underlying9 (HE2.out r.W (HF6.out.trans r.h fun _ _ => id)).2.1
                refine wp_region_fresh (by kernel_rfl) (by kernel_rfl) ?_
                repeat (go_big_quiet_step (fail))
                refine wpQuiet_nil ?_
                rintro w7 ⟨p7, hw''⟩
                have hf7 : Fresh w6 w7 := by rw [hw'']; exact p7.h
                clear hw'' p7
                have HF7 := Lib.hid (HF6.out.trans hf7 fun _ _ => id)
                clear hf7 e0 e1 e2 e3 e4 kc1 kc2
                go_wp2_with fail
                refine (KS.out _ HF7.out).mono ?_
                rintro e w8 ⟨rfl, ht8⟩
                have HT8 := Lib.hid ((HT3.out.trans HF7.out fun q hq e => e.elim).trans ht8 fun i hi e => HNB.out i e)
                clear ht8
                go_wp2_with fail
                go_roundw
                case rel => exact ⟨k + 1, by omega, by omega, by go_num, HT8.out⟩
                case measure => simp [intOf] <;> omega
          · have C7 := Lib.hid (show wr.cell? ⟨w1.heap.size, 0, none⟩ = some (.pointer (some ⟨bp, 0, none⟩)) from hb7.cell 0)
            have HPTr := Lib.hid hpt
            have HFWr := Lib.hid hfw
            have HLT2 := Lib.hid hlt
            obtain ⟨_, _, _, hb5r, hb6r⟩ := HP.out _ ht
            have H5r := Lib.hid hb5r
            have H6r := Lib.hid hb6r
            obtain ⟨b15, hb15⟩ : ∃ b15, b15 = wr.heap.size := ⟨_, rfl⟩
            obtain ⟨w5, hw5⟩ : ∃ w5, w5 = wr.alloc (.cells #[.int .i64 0] 3) := ⟨_, rfl⟩
            have hf5 : Fresh wr w5 := by rw [hw5]; exact (Touch.refl (fun _ => False) wr).alloc _
            have hbk5 : Blk w5 b15 3 #[.int .i64 0] := by rw [hw5, hb15]; exact Blk.new _ _ _
            have HS5 := Lib.hid (show w5.heap.size = wr.heap.size + 1 from by rw [hw5, alloc_size])
            have x7 : w5.cell? ⟨w1.heap.size, 0, none⟩ = some (.pointer (some ⟨bp, 0, none⟩)) := hf5.cell C7.out id
            have x1 : w5.cell? ⟨bp, 1, none⟩ = some (.pointer (some ⟨bl, 0, none⟩)) := hf5.cell b1 id
            obtain ⟨sm, hsm⟩ : ∃ sm : Nat, st % 30 = (sm : Int) := ⟨(st % 30).toNat, by have := Int.emod_nonneg st (show (30 : Int) ≠ 0 by omega); omega⟩
            have hsm30 : sm < 30 := by have := Int.emod_lt_of_pos st (show (0 : Int) < 30 by omega); omega
            have KWI := Lib.hid (show ∀ W, Calls Tryz.prog 26 #[.int .i64 st, .int .i64 30] W fun e w' => e = .returned (.int .i64 (sm : Int)) ∧ w' = W from fun W => by
              have := within_any st 30 W (by omega) (by omega)
              rw [hsm] at this
              exact this.mono fun e w' q => ⟨q.2, q.1.symm⟩)
            have HW5 := Lib.hid hw5; have HF5 := Lib.hid hf5; have HBK5 := Lib.hid hbk5; have HB15 := Lib.hid hb15
            clear hpt hfw hb7 b1 b3 b4 hb5r hb6r hf5 hbk5 hw5 hsm hb15 ht
            go_upto_region 12 with fail
            go_cut [50] from 43 to 50 (fun v W => v = .bool false ∧ wr = W)
            case first =>
              go_wp2_with fail
              all_goals
                go_meet
                case rel => exact ⟨by first | rfl | (rw [decide_eq_false (by omega)]), rfl⟩
            case rest =>
              obtain ⟨rfl, rfl⟩ := hcut
              clear hlt
              go_upto_region 21 with fail
              rw [← HW5.out]
              go_wp2_with fail
              refine (lall_any bl w5).mono ?_
              rintro e w6 ⟨rfl, hw6⟩
              have hfa : Fresh w5 w6 := by rw [hw6]; exact (Touch.refl (fun _ => False) w5).alloc _
              have HA := Lib.hid (show Blk w6 w5.heap.size 32 #[.pointer (some ⟨bl, 0, none⟩)] by rw [hw6]; exact Blk.new _ _ _)
              have HS6 := Lib.hid (show w6.heap.size = w5.heap.size + 1 from by rw [hw6, alloc_size])
              have HS56 := Lib.hid (show wr.heap.size ≤ w6.heap.size from by have := HS5.out; have := HS6.out; omega)
              obtain ⟨S1, R1, Q1, l1, sv1, rv1, vs1, mv1, kv1, tv1, hx⟩ := HPTr.out
              have hf6 : Fresh wr w6 := HF5.out.trans hfa fun _ _ => id
              have HF6 := Lib.hid hf6
              have HL6 := Lib.hid (hx.fresh hf6).pm.ld.lm
              have hcn := HV.out.cn (by omega) hx.pm.alk
              have HLC := Lib.hid hcn.1
              have HCN := Lib.hid hcn
              have HRlt := Lib.hid (show ∀ q, R1 q → q < wr.heap.size from fun q hq => hx.pm.lt q (.inr (.inl hq)))
              have H156 := Lib.hid (HBK5.out.touch hfa id)
              clear hw6 hfa hx hf6 hcn x7 x1
              go_wp2_with fail
              refine wpIn_wide (n := 3).1 ?_
              refine range_brk2 4 (F := Fence.wide) (n := 3) rfl (by decide) (gf := 55) (lb := #[.pointer (some ⟨w5.heap.size, 0, none⟩)]) rfl trivial (enters_of Tryz.func55 (by kernel_rfl) rfl)
                (log_told 2 w5.heap.size bl bd R1 l1 sv1 rv1 vs1 (fun k => k = b15) w6 (by decide) HA.out HL6.out (by have := HCN.out.2.1; omega) (fun b hb => by have := HCN.out.2.2.2.1 b hb; omega)
                  (fun k hk => by have := HB15.out; have := HS5.out; have := HS6.out; omega) (fun k hk => ⟨fun e => by have := HRlt.out k hk; have := HB15.out; omega, by have := HRlt.out k hk; have := HS56.out; omega⟩))
                (fun pre x V l o o' hok hl hc => hok.put hl hc) (fun pre x V V1 hok hf => hok.fresh hf)
                (fun x => [(16, .int .i64 (x.1 : Int)), (17, x.2.2)])
                (fun h => LKp.fresh h) (fun h1 h2 => h1.trans_ h2) (fun V l o o' _ hl hc _ => LKp.put V l o o' hl hc) (fun _ => rfl)
                (RdI wr b15 sm) (fun _ V => Below wr.heap.size wr V) (RdI.own_ HS56.out) (ownFrom_below (β := List RcY) (Nat.le_refl _) HS56.out)
                ⟨⟨H156.out, Nat.zero_le _⟩, Fresh.bel HF6.out⟩ ?assign ?body ?done ?stop
              case assign =>
                rintro l' pre ⟨i, b, v⟩ V K hok hK
                clear hok
                simp only [rcEnc, List.zip_toArray, List.size_toArray, List.zip_cons_cons, List.zip_nil_left]
                gi_wp2
                exact hK _ _ (Touch.refl _ V) (by simp [ranged, rcEnc])
              case body =>
                rintro l' pre ⟨i, b, v⟩ a₁ V ⟨⟨h15, hle⟩, hbl⟩ ⟨hi, hbk, hrow, hnew⟩ ha hlt
                dsimp only at hi hbk hrow hnew
                obtain ⟨kk, hkk⟩ : ∃ kk, kk = pre.length := ⟨_, rfl⟩
                rw [← hkk] at h15 hle hi hbk hlt
                rw [HLC.out] at hi hbk hlt
                obtain ⟨A1, c1, rfl, hb1⟩ : ∃ A1 c1, v = .slice A1 b.length c1 ∧ Bs V A1 b.length c1 b := by
                  obtain ⟨A, cb, hv, _⟩ := hrow.form
                  exact ⟨A, cb, hv, by rw [hv] at hrow; exact hrow.bs⟩
                have hFV : Fresh wr V := Touch.ofBelow hbl _
                have hptV := HPTr.out.fresh hFV
                obtain ⟨g, o, A2, c2, rfl, hcR, hbs2⟩ := hptV.row hbk
                obtain ⟨_, _, d3, d4⟩ := hptV.cells
                have hbl5 : b.length ≤ 50000 := HV.out.rows b (List.mem_of_getElem? hbk)
                have cR : ∀ q, (V.drewN q).cell? ⟨g, o + kk, none⟩ = some (.slice A2 b.length c2) := fun _ => hcR
                have c70 : ∀ q, (V.drewN q).cell? ⟨w1.heap.size, 0, none⟩ = some (.pointer (some ⟨bp, 0, none⟩)) := fun _ => hFV.cell C7.out id
                have c30 : ∀ q, (V.drewN q).cell? ⟨bp, 3, none⟩ = some (.int .i64 (p.c.first : Int)) := fun _ => d3
                have c40 : ∀ q, (V.drewN q).cell? ⟨bp, 4, none⟩ = some (.slice (some ⟨g, o, none⟩) p.c.rows.length vc) := fun _ => d4
                have c50 : ∀ q, (V.drewN q).cell? ⟨wr.heap.size, 0, none⟩ = some (.int .i64 (kk : Int)) := fun _ => by rw [← HB15.out]; exact h15.cell 0
                have kc1 : ∀ q, (convert 26 9 (.slice A1 b.length c1)).run Tryz.prog (V.drewN q) = .ok (.string ⟨b.toArray⟩) (V.drewN q) := fun q => run_convert_Bs 26 9 Tryz.underlying26 Tryz.underlying5 Tryz.underlying9 (hb1.drewN q)
                have kc2 : ∀ q, (convert 26 9 (.slice A2 b.length c2)).run Tryz.prog (V.drewN q) = .ok (.string ⟨b.toArray⟩) (V.drewN q) := fun q => run_convert_Bs 26 9 Tryz.underlying26 Tryz.underlying5 Tryz.underlying9 (hbs2.drewN q)
                have hi2 : (i : Int) = (p.c.first : Int) + (kk : Int) := by rw [hi]; omega
                have hine : ((i : Int) != (p.c.first : Int) + (kk : Int)) = false := by rw [hi2]; simp
                have hmd : decide ((p.c.rows.length : Int) ≤ (kk : Int)) = false := decide_eq_false (by omega)
                have hmi : ¬ (p.c.rows.length : Int) ≤ (kk : Int) := by omega
                have hmdn : decide (p.c.rows.length ≤ kk) = false := decide_eq_false (by omega)
                have hwr : IntKind.i64.wrap ((p.c.first : Int) + (kk : Int)) = (p.c.first : Int) + (kk : Int) := IntWalk.i64_in _ (by have := HPL.out; unfold Ct.next at this; omega)
                have hkmi : (kk : Int) < (p.c.rows.length : Int) := by omega
                have hbb : (b == b) = true := beq_self_eq_true b
                have H15V := Lib.hid h15; have HBL := Lib.hid hbl; have HKK := Lib.hid hkk; have HROW := Lib.hid hrow; have HNEWV := Lib.hid hnew; have HFV := Lib.hid hFV; have HLEk := Lib.hid hle; have HBL5 := Lib.hid hbl5
                have hkk30 : kk ≤ 30 := by omega
                clear h15 hbl hkk hbk hi hi2 hrow hnew hb1 hFV hptV hcR hbs2 d3 d4 hle hbl5
                subst ha
                simp only [ranged, rcEnc, ← Array.foldl_toList, Array.toList_zip, List.zip_cons_cons, List.zip_nil_left]
                simp only [List.foldl_cons, List.foldl_nil, List.setIfInBounds_toArray, List.set_cons_zero, List.set_cons_succ]
                gi_wp2
                refine region_round l' rfl (by simp) (by kernel_rfl) (by kernel_rfl) ?_
                repeat (gi_big_quiet_step (fail))
                refine wpQuietIn_nil ?_
                intro _ hw'
                obtain ⟨nr, hw''⟩ := hw'
                subst hw''
                clear cR c70 c30 c40 c50 kc1 kc2 hmd hmi hmdn hwr hkmi hbb hine
                have hrow1 : Row (V.drewN nr) (.slice A1 b.length c1) b := HROW.out.touch ((Touch.refl (fun _ => False) V).drewN nr) fun _ _ => id
                have KS := Lib.hid (show CallsIn (Fence.wide.inRound l') 0 Tryz.prog 28 #[.slice A1 b.length c1] (V.drewN nr) (fun e w' => e = .returned (.tuple #[]) ∧ Touch (fun k => (Value.slice A1 b.length c1).ownBlock = some k) (V.drewN nr) w') from (callsIn_wide (n := 0)).2 (spoil_any b _ _ hrow1 (by have := HBL5.out; omega)))
                clear hrow1
                gi_wp2
                refine CallsIn.mono KS.out ?_
                rintro e V2 ⟨rfl, ht2⟩
                have hge15 : ∀ k, (Value.slice A1 b.length c1).ownBlock = some k → b15 < k ∧ wr.heap.size ≤ k := fun k e => by have := HNEWV.out _ e; have := HB15.out; have := HS5.out; have := HS6.out; omega
                have h15b : Blk V2 b15 3 #[.int .i64 (kk : Int)] := (H15V.out.drewN nr).touch ht2 fun e => by have := hge15 _ e; omega
                have cb : V2.cell? ⟨wr.heap.size, 0, none⟩ = some (.int .i64 (kk : Int)) := by rw [← HB15.out]; exact h15b.cell 0
                have fb : V2.frozen? ⟨wr.heap.size, 0, none⟩ = false := by rw [← HB15.out]; exact h15b.frozen 0
                have hwk : IntKind.i64.wrap ((kk : Int) + 1) = (kk : Int) + 1 := IntWalk.i64_in _ (by omega)
                obtain ⟨V3, hV3⟩ : ∃ V3, V3 = V2.setCell ⟨wr.heap.size, 0, none⟩ (.int .i64 ((kk : Int) + 1)) := ⟨_, rfl⟩
                have hV3' : V3 = V2.setCell ⟨b15, 0, none⟩ (.int .i64 ((kk : Int) + 1)) := by rw [hV3, HB15.out]
                have h15c : Blk V3 b15 3 #[.int .i64 ((kk : Int) + 1)] := by rw [hV3']; simpa using h15b.set_ 0 (.int .i64 ((kk : Int) + 1))
                have hFV3 : Fresh wr V3 := by
                  rw [hV3]
                  exact ((HFV.out.drewN nr).trans ht2 fun q hq e => by have := hge15 q e; omega).setCell (p := ⟨wr.heap.size, 0, none⟩) (.inl (Nat.le_refl _)) _
                have s5 : ∀ q, (V3.drewN q).cell? ⟨w.heap.size, 0, none⟩ = some (.int .i64 st) := fun _ => (H5r.out.touch hFV3 id).cell 0
                have s15 : ∀ q, (V3.drewN q).cell? ⟨wr.heap.size, 0, none⟩ = some (.int .i64 ((kk : Int) + 1)) := fun _ => by rw [← HB15.out]; exact h15c.cell 0
                have HRD := Lib.hid (show ∀ q, KeepsOthers V (V3.drewN q) ∧ LKp (fun k => k = b15) w6.heap.size V (V3.drewN q) from fun q => rd_round ((Touch.refl (fun _ => False) V).drewN nr) HROW.out HNEWV.out ht2 hV3' ((Touch.refl (fun _ => False) V3).drewN q))
                have HFV3 := Lib.hid hFV3; have H15C := Lib.hid h15c; have HV3 := Lib.hid hV3
                have HWI2 := Lib.hid (fun W => callsIn_wide (n := 0).2 (KWI.out W))
                have g2 : IntKind.i64.wrap (1 + (sm : Int)) = 1 + (sm : Int) := IntWalk.i64_in _ (by omega)
                have hlen2 : (pre ++ [((i : Nat), b, Value.slice A1 b.length c1)]).length = kk + 1 := by rw [List.length_append, HKK.out]; rfl
                have HLEN2 := Lib.hid hlen2
                clear ht2 h15b hV3 hV3' h15c hFV3 KS hge15 hlen2
                by_cases hW : kk = sm
                · obtain rfl : sm = kk := hW.symm
                  have hWI : (((sm : Int) + 1) == (1 + (sm : Int))) = true := by simp; omega
                  gi_wp2
                  rw [← HV3.out]
                  clear cb fb
                  refine region_round l' rfl (by simp) (by kernel_rfl) (by kernel_rfl) ?_
                  repeat (gi_big_quiet_step ((gi_at_call 26; exact CallsIn.quiet_of_same (HWI2.out _))))
                  refine wpQuietIn_nil ?_
                  intro _ hw'
                  obtain ⟨nr2, hw''⟩ := hw'
                  subst hw''
                  gi_wp2
                  exact ⟨(HRD.out nr2).1, rfl, Fresh.bel (HFV3.out.drewN nr2)⟩
                · have hWI : (((kk : Int) + 1) == (1 + (sm : Int))) = false := by simp; omega
                  gi_wp2
                  rw [← HV3.out]
                  clear cb fb
                  refine region_round l' rfl (by simp) (by kernel_rfl) (by kernel_rfl) ?_
                  repeat (gi_big_quiet_step ((gi_at_call 26; exact CallsIn.quiet_of_same (HWI2.out _))))
                  refine wpQuietIn_nil ?_
                  intro _ hw'
                  obtain ⟨nr2, hw''⟩ := hw'
                  subst hw''
                  gi_wp2
                  refine ⟨(HRD.out nr2).1, (HRD.out nr2).2, ⟨?_, by rw [HLEN2.out]; have := HLEk.out; omega⟩, Fresh.bel (HFV3.out.drewN nr2)⟩
                  rw [HLEN2.out]
                  exact H15C.out.drewN nr2
              case done =>
                rintro D ys V hD hS ⟨⟨h15, hle⟩, hbl⟩ hKD
                clear hS h15 hle
                have hFV : Fresh wr V := Touch.ofBelow hbl _
                have hptV := HPTr.out.fresh hFV
                obtain ⟨_, d1, d3, d4⟩ := hptV.cells
                have d7 : V.cell? ⟨w1.heap.size, 0, none⟩ = some (.pointer (some ⟨bp, 0, none⟩)) := hFV.cell C7.out id
                have hb6V := H6r.out.touch hFV id
                have HE := Lib.hid (show ∀ W, Fresh V W → Fresh V W ∧ W.cell? ⟨w1.heap.size, 0, none⟩ = some (.pointer (some ⟨bp, 0, none⟩)) ∧ W.cell? ⟨bp, 1, none⟩ = some (.pointer (some ⟨bl, 0, none⟩)) ∧ W.cell? ⟨bp, 3, none⟩ = some (.int .i64 (p.c.first : Int)) ∧ W.cell? ⟨bp, 4, none⟩ = some (.slice vA p.c.rows.length vc) from fun W hW => ⟨hW, hW.cell d7 id, hW.cell d1 id, hW.cell d3 id, hW.cell d4 id⟩)
                have HB6 := Lib.hid (show ∀ W, Fresh V W → W.cell? ⟨w.heap.size + 1, 0, none⟩ = some (.bool false) ∧ W.frozen? ⟨w.heap.size + 1, 0, none⟩ = false from fun W hW => ⟨(hb6V.touch hW id).cell 0, (hb6V.touch hW id).frozen 0⟩)
                have KT := Lib.hid (show ∀ W, Fresh V W → Calls Tryz.prog 13 #[.pointer (some ⟨bl, 0, none⟩), .agg #[.int .i64 (p.c.first : Int), .slice vA p.c.rows.length vc]] W fun e w' => e = .returned (.bool true) ∧ Fresh V w' from fun W hW => ((hptV.fresh hW).tells HV.out (by omega)).mono fun e w' q => ⟨q.2, hW.trans q.1 fun _ _ => id⟩)
                have HFWV := Lib.hid (HFWr.out.trans hFV fun _ _ => id)
                have hbp6 : bp ≠ w.heap.size + 1 := fun e => by
                  have h1 := hb6V.cell 3
                  rw [← e, d3] at h1
                  simp at h1
                have HSET := Lib.hid (show ∀ W u, Fresh V W → (W.setCell ⟨w.heap.size + 1, 0, none⟩ u).cell? ⟨w1.heap.size, 0, none⟩ = some (.pointer (some ⟨bp, 0, none⟩)) ∧ (W.setCell ⟨w.heap.size + 1, 0, none⟩ u).cell? ⟨bp, 1, none⟩ = some (.pointer (some ⟨bl, 0, none⟩)) ∧ (W.setCell ⟨w.heap.size + 1, 0, none⟩ u).cell? ⟨bp, 3, none⟩ = some (.int .i64 (p.c.first : Int)) ∧ (W.setCell ⟨w.heap.size + 1, 0, none⟩ u).cell? ⟨bp, 4, none⟩ = some (.slice vA p.c.rows.length vc) from fun W u hW => by
                  have hT : Touch (fun q => q = w.heap.size + 1) W (W.setCell ⟨w.heap.size + 1, 0, none⟩ u) := (Touch.refl (fun q => q = w.heap.size + 1) W).setCell (p := ⟨w.heap.size + 1, 0, none⟩) (.inr rfl) _
                  have h7 := HSZ.out
                  exact ⟨hT.cell (hW.cell d7 id) (by show ¬ (w1.heap.size = _); omega), hT.cell (hW.cell d1 id) hbp6, hT.cell (hW.cell d3 id) hbp6, hT.cell (hW.cell d4 id) hbp6⟩)
                have HKD := Lib.hid hKD
                have HDD := Lib.hid (show w.heap.size ≤ D by have := HFWr.out.size; have := HS56.out; omega)
                have h0 := (HE.out V (Touch.refl _ _)).2
                clear hKD hD hbl hFV hptV d1 d3 d4 d7 hb6V hbp6
                go_upto_region 29 with fail
                refine wp_region_noPanic ?_
                go_region_held3 (fun W => W.cell? ⟨w1.heap.size, 0, none⟩ = some (.pointer (some ⟨bp, 0, none⟩)) ∧ W.cell? ⟨bp, 1, none⟩ = some (.pointer (some ⟨bl, 0, none⟩)) ∧ W.cell? ⟨bp, 3, none⟩ = some (.int .i64 (p.c.first : Int)) ∧ W.cell? ⟨bp, 4, none⟩ = some (.slice vA p.c.rows.length vc))
                  (first | assumption | exact (HE.out _ ((Touch.refl _ V).drew)).2 | exact (HE.out _ (Touch.refl _ V)).2 | exact HSET.out _ _ HF8.out)
                  (first
                    | (go_at_call 13; refine (KT.out _ (by first | exact (Touch.refl _ V).drew | exact Touch.refl _ V)).mono ?_; rintro e w7 ⟨rfl, hf7⟩; have k7 := (HE.out _ hf7).2; have HF7 := Lib.hid hf7; clear hf7)
                    | (go_at_call 16; refine (wakesL_any _).mono ?_; rintro e w8 ⟨rfl, hf8⟩; have HF8 := Lib.hid (Touch.trans HF7.out hf8 fun _ _ => id); have k8 := (HE.out _ HF8.out).2; have k6 := HB6.out _ HF8.out; obtain ⟨k60, k61⟩ := k6; clear hf8))
                all_goals
                  refine NoPanic.normal ?_
                  go_wp2_with fail
                  have hK8 := (HF8.out.heap HKD.out id)
                  have hK' := (KeepsOthers.setCell w8 ⟨w.heap.size + 1, 0, none⟩ (.bool true)).same D _ hK8 rfl
                  refine ⟨by simp, .inl ⟨_, _, rfl, run_takeDeferred hK', ?_⟩⟩
                  have hc5 := cell_kept (World.cell?_setCell_same' w8 ⟨w.heap.size + 1, 0, none⟩ (.bool true) (by rw [k60]; rfl)) (grownBy_putObj' _ D (.deferred none)) (fun r e => by cases e; exact ⟨_, hK', rfl⟩)
                  refine ⟨.bool true, ?_, rfl, Touch.ofBelow (((Fresh.bel (HFWV.out.trans HF8.out fun _ _ => id)).setCell (p := ⟨w.heap.size + 1, 0, none⟩) (Nat.le_succ _) _).trans (belowK_b (w := w) (Nat.le_refl _) _ D _ _ HDD.out hK' rfl rfl)) _⟩
                  simp [results, Tryz.results6, go_sem, hc5]
              case stop =>
                rintro D pre V hD hS hbl hKD
                clear hS
                have hFV : Fresh wr V := Touch.ofBelow hbl _
                have hptV := HPTr.out.fresh hFV
                obtain ⟨_, d1, d3, d4⟩ := hptV.cells
                have d7 : V.cell? ⟨w1.heap.size, 0, none⟩ = some (.pointer (some ⟨bp, 0, none⟩)) := hFV.cell C7.out id
                have hb6V := H6r.out.touch hFV id
                have HE := Lib.hid (show ∀ W, Fresh V W → Fresh V W ∧ W.cell? ⟨w1.heap.size, 0, none⟩ = some (.pointer (some ⟨bp, 0, none⟩)) ∧ W.cell? ⟨bp, 1, none⟩ = some (.pointer (some ⟨bl, 0, none⟩)) ∧ W.cell? ⟨bp, 3, none⟩ = some (.int .i64 (p.c.first : Int)) ∧ W.cell? ⟨bp, 4, none⟩ = some (.slice vA p.c.rows.length vc) from fun W hW => ⟨hW, hW.cell d7 id, hW.cell d1 id, hW.cell d3 id, hW.cell d4 id⟩)
                have HB6 := Lib.hid (show ∀ W, Fresh V W → W.cell? ⟨w.heap.size + 1, 0, none⟩ = some (.bool false) ∧ W.frozen? ⟨w.heap.size + 1, 0, none⟩ = false from fun W hW => ⟨(hb6V.touch hW id).cell 0, (hb6V.touch hW id).frozen 0⟩)
                have KT := Lib.hid (show ∀ W, Fresh V W → Calls Tryz.prog 13 #[.pointer (some ⟨bl, 0, none⟩), .agg #[.int .i64 (p.c.first : Int), .slice vA p.c.rows.length vc]] W fun e w' => e = .returned (.bool true) ∧ Fresh V w' from fun W hW => ((hptV.fresh hW).tells HV.out (by omega)).mono fun e w' q => ⟨q.2, hW.trans q.1 fun _ _ => id⟩)
                have HFWV := Lib.hid (HFWr.out.trans hFV fun _ _ => id)
                have hbp6 : bp ≠ w.heap.size + 1 := fun e => by
                  have h1 := hb6V.cell 3
                  rw [← e, d3] at h1
                  simp at h1
                have HSET := Lib.hid (show ∀ W u, Fresh V W → (W.setCell ⟨w.heap.size + 1, 0, none⟩ u).cell? ⟨w1.heap.size, 0, none⟩ = some (.pointer (some ⟨bp, 0, none⟩)) ∧ (W.setCell ⟨w.heap.size + 1, 0, none⟩ u).cell? ⟨bp, 1, none⟩ = some (.pointer (some ⟨bl, 0, none⟩)) ∧ (W.setCell ⟨w.heap.size + 1, 0, none⟩ u).cell? ⟨bp, 3, none⟩ = some (.int .i64 (p.c.first : Int)) ∧ (W.setCell ⟨w.heap.size + 1, 0, none⟩ u).cell? ⟨bp, 4, none⟩ = some (.slice vA p.c.rows.length vc) from fun W u hW => by
                  have hT : Touch (fun q => q = w.heap.size + 1) W (W.setCell ⟨w.heap.size + 1, 0, none⟩ u) := (Touch.refl (fun q => q = w.heap.size + 1) W).setCell (p := ⟨w.heap.size + 1, 0, none⟩) (.inr rfl) _
                  have h7 := HSZ.out
                  exact ⟨hT.cell (hW.cell d7 id) (by show ¬ (w1.heap.size = _); omega), hT.cell (hW.cell d1 id) hbp6, hT.cell (hW.cell d3 id) hbp6, hT.cell (hW.cell d4 id) hbp6⟩)
                have HKD := Lib.hid hKD
                have HDD := Lib.hid (show w.heap.size ≤ D by have := HFWr.out.size; have := HS56.out; omega)
                have h0 := (HE.out V (Touch.refl _ _)).2
                clear hKD hD hbl hFV hptV d1 d3 d4 d7 hb6V hbp6
                refine wpIn_wide.2 ?_
                go_upto_region 29 with fail
                refine wp_region_noPanic ?_
                go_region_held3 (fun W => W.cell? ⟨w1.heap.size, 0, none⟩ = some (.pointer (some ⟨bp, 0, none⟩)) ∧ W.cell? ⟨bp, 1, none⟩ = some (.pointer (some ⟨bl, 0, none⟩)) ∧ W.cell? ⟨bp, 3, none⟩ = some (.int .i64 (p.c.first : Int)) ∧ W.cell? ⟨bp, 4, none⟩ = some (.slice vA p.c.rows.length vc))
                  (first | assumption | exact (HE.out _ ((Touch.refl _ V).drew)).2 | exact (HE.out _ (Touch.refl _ V)).2 | exact HSET.out _ _ HF8.out)
                  (first
                    | (go_at_call 13; refine (KT.out _ (by first | exact (Touch.refl _ V).drew | exact Touch.refl _ V)).mono ?_; rintro e w7 ⟨rfl, hf7⟩; have k7 := (HE.out _ hf7).2; have HF7 := Lib.hid hf7; clear hf7)
                    | (go_at_call 16; refine (wakesL_any _).mono ?_; rintro e w8 ⟨rfl, hf8⟩; have HF8 := Lib.hid (Touch.trans HF7.out hf8 fun _ _ => id); have k8 := (HE.out _ HF8.out).2; have k6 := HB6.out _ HF8.out; obtain ⟨k60, k61⟩ := k6; clear hf8))
                all_goals
                  refine NoPanic.normal ?_
                  go_wp2_with fail
                  have hK8 := (HF8.out.heap HKD.out id)
                  have hK' := (KeepsOthers.setCell w8 ⟨w.heap.size + 1, 0, none⟩ (.bool true)).same D _ hK8 rfl
                  refine ⟨by simp, .inl ⟨_, _, rfl, run_takeDeferred hK', ?_⟩⟩
                  have hc5 := cell_kept (World.cell?_setCell_same' w8 ⟨w.heap.size + 1, 0, none⟩ (.bool true) (by rw [k60]; rfl)) (grownBy_putObj' _ D (.deferred none)) (fun r e => by cases e; exact ⟨_, hK', rfl⟩)
                  refine ⟨.bool true, ?_, rfl, Touch.ofBelow (((Fresh.bel (HFWV.out.trans HF8.out fun _ _ => id)).setCell (p := ⟨w.heap.size + 1, 0, none⟩) (Nat.le_succ _) _).trans (belowK_b (w := w) (Nat.le_refl _) _ D _ _ HDD.out hK' rfl rfl)) _⟩
                  simp [results, Tryz.results6, go_sem, hc5]
end Go.Proofs.YtlcmnihpfpmajaaGreat
