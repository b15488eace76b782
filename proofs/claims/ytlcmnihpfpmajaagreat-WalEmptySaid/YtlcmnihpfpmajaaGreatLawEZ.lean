/- The law WalEmpty, walked. Conditions stand with it. -/
import Derived.Test.YtlcmnihpfpmajaaGreatZa49
namespace Go.Proofs.YtlcmnihpfpmajaaGreat
open Go.RowKit
theorem IsInts.touch_ {w w' : World} {A : Option Addr} {n c : Nat} {xs : List Int} {S : Nat → Prop} (h : IsInts w A n c xs) (ht : Touch S w w') (hn : ∀ a, A = some a → 0 < n → ¬ S a.block) : IsInts w' A n c xs :=
  ⟨h.1, h.2.1, h.2.2.1, fun h0 => by
    obtain ⟨b, o, e, hc⟩ := h.2.2.2 h0
    exact ⟨b, o, e, fun j x hx => ht.cell (hc j x hx) (hn ⟨b, o, none⟩ e h0)⟩⟩
theorem one_byte (W : World) (k : Nat) (h : k < 256) : Bs (W.alloc (.cells #[.int .u8 (k : Int)] 5)) (some ⟨W.heap.size, 0, none⟩) 1 1 [UInt8.ofNat k] := by
  have e : (u8s [UInt8.ofNat k]).toArray = #[Value.int .u8 (k : Int)] := by
    simp [u8s, Nat.mod_eq_of_lt h]
  have := bytes_marked W [UInt8.ofNat k] (u8s [UInt8.ofNat k]).toArray (0, 0) rfl (by simp)
  rw [e] at this
  exact this
theorem cut_all {c : Ct} {N : Nat} (h1 : c.first = 0) (h2 : c.rows.length = N) : (c.cut N).first = N ∧ (c.cut N).next = N ∧ (c.cut N).rows.length = 0 := by
  have hn : (c.cut N).next = N := by rw [Ct.next_cut (by unfold Ct.next; omega)]; unfold Ct.next; omega
  have hf : (c.cut N).first = N := by
    unfold Ct.cut
    split
    · rfl
    · omega
  exact ⟨hf, hn, by unfold Ct.next at hn; omega⟩
set_option maxRecDepth 200000 in
set_option maxHeartbeats 16000000 in
theorem law_empty (a b : Int) (A : Option Addr) (nn c : Nat) (cuts : List Int) (w : World) (hz : IsInts w A nn c cuts) (hzw : ∀ x ∈ cuts, -9223372036854775808 ≤ x ∧ x ≤ 9223372036854775807) (hA : ∀ x, A = some x → 0 < nn → x.block < w.heap.size) :
    Calls Tryz.prog 10 #[.int .i64 a, .int .i64 b, .slice A nn c] w fun e w' => e = .returned (.bool true) ∧ Fresh w w' := by
  have h30 := Int.emod_nonneg a (show (30 : Int) ≠ 0 by omega)
  have h30' := Int.emod_lt_of_pos a (show (0 : Int) < 30 by omega)
  have h10 := Int.emod_nonneg b (show (10 : Int) ≠ 0 by omega)
  have h10' := Int.emod_lt_of_pos b (show (0 : Int) < 10 by omega)
  obtain ⟨N, hN⟩ : ∃ N : Nat, a % 30 = (N : Int) := ⟨(a % 30).toNat, by omega⟩
  obtain ⟨M, hM⟩ : ∃ M : Nat, b % 10 = (M : Int) := ⟨(b % 10).toNat, by omega⟩
  have hNb : N < 30 := by omega
  have hMb : M < 10 := by omega
  have K1 := Lib.hid (within_any a 30 w (by omega) (by omega))
  have K2 := Lib.hid (within_any b 10 w (by omega) (by omega))
  rw [hN] at K1
  rw [hM] at K2
  have KB := Lib.hid (show Calls Tryz.prog 11 #[.int .i64 0] w (BgnEnd w 0) from begunL_any w (n := 0) (by omega))
  have kcb := fun (w : World) (C : Array Value) (n c : Nat) => Lib.run_convert_bytes_const (P := Tryz.prog) w 26 5 C n c Tryz.underlying26 Tryz.underlying5
  have HZ := Lib.hid hz; have HZW := Lib.hid hzw; have HA := Lib.hid hA
  clear hz hzw hA hN hM h30 h30' h10 h10'
  go_enter Tryz.func10, Tryz.ntmps10
  go_wp2_with fail
  refine K1.out.mono ?_
  rintro e w0 ⟨rfl, rfl⟩
  go_wp2_with fail
  refine K2.out.mono ?_
  rintro e w0 ⟨rfl, rfl⟩
  go_wp2_with fail
  refine KB.out.mono ?_
  rintro e w1 ⟨bp, bd, F, S, rfl, hf1, hpg, hnew⟩
  rw [Nat.zero_mul] at hpg
  have HPG := Lib.hid hpg; have HF1 := Lib.hid hf1; have HNEW := Lib.hid hnew
  clear hpg hf1 hnew KB K1 K2
  go_wp2_with fail
  go_loopw [10] (fun i W => ∃ (k : Nat) (p : PS), k ≤ N ∧ i = .int .i64 (k : Int) ∧ PG w1 W bp bd F S p 0 ∧ PInv p (k + 1) (k * 26) ∧ Calm p ∧ p.c.first = 0 ∧ p.c.rows.length = k ∧ p.l.base = 0) (fun i _ => N - (intOf i).toNat)
  case atStart => exact ⟨0, PS.new 0, Nat.zero_le _, rfl, HPG.out, PInv.new 0, Calm.new 0, rfl, rfl, by show (openP [] 0).base = 0; rw [open_nil]⟩
  case round =>
    obtain ⟨k, p, hk, rfl, hpg, hv, hc, hp0, hpk, hb0⟩ := hrel
    obtain ⟨bl, S1, R1, Q1, l1, sv1, rv1, vs1, cv1, mv1, kv1, tv1, hx⟩ := hpg
    have HX := Lib.hid hx; have HV := Lib.hid hv; have HC := Lib.hid hc; have HP0 := Lib.hid hp0; have HPK := Lib.hid hpk; have HB0 := Lib.hid hb0
    by_cases hlt : k < N
    · have hkd : decide ((k : Int) < (N : Int)) = true := decide_eq_true (by omega)
      have hwk : IntKind.i64.wrap ((k : Int) + 1) = (k : Int) + 1 := IntWalk.i64_in _ (by omega)
      have hwu : IntKind.u8.wrap (k : Int) = (k : Int) := by simp [IntKind.wrap, IntKind.bits, IntKind.signed]; omega
      obtain ⟨w2, hw2⟩ : ∃ w2, w2 = wr.alloc (.cells #[.int .u8 (k : Int)] 5) := ⟨_, rfl⟩
      have hf2 : Fresh wr w2 := by rw [hw2]; exact (Touch.refl (fun _ => False) wr).alloc _
      have hx2 := hx.fresh hf2
      have hlow : ∀ q, pfoot bp bl R1 Q1 sv1 rv1 mv1 kv1 tv1 q → q < wr.heap.size := fun q hq => hx.pm.lt q hq
      have hSl := hx.pm.ld.dk.below
      have KD := Lib.hid (doesA (N := 0) (K := 0) (CA := none) (cm := 0) (cc := 0) hx2.pm hv (by omega) (by omega) (by omega) (Do := 0) (.inl rfl) (by rw [hw2]; exact one_byte wr k (by omega)) (fun a ha _ => by
        injection ha with ha
        subst ha
        exact ⟨fun e => Nat.lt_irrefl _ (hlow _ e), fun e => Nat.lt_irrefl _ (hSl _ e), by rw [hw2, alloc_size]; exact Nat.lt_succ_self _⟩))
      rw [show [UInt8.ofNat k].take (min 1 200) = [UInt8.ofNat k] from rfl] at KD
      have HX2 := Lib.hid hx2; have HW2 := Lib.hid hw2
      clear hx hv hc hp0 hpk hb0 hx2 hf2 hlow hSl hw2
      go_wp2_with fail
      rw [← HW2.out]
      refine KD.out.mono ?_
      rintro e w3 ⟨rfl, hpg3⟩
      have HPG3 := Lib.hid (PG.trans HX2.out hpg3)
      clear hpg3 KD
      go_wp2_with fail
      go_roundw
      case rel =>
        obtain ⟨z1, z2, z3, z4, z5, z6⟩ := HV.out.app_calm (by omega) (by omega) (b := [UInt8.ofNat k]) (by simp) HC.out
        refine ⟨k + 1, _, by omega, by go_num, HPG3.out, ?_, z4, ?_, ?_, by rw [z6]; exact HB0.out⟩
        · have : k * 26 + [UInt8.ofNat k].length + 25 = (k + 1) * 26 := by simp only [List.length_singleton]; omega
          rw [← this]
          exact z3
        · rw [z5]; exact HP0.out
        · rw [z5]
          show (p.c.rows ++ [_]).length = k + 1
          rw [List.length_append, HPK.out]; rfl
      case measure => simp [intOf] <;> omega
    · obtain rfl : k = N := by omega
      have hkd : decide ((k : Int) < (k : Int)) = false := by simp
      have hw5 : IntKind.i64.wrap ((k : Int) + 5) = (k : Int) + 5 := IntWalk.i64_in _ (by omega)
      obtain ⟨z1, z2, z3, z4, z5⟩ := hv.cut_calm (by omega) (by omega) ((k : Int) + 5) hc
      have hpn : p.c.next = k := by unfold Ct.next; omega
      have hmin : (min ((k : Int) + 5) (p.c.next : Int)).toNat = k := by rw [hpn]; omega
      rw [hmin] at z4
      obtain ⟨y1, y2, y3⟩ := cut_all hp0 hpk
      have KC := Lib.hid (cut_px hx.pm hv (by omega) (by omega) (by omega) ((k : Int) + 5))
      rw [z1] at KC
      have c1 : wr.cell? ⟨bp, 1, none⟩ = some (.pointer (some ⟨bl, 0, none⟩)) := hx.pm.blk.cell 1
      obtain ⟨vA, vc, hcv, _⟩ := hx.pm.c.form
      have hne : ((k : Int) != (k : Int)) = false := by simp
      have HZ2 := Lib.hid z2; have HZ3 := Lib.hid z3; have HZ4 := Lib.hid z4; have HZ5 := Lib.hid z5; have HY := Lib.hid (And.intro y1 (And.intro y2 y3)); have HCV := Lib.hid hcv; have HPN := Lib.hid hpn
      have hrl : p.c.rows.length ≤ 30 := by omega
      clear hx hv hc hp0 hpk hb0 z1 z2 z3 z4 z5 hmin y1 y2 y3 hcv hpn
      go_wp2_with fail
      refine KC.out.mono ?_
      rintro e w4 ⟨rfl, S4, R4, l4, sv4, rv4, vs4, hx4⟩
      have hl4 : l4.c = p.c.cut k := by
        have h1 := hx4.pm.alk.c
        have h2 := HZ2.out.c
        rw [HZ4.out] at h2
        exact h1.trans h2
      have d1 : w4.cell? ⟨bp, 1, none⟩ = some (.pointer (some ⟨bl, 0, none⟩)) := hx4.pm.blk.cell 1
      have KF := Lib.hid (first_any hx4.pm.ld.lm)
      have KN := Lib.hid (next_any hx4.pm.ld.lm (by rw [hl4, HY.out.2.1]; omega))
      rw [hl4, HY.out.1] at KF
      rw [hl4, HY.out.2.1] at KN
      have HX4 := Lib.hid hx4
      clear hx4 hl4 KC c1
      go_wp2_with fail
      refine KF.out.mono ?_
      rintro e w5 ⟨rfl, rfl⟩
      go_wp2_with fail
      refine KN.out.mono ?_
      rintro e w5 ⟨rfl, q, rfl⟩
      generalize hw6 : World.drewN w5 q = w6
      have hf6 : Fresh w5 w6 := by rw [← hw6]; exact (Touch.refl (fun _ => False) w5).drewN _
      have hx6 := (HX.out.trans HX4.out (fun _ => id) fun _ => id).fresh hf6
      have b3 : w6.cell? ⟨bp, 3, none⟩ = some (.int .i64 (p.c.first : Int)) := hx6.pm.blk.cell 3
      have b4 : w6.cell? ⟨bp, 4, none⟩ = some (.slice vA p.c.rows.length vc) := by rw [← HCV.out]; exact hx6.pm.blk.cell 4
      have KCC := Lib.hid (show Calls Tryz.prog 24 #[.agg #[.int .i64 (p.c.first : Int), .slice vA p.c.rows.length vc], .int .i64 (k : Int)] w6 fun e w' => Fresh w6 w' ∧ ∃ xA xl xc, e = .returned (.agg #[.int .i64 (k : Int), .slice xA xl xc]) ∧ CM w' Q1 (.slice xA xl xc) (p.c.cut k).rows from by
        have hc6 := hx6.pm.c
        rw [HCV.out] at hc6
        refine (ccut_any (first := p.c.first) hc6 (by have := HP0.out; dsimp only; omega) (k : Int)).mono ?_
        rintro e w' ⟨hf, v', rfl, hcm⟩
        rw [show (min (k : Int) ((⟨p.c.first, p.c.rows⟩ : Ct).next : Int)).toNat = k from by have := HPN.out; rw [show (⟨p.c.first, p.c.rows⟩ : Ct).next = p.c.next from rfl, this]; omega] at hcm ⊢
        obtain ⟨xA, xc, e, _⟩ := hcm.form
        refine ⟨hf, xA, _, xc, by rw [← e, show ((⟨p.c.first, p.c.rows⟩ : Ct).cut k).first = k from HY.out.1], ?_⟩
        rw [← e]
        exact hcm)
      have HX6 := Lib.hid hx6
      clear hf6 hw6 hx6 d1 KF KN
      go_wp2_with fail
      refine KCC.out.mono ?_
      rintro e w7 ⟨hf7, xA, xl, xc, rfl, hcm7⟩
      have hx7 := HX6.out.fresh hf7
      have b3' : w7.cell? ⟨bp, 3, none⟩ = some (.int .i64 (p.c.first : Int)) := hx7.pm.blk.cell 3
      have b4' : w7.cell? ⟨bp, 4, none⟩ = some (.slice vA p.c.rows.length vc) := by rw [← HCV.out]; exact hx7.pm.blk.cell 4
      have g3 : w7.frozen? ⟨bp, 3, none⟩ = false := hx7.pm.blk.frozen 3
      have g4 : w7.frozen? ⟨bp, 4, none⟩ = false := hx7.pm.blk.frozen 4
      have hx8 := hx7.setc hcm7
      rw [HY.out.1] at hx8
      obtain ⟨w8, hw8⟩ : ∃ w8, w8 = (w7.setCell ⟨bp, 3, none⟩ (.int .i64 (k : Int))).setCell ⟨bp, 4, none⟩ (.slice xA xl xc) := ⟨_, rfl⟩
      rw [← hw8] at hx8
      obtain ⟨p2, hp2⟩ : ∃ p2, p2 = p.cutS ((k : Int) + 5) := ⟨_, rfl⟩
      have hx8 : PX w1 w8 bp bd F S bl S4 R4 Q1 p2 l4 0 sv4 rv4 vs4 (.slice xA xl xc) mv1 kv1 tv1 := by rw [hp2, HZ4.out]; exact hx8
      have b0 : w8.cell? ⟨bp, 0, none⟩ = some (.pointer (some ⟨bd, 0, none⟩)) := hx8.pm.blk.cell 0
      have hv2 := HZ2.out
      rw [← hp2] at hv2
      have hc2 : p2.c.first = k ∧ p2.c.next = k ∧ p2.c.rows.length = 0 := by rw [hp2, HZ4.out]; exact HY.out
      have hcalm : Calm p2 := by rw [hp2]; exact HZ3.out
      have hbase : p2.l.base = 0 := by rw [hp2, HZ5.out]; exact HB0.out
      have hs1 := HF1.out.size
      have hfw8 : Fresh w w8 := HF1.out.trans hx8.tch fun q hq e => by have := HNEW.out q e; omega
      have KCR := Lib.hid (disk_crash hx8.pm.ld.dk (hv2.small (by omega)) (by omega) (HZ.out.touch_ hfw8 fun _ _ _ => id) HZW.out (fun x hx h0 e => by
        have h1 := HA.out x hx h0
        rcases hx8.sS _ e with e | e
        · have := HNEW.out _ (.inr e); omega
        · omega))
      have HX8 := Lib.hid hx8; have HW8 := Lib.hid hw8; have HV2 := Lib.hid hv2; have HC2 := Lib.hid hc2; have HCALM := Lib.hid hcalm; have HBASE := Lib.hid hbase; have HFW8 := Lib.hid hfw8
      clear hf7 hcm7 hx7 hx8 hw8 hv2 hc2 hcalm hbase hfw8 hp2 b3 b4 KCC
      go_upto_region 13 with fail
      rw [← HW8.out]
      clear b3' b4' g3 g4
      go_wp2_with fail
      refine KCR.out.mono ?_
      rintro e w9 ⟨rfl, ht9, hd9⟩
      have hx9 := HX8.out.disk ht9 hd9
      obtain ⟨hcr, hcc, hcf⟩ := HV2.out.crash (by omega) cuts
      have hloc : (openP (p2.d.crash cuts).fs p2.l.base).c = p2.c := by
        rcases hcc with h | h | ⟨m, h, _⟩
        · exact h
        · rw [HCALM.out.2.2.1] at h; cases h
        · rw [HCALM.out.2.2.2] at h; cases h
      rw [HBASE.out] at hcr hloc hcf
      obtain ⟨ss, hlive, _⟩ := hcr.live
      unfold Live at hlive
      have KO := Lib.hid (lopen_shape (n := 0) hx9.pm.ld.dk (hcr.small (by omega)) (by omega) (by have := hcr.files; dsimp only at this ⊢; omega) (by omega) (by rw [Nat.zero_mul]; exact hlive.shape))
      have b0' : w9.cell? ⟨bp, 0, none⟩ = some (.pointer (some ⟨bd, 0, none⟩)) := hx9.pm.blk.cell 0
      have hfw9 : Fresh w w9 := HF1.out.trans hx9.tch fun q hq e => by have := HNEW.out q e; omega
      have HS9 := Lib.hid (show ∀ q, more S4 w8 w9 q → w.heap.size ≤ q from fun q e => by
        rcases hx9.sS q e with e | e
        · exact HNEW.out q (.inr e)
        · omega)
      have HCR := Lib.hid hcr; have HLOC := Lib.hid hloc; have HFW9 := Lib.hid hfw9
      clear ht9 hd9 hx9 hcr hcc hcf hloc hlive hfw9 b0 KCR
      go_wp2_with fail
      refine KO.out.mono ?_
      rintro e w10 ⟨ht10, bl2, R2, sv2, rv2, vs2, rfl, hld, hnw⟩
      rw [Nat.zero_mul] at hld
      have hfw10 : Fresh w w10 := HFW9.out.trans ht10 fun q hq e => by have := HS9.out q e; omega
      have KF := Lib.hid (first_any hld.lm)
      have KN := Lib.hid (next_any hld.lm (by rw [HLOC.out, HC2.out.2.1]; omega))
      rw [HLOC.out, HC2.out.1] at KF
      rw [HLOC.out, HC2.out.2.1] at KN
      have HLD := Lib.hid hld; have HFW10 := Lib.hid hfw10
      have HNW := Lib.hid (show ∀ q, lfoot bl2 sv2 rv2 q ∨ R2 q → w.heap.size ≤ q from fun q e => by have := hnw q e; have := HFW9.out.size; omega)
      clear ht10 hld hfw10 hnw KO b0'
      go_wp2_with fail
      refine KF.out.mono ?_
      rintro e w11 ⟨rfl, rfl⟩
      go_wp2_with fail
      refine KN.out.mono ?_
      rintro e w12 ⟨rfl, q2, rfl⟩
      clear KF KN
      go_wp2_with fail
      generalize hw13 : World.drewN w11 _ = w13
      have hf13 : Fresh w11 w13 := by rw [← hw13]; exact (Touch.refl (fun _ => False) w11).drewN _
      have HLD13 := Lib.hid (HLD.out.fresh hf13); have HFW13 := Lib.hid (HFW10.out.trans hf13 fun _ _ => id)
      have HN10 := Lib.hid (show ∀ q, more S4 w8 w9 q ∨ lfoot bl2 sv2 rv2 q ∨ R2 q → w.heap.size ≤ q from fun q e => e.elim (HS9.out q) (HNW.out q))
      clear hf13 hw13
      go_loopw [13] (fun i W => ∃ (j : Nat) (p' : PS) (S' R' : Nat → Prop) (sv' rv' : Value) (vs' : List Value), j ≤ M ∧ i = .int .i64 (j : Int) ∧ LD W bl2 bd S' R' p'.l p'.d sv' rv' vs' ∧ Fresh w W ∧ (∀ q, S' q ∨ lfoot bl2 sv' rv' q ∨ R' q → w.heap.size ≤ q) ∧ PInv p' (k + 3 + j) (k * 26 + j * 26) ∧ Calm p' ∧ p'.c.first = k ∧ p'.c.next = k + j ∧ p'.l.base = 0) (fun i _ => M - (intOf i).toNat)
      case atStart =>
        refine ⟨0, { d := p2.d.crash cuts, l := openP (p2.d.crash cuts).fs 0, c := (openP (p2.d.crash cuts).fs 0).c, maybe := [], cuts := [], struck := [], stop := -1 }, _, R2, sv2, rv2, vs2, Nat.zero_le _, rfl, HLD13.out, HFW13.out, HN10.out, HCR.out, ⟨rfl, rfl, rfl, rfl⟩, ?_, ?_, rfl⟩
        · dsimp only; rw [HLOC.out]; exact HC2.out.1
        · dsimp only; rw [HLOC.out]; exact HC2.out.2.1
      case round =>
        obtain ⟨j, p', S', R', sv', rv', vs', hj, rfl, hld, hfw, hlo, hv', hc', hf', hn', hb'⟩ := hrel
        have HLDr := Lib.hid hld; have HFWr := Lib.hid hfw; have HLOr := Lib.hid hlo; have HVr := Lib.hid hv'; have HCr := Lib.hid hc'
        by_cases hlt : j < M
        · have hjd : decide ((j : Int) < (M : Int)) = true := decide_eq_true (by omega)
          have hwj : IntKind.i64.wrap ((j : Int) + 1) = (j : Int) + 1 := IntWalk.i64_in _ (by omega)
          have hwkj : IntKind.i64.wrap ((k : Int) + (j : Int)) = (k : Int) + (j : Int) := IntWalk.i64_in _ (by omega)
          have hnej : (((k : Int) + (j : Int)) != ((k : Int) + (j : Int))) = false := by simp
          obtain ⟨w14, hw14⟩ : ∃ w14, w14 = wr.alloc (.cells #[.int .u8 120] 5 (1, 2)) := ⟨_, rfl⟩
          have hf14 : Fresh wr w14 := by rw [hw14]; exact (Touch.refl (fun _ => False) wr).alloc _
          have hrow : Bs w14 (some ⟨wr.heap.size, 0, none⟩) 1 1 [120] := by rw [hw14]; exact bytes_marked wr [120] #[.int .u8 120] (1, 2) rfl (by decide)
          obtain ⟨z1, z2, z3, z4, z5, z6⟩ := hv'.app_calm (by omega) (by omega) (b := [120]) (by decide) hc'
          have hlt' := hld.lt
          have hSl' := hld.dk.below
          have KA := Lib.hid (show Calls Tryz.prog 19 #[.pointer (some ⟨bl2, 0, none⟩), .slice (some ⟨wr.heap.size, 0, none⟩) 1 1] w14 fun e w15 => e = .returned (.tuple #[.int .i64 ((k : Int) + (j : Int)), .int .i64 0]) ∧ ∃ S5 R5 sv5 rv5 vs5, LD w15 bl2 bd S5 R5 (p'.app [120]).l (p'.app [120]).d sv5 rv5 vs5 ∧ Fresh w w15 ∧ ∀ q, S5 q ∨ lfoot bl2 sv5 rv5 q ∨ R5 q → w.heap.size ≤ q from by
            have hcn := hv'.cn (by omega) (Alk.refl p'.l)
            refine (lappend_any (xs := [120]) (K := 200000000) (hld.fresh hf14) hrow (fun a ha _ => ?_) (hv'.begB (by omega) (by rw [hb']; omega) (Alk.refl _) (by have := hcn.2.1; unfold Ct.next at this; omega) (by omega) (by omega)) (by omega) (by omega)).mono ?_
            · injection ha with ha
              subst ha
              exact ⟨fun e => Nat.lt_irrefl _ (hlt' _ (.inl e)), fun e => Nat.lt_irrefl _ (hSl' _ e), by rw [hw14, alloc_size]; exact Nat.lt_succ_self _⟩
            · rintro e w15 ⟨rfl, S5, R5, sv5, rv5, vs5, hlx⟩
              have hs := hf14.size
              have hs0 := hfw.size
              refine ⟨by rw [z1, z2, hn']; rfl, S5, R5, sv5, rv5, vs5, by rw [z5]; exact hlx.ld, (hfw.trans hf14 fun _ _ => id).trans hlx.tch fun q hq e => ?_, fun q e => ?_⟩
              · rcases e with e | e
                · have := hlo q (.inr (.inl e)); omega
                · have := hlo q (.inl e); omega
              · rcases e with e | e | e
                · exact (hlx.sS q e).elim (fun e => hlo q (.inl e)) (by omega)
                · exact (hlx.sF q e).elim (fun e => hlo q (.inr (.inl e))) (by omega)
                · exact (hlx.sR q e).elim (fun e => hlo q (.inr (.inr e))) (by omega))
          have HW14 := Lib.hid hw14
          have HZ3' := Lib.hid z3; have HZ4' := Lib.hid z4; have HZ5' := Lib.hid z5; have HZ6' := Lib.hid z6; have HF' := Lib.hid hf'; have HN' := Lib.hid hn'; have HB' := Lib.hid hb'
          clear hld hfw hlo hv' hc' hf' hn' hb' hf14 hrow hw14 z1 z2 z3 z4 z5 z6 hlt' hSl'
          go_wp2_with fail
          rw [← HW14.out]
          refine KA.out.mono ?_
          rintro e w15 ⟨rfl, S5, R5, sv5, rv5, vs5, hld5, hfw5, hlo5⟩
          have HL5 := Lib.hid hld5; have HFW5 := Lib.hid hfw5; have HLO5 := Lib.hid hlo5
          clear hld5 hfw5 hlo5 KA
          go_wp2_with fail
          go_roundw
          case rel =>
            refine ⟨j + 1, p'.app [120], S5, R5, sv5, rv5, vs5, by omega, by go_num, HL5.out, HFW5.out, HLO5.out, ?_, HZ4'.out, ?_, ?_, by rw [HZ6'.out]; exact HB'.out⟩
            · have := HZ3'.out
              rw [show k * 26 + (j + 1) * 26 = k * 26 + j * 26 + [(120 : UInt8)].length + 25 by simp only [List.length_singleton]; omega]
              exact this
            · rw [HZ5'.out]; exact HF'.out
            · rw [HZ5'.out]
              show (p'.c.add [120]).next = k + (j + 1)
              rw [Ct.next_add, HN'.out]; omega
          case measure => simp [intOf] <;> omega
        · obtain rfl : j = M := by omega
          have hjd : decide ((j : Int) < (j : Int)) = false := by simp
          have hpc := hv'.c
          have KF := Lib.hid (first_any hld.lm)
          have KN := Lib.hid (next_any hld.lm (by rw [hpc, hn']; omega))
          rw [hpc, hf'] at KF
          rw [hpc, hn'] at KN
          have hkk : ((k : Int) == (k : Int)) = true := by simp
          have hkj : (((k + j : Nat) : Int) == ((k : Int) + (j : Int))) = true := by simp
          have hkj2 : (((k : Int) + (j : Int)) == ((k : Int) + (j : Int))) = true := by simp
          have hwkj : IntKind.i64.wrap ((k : Int) + (j : Int)) = (k : Int) + (j : Int) := IntWalk.i64_in _ (by omega)
          clear hld hfw hlo hv' hc' hf' hn' hb' hpc
          go_wp2_with fail
          refine KF.out.mono ?_
          rintro e w16 ⟨rfl, rfl⟩
          go_wp2_with fail
          refine KN.out.mono ?_
          rintro e w17 ⟨rfl, q3, rfl⟩
          clear KF KN
          go_wp2_with fail
          refine (wakesL_any _).mono ?_
          rintro e w18 ⟨rfl, hf18⟩
          have HF18 := Lib.hid hf18
          clear hf18
          go_wp2_with fail
          go_ret
          exact ⟨rfl, (HFWr.out.drewN q3).trans HF18.out fun _ _ => id⟩
end Go.Proofs.YtlcmnihpfpmajaaGreat
