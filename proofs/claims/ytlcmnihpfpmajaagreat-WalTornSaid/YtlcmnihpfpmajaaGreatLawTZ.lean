/- The law WalTorn, walked. Conditions stand with it. -/
import Derived.Test.YtlcmnihpfpmajaaGreatQfZ
import Derived.Deep.RegionHeld3
import Derived.Deep.CutRange
namespace Go.Proofs.YtlcmnihpfpmajaaGreat
open Go.RowKit
set_option maxRecDepth 200000 in
set_option maxHeartbeats 16000000 in
theorem law_torn (w : World) (RA : Option Addr) (rn rc : Nat) (recs : List BsD) (h : BssAt w RA rn rc recs) (x : BsD) (hxs : Bs w x.A x.m x.c x.xs) (hxB : ∀ a, x.A = some a → 0 < x.m → a.block < w.heap.size) (st : Int)
    (CA : Option Addr) (cn cc : Nat) (cuts : List Int) (hz : IsInts w CA cn cc cuts) (hzw : ∀ x ∈ cuts, -9223372036854775808 ≤ x ∧ x ≤ 9223372036854775807) (hzB : ∀ a, CA = some a → 0 < cn → a.block < w.heap.size) :
    Calls Tryz.prog 8 #[.agg #[.slice RA rn rc, .slice x.A x.m x.c, .int .i64 st, .slice CA cn cc]] w fun e w' => e = .returned (.bool true) ∧ Fresh w w' := by
  have hnc := h.vs.2.1
  have hcm := h.vs.2.2.1
  unfold maxLen at hcm
  obtain ⟨w0, hw0⟩ : ∃ w0, w0 = w.alloc (.cells #[.slice RA rn rc, .slice x.A x.m x.c, .int .i64 st, .slice CA cn cc] 67) := ⟨_, rfl⟩
  have hf0 : Fresh w w0 := by rw [hw0]; exact (Touch.refl (fun _ => False) w).alloc _
  have hb0 : Blk w0 w.heap.size 67 #[.slice RA rn rc, .slice x.A x.m x.c, .int .i64 st, .slice CA cn cc] := by rw [hw0]; exact Blk.new _ _ _
  have hs0 : w0.heap.size = w.heap.size + 1 := by rw [hw0, alloc_size]
  have KB := Lib.hid (show Calls Tryz.prog 11 #[.int .i64 0] w0 (BgnEnd w0 0) from begunL_any w0 (n := 0) (by omega))
  have HX := Lib.hid (show ∀ W, Fresh w0 W → OpAt w0.heap.size W (opB x) from fun W hW => opB_at (hxs.fresh (hf0.trans hW fun _ _ => id)) fun a ha h0 => by have := hxB a ha h0; omega)
  have HC := Lib.hid (show ∀ W, Fresh w0 W → OpAt w0.heap.size W (opC CA cn cc cuts) from fun W hW => opC_at (hz.touch2 (hf0.trans hW fun _ _ => id) fun _ _ _ => id) (fun a ha h0 => by have := hzB a ha h0; omega) hzw)
  have HXB := Lib.hid (show ∀ W, Fresh w0 W → Bs W x.A x.m x.c x.xs from fun W hW => hxs.fresh (hf0.trans hW fun _ _ => id))
  have HZ := Lib.hid (show ∀ W, Fresh w0 W → W.cell? ⟨w.heap.size, 0, none⟩ = some (.slice RA rn rc) ∧ W.cell? ⟨w.heap.size, 1, none⟩ = some (.slice x.A x.m x.c) ∧ W.cell? ⟨w.heap.size, 2, none⟩ = some (.int .i64 st) ∧ W.cell? ⟨w.heap.size, 3, none⟩ = some (.slice CA cn cc) from fun W hW => ⟨(hb0.touch hW id).cell 0, (hb0.touch hW id).cell 1, (hb0.touch hW id).cell 2, (hb0.touch hW id).cell 3⟩)
  have H := Lib.hid h; have HF0 := Lib.hid hf0; have HW0 := Lib.hid hw0; have HS0 := Lib.hid hs0
  clear h hxs hxB hz hzw hzB hw0 hf0 hb0 hs0
  go_enter Tryz.func8, Tryz.ntmps8
  go_upto_region 1 with fail
  rw [← HW0.out]
  go_wp2_with fail
  refine KB.out.mono ?_
  rintro e w1 ⟨bp, bd, F, S, rfl, hf1, hpg, hnew⟩
  rw [Nat.zero_mul] at hpg
  have HPG := Lib.hid hpg; have HF1 := Lib.hid hf1; have HNEW := Lib.hid hnew
  have HLO := Lib.hid (show LoF w0.heap.size w1 F S from ⟨hf1.size, hnew⟩)
  clear hpg hf1 hnew KB
  go_wp2_with fail
  go_loopw [4] (fun i W => ∃ (k : Nat) (p : PS), k ≤ rn ∧ k ≤ 8 ∧ i = .int .i64 (k : Int) ∧ PG w1 W bp bd F S p 0 ∧ PInv p (k + 1) (k * 225) ∧ Calm p ∧ p.l.base = 0) (fun i _ => rn - (intOf i).toNat)
  case atStart => exact ⟨0, PS.new 0, Nat.zero_le _, Nat.zero_le _, rfl, HPG.out, PInv.new 0, Calm.new 0, by show (openP [] 0).base = 0; rw [open_nil]⟩
  case round =>
    obtain ⟨k, p, hk, hk2, rfl, hpg, hv, hcl, hb0⟩ := hrel
    have hfw := hpg.new_ HF1.out HNEW.out
    obtain ⟨z0, z1, z2, z3⟩ := HZ.out _ hfw
    have HV := Lib.hid hv; have HB0 := Lib.hid hb0; have HCL := Lib.hid hcl; have HFW := Lib.hid hfw
    by_cases hlt : k < rn ∧ k < 8
    · obtain ⟨hl1, hl2⟩ := hlt
      obtain ⟨b, off, o, rfl, ho⟩ := H.out.spot hl1
      obtain ⟨hob, hoB, k0⟩ := H.out.rd ho (HF0.out.trans hfw fun _ _ => id)
      have hkd : decide ((k : Int) < (rn : Int)) = true := decide_eq_true (by omega)
      have hkd2 : decide ((k : Int) < 8) = true := decide_eq_true (by omega)
      have hwk : IntKind.i64.wrap ((k : Int) + 1) = (k : Int) + 1 := IntWalk.i64_in _ (by omega)
      have KD := Lib.hid (show Calls Tryz.prog 12 #[.pointer (some ⟨bp, 0, none⟩), .agg #[.int .i64 0, .int .i64 0, .int .i64 0, .slice o.A o.m o.c, .slice none 0 0]] wr fun e w' => e = .returned (.bool true) ∧ PG w1 w' bp bd F S (p.app (o.xs.take (min o.m 200))) 0 from by
        have := does_pg (n := 0) hpg HLO.out hv (by omega) (by omega) (by omega) (by rw [hb0]) (opB_at (x := o) hob fun a ha h0 => by have := hoB a ha h0; have := HS0.out; omega)
        rw [doS_B] at this
        exact this)
      have HA := Lib.hid (hv.app_calm (b := o.xs.take (min o.m 200)) (by omega) (by omega) (by rw [List.length_take]; omega) hcl)
      clear hpg hv hb0 hcl ho hob hoB hfw
      go_wp2_with fail
      refine KD.out.mono ?_
      rintro e w3 ⟨rfl, hpg3⟩
      have HPG3 := Lib.hid hpg3
      clear hpg3 KD k0 z0 z1 z2 z3
      go_wp2_with fail
      go_roundw
      case rel =>
        obtain ⟨_, _, q3, q4, _, q6⟩ := HA.out
        exact ⟨k + 1, _, by omega, by omega, by go_num, HPG3.out, q3.mono (Nat.le_refl _) (by rw [List.length_take]; omega), q4, by rw [q6]; exact HB0.out⟩
      case measure => simp [intOf] <;> omega
    · obtain ⟨bl, S1, R1, Q1, l1, sv1, rv1, vs1, cv1, mv1, kv1, tv1, hx⟩ := hpg
      obtain ⟨vA, vc, rfl, _⟩ := hx.pm.c.form
      obtain ⟨L, hL⟩ : ∃ L, L = p.c.rows.length := ⟨_, rfl⟩
      have c3 : wr.cell? ⟨bp, 3, none⟩ = some (.int .i64 (p.c.first : Int)) := hx.pm.blk.cell 3
      have c4 : wr.cell? ⟨bp, 4, none⟩ = some (.slice vA L vc) := by rw [hL]; exact hx.pm.blk.cell 4
      obtain ⟨wA, hwA⟩ : ∃ wA, wA = wr.alloc (.cells #[.int .i64 (p.c.first : Int), .slice vA L vc] 35) := ⟨_, rfl⟩
      have hfA : Fresh wr wA := by rw [hwA]; exact (Touch.refl (fun _ => False) wr).alloc _
      have hbA : Blk wA wr.heap.size 35 #[.int .i64 (p.c.first : Int), .slice vA L vc] := by rw [hwA]; exact Blk.new _ _ _
      have hxA := hx.fresh hfA
      have hlt := hx.pm.lt
      have hSl := hx.pm.ld.dk.below
      obtain ⟨FA, hFA⟩ : ∃ FA, FA = pfoot bp bl R1 Q1 sv1 rv1 mv1 kv1 tv1 := ⟨_, rfl⟩
      have hA : PG wA wA bp bd FA S1 p 0 := by rw [hFA]; exact hxA.pm.same.pg
      have hloA : LoF w0.heap.size wA FA S1 := ⟨Nat.le_trans hfw.size hfA.size, by rw [hFA]; exact hxA.lo HLO.out⟩
      have hfwA : Fresh w0 wA := hfw.trans hfA fun _ _ => id
      have HNA := Lib.hid (show ∀ W p', PG wA W bp bd FA S1 p' 0 → Fresh w0 W ∧ W.cell? ⟨wr.heap.size, 0, none⟩ = some (.int .i64 (p.c.first : Int)) ∧ W.cell? ⟨wr.heap.size, 1, none⟩ = some (.slice vA L vc) ∧ CMx W (.slice vA L vc) p.c.rows from fun W p' hp => by
        have hb := hbA.touch hp.tch (by
          rintro (e | e)
          · rw [hFA] at e; exact Nat.lt_irrefl _ (hlt _ e)
          · exact Nat.lt_irrefl _ (hSl _ e))
        refine ⟨hp.new_ hfwA hloA.2, hb.cell 0, hb.cell 1, ?_⟩
        have := hp.keep hxA.pm hxA.pm.c
        rw [← hL] at this
        exact this)
      have hm1 : (p.haltS (st % 12).toNat).maybe = [] ∧ (p.haltS (st % 12).toNat).cuts = [] ∧ (p.haltS (st % 12).toNat).c = p.c := ⟨hcl.2.2.1, hcl.2.2.2, rfl⟩
      obtain ⟨hv4, hb4⟩ := hv.doS (by omega) (by omega) (opN 4 st)
      rw [doS_4] at hv4 hb4
      have K4 := Lib.hid (show Calls Tryz.prog 12 #[.pointer (some ⟨bp, 0, none⟩), .agg #[.int .i64 4, .int .i64 st, .int .i64 0, .slice none 0 0, .slice none 0 0]] wA fun e w' => e = .returned (.bool true) ∧ PG wA w' bp bd FA S1 (p.haltS (st % 12).toNat) 0 from by
        have := does_pg (n := 0) hA hloA hv (by omega) (by omega) (by omega) (by rw [hb0]) (opN_at wA 4 st)
        rw [doS_4] at this
        exact this)
      obtain ⟨p4, hp4⟩ : ∃ p4, p4 = p.haltS (st % 12).toNat := ⟨_, rfl⟩
      rw [← hp4] at hm1 hv4 hb4 K4
      obtain ⟨hv5, hb5⟩ := hv4.doS (by omega) (by omega) (opB x)
      have hm5 := app_may p4 (x.xs.take (min x.m 200))
      rw [doS_B] at hv5 hb5
      have K5 := Lib.hid (show ∀ W, PG wA W bp bd FA S1 p4 0 → Calls Tryz.prog 12 #[.pointer (some ⟨bp, 0, none⟩), .agg #[.int .i64 0, .int .i64 0, .int .i64 0, .slice x.A x.m x.c, .slice none 0 0]] W fun e w' => e = .returned (.bool true) ∧ PG wA w' bp bd FA S1 (p4.app (x.xs.take (min x.m 200))) 0 from fun W hW => by
        have := does_pg (n := 0) hW hloA hv4 (by omega) (by omega) (by omega) (by rw [hb4, hb0]) (HX.out W (hW.new_ hfwA hloA.2))
        rw [doS_B] at this
        exact this)
      obtain ⟨p5, hp5⟩ : ∃ p5, p5 = p4.app (x.xs.take (min x.m 200)) := ⟨_, rfl⟩
      rw [← hp5] at hm5 hv5 hb5 K5
      obtain ⟨hv6, hb6⟩ := hv5.doS (by omega) (by omega) (opC CA cn cc cuts)
      have hm6 := crash_may hv5 (by omega) cuts
      rw [doS_C] at hv6 hb6
      have K6 := Lib.hid (show ∀ W, PG wA W bp bd FA S1 p5 0 → Calls Tryz.prog 12 #[.pointer (some ⟨bp, 0, none⟩), .agg #[.int .i64 5, .int .i64 0, .int .i64 0, .slice none 0 0, .slice CA cn cc]] W fun e w' => e = .returned (.bool true) ∧ PG wA w' bp bd FA S1 (p5.crashS cuts) 0 from fun W hW => by
        have := does_pg (n := 0) hW hloA hv5 (by omega) (by omega) (by omega) (by rw [hb5, hb4, hb0]) (HC.out W (hW.new_ hfwA hloA.2))
        rw [doS_C] at this
        exact this)
      obtain ⟨p6, hp6⟩ : ∃ p6, p6 = p5.crashS cuts := ⟨_, rfl⟩
      rw [← hp6] at hm6 hv6 hb6 K6
      have hfin : p6.c = p.c ∨ p6.c = p.c.add (x.xs.take (min x.m 200)) := by
        rcases hm5 with ⟨a1, a2, a3⟩ | ⟨a1, a2, a3⟩
        · rw [hm1.2.2] at a1
          rcases hm6 with e | e | ⟨j, e, _⟩
          · exact .inr (e.trans a1)
          · rw [a2] at e; cases e
          · rw [a3] at e; cases e
        · rw [hm1.1, List.nil_append, hm1.2.2] at a2
          rw [hm1.2.2] at a1
          rcases hm6 with e | e | ⟨j, e, _⟩
          · exact .inl (e.trans a1)
          · rw [a2, List.mem_singleton] at e; exact .inr e
          · rw [a3, hm1.2.1] at e; cases e
      have HWA := Lib.hid hwA; have HV6 := Lib.hid hv6; have HFIN := Lib.hid hfin; have HL := Lib.hid hL; have HPA := Lib.hid hA
      have HNX := Lib.hid (show p.c.next ≤ 1000 ∧ p.c.rows.length ≤ 1000 from by have := hv.next; unfold Ct.next at this ⊢; omega)
      have y2 : wA.cell? ⟨w.heap.size, 2, none⟩ = some (.int .i64 st) := (HZ.out _ hfwA).2.2.1
      clear hv hcl hb0 hx hwA hfA hbA hxA hlt hSl hFA hA hloA hfwA hm1 hv4 hb4 hp4 hv5 hb5 hm5 hp5 hv6 hb6 hm6 hp6 hfin hfw hL
      go_upto_region 5 with fail
      go_cut [17] from 9 to 17 (fun v W => v = .bool false ∧ wr = W)
      case first =>
        go_wp2_with fail
        all_goals
          go_meet
          case rel => exact ⟨by first | rfl | (rw [decide_eq_false (by omega)]), rfl⟩
      case rest =>
        obtain ⟨rfl, rfl⟩ := hcut
        clear z0 z1 z2 z3
        go_upto_region 10 with fail
        rw [← HWA.out]
        clear c3 c4
        go_wp2_with fail
        refine K4.out.mono ?_
        rintro e wB ⟨rfl, hpB⟩
        have y1 : wB.cell? ⟨w.heap.size, 1, none⟩ = some (.slice x.A x.m x.c) := (HZ.out _ (HNA.out _ _ hpB).1).2.1
        have K5B := Lib.hid (K5.out _ hpB)
        clear hpB y2 K4 K5
        go_wp2_with fail
        refine K5B.out.mono ?_
        rintro e wC ⟨rfl, hpC⟩
        have y3 : wC.cell? ⟨w.heap.size, 3, none⟩ = some (.slice CA cn cc) := (HZ.out _ (HNA.out _ _ hpC).1).2.2.2
        have K6C := Lib.hid (K6.out _ hpC)
        clear hpC y1 K5B K6
        go_wp2_with fail
        refine K6C.out.mono ?_
        rintro e wD ⟨rfl, hpD⟩
        obtain ⟨hfD, n0, n1, hcmD⟩ := HNA.out _ _ hpD
        have n2 := (HZ.out _ hfD).2.1
        obtain ⟨bl6, vA6, vc6, hpt⟩ := hpD.pt
        have b1 := hpt.cells.2.1
        have HE := Lib.hid (show ∀ W, Fresh wD W → Fresh wD W ∧ W.cell? ⟨bp, 1, none⟩ = some (.pointer (some ⟨bl6, 0, none⟩)) ∧ W.cell? ⟨wr.heap.size, 0, none⟩ = some (.int .i64 (p.c.first : Int)) ∧ W.cell? ⟨wr.heap.size, 1, none⟩ = some (.slice vA L vc) ∧ W.cell? ⟨w.heap.size, 1, none⟩ = some (.slice x.A x.m x.c) from fun W hW => ⟨hW, (hpt.fresh hW).cells.2.1, hW.cell n0 id, hW.cell n1 id, hW.cell n2 id⟩)
        have HFD := Lib.hid hfD
        have KT := Lib.hid (show ∀ W, Fresh wD W → Calls Tryz.prog 13 #[.pointer (some ⟨bl6, 0, none⟩), .agg #[.int .i64 (p.c.first : Int), .slice vA L vc]] W fun e w' => Fresh W w' ∧ e = .returned (.bool (telB p6.c p.c)) from fun W hW => (hpt.fresh hW).telc HV6.out (by omega) (hcmD.fresh hW) (by have := HNX.out; omega))
        have KW := Lib.hid (show ∀ W, Fresh wD W → Calls Tryz.prog 22 #[.agg #[.int .i64 (p.c.first : Int), .slice vA L vc], .slice x.A (min x.m 200) x.c] W fun e w' => ∃ v', e = .returned (.agg #[.int .i64 (p.c.first : Int), v']) ∧ Fresh wD w' ∧ CMx w' v' (p.c.add (x.xs.take (min x.m 200))).rows from fun W hW => (cmx_with (first := p.c.first) (hcmD.fresh hW) (by have := HNX.out.2; omega) ((HXB.out W (hfD.trans hW fun _ _ => id)).take (by omega)) (by omega)).mono fun e w' ⟨q1, v', q2, q3⟩ => ⟨v', q2, hW.trans q1 fun _ _ => id, q3⟩)
        have KC := Lib.hid (show ∀ W, Fresh wD W → Calls Tryz.prog 20 #[.slice x.A x.m x.c] W fun e w' => w' = W ∧ e = .returned (.slice x.A (min x.m 200) x.c) from fun W hW => (clipx_any x.A x.m x.c x.xs W (HXB.out W (hfD.trans hW fun _ _ => id))).mono fun e w' ⟨q1, q2, _⟩ => ⟨q1, q2⟩)
        have KT2 := Lib.hid (show ∀ W v', Fresh wD W → CMx W v' (p.c.add (x.xs.take (min x.m 200))).rows → Calls Tryz.prog 13 #[.pointer (some ⟨bl6, 0, none⟩), .agg #[.int .i64 (p.c.first : Int), v']] W fun e w' => Fresh wD w' ∧ e = .returned (.bool (telB p6.c (p.c.add (x.xs.take (min x.m 200))))) from fun W v' hW hc => ((hpt.fresh hW).telc (c2 := p.c.add (x.xs.take (min x.m 200))) HV6.out (by omega) hc (by have := HNX.out.1; rw [Ct.next_add]; omega)).mono fun e w' ⟨q1, q2⟩ => ⟨hW.trans q1 fun _ _ => id, q2⟩)
        have h0 := HE.out wD (Touch.refl _ _)
        clear hpD hfD n0 n1 n2 hcmD hpt b1 y3 K6C
        go_upto_region 13 with fail
        by_cases hcc : p6.c = p.c
        · have HT := Lib.hid (show telB p6.c p.c = true by rw [hcc, telB_self])
          rw [HT.out] at KT
          clear hcc KT2 KW KC h0
          have q1 := fun p : FrOf wD => (HE.out p.W p.h).2.1
          have q2 := fun p : FrOf wD => (HE.out p.W p.h).2.2.1
          have q3 := fun p : FrOf wD => (HE.out p.W p.h).2.2.2.1
          refine wp_region_fresh (by kernel_rfl) (by kernel_rfl) ?_
          repeat (go_big_quiet_step (first
            | (go_at_call 13; exact Calls.fr_of ((KT.out _ (FrOf.h _)).mono fun e w' q => ⟨q.2, q.1⟩))
            | (go_at_call 16; exact Calls.fr_of (wakesL_any _))))
          refine wpQuiet_nil ?_
          intro _ hw'
          obtain ⟨⟨w9, hf9⟩, hw''⟩ := hw'
          subst hw''
          have HF9 := Lib.hid hf9
          go_wp2_with fail
          go_ret
          exact ⟨rfl, HF0.out.trans (HFD.out.trans HF9.out fun _ _ => id) fun _ _ => id⟩
        · have HT := Lib.hid (show telB p6.c p.c = false from telB_not hcc)
          rw [HT.out] at KT
          have HT2 := Lib.hid (show telB p6.c (p.c.add (x.xs.take (min x.m 200))) = true from by rw [HFIN.out.resolve_left hcc, telB_self])
          rw [HT2.out] at KT2
          clear hcc
          go_region_held3 (fun W => Fresh wD W ∧ W.cell? ⟨bp, 1, none⟩ = some (.pointer (some ⟨bl6, 0, none⟩)) ∧ W.cell? ⟨wr.heap.size, 0, none⟩ = some (.int .i64 (p.c.first : Int)) ∧ W.cell? ⟨wr.heap.size, 1, none⟩ = some (.slice vA L vc) ∧ W.cell? ⟨w.heap.size, 1, none⟩ = some (.slice x.A x.m x.c))
            (first | assumption | exact HE.out _ ((Touch.refl _ wD).drew) | exact HE.out _ (Touch.refl _ wD))
            (first
              | (go_at_call 20; refine (KC.out _ (And.left (by assumption))).mono ?_; rintro e w7 ⟨rfl, rfl⟩)
              | (go_at_call 22; refine (KW.out _ (And.left (by assumption))).mono ?_; rintro e w8 ⟨v', rfl, hf8, hc8⟩; have k8 := HE.out _ hf8; have KT3 := Lib.hid (KT2.out _ v' hf8 hc8); clear hf8 hc8)
              | (go_at_call 13; refine (KT.out _ (And.left (by assumption))).mono ?_; rintro e w5 ⟨hf5, rfl⟩; have k5 := HE.out _ (Touch.trans (And.left (by assumption : Fresh wD _ ∧ _)) hf5 fun _ _ => id); clear KT)
              | (go_at_call 13; refine KT3.out.mono ?_; rintro e w9 ⟨hf9, rfl⟩; have k9 := HE.out _ hf9; clear KT3)
              | (go_at_call 16; refine (wakesL_any _).mono ?_; rintro e w6 ⟨rfl, hf6⟩; have HF6 := Lib.hid (Touch.trans (And.left k9) hf6 fun _ _ => id); have k6 := HE.out _ HF6.out; clear hf6))
          all_goals
            go_wp2_with fail
            go_ret
            exact ⟨rfl, HF0.out.trans (HFD.out.trans HF6.out fun _ _ => id) fun _ _ => id⟩
end Go.Proofs.YtlcmnihpfpmajaaGreat
