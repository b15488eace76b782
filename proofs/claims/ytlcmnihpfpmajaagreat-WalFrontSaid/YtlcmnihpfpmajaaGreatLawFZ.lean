/- The law WalFront, walked. Conditions stand with it. -/
import Derived.Test.YtlcmnihpfpmajaaGreatPgkZ
import Derived.Deep.RegionHeld3
import Derived.Deep.RegionLaw
import Derived.Deep.CutRange
namespace Go.Proofs.YtlcmnihpfpmajaaGreat
open Go.RowKit
theorem two_bytes (W : World) (k : Nat) (h : k < 256) : Bs (W.alloc (.cells #[.int .u8 (k : Int), .int .u8 (k : Int)] 5)) (some ⟨W.heap.size, 0, none⟩) 2 2 [UInt8.ofNat k, UInt8.ofNat k] := by
  have e : (u8s [UInt8.ofNat k, UInt8.ofNat k]).toArray = #[Value.int .u8 (k : Int), Value.int .u8 (k : Int)] := by
    simp [u8s, Nat.mod_eq_of_lt h]
  have := bytes_marked W [UInt8.ofNat k, UInt8.ofNat k] (u8s [UInt8.ofNat k, UInt8.ofNat k]).toArray (0, 0) rfl (by simp)
  rw [e] at this
  exact this
/-- a record, a cut: one round of the law's loop -/
theorem front_round {p : PS} {i T : Nat} (h : PInv p i T) (hi : i ≤ 140) (hT : T ≤ 800000) (hc : Calm p) {b : List UInt8} (hb : b.length ≤ 200) (N : Int) (hN : (N : Int) ≤ p.c.next + 1) :
    (appendP p.d p.l b).2.2.2 = 0 ∧ (appendP p.d p.l b).2.2.1 = p.c.next ∧ (cutP (p.app b).d (p.app b).l N).2.2 = 0 ∧ (p.app b) = { p with d := (appendP p.d p.l b).1, l := (appendP p.d p.l b).2.1, c := p.c.add b } ∧ PInv (p.app b) (i + 1) (T + b.length + 25) ∧ PInv ((p.app b).cutS N) (i + 2) (T + b.length + 25) ∧ Calm ((p.app b).cutS N) ∧
      (p.app b).cutS N = { p.app b with d := (cutP (p.app b).d (p.app b).l N).1, l := (cutP (p.app b).d (p.app b).l N).2.1, c := (p.app b).c.cut (min N (p.app b).c.next).toNat } ∧ ((p.app b).cutS N).c.next = p.c.next + 1 ∧ ((p.app b).cutS N).l.base = p.l.base ∧ (p.app b).l.base = p.l.base := by
  obtain ⟨a1, a2, a3, a4, a5, a6⟩ := h.app_calm (b := b) (by omega) (by omega) (by omega) hc
  have hn := h.next
  have hnx : (p.app b).c.next = p.c.next + 1 := by rw [a5]; exact Ct.next_add _ _
  obtain ⟨b1, b2, b3, b4, b5⟩ := a3.cut_calm (by omega) (by omega) N a4
  refine ⟨a1, a2, b1, a5, a3, b2, b3, b4, ?_, b5.trans a6, a6⟩
  rw [b4]
  show ((p.app b).c.cut _).next = _
  rw [← hnx]
  refine Ct.next_cut ?_
  omega
set_option maxRecDepth 200000 in
set_option maxHeartbeats 16000000 in
theorem law_front (w : World) (KA : Option Addr) (kn kc : Nat) (ks : List Int) (hk : IsInts w KA kn kc ks) (hkw : ∀ x ∈ ks, -9223372036854775808 ≤ x ∧ x ≤ 9223372036854775807) (XA : Option Addr) (xn xc : Nat) (bs : List Bool) (hx : BoolsAt w XA xn xc bs)
    (CA : Option Addr) (cn cc : Nat) (cuts : List Int) (hz : IsInts w CA cn cc cuts) (hzw : ∀ x ∈ cuts, -9223372036854775808 ≤ x ∧ x ≤ 9223372036854775807) (hzB : ∀ a, CA = some a → 0 < cn → a.block < w.heap.size) :
    Calls Tryz.prog 9 #[.slice KA kn kc, .slice XA xn xc, .slice CA cn cc] w fun e w' => e = .returned (.bool true) ∧ Fresh w w' := by
  have hnc := hk.2.1
  have hcm := hk.2.2.1
  have hxc := hx.vs.2.1
  have hxm := hx.vs.2.2.1
  unfold maxLen at hcm hxm
  have KB := Lib.hid (show Calls Tryz.prog 11 #[.int .i64 4] w (BgnEnd w 4) from begunL_any w (n := 4) (by omega))
  have HC := Lib.hid (show ∀ W, Fresh w W → OpAt w.heap.size W (opC CA cn cc cuts) from fun W hW => opC_at (hz.touch2 hW fun _ _ _ => id) hzB hzw)
  have HK := Lib.hid hk; have HKW := Lib.hid hkw; have HX := Lib.hid hx
  clear hk hkw hx hz hzw hzB
  go_enter Tryz.func9, Tryz.ntmps9
  go_wp2_with fail
  refine KB.out.mono ?_
  rintro e w1 ⟨bp, bd, F, S, rfl, hf1, hpg, hnew⟩
  have HPG := Lib.hid hpg; have HF1 := Lib.hid hf1; have HNEW := Lib.hid hnew
  have HLO := Lib.hid (show LoF w.heap.size w1 F S from ⟨hf1.size, hnew⟩)
  clear hpg hf1 hnew KB
  go_wp2_with fail
  go_loopw [8] (fun i W => ∃ (k : Nat) (p : PS), k ≤ kn ∧ k ≤ 40 ∧ i = .int .i64 (k : Int) ∧ PG w1 W bp bd F S p 4 ∧ PInv p (3 * k + 1) (k * 300) ∧ Calm p ∧ p.c.next = k ∧ p.l.base = 4 * 1048576) (fun i _ => kn - (intOf i).toNat)
  case atStart => exact ⟨0, PS.new (4 * 1048576), Nat.zero_le _, Nat.zero_le _, rfl, HPG.out, PInv.new _, Calm.new _, rfl, by show (openP [] (4 * 1048576)).base = _; rw [open_nil]⟩
  case round =>
    obtain ⟨k, p, hk, hk2, rfl, hpg, hv, hcl, hpn, hb0⟩ := hrel
    have hfw := hpg.new_ HF1.out HNEW.out
    have HFW := Lib.hid hfw
    obtain ⟨bl, vA, vc, hpt⟩ := hpg.pt
    have HV := Lib.hid hv; have HB0 := Lib.hid hb0; have HCL := Lib.hid hcl; have HPN := Lib.hid hpn
    obtain ⟨_, b1, b3, b4⟩ := hpt.cells
    by_cases hlt : k < kn ∧ k < 40
    · obtain ⟨hl1, hl2⟩ := hlt
      obtain ⟨kb, koff, z, rfl, hzm, k0w⟩ := ints_rd HK.out hl1 (Touch.refl _ w)
      have K0W := Lib.hid k0w
      clear k0w
      have HZM := Lib.hid (HKW.out z hzm)
      have hkd : decide ((k : Int) < (kn : Int)) = true := decide_eq_true (by omega)
      have hkd2 : decide ((k : Int) < 40) = true := decide_eq_true (by omega)
      have hwk : IntKind.i64.wrap ((k : Int) + 1) = (k : Int) + 1 := IntWalk.i64_in _ (by omega)
      have hwu : IntKind.u8.wrap (k : Int) = (k : Int) := by simp [IntKind.wrap, IntKind.bits, IntKind.signed]; omega
      have hne : ((k : Int) != (k : Int)) = false := by simp
      have h60 := Int.emod_nonneg z (show (6 : Int) ≠ 0 by omega)
      have h61 := Int.emod_lt_of_pos z (show (0 : Int) < 6 by omega)
      obtain ⟨m, hm⟩ : ∃ m : Nat, z % 6 = (m : Int) := ⟨(z % 6).toNat, by omega⟩
      have hmb : m < 6 := by omega
      have hwb : IntKind.i64.wrap ((k : Int) + 1 - (m : Int)) = (k : Int) + 1 - (m : Int) := IntWalk.i64_in _ (by omega)
      have KWI := Lib.hid (show ∀ W, Calls Tryz.prog 26 #[.int .i64 z, .int .i64 6] W fun e w' => W = w' ∧ e = .returned (.int .i64 (m : Int)) from fun W => by have := within_any z 6 W (by omega) (by omega); rw [hm] at this; exact this)
      obtain ⟨bb, hbb⟩ : ∃ bb : List UInt8, bb = [UInt8.ofNat k, UInt8.ofNat k] := ⟨_, rfl⟩
      obtain ⟨r1, r2, r3, r4, r5, r6, r7, r8, r9, r10, r11⟩ := front_round hv (by omega) (by omega) hcl (b := bb) (by rw [hbb]; simp) ((k : Int) + 1 - (m : Int)) (by omega)
      have hbl2 : bb.length = 2 := by rw [hbb]; rfl
      obtain ⟨w2, hw2⟩ : ∃ w2, w2 = wr.alloc (.cells #[.int .u8 (k : Int), .int .u8 (k : Int)] 5) := ⟨_, rfl⟩
      have hf2 : Fresh wr w2 := by rw [hw2]; exact (Touch.refl (fun _ => False) wr).alloc _
      have KA := Lib.hid (append_pt (W2 := w2) (A := some ⟨wr.heap.size, 0, none⟩) (m := 2) (c := 2) (x := bb) hpt HLO.out hv (by omega) (by rw [hb0]; omega) hf2 (by rw [hw2, hbb]; exact two_bytes wr k (by omega)) (fun a ha _ => by
        injection ha with ha
        subst ha
        exact ⟨.inl (Nat.le_refl _), by rw [hw2, alloc_size]; exact Nat.lt_succ_self _⟩) (by omega))
      rw [r1, r2, hpn] at KA
      have HBB := Lib.hid hbb; have HW2 := Lib.hid hw2; have R3 := Lib.hid r3; have R4 := Lib.hid r4; have R5 := Lib.hid r5; have R6 := Lib.hid r6; have R7 := Lib.hid r7; have R8 := Lib.hid r8; have R9 := Lib.hid r9; have R10 := Lib.hid r10; have R11 := Lib.hid r11
      have HPL := Lib.hid (show p.c.rows.length ≤ 1000 from by unfold Ct.next at hpn; omega)
      have HBL2 := Lib.hid hbl2
      clear hpg hv hb0 hcl hpn hpt hfw hzm hm h60 h61 hbb r1 r2 r3 r4 r5 r6 r7 r8 r9 r10 r11 hbl2 hw2 hf2
      go_wp2_with fail
      rw [← HW2.out]
      refine KA.out.mono ?_
      rintro e w4 ⟨rfl, hpt4, _⟩
      obtain ⟨_, y1, y3, y4⟩ := hpt4.cells
      dsimp only at y3 y4
      obtain ⟨w5, hw5⟩ : ∃ w5, w5 = w4.alloc (.cells #[.int .u8 (k : Int), .int .u8 (k : Int)] 5) := ⟨_, rfl⟩
      have hf5 : Fresh w4 w5 := by rw [hw5]; exact (Touch.refl (fun _ => False) w4).alloc _
      have KWT := Lib.hid (with_pt (hpt4.fresh hf5) (by have := HPL.out; dsimp only; omega) (A := some ⟨w4.heap.size, 0, none⟩) (m := 2) (c := 2) (x := bb) (by rw [hw5, HBB.out]; exact two_bytes w4 k (by omega)) (by omega))
      have HPT4 := Lib.hid (hpt4.fresh hf5); have HW5 := Lib.hid hw5
      dsimp only at KWT
      obtain ⟨p1, hp1⟩ : ∃ p1, p1 = p.app bb := ⟨_, rfl⟩
      rw [← hp1] at R3 R4 R5 R6 R7 R8 R9 R10 R11
      have hc1 : p.c.add bb = p1.c := by rw [R4.out]
      rw [hc1] at KWT
      have HC1 := Lib.hid hc1
      clear hpt4 hf5 hw5 KA b1 b3 b4 hp1 hc1
      go_wp2_with fail
      rw [← HW5.out]
      refine KWT.out.mono ?_
      rintro e w6 ⟨hf6, xA, xc, rfl, hpt6⟩
      have hpt6' := HPT4.out.fresh hf6
      obtain ⟨_, z1, z3, z4⟩ := hpt6'.cells
      obtain ⟨f3, f4⟩ := hpt6'.frozen
      dsimp only at z3 z4
      obtain ⟨w7, hw7⟩ : ∃ w7, w7 = (w6.setCell ⟨bp, 3, none⟩ (.int .i64 (p.c.first : Int))).setCell ⟨bp, 4, none⟩ (.slice xA p1.c.rows.length xc) := ⟨_, rfl⟩
      rw [← hw7] at hpt6
      have hpt7 : PT w1 w7 bp bd F S p1 4 bl xA xc := by
        rw [R4.out]
        rw [← HC1.out] at hpt6
        exact hpt6
      have hfw7 := hpt7.pg.new_ HF1.out HNEW.out
      have k7 : w7.cell? ⟨kb, koff + k, none⟩ = some (.int .i64 z) := hfw7.cell K0W.out id
      have b71 := hpt7.cells.2.1
      have KCT := Lib.hid (cut_pt hpt7 R5.out (by omega) (by have := HBL2.out; omega) (by rw [R11.out, HB0.out]; omega) ((k : Int) + 1 - (m : Int)))
      rw [R3.out] at KCT
      have HW7 := Lib.hid hw7
      clear hf6 hpt6 hpt6' hw7 hpt7 hfw7 y1 y3 y4 KWT
      go_upto_region 11 with fail
      rw [← HW7.out]
      clear z1 z3 z4 f3 f4
      go_wp2_with fail
      refine (KWI.out _).mono ?_
      rintro e w7' ⟨rfl, rfl⟩
      go_wp2_with fail
      refine KCT.out.mono ?_
      rintro e w8 ⟨rfl, hpt8⟩
      obtain ⟨_, y1, y3, y4⟩ := hpt8.cells
      dsimp only at y3 y4
      obtain ⟨p2, hp2⟩ : ∃ p2, p2 = p1.cutS ((k : Int) + 1 - (m : Int)) := ⟨_, rfl⟩
      rw [← hp2] at R6 R7 R8 R9 R10
      have KCC := Lib.hid (ccut_pt hpt8 (by have := R5.out.next; dsimp only; omega) ((k : Int) + 1 - (m : Int)) (c2 := p2.c) (by rw [R8.out]))
      have HPT8 := Lib.hid hpt8
      dsimp only at KCC
      clear hpt8 hp2 k7 b71 KCT
      go_wp2_with fail
      refine KCC.out.mono ?_
      rintro e w9 ⟨hf9, yA, yc, rfl, _, hpt9⟩
      have hpt9' := HPT8.out.fresh hf9
      obtain ⟨_, z1, z3, z4⟩ := hpt9'.cells
      obtain ⟨f3, f4⟩ := hpt9'.frozen
      dsimp only at z3 z4
      obtain ⟨wX, hwX⟩ : ∃ wX, wX = (w9.setCell ⟨bp, 3, none⟩ (.int .i64 (p2.c.first : Int))).setCell ⟨bp, 4, none⟩ (.slice yA p2.c.rows.length yc) := ⟨_, rfl⟩
      rw [← hwX] at hpt9
      have hptX : PT w1 wX bp bd F S p2 4 bl yA yc := by
        have e : p2 = { p1 with d := (cutP p1.d p1.l ((k : Int) + 1 - (m : Int))).1, l := (cutP p1.d p1.l ((k : Int) + 1 - (m : Int))).2.1, c := p2.c } := by
          have := R8.out
          have e2 : (p1.c.cut (min ((k : Int) + 1 - (m : Int)) (p1.c.next : Int)).toNat) = p2.c := by rw [this]
          rw [e2] at this
          exact this
        rw [e]
        exact hpt9
      have HPX := Lib.hid hptX.pg
      have HFX := Lib.hid (hptX.pg.new_ HF1.out HNEW.out)
      have HWX := Lib.hid hwX
      clear hf9 hpt9 hpt9' hwX hptX y1 y3 y4 KCC
      go_upto_region 15 with fail
      rw [← HWX.out]
      clear z1 z3 z4 f3 f4
      go_cut [98] from 82 to 98 (fun v W => v = .bool false ∧ ∃ p3, PG w1 W bp bd F S p3 4 ∧ PInv p3 (3 * (k + 1) + 1) ((k + 1) * 300) ∧ Calm p3 ∧ p3.c.next = k + 1 ∧ p3.l.base = 4 * 1048576)
      case first =>
        by_cases hlx : k < xn
        · obtain ⟨xb, xoff, bo, rfl, x0⟩ := HX.out.rd hlx HFX.out
          have hxd : decide ((k : Int) < (xn : Int)) = true := decide_eq_true (by omega)
          cases bo with
          | false =>
            go_wp2_with fail
            go_meet
            case rel => exact ⟨rfl, p2, HPX.out, R6.out.mono (by omega) (by have := HBL2.out; omega), R7.out, by rw [R9.out, HPN.out], by rw [R10.out, HB0.out]⟩
          | true =>
            have KD := Lib.hid (show Calls Tryz.prog 12 #[.pointer (some ⟨bp, 0, none⟩), .agg #[.int .i64 5, .int .i64 0, .int .i64 0, .slice none 0 0, .slice CA cn cc]] wX fun e w' => e = .returned (.bool true) ∧ PG w1 w' bp bd F S (p2.crashS cuts) 4 from by
              have := does_pg (n := 4) HPX.out HLO.out R6.out (by omega) (by have := HBL2.out; omega) (by omega) (by rw [R10.out, HB0.out]) (HC.out wX HFX.out)
              rw [doS_C] at this
              exact this)
            go_wp2_with fail
            refine KD.out.mono ?_
            rintro e w11 ⟨rfl, hpg11⟩
            have HPG11 := Lib.hid hpg11
            clear hpg11 KD
            go_wp2_with fail
            go_meet
            case rel =>
              obtain ⟨q1, q2⟩ := R6.out.doS (by omega) (by have := HBL2.out; omega) (opC CA cn cc cuts)
              rw [doS_C] at q1 q2
              refine ⟨rfl, _, HPG11.out, q1.mono (by omega) (by have := HBL2.out; omega), ⟨rfl, rfl, rfl, rfl⟩, ?_, by rw [q2, R10.out, HB0.out]⟩
              have h1 := crash_may R6.out (by omega) cuts
              have h2 := R7.out
              rw [← HPN.out, ← R9.out]
              rcases h1 with e | e | ⟨j, e, _⟩
              · rw [e]
              · rw [h2.2.2.1] at e; cases e
              · rw [h2.2.2.2] at e; cases e
        · have hxd : decide ((k : Int) < (xn : Int)) = false := decide_eq_false (by omega)
          go_wp2_with fail
          go_meet
          case rel => exact ⟨rfl, p2, HPX.out, R6.out.mono (by omega) (by have := HBL2.out; omega), R7.out, by rw [R9.out, HPN.out], by rw [R10.out, HB0.out]⟩
      case rest =>
        obtain ⟨rfl, p3, hpg3, hv3, hc3, hn3, hb3⟩ := hcut
        obtain ⟨bl3, vA3, vc3, hpt3⟩ := hpg3.pt
        obtain ⟨_, y1, y3, y4⟩ := hpt3.cells
        have KT := Lib.hid (show ∀ W, Fresh wc W → Calls Tryz.prog 13 #[.pointer (some ⟨bl3, 0, none⟩), .agg #[.int .i64 (p3.c.first : Int), .slice vA3 p3.c.rows.length vc3]] W fun e w' => Fresh wc w' ∧ e = .returned (.bool true) from fun W hW => ((hpt3.fresh hW).tells hv3 (by omega)).mono fun e w' q => ⟨hW.trans q.1 fun _ _ => id, q.2⟩)
        have HP3 := Lib.hid hpg3; have HV3 := Lib.hid hv3; have HC3 := Lib.hid hc3; have HN3 := Lib.hid hn3; have HB3 := Lib.hid hb3
        clear hpg3 hv3 hc3 hn3 hb3 hpt3
        go_upto_region 17 with fail
        go_region_held3 (fun W => W.cell? ⟨bp, 1, none⟩ = some (.pointer (some ⟨bl3, 0, none⟩)) ∧ W.cell? ⟨bp, 3, none⟩ = some (.int .i64 (p3.c.first : Int)) ∧ W.cell? ⟨bp, 4, none⟩ = some (.slice vA3 p3.c.rows.length vc3))
          (first | assumption | exact ⟨y1, y3, y4⟩)
          (first
            | (go_at_call 13; refine (KT.out _ (by first | exact (Touch.refl _ wc).drew | exact Touch.refl _ wc)).mono ?_; rintro e w12 ⟨hf12, rfl⟩; have HF12 := Lib.hid hf12; have y1 := hf12.cell y1 id; have y3 := hf12.cell y3 id; have y4 := hf12.cell y4 id; clear hf12))
        all_goals
          go_wp2_with fail
          go_roundw
          case rel => exact ⟨k + 1, p3, by omega, by omega, by go_num, HP3.out.fresh HF12.out, HV3.out, HC3.out, HN3.out, HB3.out⟩
          case measure => simp [intOf] <;> omega
    · obtain ⟨q1, _, _⟩ := hv.openS (by omega) hcl.2.2.1 hcl.2.2.2
      have KO := Lib.hid (show ∀ W, Fresh wr W → Calls Tryz.prog 15 #[.pointer (some ⟨bp, 0, none⟩), .bool false] W fun e w' => e = .returned (.bool true) ∧ PG w1 w' bp bd F S p.openS 4 from fun W hW => openF_pg (hpg.fresh hW) hv (by omega) (by omega) hb0 hcl.2.2.1 hcl.2.2.2)
      have HV2 := Lib.hid q1
      obtain ⟨p2, hp2⟩ : ∃ p2, p2 = p.openS := ⟨_, rfl⟩
      rw [← hp2] at KO HV2
      clear hpg hv hcl hpn hb0 hpt hfw b1 b3 b4 q1 hp2
      go_upto_region 5 with fail
      go_cut [22] from 15 to 22 (fun v W => v = .bool false ∧ wr = W)
      case first =>
        go_wp2_with fail
        all_goals
          go_meet
          case rel => exact ⟨by first | rfl | (rw [decide_eq_false (by omega)]), rfl⟩
      case rest =>
        obtain ⟨rfl, rfl⟩ := hcut
        go_upto_region 19 with fail
        go_region_law (first
          | (go_simp; go_at_call 15; refine (KO.out _ (by first | exact (Touch.refl _ wr).drew | exact Touch.refl _ wr)).mono ?_; rintro e w3 ⟨rfl, hpg3⟩; obtain ⟨bl2, vA2, vc2, hpt2⟩ := hpg3.pt; obtain ⟨_, y1, y3, y4⟩ := hpt2.cells; have HF3 := Lib.hid (hpg3.new_ HF1.out HNEW.out); have KT := Lib.hid (show ∀ W, Fresh w3 W → Calls Tryz.prog 13 #[.pointer (some ⟨bl2, 0, none⟩), .agg #[.int .i64 (p2.c.first : Int), .slice vA2 p2.c.rows.length vc2]] W fun e w' => Fresh w3 w' ∧ e = .returned (.bool true) from fun W hW => ((hpt2.fresh hW).tells HV2.out (by omega)).mono fun e w' q => ⟨hW.trans q.1 fun _ _ => id, q.2⟩); clear hpt2 hpg3)
          | (go_simp; go_at_call 13; refine (KT.out _ (by first | exact (Touch.refl _ w3).drew | exact Touch.refl _ w3)).mono ?_; rintro e w4 ⟨hf4, rfl⟩; have HF4 := Lib.hid (HF3.out.trans hf4 fun _ _ => id); clear hf4)
          | (go_simp; go_at_call 16; refine (wakesL_any _).mono ?_; rintro e w5 ⟨rfl, hf5⟩; have HF5 := Lib.hid (HF4.out.trans (by first | exact hf5 | exact (Touch.refl _ w4).drew.trans hf5 fun _ _ => id) fun _ _ => id); clear hf5))
        all_goals
          go_wp2_with fail
          go_ret
          exact ⟨rfl, HF5.out⟩
end Go.Proofs.YtlcmnihpfpmajaaGreat
