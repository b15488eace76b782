/- The law WalResumes, walked. Conditions stand with it. -/
import Derived.Test.YtlcmnihpfpmajaaGreatSlaZ
import Derived.Test.YtlcmnihpfpmajaaGreatQfZ
import Derived.Deep.RegionHeld3
import Derived.Deep.RegionLaw
import Derived.Deep.CutRange
namespace Go.Proofs.YtlcmnihpfpmajaaGreat
open Go.RowKit
theorem byte_one (W : World) (k : Nat) (h : k < 256) : Bs (W.alloc (.cells #[.int .u8 (k : Int)] 5)) (some ⟨W.heap.size, 0, none⟩) 1 1 [UInt8.ofNat k] := by
  have e : (u8s [UInt8.ofNat k]).toArray = #[Value.int .u8 (k : Int)] := by
    simp [u8s, Nat.mod_eq_of_lt h]
  have := bytes_marked W [UInt8.ofNat k] (u8s [UInt8.ofNat k]).toArray (0, 0) rfl (by simp)
  rw [e] at this
  exact this
theorem crash_calm (p : PS) (cuts : List Int) : (p.crashS cuts).stop = -1 ∧ (p.crashS cuts).struck = [] := ⟨rfl, rfl⟩
set_option maxRecDepth 200000 in
set_option maxHeartbeats 16000000 in
theorem law_resumes (w : World) (A : Option Addr) (n c : Nat) (ops : List OpD) (h : OpsAt w A n c ops) (cr : Bool) (MA : Option Addr) (mn mc : Nat) (more_ : List BsD) (hm : BssAt w MA mn mc more_) :
    Calls Tryz.prog 4 #[.slice A n c, .bool cr, .slice MA mn mc] w fun e w' => e = .returned (.bool true) ∧ Fresh w w' := by
  have hnc := h.vs.2.1
  have hcm := h.vs.2.2.1
  have hmc := hm.vs.2.1
  have hmm := hm.vs.2.2.1
  unfold maxLen at hcm hmm
  have KB := Lib.hid (show Calls Tryz.prog 11 #[.int .i64 3] w (BgnEnd w 3) from begunL_any w (n := 3) (by omega))
  have H := Lib.hid h; have HM := Lib.hid hm
  clear h hm
  go_enter Tryz.func4, Tryz.ntmps4
  go_wp2_with fail
  refine KB.out.mono ?_
  rintro e w1 ⟨bp, bd, F, S, rfl, hf1, hpg, hnew⟩
  have HPG := Lib.hid hpg; have HF1 := Lib.hid hf1; have HNEW := Lib.hid hnew
  have HLO := Lib.hid (show LoF w.heap.size w1 F S from ⟨hf1.size, hnew⟩)
  clear hpg hf1 hnew KB
  go_wp2_with fail
  go_loopw [8] (fun i W => ∃ (k : Nat) (p : PS), k ≤ n ∧ k ≤ 60 ∧ i = .int .i64 (k : Int) ∧ PG w1 W bp bd F S p 3 ∧ PInv p (k + 1) (k * 225) ∧ p.l.base = 3 * 1048576) (fun i _ => n - (intOf i).toNat)
  case atStart => exact ⟨0, PS.new (3 * 1048576), Nat.zero_le _, Nat.zero_le _, rfl, HPG.out, PInv.new _, by show (openP [] (3 * 1048576)).base = _; rw [open_nil]⟩
  case round =>
    obtain ⟨k, p, hk, hk2, rfl, hpg, hv, hb0⟩ := hrel
    have HV := Lib.hid hv; have HB0 := Lib.hid hb0; have HPG1 := Lib.hid hpg
    have HFW := Lib.hid (hpg.new_ HF1.out HNEW.out)
    by_cases hlt : k < n ∧ k < 60
    · obtain ⟨hl1, hl2⟩ := hlt
      obtain ⟨b, off, o, rfl, ho⟩ := H.out.spot hl1
      obtain ⟨hop, k0, k1, k2, k3, k4⟩ := H.out.rd ho HFW.out
      have hkd : decide ((k : Int) < (n : Int)) = true := decide_eq_true (by omega)
      have hkd2 : decide ((k : Int) < 60) = true := decide_eq_true (by omega)
      have hwk : IntKind.i64.wrap ((k : Int) + 1) = (k : Int) + 1 := IntWalk.i64_in _ (by omega)
      have KD := Lib.hid (does_pg (n := 3) hpg HLO.out hv (by omega) (by omega) (by omega) hb0 hop)
      have HV2 := Lib.hid ((hv.doS (by omega) (by omega) o).1.mono (i' := k + 1 + 1) (T' := (k + 1) * 225) (Nat.le_refl _) (by omega))
      have HB2 := Lib.hid ((hv.doS (by omega) (by omega) o).2.trans hb0)
      obtain ⟨p2, hp2⟩ : ∃ p2, p2 = p.doS o := ⟨_, rfl⟩
      rw [← hp2] at KD HV2 HB2
      clear hpg hv hb0 ho hop hp2
      go_wp2_with fail
      refine KD.out.mono ?_
      rintro e w3 ⟨rfl, hpg3⟩
      have HPG3 := Lib.hid hpg3
      clear hpg3 KD k0 k1 k2 k3 k4
      go_wp2_with fail
      go_roundw
      case rel => exact ⟨k + 1, p2, by omega, by omega, by go_num, HPG3.out, HV2.out, HB2.out⟩
      case measure => simp [intOf] <;> omega
    · obtain ⟨bl, vA, vc, hpt⟩ := hpg.pt
      obtain ⟨_, _, _, c8, _⟩ := hpt.struck
      clear hpg hv hb0 hpt
      go_upto_region 5 with fail
      go_cut [24] from 17 to 24 (fun v W => v = .bool false ∧ wr = W)
      case first =>
        go_wp2_with fail
        all_goals
          go_meet
          case rel => exact ⟨by first | rfl | (rw [decide_eq_false (by omega)]), rfl⟩
      case rest =>
        obtain ⟨rfl, rfl⟩ := hcut
        go_upto_region 9 with fail
        go_cut [41] from 34 to 41 (fun v W => ∃ b, v = .bool b ∧ wr = W ∧ ((b = true) ∨ (b = false ∧ p.stop < 0)))
        case first =>
          cases cr with
          | true =>
            go_wp2_with fail
            all_goals
              go_meet
              case rel => exact ⟨_, rfl, rfl, .inl rfl⟩
          | false =>
            by_cases h1 : 0 ≤ p.stop
            · go_wp2_with fail
              all_goals
                go_meet
                case rel => exact ⟨_, rfl, rfl, by simp <;> omega⟩
            · go_wp2_with fail
              all_goals
                go_meet
                case rel => exact ⟨_, rfl, rfl, by simp <;> omega⟩
        case rest =>
        obtain ⟨b, rfl, rfl, hbb⟩ := hcut
        go_upto_if 41 with fail
        go_cut [] from 42 to 46 (fun W => ∃ p, PG w1 W bp bd F S p 3 ∧ PInv p 70 14000 ∧ p.stop < 0 ∧ p.l.base = 3 * 1048576)
        case first =>
          obtain ⟨w2, hw2⟩ : ∃ w2, w2 = wr.alloc (.cells #[.int .i64 1, .int .i64 2, .int .i64 3] 3) := ⟨_, rfl⟩
          have KD := Lib.hid (show Calls Tryz.prog 12 #[.pointer (some ⟨bp, 0, none⟩), .agg #[.int .i64 5, .int .i64 0, .int .i64 0, .slice none 0 0, .slice (some ⟨wr.heap.size, 0, none⟩) 3 3]] w2 fun e w' => e = .returned (.bool true) ∧ PG w1 w' bp bd F S (p.crashS [1, 2, 3]) 3 from by
            obtain ⟨bl1, S1, R1, Q1, l1, sv1, rv1, vs1, cv1, mv1, kv1, tv1, hx⟩ := HPG1.out
            have hf2 : Fresh wr w2 := by rw [hw2]; exact (Touch.refl (fun _ => False) wr).alloc _
            have hSl := hx.pm.ld.dk.below
            have hlt := hx.pm.lt
            have hx2 := hx.fresh hf2
            have hb2 : Blk w2 wr.heap.size 3 #[.int .i64 1, .int .i64 2, .int .i64 3] := by rw [hw2]; exact Blk.new _ _ _
            refine (doesX (Do := 5) (N := 0) (K := 0) (BA := none) (bm := 0) (bc := 0) hx2.pm HV.out (by omega) (by omega) HB0.out (by decide) (cuts := [1, 2, 3]) ⟨rfl, Nat.le_refl _, by simp [maxLen], fun _ => ⟨wr.heap.size, 0, rfl, fun j x hj => ?_⟩⟩ (fun x hx => ?_) (fun a ha _ e => ?_)).mono ?_
            · have hj3 : j < 3 := (List.getElem?_eq_some_iff.1 hj).1
              have : j = 0 ∨ j = 1 ∨ j = 2 := by omega
              rcases this with rfl | rfl | rfl
              · injection hj with hj; subst hj; exact hb2.cell 0
              · injection hj with hj; subst hj; exact hb2.cell 1
              · injection hj with hj; subst hj; exact hb2.cell 2
            · simp at hx
              omega
            · injection ha with ha
              subst ha
              exact Nat.lt_irrefl _ (hSl _ e)
            · rintro e w' ⟨rfl, hpg⟩
              exact ⟨rfl, PG.trans hx2 hpg⟩)
          have HW2 := Lib.hid hw2
          have HCR := Lib.hid (HV.out.doS (by omega) (by omega) (opC none 0 0 [1, 2, 3]))
          rw [doS_C] at HCR
          clear hw2
          rcases hbb with rfl | ⟨rfl, h1⟩
          · clear c8
            go_wp2_with fail
            rw [← HW2.out]
            refine KD.out.mono ?_
            rintro e w3 ⟨rfl, hpg3⟩
            have HPG3 := Lib.hid hpg3
            clear hpg3 KD
            go_wp2_with fail
            go_meet
            case rel => exact ⟨_, HPG3.out, HCR.out.1.mono (by omega) (by omega), by rw [(crash_calm p _).1]; decide, HCR.out.2.trans HB0.out⟩
          · have H1 := Lib.hid h1
            clear KD h1 c8
            go_wp2_with fail
            go_meet
            case rel => exact ⟨p, HPG1.out, HV.out.mono (by omega) (by omega), H1.out, HB0.out⟩
        case rest =>
          obtain ⟨p0, hpg0, hv0, hs0, hb0⟩ := hcut
          obtain ⟨st0, hst0⟩ : ∃ st0, st0 = p0.struck := ⟨_, rfl⟩
          obtain ⟨o0, ho0⟩ : ∃ o0, o0 = p0.d.ops := ⟨_, rfl⟩
          have hlast : lastI st0 ≤ (o0 : Int) + 11 := lastI_le _ (by omega) fun s hs => by rw [hst0] at hs; rw [ho0]; exact (hv0.near s hs).2
          have HP0 := Lib.hid hpg0; have HV0 := Lib.hid hv0; have HS0 := Lib.hid hs0; have HBS0 := Lib.hid hb0; have HST0 := Lib.hid hst0; have HO0 := Lib.hid ho0
          have hst0l : st0.length ≤ 70 := by rw [hst0]; have := hv0.lens; omega
          have ho0b : o0 ≤ 70000 := by rw [ho0]; have := hv0.ops; omega
          obtain ⟨la, hla⟩ : ∃ la, la = lastI st0 := ⟨_, rfl⟩
          rw [← hla] at hlast
          have HLA := Lib.hid hla
          clear hpg0 hv0 hs0 hb0 hst0 ho0 hla
          go_wp2_with fail
          go_loopw [9] (fun i W => ∃ (j : Nat) (p : PS), j ≤ 40 ∧ i = .int .i64 (j : Int) ∧ PG w1 W bp bd F S p 3 ∧ PInv p (70 + j) (14000 + j * 300) ∧ p.stop < 0 ∧ p.l.base = 3 * 1048576 ∧ p.struck = st0 ∧ o0 + j ≤ p.d.ops) (fun i _ => 40 - (intOf i).toNat)
          case atStart => exact ⟨0, p0, Nat.zero_le _, rfl, HP0.out, HV0.out, HS0.out, HBS0.out, HST0.out.symm, by rw [HO0.out]; exact Nat.le_refl _⟩
          case round =>
            obtain ⟨j, p, hj, rfl, hpg, hv, hs, hb, hst, hop⟩ := hrel
            obtain ⟨bl, vA, vc, hpt⟩ := hpg.pt
            have b0 := hpt.cells.1
            obtain ⟨tA, tc, b7, _, how⟩ := hpt.struck
            rw [hst] at b7 how
            obtain ⟨od, hod⟩ : ∃ od, od = p.d.ops := ⟨_, rfl⟩
            have KO := Lib.hid (show ∀ W, Fresh wr W → Calls Tryz.prog 17 #[.pointer (some ⟨bd, 0, none⟩)] W fun e w' => W = w' ∧ e = .returned (.int .i64 (od : Int)) from fun W hW => by rw [hod]; exact (hpt.fresh hW).ops)
            have KL := Lib.hid (show ∀ W, Fresh wr W → Calls Tryz.prog 18 #[.slice tA st0.length tc] W fun e w' => e = .returned (.int .i64 la) ∧ w' = W from fun W hW => by rw [HLA.out]; exact last_any W tA tc st0 (how.touch hW fun _ _ => id) (by omega))
            have HE := Lib.hid (show ∀ W, Fresh wr W → Fresh wr W ∧ W.cell? ⟨bp, 0, none⟩ = some (.pointer (some ⟨bd, 0, none⟩)) ∧ W.cell? ⟨bp, 7, none⟩ = some (.slice tA st0.length tc) from fun W hW => ⟨hW, hW.cell b0 id, hW.cell b7 id⟩)
            have HPGj := Lib.hid hpg; have HVj := Lib.hid hv; have HSj := Lib.hid hs; have HBj := Lib.hid hb; have HSTj := Lib.hid hst; have HOD := Lib.hid hod
            rw [← hod] at hop
            obtain ⟨bv, hbv⟩ : ∃ bv, bv = (decide (j < 40) && decide ((od : Int) ≤ la)) := ⟨_, rfl⟩
            have HBV := Lib.hid hbv
            clear hpg hv hs hb hst hod hpt how hbv
            go_upto_region 13 with fail
            go_cut [61] from 47 to 61 (fun v W => v = .bool bv ∧ Fresh wr W)
            case first =>
              by_cases h40 : j < 40
              · have hd1 : decide ((j : Int) < 40) = true := decide_eq_true (by omega)
                have HBW := Lib.hid (show bv = decide ((od : Int) ≤ la) from by rw [HBV.out, decide_eq_true h40]; rfl)
                go_region_held3 (fun W => Fresh wr W ∧ W.cell? ⟨bp, 0, none⟩ = some (.pointer (some ⟨bd, 0, none⟩)) ∧ W.cell? ⟨bp, 7, none⟩ = some (.slice tA st0.length tc))
                  (first | assumption | exact HE.out _ ((Touch.refl _ wr).drew) | exact HE.out _ (Touch.refl _ wr))
                  (first
                    | (go_at_call 17; refine (KO.out _ (And.left (by assumption))).mono ?_; rintro e w4 ⟨rfl, rfl⟩)
                    | (go_at_call 18; refine (KL.out _ (And.left (by assumption))).mono ?_; rintro e w4 ⟨rfl, rfl⟩))
                all_goals
                  go_wp2_with fail
                  go_meet
                  case rel => exact ⟨by rw [HBW.out], And.left (by assumption)⟩
              · have hd1 : decide ((j : Int) < 40) = false := decide_eq_false (by omega)
                have HBW := Lib.hid (show bv = false from by rw [HBV.out, decide_eq_false h40]; rfl)
                clear b0 b7
                go_quiet (fail)
                go_wp2_with fail
                go_meet
                case rel => exact ⟨by rw [HBW.out], (Touch.refl _ wr).drewN _⟩
            case rest =>
              obtain ⟨rfl, hfc⟩ := hcut
              have HFC := Lib.hid hfc
              clear hfc b0 b7
              cases bv with
              | true =>
                have hbv := HBV.out
                rw [eq_comm, Bool.and_eq_true] at hbv
                have h40 : j < 40 := of_decide_eq_true hbv.1
                have hwj : IntKind.i64.wrap ((j : Int) + 1) = (j : Int) + 1 := IntWalk.i64_in _ (by omega)
                have hwu : IntKind.u8.wrap (j : Int) = (j : Int) := by simp [IntKind.wrap, IntKind.bits, IntKind.signed]; omega
                obtain ⟨w2, hw2⟩ : ∃ w2, w2 = wc.alloc (.cells #[.int .u8 (j : Int)] 5) := ⟨_, rfl⟩
                have KD := Lib.hid (doesB_pg (W2 := w2) (A := some ⟨wc.heap.size, 0, none⟩) (m := 1) (c := 1) (xs := [UInt8.ofNat j]) (HPGj.out.fresh HFC.out) HLO.out HVj.out (by omega) (by omega) (by rw [HBj.out]; omega) (by rw [hw2]; exact (Touch.refl (fun _ => False) wc).alloc _) (by rw [hw2]; exact byte_one wc j (by omega)) (fun a ha _ => by
                  injection ha with ha
                  subst ha
                  exact ⟨.inl (Nat.le_refl _), by rw [hw2, alloc_size]; exact Nat.lt_succ_self _⟩))
                rw [show [UInt8.ofNat j].take (min 1 200) = [UInt8.ofNat j] from rfl] at KD
                have HAP := Lib.hid ((HVj.out.app (b := [UInt8.ofNat j]) (by omega) (by omega) (by simp)).1.mono (i' := 70 + (j + 1)) (T' := 14000 + (j + 1) * 300) (by omega) (by simp; omega))
                have HAB := Lib.hid ((HVj.out.app (b := [UInt8.ofNat j]) (by omega) (by omega) (by simp)).2.2.1)
                have HAS := Lib.hid (app_same p [UInt8.ofNat j])
                have HAO := Lib.hid (dk_append_ops p.d p.l (b := [UInt8.ofNat j]) (by simp))
                have HW2 := Lib.hid hw2
                clear hbv hw2
                go_wp2_with fail
                rw [← HW2.out]
                refine KD.out.mono ?_
                rintro e w3 ⟨rfl, hpg3⟩
                have HPG3 := Lib.hid hpg3
                clear hpg3 KD
                go_wp2_with fail
                go_roundw
                case rel => exact ⟨j + 1, _, by omega, by go_num, HPG3.out, HAP.out, by rw [HAS.out.2.1]; exact HSj.out, HAB.out.trans HBj.out, HAS.out.1.trans HSTj.out, by rw [HAS.out.2.2]; have := HAO.out; have := HOD.out; omega⟩
                case measure => simp [intOf] <;> omega
              | false =>
                have hbv := HBV.out
                rw [eq_comm, Bool.and_eq_false_iff] at hbv
                have hlo : la < (od : Int) := by
                  rcases hbv with h1 | h1
                  · have := of_decide_eq_false h1; omega
                  · have := of_decide_eq_false h1; omega
                have HOV := Lib.hid (show Over p from ⟨fun s hs => by
                  rw [HSTj.out] at hs
                  have := lastI_ge _ s hs
                  rw [← HLA.out] at this
                  rw [← HOD.out]
                  omega, HSj.out⟩)
                have hle : decide ((od : Int) ≤ la) = false := decide_eq_false (by omega)
                have hc0 := HE.out wc HFC.out
                clear hbv
                go_upto_region 16 with fail
                go_cut [80] from 70 to 80 (fun v W => v = .bool false ∧ Fresh wr W)
                case first =>
                  go_region_held3 (fun W => Fresh wr W ∧ W.cell? ⟨bp, 0, none⟩ = some (.pointer (some ⟨bd, 0, none⟩)) ∧ W.cell? ⟨bp, 7, none⟩ = some (.slice tA st0.length tc))
                    (first | assumption | exact HE.out _ ((HFC.out).drew) | exact HE.out _ HFC.out)
                    (first
                      | (go_at_call 17; refine (KO.out _ (And.left (by assumption))).mono ?_; rintro e w4 ⟨rfl, rfl⟩)
                      | (go_at_call 18; refine (KL.out _ (And.left (by assumption))).mono ?_; rintro e w4 ⟨rfl, rfl⟩))
                  all_goals
                    go_wp2_with fail
                    go_meet
                    case rel => exact ⟨by first | rfl | rw [hle], And.left (by assumption)⟩
                case rest =>
                  obtain ⟨rfl, hfe⟩ := hcut
                  have HFE := Lib.hid hfe
                  have HPGE := Lib.hid (HPGj.out.fresh hfe)
                  clear hfe hc0 KO KL
                  go_wp2_with fail
                  go_loopw [10] (fun i W => ∃ (k : Nat) (p : PS), k ≤ mn ∧ k ≤ 10 ∧ i = .int .i64 (k : Int) ∧ PG w1 W bp bd F S p 3 ∧ PInv p (110 + k) (26000 + k * 300) ∧ Over p ∧ p.l.base = 3 * 1048576) (fun i _ => mn - (intOf i).toNat)
                  case atStart => exact ⟨0, p, Nat.zero_le _, Nat.zero_le _, rfl, HPGE.out, HVj.out.mono (by omega) (by omega), HOV.out, HBj.out⟩
                  case round =>
                    obtain ⟨k, p, hk, hk2, rfl, hpg, hv, hov, hb⟩ := hrel
                    obtain ⟨bl, vA, vc, hpt⟩ := hpg.pt
                    obtain ⟨_, b1, b3, b4⟩ := hpt.cells
                    have HPG1 := Lib.hid hpg; have HV := Lib.hid hv; have HOV1 := Lib.hid hov; have HB1 := Lib.hid hb; have HPT := Lib.hid hpt
                    have hfw := hpg.new_ HF1.out HNEW.out
                    have HFW := Lib.hid hfw
                    by_cases hlt : k < mn ∧ k < 10
                    · obtain ⟨hl1, hl2⟩ := hlt
                      obtain ⟨mb, moff, o, rfl, ho⟩ := HM.out.spot hl1
                      obtain ⟨hob, hoB, k0⟩ := HM.out.rd ho hfw
                      have hkd : decide ((k : Int) < (mn : Int)) = true := decide_eq_true (by omega)
                      have hkd2 : decide ((k : Int) < 10) = true := decide_eq_true (by omega)
                      have hwk : IntKind.i64.wrap ((k : Int) + 1) = (k : Int) + 1 := IntWalk.i64_in _ (by omega)
                      obtain ⟨x, hx⟩ : ∃ x, x = o.xs.take (min o.m 200) := ⟨_, rfl⟩
                      have hxl : x.length ≤ 200 := by rw [hx, List.length_take]; omega
                      obtain ⟨q, hq⟩ : ∃ q : PS, q = { p with d := (appendP p.d p.l x).1, l := (appendP p.d p.l x).2.1, c := p.c.add x } := ⟨_, rfl⟩
                      obtain ⟨r1, r2, r3, r4, r5⟩ := hv.app_over (by omega) (by omega) (b := x) (by omega) hov hq
                      have hcl := fun W (hW : Fresh wr W) => clipx_any o.A o.m o.c o.xs W (hob.fresh hW)
                      rw [← hx] at hcl
                      have HCL := Lib.hid hcl
                      have hxb := fun (W : World) (hW : Fresh wr W) => (hob.fresh hW).take (k := min o.m 200) (by omega)
                      rw [← hx] at hxb
                      have HXB := Lib.hid hxb
                      have KA := Lib.hid (show ∀ W, Fresh wr W → Calls Tryz.prog 19 #[.pointer (some ⟨bl, 0, none⟩), .slice o.A (min o.m 200) o.c] W fun e w4 => e = .returned (.tuple #[.int .i64 (p.c.next : Int), .int .i64 0]) ∧ PT w1 w4 bp bd F S { p with d := (appendP p.d p.l x).1, l := (appendP p.d p.l x).2.1 } 3 bl vA vc from fun W hW => by
                        have := append_pt hpt HLO.out hv (by omega) (by rw [hb]; omega) hW (hxb W hW) (fun a ha h0 => by have := hoB a ha (by omega); exact ⟨.inr this, by have := hfw.size; have := hW.size; omega⟩) (by omega)
                        rw [r1, r2] at this
                        exact this.mono fun e w4 ⟨q1, q2, _⟩ => ⟨q1, q2⟩)
                      have HPL := Lib.hid (show p.c.next ≤ 1000 ∧ p.c.rows.length ≤ 1000 from by have := hv.next; unfold Ct.next at this ⊢; omega)
                      have HQ := Lib.hid hq; have R3 := Lib.hid r3; have R4 := Lib.hid r4; have R5 := Lib.hid r5
                      have HE := Lib.hid (show ∀ W, Fresh wr W → Fresh wr W ∧ W.cell? ⟨bp, 1, none⟩ = some (.pointer (some ⟨bl, 0, none⟩)) ∧ W.cell? ⟨mb, moff + k, none⟩ = some (.slice o.A o.m o.c) from fun W hW => ⟨hW, hW.cell b1 id, hW.cell k0 id⟩)
                      have HOK := Lib.hid (show ∀ W, Fresh w W → W.cell? ⟨mb, moff + k, none⟩ = some (.slice o.A o.m o.c) from fun W hW => (HM.out.rd ho hW).2.2)
                      have HOX := Lib.hid (show ∀ W, Fresh w W → Bs W o.A o.m o.c o.xs from fun W hW => (HM.out.rd ho hW).1)
                      have HXX := Lib.hid hx
                      clear hpg hv hov hb hpt hob hoB ho hx hq r1 r2 r3 r4 r5 hcl hxb hfw
                      go_upto_region 21 with fail
                      go_cut [11, 12] from 91 to 103 (fun u v W => u = .int .i64 (p.c.next : Int) ∧ v = .int .i64 0 ∧ PT w1 W bp bd F S { p with d := (appendP p.d p.l x).1, l := (appendP p.d p.l x).2.1 } 3 bl vA vc)
                      case first =>
                        go_region_law (first
                          | (go_simp; go_at_call 20; refine (HCL.out _ (by first | exact (Touch.refl _ wr).drew | exact Touch.refl _ wr)).mono ?_; rintro e w3 ⟨rfl, rfl, _⟩)
                          | (go_simp; go_at_call 19; refine (KA.out _ (by first | exact (Touch.refl _ wr).drew | exact Touch.refl _ wr)).mono ?_; rintro e w4 ⟨rfl, hpt4⟩; have HPT4 := Lib.hid hpt4; clear hpt4))
                        all_goals
                          go_wp2_with fail
                          go_meet
                          case rel => exact ⟨rfl, rfl, HPT4.out⟩
                      case rest =>
                        obtain ⟨rfl, rfl, hpt4⟩ := hcut
                        obtain ⟨_, y1, y3, y4⟩ := hpt4.cells
                        obtain ⟨f3, f4⟩ := hpt4.frozen
                        dsimp only at y3 y4
                        have hfw4 := hpt4.pg.new_ HF1.out HNEW.out
                        have k4 := HOK.out _ hfw4
                        have KN := Lib.hid (show Calls Tryz.prog 21 #[.agg #[.int .i64 (p.c.first : Int), .slice vA p.c.rows.length vc]] wc fun e w' => Fresh wc w' ∧ e = .returned (.int .i64 (p.c.next : Int)) from cnext_any wc (by have := HPL.out.1; unfold Ct.next at this; omega))
                        have KW := Lib.hid (show ∀ W, Fresh wc W → Calls Tryz.prog 22 #[.agg #[.int .i64 (p.c.first : Int), .slice vA p.c.rows.length vc], .slice o.A (min o.m 200) o.c] W fun e w' => Fresh wc w' ∧ ∃ xA xc, e = .returned (.agg #[.int .i64 (p.c.first : Int), .slice xA q.c.rows.length xc]) ∧ PT w1 ((w'.setCell ⟨bp, 3, none⟩ (.int .i64 (p.c.first : Int))).setCell ⟨bp, 4, none⟩ (.slice xA q.c.rows.length xc)) bp bd F S q 3 bl xA xc from fun W hW => by
                          have h1 := with_pt (hpt4.fresh hW) (by have := HPL.out.2; dsimp only; omega) (A := o.A) (m := min o.m 200) (c := o.c) (x := x) (by rw [HXX.out]; exact (HOX.out W (hfw4.trans hW fun _ _ => id)).take (k := min o.m 200) (by omega)) (by omega)
                          have h2 : q.c = p.c.add x := by rw [HQ.out]
                          rw [h2]
                          dsimp only at h1
                          refine h1.mono ?_
                          rintro e w' ⟨hf, xA, xc, rfl, hp⟩
                          refine ⟨hW.trans hf fun _ _ => id, xA, xc, rfl, ?_⟩
                          rw [HQ.out]
                          exact hp)
                        have KC := Lib.hid (show ∀ W, Fresh wc W → Calls Tryz.prog 20 #[.slice o.A o.m o.c] W fun e w' => W = w' ∧ e = .returned (.slice o.A (min o.m 200) o.c) from fun W hW => (clipx_any o.A o.m o.c o.xs W (HOX.out W (hfw4.trans hW fun _ _ => id))).mono fun e w' ⟨q1, q2, _⟩ => ⟨q1.symm, q2⟩)
                        have HE4 := Lib.hid (show ∀ W, Fresh wc W → Fresh wc W ∧ W.cell? ⟨bp, 3, none⟩ = some (.int .i64 (p.c.first : Int)) ∧ W.cell? ⟨bp, 4, none⟩ = some (.slice vA p.c.rows.length vc) ∧ W.cell? ⟨mb, moff + k, none⟩ = some (.slice o.A o.m o.c) ∧ W.frozen? ⟨bp, 3, none⟩ = false ∧ W.frozen? ⟨bp, 4, none⟩ = false from fun W hW => by
                          have h3 := (hpt4.fresh hW).frozen
                          exact ⟨hW, hW.cell y3 id, hW.cell y4 id, hW.cell k4 id, h3.1, h3.2⟩)
                        have hne : ((p.c.next : Int) != (p.c.next : Int)) = false := by simp
                        clear hpt4 f3 f4 hfw4 b1 b3 b4 k0 KA HCL HXB y1
                        go_wp2_with fail
                        refine KN.out.mono ?_
                        rintro e w5 ⟨hf5, rfl⟩
                        obtain ⟨_, z3, z4, z5, z6, z7⟩ := HE4.out _ hf5
                        have HF5 := Lib.hid hf5
                        clear hf5 KN y3 y4 k4
                        go_upto_region 24 with fail
                        go_region_law (first
                          | (go_simp; go_at_call 20; refine (KC.out _ (by first | exact HF5.out | exact HF5.out.drew)).mono ?_; rintro e w6 ⟨rfl, rfl⟩)
                          | (go_simp; go_at_call 22; refine (KW.out _ (by first | exact HF5.out | exact HF5.out.drew)).mono ?_; rintro e w7 ⟨hf7, xA, xc, rfl, hpt7⟩; obtain ⟨_, e3, e4, _, e6, e7⟩ := HE4.out _ hf7; have HPT7 := Lib.hid hpt7; clear hf7 hpt7))
                        all_goals
                          go_wp2_with fail
                          go_roundw
                          case rel => exact ⟨k + 1, q, by omega, by omega, by go_num, HPT7.out.pg, R3.out.mono (by omega) (by omega), R4.out, R5.out.trans HB1.out⟩
                          case measure => simp [intOf] <;> omega
                    · have hwf : IntKind.i64.wrap ((p.c.first : Int) + 1) = (p.c.first : Int) + 1 := IntWalk.i64_in _ (by have := hv.next; unfold Ct.next at this; omega)
                      obtain ⟨z1, q, z2, z3, z4⟩ := hv.cut_over (by omega) (by omega) ((p.c.first : Int) + 1) hov
                      have KCT := Lib.hid (show ∀ W, Fresh wr W → Calls Tryz.prog 23 #[.pointer (some ⟨bl, 0, none⟩), .int .i64 ((p.c.first : Int) + 1)] W fun e w4 => e = .returned (.int .i64 0) ∧ PT w1 w4 bp bd F S { p with d := (cutP p.d p.l ((p.c.first : Int) + 1)).1, l := (cutP p.d p.l ((p.c.first : Int) + 1)).2.1 } 3 bl vA vc from fun W hW => by
                        have := cut_pt (hpt.fresh hW) hv (by omega) (by omega) (by rw [hb]; omega) ((p.c.first : Int) + 1)
                        rw [z1] at this
                        exact this)
                      have Z2 := Lib.hid z2; have Z3 := Lib.hid z3; have Z4 := Lib.hid z4
                      have HPL := Lib.hid (show p.c.next ≤ 1000 from by have := hv.next; omega)
                      clear hpg hv hov hb hpt hfw z1 z2 z3 z4
                      go_upto_region 19 with fail
                      go_cut [88] from 81 to 88 (fun v W => v = .bool false ∧ wr = W)
                      case first =>
                        go_wp2_with fail
                        all_goals
                          go_meet
                          case rel => exact ⟨by first | rfl | (rw [decide_eq_false (by omega)]), rfl⟩
                      case rest =>
                        obtain ⟨rfl, rfl⟩ := hcut
                        go_upto_region 25 with fail
                        go_cut [13] from 128 to 138 (fun v W => v = .int .i64 0 ∧ PT w1 W bp bd F S { p with d := (cutP p.d p.l ((p.c.first : Int) + 1)).1, l := (cutP p.d p.l ((p.c.first : Int) + 1)).2.1 } 3 bl vA vc)
                        case first =>
                          go_region_law (first
                            | (go_simp; go_at_call 23; refine (KCT.out _ (by first | exact (Touch.refl _ wr).drew | exact Touch.refl _ wr)).mono ?_; rintro e w4 ⟨rfl, hpt4⟩; have HPT4 := Lib.hid hpt4; clear hpt4))
                          all_goals
                            go_wp2_with fail
                            go_meet
                            case rel => exact ⟨rfl, HPT4.out⟩
                        case rest =>
                          obtain ⟨rfl, hpt4⟩ := hcut
                          obtain ⟨_, y1, y3, y4⟩ := hpt4.cells
                          dsimp only at y3 y4
                          have HE := Lib.hid (show ∀ W, Fresh wc W → Fresh wc W ∧ W.cell? ⟨bp, 1, none⟩ = some (.pointer (some ⟨bl, 0, none⟩)) ∧ W.cell? ⟨bp, 3, none⟩ = some (.int .i64 (p.c.first : Int)) ∧ W.cell? ⟨bp, 4, none⟩ = some (.slice vA p.c.rows.length vc) from fun W hW => ⟨hW, hW.cell y1 id, hW.cell y3 id, hW.cell y4 id⟩)
                          have KCC := Lib.hid (show ∀ W, Fresh wc W → Calls Tryz.prog 24 #[.agg #[.int .i64 (p.c.first : Int), .slice vA p.c.rows.length vc], .int .i64 ((p.c.first : Int) + 1)] W fun e W' => ∃ xA xc, e = .returned (.agg #[.int .i64 (q.c.first : Int), .slice xA q.c.rows.length xc]) ∧ Fresh wc W' ∧ CMx W' (.slice xA q.c.rows.length xc) q.c.rows from fun W hW => by
                            refine (ccut_pt (hpt4.fresh hW) (by have := HPL.out; dsimp only; omega) ((p.c.first : Int) + 1) (c2 := q.c) Z3.out).mono ?_
                            rintro e W' ⟨hf, xA, xc, rfl, hcm, _⟩
                            exact ⟨xA, xc, rfl, hW.trans hf fun _ _ => id, hcm⟩)
                          have KT := Lib.hid (show ∀ W v', Fresh wc W → CMx W v' q.c.rows → Calls Tryz.prog 13 #[.pointer (some ⟨bl, 0, none⟩), .agg #[.int .i64 (q.c.first : Int), v']] W fun e w' => e = .returned (.bool true) ∧ Fresh wc w' from fun W v' hW hc => by
                            have := (hpt4.fresh hW).telq Z4.out Z2.out (by omega) (c2 := q.c) hc (by have := Z4.out.next; omega)
                            rw [telB_self] at this
                            exact this.mono fun e w' ⟨q1, q2⟩ => ⟨q2, hW.trans q1 fun _ _ => id⟩)
                          have h0 := HE.out wc (Touch.refl _ _)
                          have HFC4 := Lib.hid (hpt4.pg.new_ HF1.out HNEW.out)
                          clear hpt4 y1 y3 y4 KCT b1 b3 b4
                          go_upto_region 26 with fail
                          go_region_held3 (fun W => Fresh wc W ∧ W.cell? ⟨bp, 1, none⟩ = some (.pointer (some ⟨bl, 0, none⟩)) ∧ W.cell? ⟨bp, 3, none⟩ = some (.int .i64 (p.c.first : Int)) ∧ W.cell? ⟨bp, 4, none⟩ = some (.slice vA p.c.rows.length vc))
                            (first | assumption | exact HE.out _ ((Touch.refl _ wc).drew) | exact HE.out _ (Touch.refl _ wc))
                            (first
                              | (go_at_call 24; refine (KCC.out _ (And.left (by assumption))).mono ?_; rintro e w5 ⟨xA, xc, rfl, hf5, hc5⟩; have k5 := HE.out _ hf5; have KT5 := Lib.hid (KT.out _ _ hf5 hc5); clear hf5 hc5)
                              | (go_at_call 13; refine KT5.out.mono ?_; rintro e w6 ⟨rfl, hf6⟩; have k6 := HE.out _ hf6; clear hf6 KT5)
                              | (go_at_call 16; refine (wakesL_any _).mono ?_; rintro e w7 ⟨rfl, hf7⟩; have HF7 := Lib.hid (Touch.trans (And.left k6) hf7 fun _ _ => id); have k7 := HE.out _ HF7.out; clear hf7))
                          all_goals
                            go_wp2_with fail
                            go_ret
                            exact ⟨rfl, HFC4.out.trans HF7.out fun _ _ => id⟩
end Go.Proofs.YtlcmnihpfpmajaaGreat
