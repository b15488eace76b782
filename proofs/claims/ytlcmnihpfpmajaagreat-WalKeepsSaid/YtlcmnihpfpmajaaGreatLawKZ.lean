/- The law WalKeeps, walked. Conditions stand with it. -/
import Derived.Test.YtlcmnihpfpmajaaGreatPgkZ
import Derived.Deep.RegionLaw
import Derived.Deep.CutRange
namespace Go.Proofs.YtlcmnihpfpmajaaGreat
open Go.RowKit
set_option maxRecDepth 200000 in
set_option maxHeartbeats 16000000 in
theorem law_keeps (w : World) (A : Option Addr) (n c : Nat) (ops : List OpD) (h : OpsAt w A n c ops) : Calls Tryz.prog 3 #[.slice A n c] w fun e w' => e = .returned (.bool true) ∧ Fresh w w' := by
  have hnc := h.vs.2.1
  have hcm := h.vs.2.2.1
  unfold maxLen at hcm
  have KB := Lib.hid (show Calls Tryz.prog 11 #[.int .i64 0] w (BgnEnd w 0) from begunL_any w (n := 0) (by omega))
  have H := Lib.hid h
  clear h
  go_enter Tryz.func3, Tryz.ntmps3
  go_wp2_with fail
  refine KB.out.mono ?_
  rintro e w1 ⟨bp, bd, F, S, rfl, hf1, hpg, hnew⟩
  rw [Nat.zero_mul] at hpg
  have HPG := Lib.hid hpg; have HF1 := Lib.hid hf1; have HNEW := Lib.hid hnew
  have HLO := Lib.hid (show LoF w.heap.size w1 F S from ⟨hf1.size, hnew⟩)
  clear hpg hf1 hnew KB
  go_wp2_with fail
  go_loopw [4] (fun i W => ∃ (k : Nat) (p : PS), k ≤ n ∧ k ≤ 60 ∧ i = .int .i64 (k : Int) ∧ PG w1 W bp bd F S p 0 ∧ PInv p (k + 1) (k * 225) ∧ p.l.base = 0) (fun i _ => n - (intOf i).toNat)
  case atStart => exact ⟨0, PS.new 0, Nat.zero_le _, Nat.zero_le _, rfl, HPG.out, PInv.new 0, by show (openP [] 0).base = 0; rw [open_nil]⟩
  case round =>
    obtain ⟨k, p, hk, hk2, rfl, hpg, hv, hb0⟩ := hrel
    have HV := Lib.hid hv; have HB0 := Lib.hid hb0
    have HFW := Lib.hid (hpg.new_ HF1.out HNEW.out)
    have HPK := Lib.hid hpg
    by_cases hlt : k < n ∧ k < 60
    · obtain ⟨hl1, hl2⟩ := hlt
      obtain ⟨b, off, o, rfl, ho⟩ := H.out.spot hl1
      obtain ⟨hop, k0, k1, k2, k3, k4⟩ := H.out.rd ho HFW.out
      have hkd : decide ((k : Int) < (n : Int)) = true := decide_eq_true (by omega)
      have hkd2 : decide ((k : Int) < 60) = true := decide_eq_true (by omega)
      have hwk : IntKind.i64.wrap ((k : Int) + 1) = (k : Int) + 1 := IntWalk.i64_in _ (by omega)
      have KD := Lib.hid (show ∀ W, Fresh wr W → Calls Tryz.prog 12 #[.pointer (some ⟨bp, 0, none⟩), .agg #[.int .i64 o.Do, .int .i64 o.N, .int .i64 o.K, .slice o.A o.m o.c, .slice o.C o.nc o.cc]] W fun e w' => e = .returned (.bool true) ∧ PG w1 w' bp bd F S (p.doS o) 0 from fun W hW => does_pg (hpg.fresh hW) HLO.out hv (by omega) (by omega) (by omega) (by rw [hb0]) (hop.touch hW fun _ e => e.elim))
      have HV2 := Lib.hid ((hv.doS (by omega) (by omega) o).1.mono (i' := k + 1 + 1) (T' := (k + 1) * 225) (Nat.le_refl _) (by omega))
      have HB2 := Lib.hid ((hv.doS (by omega) (by omega) o).2.trans hb0)
      obtain ⟨p2, hp2⟩ : ∃ p2, p2 = p.doS o := ⟨_, rfl⟩
      rw [← hp2] at KD HV2 HB2
      clear hpg hv hb0 ho hop hp2
      go_upto_region 7 with fail
      go_cut [36] from 18 to 36 (fun v W => v = .bool false ∧ PG w1 W bp bd F S p2 0)
      case first =>
        go_region_law (first
          | (go_simp; go_at_call 12; refine (KD.out _ (by first | exact (Touch.refl _ wr).drew | exact Touch.refl _ wr)).mono ?_; rintro e w3 ⟨rfl, hpg3⟩; obtain ⟨bl, vA, vc, hpt⟩ := hpg3.pt; obtain ⟨_, y1, y3, y4⟩ := hpt.cells; have KT := Lib.hid (show ∀ W, Fresh w3 W → Calls Tryz.prog 13 #[.pointer (some ⟨bl, 0, none⟩), .agg #[.int .i64 (p2.c.first : Int), .slice vA p2.c.rows.length vc]] W fun e w' => Fresh w3 w' ∧ e = .returned (.bool true) from fun W hW => ((hpt.fresh hW).tells HV2.out (by omega)).mono fun e w' q => ⟨hW.trans q.1 fun _ _ => id, q.2⟩); have HPT := Lib.hid hpt; clear hpt hpg3)
          | (go_simp; go_at_call 13; refine (KT.out _ (by first | exact (Touch.refl _ w3).drew | exact Touch.refl _ w3)).mono ?_; rintro e w4 ⟨hf4, rfl⟩; have HPT4 := Lib.hid (HPT.out.fresh hf4).pg; clear hf4))
        all_goals
          go_wp2_with fail
          go_meet
          case rel => exact ⟨rfl, HPT4.out⟩
      case rest =>
        obtain ⟨rfl, hpg4⟩ := hcut
        have HPG4 := Lib.hid hpg4
        clear hpg4
        go_wp2_with fail
        go_roundw
        case rel => exact ⟨k + 1, p2, by omega, by omega, by go_num, HPG4.out, HV2.out, HB2.out⟩
        case measure => simp [intOf] <;> omega
    · obtain ⟨bl, vA, vc, hpt⟩ := hpg.pt
      have b0 := hpt.cells.1
      have KC := Lib.hid (crash_pg hpg hv (by omega) (A := none) (nn := 0) (c := 0) (cuts := []) (ints_none wr) (fun x hx => by cases hx) HLO.out (fun a ha => by cases ha))
      clear hpg hv hb0 hpt
      go_upto_region 5 with fail
      go_cut [15] from 8 to 15 (fun v W => v = .bool false ∧ wr = W)
      case first =>
        go_wp2_with fail
        all_goals
          go_meet
          case rel => exact ⟨by first | rfl | (rw [decide_eq_false (by omega)]), rfl⟩
      case rest =>
        obtain ⟨rfl, rfl⟩ := hcut
        go_wp2_with fail
        refine KC.out.mono ?_
        rintro e w5 ⟨rfl, p', rfl, hpg5⟩
        have KO := Lib.hid (reopen_pg (n := 0) hpg5 HV.out (by omega) (by omega) (by rw [HB0.out]))
        clear hpg5 KC b0
        go_wp2_with fail
        refine KO.out.mono ?_
        rintro e w6 ⟨rfl, p2, hpg6, _⟩
        have HF6 := Lib.hid (hpg6.new_ HF1.out HNEW.out)
        clear hpg6 KO
        go_wp2_with fail
        refine (wakesL_any _).mono ?_
        rintro e w7 ⟨rfl, hf7⟩
        have HF7 := Lib.hid (HF6.out.trans hf7 fun _ _ => id)
        clear hf7
        go_wp2_with fail
        go_ret
        exact ⟨rfl, HF7.out⟩
end Go.Proofs.YtlcmnihpfpmajaaGreat
