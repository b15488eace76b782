/- The wal claims' texts, several in one: Doc. Conditions stand with each theorem. -/
import Derived.Test.YtlcmnihpfpmajaaGreatZa47
import Derived.Deep.RegionHeld3
/- The law's does where the log is cut. Conditions stand with it. -/
namespace Go.Proofs.YtlcmnihpfpmajaaGreat
open Go.RowKit
section
variable {w w' w'' : World} {bp bd bl n : Nat} {F S R Q S' R' Q' : Nat → Prop} {p p' : PS} {l l' : Lg} {sv rv cv mv kv tv sv' rv' cv' mv' kv' tv' : Value} {vs vs' : List Value} {i T : Nat}
set_option maxRecDepth 200000 in
set_option maxHeartbeats 16000000 in
theorem doesC (h : PM w bp bd bl S R Q p l n sv rv vs cv mv kv tv) (hv : PInv p i T) (hi : i ≤ 200) (hT : T ≤ 900000) (hb : p.l.base ≤ 16777216) {Do N K : Int} (hDo : Do % 7 = 2) {BA CA : Option Addr} {bm bc cm cc : Nat} :
    Calls Tryz.prog 12 #[.pointer (some ⟨bp, 0, none⟩), .agg #[.int .i64 Do, .int .i64 N, .int .i64 K, .slice BA bm bc, .slice CA cm cc]] w (DoEnd w bp bd (pfoot bp bl R Q sv rv mv kv tv) S (p.cutS N) n) := by
  obtain ⟨vA, vc, rfl, _⟩ := h.c.form
  obtain ⟨w1, hw1⟩ : ∃ w1, w1 = w.alloc (.cells #[.int .i64 Do, .int .i64 N, .int .i64 K, .slice BA bm bc, .slice CA cm cc] 29) := ⟨_, rfl⟩
  have hf1 : Fresh w w1 := by rw [hw1]; exact (Touch.refl (fun _ => False) w).alloc _
  have hb0 : Blk w1 w.heap.size 29 #[.int .i64 Do, .int .i64 N, .int .i64 K, .slice BA bm bc, .slice CA cm cc] := by rw [hw1]; exact Blk.new _ _ _
  obtain ⟨F, hF⟩ : ∃ F, F = pfoot bp bl R Q sv rv mv kv tv := ⟨_, rfl⟩
  have hx1 := h.same.fresh hf1
  rw [← hF] at hx1 ⊢
  have c0 : w1.cell? ⟨w.heap.size, 0, none⟩ = some (.int .i64 Do) := hb0.cell 0
  have d0 : w1.cell? ⟨bp, 0, none⟩ = some (.pointer (some ⟨bd, 0, none⟩)) := hx1.pm.blk.cell 0
  have KO := Lib.hid (disk_ops hx1.pm.ld.dk)
  have KW := Lib.hid (within_any Do 7 w1 (by omega) (by omega))
  have HX1 := Lib.hid hx1; have HF1 := Lib.hid hf1; have HW1 := Lib.hid hw1; have HV := Lib.hid hv; have HFF := Lib.hid hF; have HB0 := Lib.hid hb0
  have HLOW := Lib.hid (show ∀ k, pfoot bp bl R Q sv rv mv kv tv k ∨ S k → k < w.heap.size from fun k hk => hk.elim (fun e => h.lt k e) fun e => h.ld.dk.below k e)
  have hbp := h.blk.lt
  have hal := h.alk
  have HCN := Lib.hid (hv.cn hi hal)
  have HBB := Lib.hid (hv.begB hi hb hal (f := 0) (nx := 0) (m := 0) (by omega) (by omega) (by omega))
  have HAP := Lib.hid (hv.cutS hi hT N)
  have HAK := Lib.hid (cutM_alk (d := p.d) hal N)
  obtain ⟨lo, hlo⟩ : ∃ lo, lo = p.d.ops := ⟨_, rfl⟩
  rw [← hlo] at KO HAP
  obtain ⟨ee, hee⟩ : ∃ ee, ee = (cutP p.d p.l N).2.2 := ⟨_, rfl⟩
  rw [← hee] at HAP
  have HEE := Lib.hid hee
  obtain ⟨nx, hnx⟩ : ∃ nx, nx = p.c.cut (min N p.c.next).toNat := ⟨_, rfl⟩
  have HNX := Lib.hid hnx
  have hpn := hv.next
  have hpn2 : p.c.first + p.c.rows.length ≤ 200 := by unfold Ct.next at hpn; omega
  have KCU := Lib.hid (show ∀ W, Fresh w1 W → Calls Tryz.prog 24 #[.agg #[.int .i64 (p.c.first : Int), .slice vA p.c.rows.length vc], .int .i64 N] W fun e w' => Fresh w1 w' ∧ Fresh W w' ∧ ∃ nA nl nc, e = .returned (.agg #[.int .i64 (nx.first : Int), .slice nA nl nc]) ∧ CM w' Q (.slice nA nl nc) nx.rows from fun W hW => by
    refine (ccut_any (first := p.c.first) ((hx1.pm.c).fresh hW) (by omega) N).mono ?_
    rintro e w' ⟨hf, v', rfl, hcm⟩
    obtain ⟨a, b, e, _⟩ := hcm.form
    refine ⟨hW.trans hf fun _ _ => id, hf, a, _, b, by rw [← e, hnx], ?_⟩
    rw [← e, hnx]
    exact hcm)
  have HSS := Lib.hid (show ∀ W, Fresh w1 W → W.cell? ⟨w.heap.size, 1, none⟩ = some (.int .i64 N) ∧ W.cell? ⟨bp, 3, none⟩ = some (.int .i64 (p.c.first : Int)) ∧ W.cell? ⟨bp, 4, none⟩ = some (.slice vA p.c.rows.length vc) ∧ W.cell? ⟨bp, 1, none⟩ = some (.pointer (some ⟨bl, 0, none⟩)) from fun W hW => ⟨(hb0.touch hW id).cell 1, (hx1.pm.blk.touch hW id).cell 3, (hx1.pm.blk.touch hW id).cell 4, (hx1.pm.blk.touch hW id).cell 1⟩)
  clear h hv hb hf1 hb0 hF hx1 hal hw1 hlo hee hnx hpn
  rw [hDo] at KW
  go_enter Tryz.func12, Tryz.ntmps12
  go_upto_region 1 with fail
  rw [← HW1.out]
  go_wp2_with fail
  refine KO.out.mono ?_
  rintro e w2 ⟨rfl, rfl⟩
  go_wp2_with fail
  refine KW.out.mono ?_
  rintro e w2 ⟨rfl, rfl⟩
  go_upto_region 15 with fail
  have HS3 := Lib.hid (show ∀ W, Fresh w1 W → W.cell? ⟨w.heap.size, 1, none⟩ = some (.int .i64 N) ∧ W.cell? ⟨bp, 3, none⟩ = some (.int .i64 (p.c.first : Int)) ∧ W.cell? ⟨bp, 4, none⟩ = some (.slice vA p.c.rows.length vc) from fun W hW => ⟨(HSS.out W hW).1, (HSS.out W hW).2.1, (HSS.out W hW).2.2.1⟩)
  go_cut [11] from 94 to 100 (fun v W => ∃ g nA nl nc, v = .pointer (some ⟨g, 0, none⟩) ∧ Fresh w1 W ∧ Blk W g 35 #[.int .i64 (nx.first : Int), .slice nA nl nc] ∧ CM W Q (.slice nA nl nc) nx.rows ∧ w1.heap.size ≤ g)
  case first =>
    go_region_held3 (fun W => W.cell? ⟨w.heap.size, 1, none⟩ = some (.int .i64 N) ∧ W.cell? ⟨bp, 3, none⟩ = some (.int .i64 (p.c.first : Int)) ∧ W.cell? ⟨bp, 4, none⟩ = some (.slice vA p.c.rows.length vc))
      (first | exact HS3.out _ (Touch.refl _ w1) | exact HS3.out _ ((Touch.refl _ w1).drew) | exact HS3.out _ ((Touch.refl _ w1).alloc _) | exact HS3.out _ (((Touch.refl _ w1).alloc _).drew) | exact HS3.out _ (((Touch.refl _ w1).drew).alloc _) | exact HS3.out _ HF15.out | exact HS3.out _ (HF15.out.alloc _) | exact HS3.out _ (ct_touch HF15.out (.inl (Nat.le_refl _)) _ _) | exact HS3.out _ (ct_touch (HF15.out.alloc _) (.inl HF15.out.size) _ _))
      (first
      | (go_simp; go_at_call 24; refine (KCU.out _ (by first | exact (Touch.refl _ w1).drew | exact Touch.refl _ w1 | exact ((Touch.refl _ w1).drew).alloc _ | exact (Touch.refl _ w1).alloc _ | exact ((Touch.refl _ w1).alloc _).drew)).mono ?_; rintro e w5 ⟨hf15, hf5, nA, nl, nc, rfl, hcm5⟩; have HF15 := Lib.hid hf15; clear hf15; (try (have hz5 := Blk.touch (Blk.new w1.drew 35 #[.int .i64 0, .slice none 0 0]) hf5 id; have zz0 : w5.cell? ⟨w1.heap.size, 0, none⟩ = some (.int .i64 0) := hz5.cell 0; have zz1 : w5.cell? ⟨w1.heap.size, 1, none⟩ = some (.slice none 0 0) := hz5.cell 1; have zf0 : w5.frozen? ⟨w1.heap.size, 0, none⟩ = false := hz5.frozen 0; have zf1 : w5.frozen? ⟨w1.heap.size, 1, none⟩ = false := hz5.frozen 1; have HZ5 := Lib.hid hz5; clear hz5)); have HF5 := Lib.hid hf5; have HCM5 := Lib.hid hcm5; clear hf5 hcm5))
    all_goals
      go_wp2_with fail
      go_meet
      first
        | exact ⟨w5.heap.size, nA, nl, nc, rfl, HF15.out.alloc _, Blk.new _ _ _, HCM5.out.fresh ((Touch.refl _ _).alloc _), HF15.out.size⟩
        | exact ⟨w1.heap.size, nA, nl, nc, rfl, ct_touch HF15.out (.inl (Nat.le_refl _)) _ _, ct_set HZ5.out _ _, HCM5.out.touch (ct_touch (Touch.refl (fun k => k = w1.heap.size) w5) (.inr rfl) _ _) (fun k hk e => by have := HX1.out.pm.Qlt k hk; omega), Nat.le_refl _⟩
  case rest =>
    obtain ⟨g, nA, nl, nc, rfl, hf6, hg6, hcm6, hge⟩ := hcut
    have hx6 := HX1.out.fresh hf6
    have hs1 := HF1.out.size
    obtain ⟨s1, s2, s3, s4⟩ := HSS.out wc hf6
    have hb06 := HB0.out.touch hf6 id
    have HBB0 := Lib.hid hb06
    have KA := Lib.hid (show ∀ W, Fresh wc W → Calls Tryz.prog 23 #[.pointer (some ⟨bl, 0, none⟩), .int .i64 N] W fun e w4 => e = .returned (.int .i64 ee) ∧ ∃ S4 R4 l4 sv4 rv4 vs4, PX w w4 bp bd F S bl S4 R4 Q { p with d := (cutP p.d p.l N).1, l := (cutP p.d p.l N).2.1 } l4 n sv4 rv4 vs4 (.slice vA p.c.rows.length vc) mv kv tv ∧ Blk w4 g 35 #[.int .i64 (nx.first : Int), .slice nA nl nc] ∧ CM w4 Q (.slice nA nl nc) nx.rows from fun W hW => by
      have hxW := hx6.fresh hW
      refine (lcutw_any (K := 200000000) hxW.pm.ld N HBB.out (by have := HCN.out.2.2.1; omega) (fun b hb => by have := HCN.out.2.2.2.1 b hb; omega) (by have := HCN.out.2.2.2.2; omega)).mono ?_
      rintro e w4 ⟨rfl, S4, R4, sv4, rv4, vs4, hlx⟩
      have ak := HAK.out
      rw [ak.d] at hlx
      have hno : ∀ k, w1.heap.size ≤ k → ¬ (lfoot bl sv rv k ∨ S k) := fun k hk e => by
        have := HLOW.out k (e.elim (fun e => .inl (.inl e)) .inr); omega
      refine ⟨by rw [ak.e, ← HEE.out], S4, R4, _, sv4, rv4, vs4, hxW.log hlx ak.l, (hg6.touch hW id).touch hlx.tch (hno g hge), (hcm6.fresh hW).touch hlx.tch fun k hk e => ?_⟩
      have := hxW.pm.dis k (.inr hk)
      exact e.elim this.1 this.2.2)
    clear hf6 hx6 hg6 hcm6 hb06 d0 c0
    go_upto_region 16 with fail
    go_region_law (first
      | (go_simp; go_at_call 23; refine (KA.out _ (by first | exact (Touch.refl _ wc).drew | exact Touch.refl _ wc)).mono ?_; rintro e w4 ⟨rfl, S4, R4, l4, sv4, rv4, vs4, hx4, hg4, hcm4⟩; have HX4 := Lib.hid hx4; have HG4 := Lib.hid hg4; have HCM4 := Lib.hid hcm4; clear hx4 hg4 hcm4))
    all_goals
      have t3 : ∀ q, (w4.drewN q).cell? ⟨bp, 3, none⟩ = some (.int .i64 (p.c.first : Int)) := fun _ => HX4.out.pm.blk.cell 3
      have u0 : ∀ q, (w4.drewN q).cell? ⟨g, 0, none⟩ = some (.int .i64 (nx.first : Int)) := fun _ => HG4.out.cell 0
      have u1 : ∀ q, (w4.drewN q).cell? ⟨g, 1, none⟩ = some (.slice nA nl nc) := fun _ => HG4.out.cell 1
      clear KA s1 s2 s3 s4
      by_cases hle : min N p.c.next ≤ p.c.first
      · have hq : ((nx.first : Int) == (p.c.first : Int)) = true := by
          have : nx = p.c := by rw [HNX.out]; unfold Ct.cut; rw [if_neg (by omega)]
          rw [this]; simp
        have hq2 : decide ((nx.first : Int) = (p.c.first : Int)) = true := by simpa using hq
        obtain ⟨z1, z2, z3⟩ := HAP.out.2.2.1 hle
        have HZ := Lib.hid (And.intro z2 z3)
        have hee0 : ee = 0 := z1
        subst hee0
        have HLE := Lib.hid hle
        clear hle z1 z2 z3
        go_upto_region 17 with fail
        go_quiet (fail)
        go_wp2_with fail
        go_ret
        refine ⟨rfl, ?_⟩
        have e2 : p.cutS N = ({ p with d := (cutP p.d p.l N).1, l := (cutP p.d p.l N).2.1 } : PS) := by
          unfold PS.cutS
          rw [if_pos HLE.out, HZ.out.1, HZ.out.2]
        rw [e2]
        exact (HX4.out.fresh ((Touch.refl (fun _ => False) w4).drewN _)).pg
      · have hne : nx.first ≠ p.c.first := by
          rw [HNX.out]
          unfold Ct.cut
          rw [if_pos (by omega)]
          dsimp only
          omega
        have hq : ((nx.first : Int) == (p.c.first : Int)) = false := by simp; omega
        have hq2 : decide ((nx.first : Int) = (p.c.first : Int)) = false := by simp; omega
        have hbt := HAP.out.2.2.2.1 (by omega)
        have HLE := Lib.hid hle; have HBT := Lib.hid hbt
        clear hle hne hbt
        go_upto_region 17 with fail
        go_quiet (fail)
        generalize hw7 : World.drewN w4 _ = w7
        have hf7 : Fresh w4 w7 := by rw [← hw7]; exact (Touch.refl (fun _ => False) w4).drewN _
        have u0' : w7.cell? ⟨g, 0, none⟩ = some (.int .i64 (nx.first : Int)) := (HG4.out.touch hf7 id).cell 0
        have u1' : w7.cell? ⟨g, 1, none⟩ = some (.slice nA nl nc) := (HG4.out.touch hf7 id).cell 1
        have hx7 := HX4.out.fresh hf7
        have hl := HV.out.lens
        have KF := Lib.hid (show Calls Tryz.prog 30 #[.pointer (some ⟨bp, 0, none⟩), .agg #[.int .i64 (nx.first : Int), .slice nA nl nc], .int .i64 ee, .int .i64 (lo : Int)] w7 (DoEnd w bp bd F S (p.cutS N) n) from by
          refine (calls_any hx7.pm (by dsimp only; omega) (by dsimp only; omega) (by dsimp only; omega) (next := nx) (HCM4.out.fresh hf7) ee lo).mono ?_
          rintro e w8 ⟨rfl, cv8, mv8, kv8, hx8⟩
          have hfin := hx7.trans hx8 (fun _ => id) (fun _ => id)
          refine ⟨by rw [HBT.out], ?_⟩
          have e2 : p.cutS N = ({ p with d := (cutP p.d p.l N).1, l := (cutP p.d p.l N).2.1 } : PS).called nx ee := by
            unfold PS.cutS
            rw [if_neg HLE.out, HEE.out, HNX.out]
          rw [e2]
          exact hfin.pg)
        clear hf7 hw7 hx7 hl t3 u0 u1
        go_wp2_with fail
        refine KF.out.mono ?_
        rintro e w8 ⟨rfl, hpg⟩
        have HPG := Lib.hid hpg
        clear hpg KF
        go_wp2_with fail
        go_ret
        exact ⟨rfl, HPG.out⟩
end
end Go.Proofs.YtlcmnihpfpmajaaGreat
