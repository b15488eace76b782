/- The walk of the law WorldKeeps: it answers true. Conditions stand with it. -/
import Derived.Test.YthmjnlkdoepmjaaStop
import Derived.Test.YthmjnlkdoepmjaaKeepLaw
namespace Go.Proofs.Ythmjnlkdoepmjaa
open Go.RowKit

set_option maxRecDepth 100000 in
set_option maxHeartbeats 8000000 in
theorem law_keeps (A0 A1 A2 : Option Addr) (n0 n1 n2 c0 c1 c2 : Nat) (xs0 ys0 : List UInt8) (cuts : List Int) (w : World) (hx0 : Bs w A0 n0 c0 xs0) (hy0 : Bs w A1 n1 c1 ys0) (hz : IsInts w A2 n2 c2 cuts) (hzw : ∀ x ∈ cuts, -9223372036854775808 ≤ x ∧ x ≤ 9223372036854775807)
    (hA0 : ∀ a, A0 = some a → 0 < n0 → a.block < w.heap.size) (hA1 : ∀ a, A1 = some a → 0 < n1 → a.block < w.heap.size) (hA2 : ∀ a, A2 = some a → 0 < n2 → a.block < w.heap.size) :
    Calls Try.prog 3 #[.slice A0 n0 c0, .slice A1 n1 c1, .slice A2 n2 c2] w fun e w' => e = .returned (.bool true) ∧ Fresh w w' := by
  have three : (Lit.int .i64 3).wf = true := by decide
  have HX0 := Lib.hid hx0; have HY0 := Lib.hid hy0; have HZ := Lib.hid hz; have HZW := Lib.hid hzw; have HA0 := Lib.hid hA0; have HA1 := Lib.hid hA1; have HA2 := Lib.hid hA2
  clear hx0 hy0 hz hzw hA0 hA1 hA2
  go_enter Try.func3, Try.ntmps3
  go_wp2_with fail
  refine (clip_any A0 n0 c0 xs0 w HX0.out).mono ?_
  rintro e w1 ⟨rfl, k0, hk0, hk0b, rfl, hx⟩
  have HX := Lib.hid hx
  clear hx
  go_wp2_with fail
  refine (clip_any A1 n1 c1 ys0 w1 HY0.out).mono ?_
  rintro e w1 ⟨rfl, k1, hk1, hk1b, rfl, hy⟩
  have HY := Lib.hid hy
  clear hy
  generalize hxs : xs0.take k0 = xs at HX
  generalize hys : ys0.take k1 = ys at HY
  have hxl : xs.length = k0 := HX.out.1
  have hyl : ys.length = k1 := HY.out.1
  subst hxl hyl
  clear hxs hys
  go_wp2_with fail
  refine (newDisk_mine w1).mono ?_
  rintro e w2 ⟨bd, S1, rfl, hm1⟩
  have HC1 := Lib.hid (disk_append hm1.disk new_small (by omega) three (HX.out.fresh hm1.fresh) (fun a ha h0 => ⟨fun hs => by have := hm1.new _ hs; have := HA0.out a ha (by omega); omega, Nat.lt_of_lt_of_le (HA0.out a ha (by omega)) hm1.fresh.size⟩) (by omega))
  have HM1 := Lib.hid hm1
  clear hm1
  go_wp2_with fail
  refine HC1.out.mono ?_
  rintro e w3 ⟨he, ht3, hd3⟩
  rw [show Dk.new.why 3 = 0 from rfl] at he
  subst he
  have hm3 := HM1.out.next ht3 hd3
  have hsm3 : (kp1 xs).small 300 := (append_small new_small).mono (by omega)
  change Mine w1 w3 bd (kp1 xs) _ at hm3
  generalize more S1 w2 w3 = S3 at hm3
  have HC3 := Lib.hid (disk_sync hm3.disk hsm3 (by omega) three)
  have HM3 := Lib.hid hm3
  have hwy3 : (kp1 xs).why 3 = 0 := by rw [kp1_eq]; exact plain_why rfl rfl (by omega)
  have HWY3 := Lib.hid hwy3; have HSM3 := Lib.hid hsm3
  clear ht3 hd3 hm3 HC1 hwy3 hsm3
  go_wp2_with fail
  refine HC3.out.mono ?_
  rintro e w4 ⟨he, ht4, hd4⟩
  rw [HWY3.out] at he
  subst he
  have hm4 := HM3.out.next ht4 hd4
  have hsm4 : (kp2 xs).small 400 := (sync_small HSM3.out).mono (by omega)
  change Mine w1 w4 bd (kp2 xs) _ at hm4
  generalize more S3 w3 w4 = S4 at hm4
  have hwy4 : (kp2 xs).why 3 = 0 := by rw [kp2_eq]; exact plain_why rfl rfl (by omega)
  have HC4 := Lib.hid (disk_append hm4.disk hsm4 (by omega) three (HY.out.fresh hm4.fresh) (fun a ha h0 => ⟨fun hs => by have := hm4.new _ hs; have := HA1.out a ha (by omega); omega, Nat.lt_of_lt_of_le (HA1.out a ha (by omega)) hm4.fresh.size⟩) (by omega))
  have HM4 := Lib.hid hm4; have HWY4 := Lib.hid hwy4; have HSM4 := Lib.hid hsm4
  clear ht4 hd4 hm4 HC3 hwy4 hsm4
  go_wp2_with fail
  refine HC4.out.mono ?_
  rintro e w5 ⟨he, ht5, hd5⟩
  rw [HWY4.out] at he
  subst he
  have hm5 := HM4.out.next ht5 hd5
  have hsm5 : (kp3 xs ys).small 1000 := (append_small HSM4.out).mono (by omega)
  change Mine w1 w5 bd (kp3 xs ys) _ at hm5
  generalize more S4 w4 w5 = S5 at hm5
  have HC5 := Lib.hid (disk_crash hm5.disk hsm5 (by omega) (HZ.out.touch hm5.fresh (fun _ _ _ => id)) HZW.out (fun a ha h0 hs => by have := hm5.new _ hs; have := HA2.out a ha h0; omega))
  have HM5 := Lib.hid hm5; have HSM5 := Lib.hid hsm5
  clear ht5 hd5 hm5 HC4 hsm5
  go_wp2_with fail
  refine HC5.out.mono ?_
  rintro e w6 ⟨rfl, ht6, hd6⟩
  have hm6 := HM5.out.next ht6 hd6
  have hsm6 : (kp4 xs ys cuts).small 1000 := crash_small HSM5.out
  change Mine w1 w6 bd (kp4 xs ys cuts) _ at hm6
  generalize more S5 w5 w6 = S6 at hm6
  obtain ⟨R, hR⟩ : ∃ R, R = ((kpF xs ys).lose (cuts.headD 0)).raw := ⟨_, rfl⟩
  have hrd := (kp4_read xs ys cuts).1
  have hkp := (kp4_read xs ys cuts).2
  rw [← hR] at hrd
  rw [← lose_length, ← hR] at hkp
  obtain ⟨hl1, hl2, htk, hcase⟩ := keeps_law xs ys (cuts.headD 0) R hR
  have hc6 := disk_read hm6.disk hsm6 (by omega) three
  rw [hrd] at hc6
  have HC6 := Lib.hid hc6; have HM6 := Lib.hid hm6; have HKP := Lib.hid hkp; have HTK := Lib.hid htk; have HCASE := Lib.hid hcase
  clear ht6 hd6 hm6 HC5 hsm6 hrd hkp hR htk hcase hc6
  go_wp2_with fail
  refine HC6.out.mono ?_
  rintro e w7 ⟨hf7, B, c, rfl, hr7, hn7⟩
  have hbR := Row.bs hr7
  have hbc := hbR.2.1
  have hcm := hbR.2.2.1
  unfold maxLen at hcm
  have hm7 := HM6.out.free hf7
  have hcv1 : ∀ j, (convert 22 9 (.slice B xs.length c)).run Try.prog (w7.drewN j) = .ok (.string ⟨xs.toArray⟩) (w7.drewN j) := fun j => by
    have := run_convert_Bs (P := Try.prog) 22 9 Try.underlying22 Try.underlying5 Try.underlying9 ((hbR.take (k := xs.length) (by omega)).drewN j)
    rwa [HTK.out] at this
  have hcv2 : ∀ j, (convert 22 9 (.slice A0 xs.length c0)).run Try.prog (w7.drewN j) = .ok (.string ⟨xs.toArray⟩) (w7.drewN j) := fun j =>
    run_convert_Bs (P := Try.prog) 22 9 Try.underlying22 Try.underlying5 Try.underlying9 ((HX.out.fresh hm7.fresh).drewN j)
  have hKept : ∀ j, Calls Try.prog 17 #[.pointer (some ⟨bd, 0, none⟩), .int .i64 3] (w7.drewN j) fun e w' => e = .returned (.int .i64 R.length) ∧ w' = w7.drewN j := fun j =>
    (disk_kept (hm7.free ((Touch.refl (fun _ => False) w7).drewN j)).disk three).mono fun e w' ⟨h1, h2⟩ => ⟨by rw [h2, HKP.out], h1.symm⟩
  have HKEPT := Lib.hid hKept; have HBR := Lib.hid hbR; have HM7 := Lib.hid hm7; have HY7 := Lib.hid (HY.out.fresh hm7.fresh)
  have g1 : decide (R.length < xs.length) = false := by simp; omega
  have g1i : decide ((R.length : Int) < (xs.length : Int)) = false := by simp; omega
  have gw : IntKind.i64.wrap ((xs.length : Int) + (ys.length : Int)) = (xs.length : Int) + (ys.length : Int) := IntWalk.i64_in _ (by omega)
  have g2 : decide ((xs.length : Int) + (ys.length : Int) < (R.length : Int)) = false := by simp; omega
  have gx0 : (0 : Int) ≤ (xs.length : Int) := by omega
  have gxc : (xs.length : Int) ≤ (c : Int) := by omega
  clear hKept hbR hm7 hr7 hf7 HC6
  go_wp2_with fail
  go_quiet ((go_at_call 17; exact Calls.quiet_of_same (HKEPT.out _)))
  go_wp2_with fail
  clear hcv1 hcv2 g1 g1i gw g2 gx0 gxc
  go_loopw [9] (fun i wr => ∃ t : Nat, xs.length + t ≤ R.length ∧ i = .int .i64 ((xs.length + t : Nat) : Int) ∧ Fresh w7 wr) (fun i _ => R.length - (intOf i).toNat)
  case atStart => exact ⟨0, by omega, rfl, (Touch.refl _ w7).drewN _⟩
  case round =>
    obtain ⟨t, ht, rfl, hf⟩ := hrel
    have HF := Lib.hid hf
    by_cases hlt : xs.length + t < R.length
    · obtain ⟨hty, hc⟩ := HCASE.out (xs.length + t) (by omega) hlt
      rw [show xs.length + t - xs.length = t by omega] at hty hc
      obtain ⟨b1, o1, hBe⟩ := HBR.out.at_ (by omega)
      obtain ⟨b2, o2, hYe⟩ := HY7.out.at_ (by omega)
      have hbr := HBR.out.fresh hf
      have hyr := HY7.out.fresh hf
      rw [hBe] at hbr
      rw [hYe] at hyr
      have z1 := hbr.cellAt hlt
      have z2 := hyr.cellAt hty
      have hp8 := (R.getD (xs.length + t) 0).toNat_lt
      have hq8 := (ys.getD t 0).toNat_lt
      have hpq : ((R.getD (xs.length + t) 0).toNat = (ys.getD t 0).toNat) ∨ (xs.length + t + 1 = R.length ∧ (R.getD (xs.length + t) 0).toNat = 255 - (ys.getD t 0).toNat) := by
        rcases hc with e | ⟨e1, e2⟩
        · exact .inl (by rw [e])
        · refine .inr ⟨e1, ?_⟩
          rw [e2, UInt8.toNat_sub_of_le _ _ (by rw [UInt8.le_iff_toNat_le]; show (ys.getD t 0).toNat ≤ 255; omega)]
          rfl
      generalize (R.getD (xs.length + t) 0).toNat = p at z1 hp8 hpq
      generalize (ys.getD t 0).toNat = q at z2 hq8 hpq
      have hsub : ((xs.length + t : Nat) : Int) - (xs.length : Int) = (t : Int) := by omega
      have hsub' : (xs.length : Int) + (t : Int) - (xs.length : Int) = (t : Int) := by omega
      have hsubw : IntKind.i64.wrap ((xs.length : Int) + (t : Int) - (xs.length : Int)) = (t : Int) := by rw [hsub']; exact IntWalk.i64_in _ (by omega)
      have hltI : (xs.length : Int) + (t : Int) < (R.length : Int) := by omega
      have htyI : (t : Int) < (ys.length : Int) := by omega
      have hrl : IntKind.i64.wrap ((R.length : Int) - 1) = (R.length : Int) - 1 := IntWalk.i64_in _ (by omega)
      subst hBe hYe
      clear hf hbr hyr hc
      by_cases he : p = q
      · subst he
        clear hpq
        go_wp2_with fail
        go_quiet (fail)
        go_wp2_with fail
        go_roundw
        case rel => exact ⟨t + 1, by omega, by simp; omega, HF.out.drewN _⟩
        case measure => simp [intOf] <;> omega
      · obtain ⟨e1, e2⟩ := hpq.resolve_left he
        have hne : ((p : Int) != (q : Int)) = true := by simp; omega
        have hie : ((xs.length : Int) + (t : Int) != (R.length : Int) - 1) = false := by simp; omega
        have hub : IntKind.u8.wrap (255 - (q : Int)) = (p : Int) := by rw [IntKind.wrap_u8']; omega
        have hub' : 255 - (q : Int) = (p : Int) := by omega
        clear hpq he e2
        go_wp2_with fail
        go_quiet (fail)
        go_wp2_with fail
        go_roundw
        case rel => exact ⟨t + 1, by omega, by simp; omega, HF.out.drewN _⟩
        case measure => simp [intOf] <;> omega
    · have : xs.length + t = R.length := by omega
      have hltI : ¬ (xs.length : Int) + (t : Int) < (R.length : Int) := by omega
      clear hf
      go_wp2_with fail
      refine (wakes_any wr).mono ?_
      rintro e w8 ⟨rfl, hf8⟩
      have HF8 := Lib.hid ((HM7.out.fresh.trans HF.out (fun _ _ h => h)).trans hf8 (fun _ _ h => h))
      clear hf8
      go_wp2_with fail
      go_ret
      exact ⟨rfl, HF8.out⟩
end Go.Proofs.Ythmjnlkdoepmjaa
