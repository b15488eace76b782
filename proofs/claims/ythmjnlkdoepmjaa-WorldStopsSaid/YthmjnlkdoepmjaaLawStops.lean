/- The walk of the law WorldStops: it answers true. Conditions stand with it. -/
import Derived.Test.YthmjnlkdoepmjaaStop
namespace Go.Proofs.Ythmjnlkdoepmjaa
open Go.RowKit

set_option maxRecDepth 20000 in
set_option maxHeartbeats 8000000 in
theorem law_stops (a b : Int) (w : World) : Calls Try.prog 6 #[.int .i64 a, .int .i64 b] w fun e w' => e = .returned (.bool true) ∧ Fresh w w' := by
  have kc := fun (w : World) (C : Array Value) (n c : Nat) => Lib.run_convert_bytes_const (P := Try.prog) w 22 5 C n c Try.underlying22 Try.underlying5
  have two : (Lit.int .i64 2).wf = true := by decide
  have h20 := Int.emod_nonneg a (show (20 : Int) ≠ 0 by omega)
  have h20' := Int.emod_lt_of_pos a (show (0 : Int) < 20 by omega)
  have h40 := Int.emod_nonneg b (show (40 : Int) ≠ 0 by omega)
  have h40' := Int.emod_lt_of_pos b (show (0 : Int) < 40 by omega)
  obtain ⟨k, hk⟩ : ∃ k : Nat, a % 20 = k := ⟨(a % 20).toNat, by omega⟩
  obtain ⟨n, hn⟩ : ∃ n : Nat, b % 40 = n := ⟨(b % 40).toNat, by omega⟩
  have hw1 := fun w => within_any a 20 w (by omega) (by omega)
  have hw2 := fun w => within_any b 40 w (by omega) (by omega)
  rw [hk] at hw1 h20 h20'
  rw [hn] at hw2 h40 h40'
  have HW1 := Lib.hid hw1; have HW2 := Lib.hid hw2
  clear hk hn hw1 hw2
  go_enter Try.func6, Try.ntmps6
  go_wp2_with fail
  refine (HW1.out _).mono ?_
  rintro e w1 ⟨rfl, rfl⟩
  go_wp2_with fail
  refine (HW2.out _).mono ?_
  rintro e w1 ⟨rfl, rfl⟩
  go_wp2_with fail
  refine (newDisk_mine w).mono ?_
  rintro e w1 ⟨bd, S1, rfl, hm1⟩
  have HC := Lib.hid (disk_stop hm1.disk new_small (by omega) (after := k) (by omega))
  have HM1 := Lib.hid hm1
  clear hm1
  go_wp2_with fail
  refine HC.out.mono ?_
  rintro e w2 ⟨rfl, ht2, hd2⟩
  have hm2 := HM1.out.next ht2 hd2
  generalize more S1 w1 w2 = S2 at hm2
  have hst := halt_new k (by omega)
  have hsm : (Dk.new.halt k).small 0 := halt_small new_small
  generalize Dk.new.halt k = d0 at hm2 hst hsm
  have HM2 := Lib.hid hm2; have HST := Lib.hid hst; have HSM := Lib.hid hsm
  clear ht2 hd2 hm2 HC hst hsm
  go_wp2_with fail
  go_loopw [8, 9] (fun dn i wr => ∃ j m : Nat, i = .int .i64 j ∧ dn = .int .i64 m ∧ j ≤ n ∧ m ≤ j ∧ ∃ d S, Mine w wr bd d S ∧ Stopping d k ∧ d.small (4 * j)) (fun _ i _ => n - (intOf i).toNat)
  case atStart => exact ⟨0, 0, rfl, rfl, by omega, by omega, d0, S2, HM2.out, HST.out.1, HSM.out⟩
  case round =>
    obtain ⟨j, m, rfl, rfl, hj, hmj, d, S, hm, hs, hsm⟩ := hrel
    by_cases hjn : j < n
    · have HC := Lib.hid (fun cs (hcs : cs = #[Value.int .u8 (j : Int)]) => disk_append (hm.free ((Touch.refl _ wr).alloc (.cells cs 5))).disk hsm (by omega) two (bytes_new wr [UInt8.ofNat j] cs (by rw [hcs]; simp [u8s]; omega) (by simp)) (fun a ha => by injection ha with ha; subst ha; exact ⟨fun hs => Nat.lt_irrefl _ (hm.lt _ hs), by simp⟩) (by simp))
      have hw := hs.why (n := 2) (by omega)
      obtain ⟨hs1, ho1⟩ := hs.append 2 [UInt8.ofNat j]
      have hsm1 := append_small (n := 2) (b := [UInt8.ofNat j]) hsm
      have HM := Lib.hid hm; have HS1 := Lib.hid hs1; have HSM1 := Lib.hid hsm1; have HO1 := Lib.hid ho1; have HW := Lib.hid hw
      clear hm hs hsm hs1 hsm1 ho1 hw
      go_wp2_with fail
      refine (HC.out _ rfl).mono ?_
      rintro e w3 ⟨he, ht3, hd3⟩
      rw [HW.out] at he
      have hm3 := (HM.out.free ((Touch.refl _ wr).alloc (.cells #[Value.int .u8 (j : Int)] 5))).next ht3 hd3
      generalize more S (wr.alloc (.cells #[Value.int .u8 (j : Int)] 5)) w3 = S3 at hm3
      generalize hd1 : d.append 2 [UInt8.ofNat j] = d1 at hm3
      rw [hd1] at HS1 HSM1 HO1
      generalize d.ops = o at he HO1
      have HM3 := Lib.hid hm3
      clear ht3 hd3 hm3 hd1 HC HM HW
      by_cases h3 : j % 3 = 2
      · have h3d : ((j : Int) % 3 == 2) = true := by simp; omega
        have HC2 := Lib.hid (disk_sync HM3.out.disk HSM1.out (by simp; omega) two)
        have hw1 := HS1.out.why (n := 2) (by omega)
        obtain ⟨hs2, ho2⟩ := HS1.out.sync 2
        have hsm2 := sync_small (n := 2) HSM1.out
        have HS2 := Lib.hid hs2; have HSM2 := Lib.hid hsm2; have HW1 := Lib.hid hw1; have HO2 := Lib.hid ho2
        clear hs2 hsm2 hw1 ho2 h3
        generalize (if o < k then (0 : Int) else 4) = y at he
        subst he
        go_wp2_with fail
        refine HC2.out.mono ?_
        rintro e w4 ⟨he, ht4, hd4⟩
        rw [HW1.out, HO1.out] at he
        have hm4 := HM3.out.next ht4 hd4
        generalize more S3 w3 w4 = S4 at hm4
        have HCO := Lib.hid (disk_ops hm4.disk)
        rw [HO2.out, HO1.out] at HCO
        have HM4 := Lib.hid hm4
        clear ht4 hd4 hm4 HC2 HW1
        by_cases hok : o + 1 < k
        · rw [if_pos hok] at he
          subst he
          have hle : o + 1 + 1 ≤ k := by omega
          go_wp2_with fail
          refine HCO.out.mono ?_
          rintro e w5 ⟨rfl, rfl⟩
          go_wp2_with fail
          go_roundw
          case rel => exact ⟨j + 1, m + 1, by simp, by simp, by omega, by omega, _, S4, HM4.out, HS2.out, HSM2.out.mono (by simp; omega)⟩
          case measure => simp [intOf] <;> omega
        · rw [if_neg hok] at he
          subst he
          have hle : ¬ o + 1 + 1 ≤ k := by omega
          go_wp2_with fail
          refine HCO.out.mono ?_
          rintro e w5 ⟨rfl, rfl⟩
          go_wp2_with fail
          go_roundw
          case rel => exact ⟨j + 1, m, by simp, rfl, by omega, by omega, _, S4, HM4.out, HS2.out, HSM2.out.mono (by simp; omega)⟩
          case measure => simp [intOf] <;> omega
      · have h3d : ((j : Int) % 3 == 2) = false := by simp; omega
        have HCO := Lib.hid (disk_ops HM3.out.disk)
        rw [HO1.out] at HCO
        clear h3
        by_cases hok : o < k
        · rw [if_pos hok] at he
          subst he
          have hle : o + 1 ≤ k := by omega
          go_wp2_with fail
          refine HCO.out.mono ?_
          rintro e w5 ⟨rfl, rfl⟩
          go_wp2_with fail
          go_roundw
          case rel => exact ⟨j + 1, m, by simp, rfl, by omega, by omega, _, S3, HM3.out, HS1.out, HSM1.out.mono (by simp; omega)⟩
          case measure => simp [intOf] <;> omega
        · rw [if_neg hok] at he
          subst he
          have hle : ¬ o + 1 ≤ k := by omega
          go_wp2_with fail
          refine HCO.out.mono ?_
          rintro e w5 ⟨rfl, rfl⟩
          go_wp2_with fail
          go_roundw
          case rel => exact ⟨j + 1, m, by simp, rfl, by omega, by omega, _, S3, HM3.out, HS1.out, HSM1.out.mono (by simp; omega)⟩
          case measure => simp [intOf] <;> omega
    · have HM := Lib.hid hm; have HSM := Lib.hid hsm
      have HC := Lib.hid (disk_crash hm.disk hsm (by omega) (IsInts.nil_ none) (by intro x hx; cases hx) (fun a ha => by cases ha))
      clear hm hs hsm
      go_wp2_with fail
      refine HC.out.mono ?_
      rintro e w3 ⟨rfl, ht3, hd3⟩
      have hm3 := HM.out.next ht3 hd3
      generalize more S wr w3 = S3 at hm3
      have hwh := why_crashed (d := d) [] (n := 2) (by omega)
      have hsm3 := crash_small (cuts := []) HSM.out
      generalize d.crash [] = d3 at hm3 hwh hsm3
      have HC2 := Lib.hid (disk_append (hm3.free ((Touch.refl _ w3).alloc (.cells #[.int .u8 120] 5 (1, 2)))).disk hsm3 (by omega) two (bytes_marked w3 [120] #[.int .u8 120] (1, 2) rfl (by decide)) (fun a ha => by injection ha with ha; subst ha; exact ⟨fun hs => Nat.lt_irrefl _ (hm3.lt _ hs), by simp⟩) (by decide))
      have HM3 := Lib.hid hm3; have HWH := Lib.hid hwh
      clear ht3 hd3 hm3 hwh hsm3 HC
      go_wp2_with fail
      refine HC2.out.mono ?_
      rintro e w4 ⟨he, ht4, hd4⟩
      rw [HWH.out] at he
      subst he
      have HM4 := Lib.hid ((HM3.out.free ((Touch.refl _ w3).alloc (.cells #[.int .u8 120] 5 (1, 2)))).next ht4 hd4)
      have hmn : m ≤ n := by omega
      clear ht4 hd4 HC2
      go_wp2_with fail
      refine (wakes_any w4).mono ?_
      rintro e w5 ⟨rfl, hf5⟩
      have HF := Lib.hid (HM4.out.fresh.trans hf5 (fun _ _ h => h))
      clear hf5
      go_wp2_with fail
      go_ret
      exact ⟨rfl, HF.out⟩
end Go.Proofs.Ythmjnlkdoepmjaa
