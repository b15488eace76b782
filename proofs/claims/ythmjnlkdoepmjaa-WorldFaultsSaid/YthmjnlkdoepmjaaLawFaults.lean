/- The walk of the law WorldFaults: it answers true. Conditions stand with it. -/
import Derived.Test.YthmjnlkdoepmjaaFail
namespace Go.Proofs.Ythmjnlkdoepmjaa
open Go.RowKit

set_option maxRecDepth 20000 in
set_option maxHeartbeats 8000000 in
theorem law_faults (many at_ kind : Int) (A : Option Addr) (nb c : Nat) (xs0 : List UInt8) (w : World) (hx : Bs w A nb c xs0) (hA : ∀ a, A = some a → 0 < nb → a.block < w.heap.size) :
    Calls Try.prog 4 #[.agg #[.int .i64 many, .int .i64 at_, .int .i64 kind, .slice A nb c]] w fun e w' => e = .returned (.bool true) ∧ Fresh w w' := by
  have one : (Lit.int .i64 1).wf = true := by decide
  have h30 := Int.emod_nonneg many (show (30 : Int) ≠ 0 by omega)
  have h30' := Int.emod_lt_of_pos many (show (0 : Int) < 30 by omega)
  have h40 := Int.emod_nonneg at_ (show (40 : Int) ≠ 0 by omega)
  have h40' := Int.emod_lt_of_pos at_ (show (0 : Int) < 40 by omega)
  obtain ⟨n, hn⟩ : ∃ n : Nat, many % 30 = n := ⟨(many % 30).toNat, by omega⟩
  obtain ⟨k, hk⟩ : ∃ k : Nat, at_ % 40 = k := ⟨(at_ % 40).toNat, by omega⟩
  have hw1 : ∀ w, Calls Try.prog 19 #[.int .i64 many, .int .i64 30] w fun e w' => e = .returned (.int .i64 (n : Int)) ∧ w' = w := fun w => (within_any many 30 w (by omega) (by omega)).mono fun e w' ⟨h1, h2⟩ => ⟨by rw [h2, hn], h1.symm⟩
  have hw2 : ∀ w, Calls Try.prog 19 #[.int .i64 at_, .int .i64 40] w fun e w' => w = w' ∧ e = .returned (.int .i64 (k : Int)) := fun w => (within_any at_ 40 w (by omega) (by omega)).mono fun e w' ⟨h1, h2⟩ => ⟨h1, by rw [h2, hk]⟩
  rw [hn] at h30 h30'
  rw [hk] at h40 h40'
  obtain ⟨W, hW⟩ : ∃ W, W = w.alloc (.cells #[.int .i64 many, .int .i64 at_, .int .i64 kind, .slice A nb c] 36) := ⟨_, rfl⟩
  have hF : Fresh w W := by rw [hW]; exact (Touch.refl _ w).alloc _
  have hB : Blk W w.heap.size 36 #[.int .i64 many, .int .i64 at_, .int .i64 kind, .slice A nb c] := by rw [hW]; exact Blk.new _ _ _
  have hxW := hx.fresh hF
  have HW1 := Lib.hid hw1; have HW2 := Lib.hid hw2; have HWW := Lib.hid hW; have HF := Lib.hid hF; have HB := Lib.hid hB; have HX := Lib.hid hxW; have HA := Lib.hid hA
  clear hn hk hw1 hw2 hW hF hB hx hxW hA
  go_enter Try.func4, Try.ntmps4
  go_wp2_with fail
  rw [← HWW.out]
  have c0 : W.cell? ⟨w.heap.size, 0, none⟩ = some (.int .i64 many) := HB.out.cell 0
  have c1' : W.cell? ⟨w.heap.size, 1, none⟩ = some (.int .i64 at_) := HB.out.cell 1
  have c2' : W.cell? ⟨w.heap.size, 2, none⟩ = some (.int .i64 kind) := HB.out.cell 2
  have c3' : W.cell? ⟨w.heap.size, 3, none⟩ = some (.slice A nb c) := HB.out.cell 3
  have gw : IntKind.i64.wrap (1 + (n : Int)) = 1 + (n : Int) := IntWalk.i64_in _ (by omega)
  go_quiet ((go_at_call 19; exact Calls.quiet_of_same (HW1.out _)))
  go_wp2_with fail
  refine (HW2.out _).mono ?_
  rintro e W1 ⟨rfl, rfl⟩
  go_wp2_with fail
  refine (clip_any A nb c xs0 _ (HX.out.drewN _)).mono ?_
  rintro e W1 ⟨rfl, m, hm1, hm2, rfl, hb⟩
  obtain ⟨W2, hW2⟩ : ∃ W2, W2 = W.drewN nq := ⟨_, rfl⟩
  rw [← hW2] at hb ⊢
  have hf2 : Fresh w W2 := by rw [hW2]; exact HF.out.drewN _
  have hAm : ∀ a, A = some a → 0 < m → a.block < w.heap.size := fun a ha h0 => HA.out a ha (by omega)
  generalize hxs : xs0.take m = xs at hb
  have hxl : xs.length = m := hb.1
  subst hxl
  have HX2 := Lib.hid hb; have HF2 := Lib.hid hf2; have HAM := Lib.hid hAm
  clear hb hf2 hAm hxs hW2 c0 c1' c2' c3' gw
  go_wp2_with fail
  refine (newDisk_mine W2).mono ?_
  rintro e w3 ⟨bd, S1, rfl, hm3⟩
  have HC := Lib.hid (disk_fail hm3.disk new_small (by omega) (after := k) kind (by omega))
  have HM3 := Lib.hid hm3
  clear hm3
  go_wp2_with fail
  refine HC.out.mono ?_
  rintro e w4 ⟨rfl, ht4, hd4⟩
  have hm4 := HM3.out.next ht4 hd4
  generalize more S1 w3 w4 = S4 at hm4
  have hst := waits_new k (by omega) kind
  have hsm : (Dk.new.fail k kind).small 1 := fail_small new_small
  generalize Dk.new.fail k kind = d0 at hm4 hst hsm
  have HM4 := Lib.hid hm4; have HST := Lib.hid hst; have HSM := Lib.hid hsm
  clear ht4 hd4 hm4 HC hst hsm
  go_wp2_with fail
  go_loopw [8, 9] (fun sz i wr => ∃ j size : Nat, i = .int .i64 j ∧ sz = .int .i64 size ∧ j ≤ n + 1 ∧ size ≤ 300 * j ∧ ∃ d S, Mine W2 wr bd d S ∧ Waits d k kind j size ∧ d.small (1 + 300 * j)) (fun _ i _ => n + 1 - (intOf i).toNat)
  case atStart => exact ⟨0, 0, rfl, rfl, by omega, by omega, d0, S4, HM4.out, HST.out, HSM.out⟩
  case round =>
    obtain ⟨j, size, rfl, rfl, hj, hsz, d, S, hm, hs, hsm⟩ := hrel
    by_cases hjn : j < n + 1
    · have hjI : (j : Int) < 1 + (n : Int) := by omega
      have HC := Lib.hid (disk_append hm.disk hsm (by omega) one (HX2.out.fresh hm.fresh) (fun a ha h0 => ⟨fun hs => by have h1 := hm.new _ hs; have h2 := HAM.out a ha h0; have h3 := HF2.out.size; omega, Nat.lt_of_lt_of_le (HAM.out a ha h0) (Nat.le_trans HF2.out.size hm.fresh.size)⟩) (by omega))
      have hw := hs.why
      have hs1 := hs.append xs
      have hsm1 := append_small (n := 1) (b := xs) hsm
      have HM := Lib.hid hm; have HS1 := Lib.hid hs1; have HSM1 := Lib.hid hsm1; have HW := Lib.hid hw
      clear hm hs hsm hs1 hsm1 hw
      go_wp2_with fail
      refine HC.out.mono ?_
      rintro e w5 ⟨he, ht5, hd5⟩
      rw [HW.out] at he
      have hm5 := HM.out.next ht5 hd5
      generalize more S wr w5 = S5 at hm5
      have hs1 := HS1.out
      have hsm1 := HSM1.out
      generalize d.append 1 xs = d1 at hm5 hs1 hsm1
      have HM5 := Lib.hid hm5
      clear ht5 hd5 hm5 HC HM HW HS1 HSM1
      by_cases hjk : j = k
      · rw [if_pos hjk] at he hs1
        subst he
        have hjkb : ((j : Int) == (k : Int)) = true := by simp; omega
        by_cases hk2 : kind = 2
        · rw [if_pos hk2] at hs1
          have hk2b : (kind == 2) = true := by simpa using hk2
          have hrl := hs1.read
          have HR := Lib.hid (disk_read HM5.out.disk hsm1 (by omega) one)
          have hdv : (size : Int) + (xs.length : Int) / 2 = ((size + xs.length / 2 : Nat) : Int) := by omega
          rw [hrl] at HR
          have HS1 := Lib.hid hs1; have HSM1 := Lib.hid hsm1; have HJK := Lib.hid hjk; have HK2 := Lib.hid hk2; have HDV := Lib.hid hdv
          clear hrl hs1 hsm1 hjk hk2 hdv
          go_wp2_with fail
          refine HR.out.mono ?_
          rintro e w6 ⟨hf6, B, cb, rfl, _, _⟩
          have HM6 := Lib.hid (HM5.out.free hf6)
          clear hf6 HR
          go_wp2_with fail
          go_roundw
          case rel => exact ⟨j + 1, size + xs.length / 2, by simp, by simp, by omega, by omega, d1, S5, HM6.out, HS1.out, HSM1.out.mono (by omega)⟩
          case measure => simp [intOf] <;> omega
        · rw [if_neg hk2] at hs1
          have hk2b : (kind == 2) = false := by simpa using hk2
          have hrl := hs1.read
          have HR := Lib.hid (disk_read HM5.out.disk hsm1 (by omega) one)
          rw [hrl] at HR
          have HS1 := Lib.hid hs1; have HSM1 := Lib.hid hsm1; have HJK := Lib.hid hjk; have HK2 := Lib.hid hk2
          clear hrl hs1 hsm1 hjk hk2
          go_wp2_with fail
          refine HR.out.mono ?_
          rintro e w6 ⟨hf6, B, cb, rfl, _, _⟩
          have HM6 := Lib.hid (HM5.out.free hf6)
          clear hf6 HR
          go_wp2_with fail
          go_roundw
          case rel => exact ⟨j + 1, size, by simp, rfl, by omega, by omega, d1, S5, HM6.out, HS1.out, HSM1.out.mono (by omega)⟩
          case measure => simp [intOf] <;> omega
      · rw [if_neg hjk] at he hs1
        subst he
        have hjkb : ((j : Int) == (k : Int)) = false := by simp; omega
        have hrl := hs1.read
        have HR := Lib.hid (disk_read HM5.out.disk hsm1 (by omega) one)
        have hdv : (size : Int) + (xs.length : Int) = ((size + xs.length : Nat) : Int) := by omega
        rw [hrl] at HR
        have HS1 := Lib.hid hs1; have HSM1 := Lib.hid hsm1; have HJK := Lib.hid hjk; have HDV := Lib.hid hdv
        clear hrl hs1 hsm1 hjk hdv
        go_wp2_with fail
        refine HR.out.mono ?_
        rintro e w6 ⟨hf6, B, cb, rfl, _, _⟩
        have HM6 := Lib.hid (HM5.out.free hf6)
        clear hf6 HR
        go_wp2_with fail
        go_roundw
        case rel => exact ⟨j + 1, size + xs.length, by simp, by simp, by omega, by omega, d1, S5, HM6.out, HS1.out, HSM1.out.mono (by omega)⟩
        case measure => simp [intOf] <;> omega
    · have hjI : ¬ (j : Int) < 1 + (n : Int) := by omega
      have hje : j = n + 1 := by omega
      have HO := Lib.hid (disk_ops hm.disk)
      rw [hs.ops] at HO
      have hjb : (j : Int) = 1 + (n : Int) := by omega
      have HJB := Lib.hid hjb
      have HM := Lib.hid hm
      clear hm hs hsm hje hjb
      go_wp2_with fail
      refine HO.out.mono ?_
      rintro e w5 ⟨rfl, rfl⟩
      have hjeq : ((j : Int) == 1 + (n : Int)) = true := by rw [HJB.out]; simp
      go_wp2_with fail
      refine (wakes_any wr).mono ?_
      rintro e w6 ⟨rfl, hf6⟩
      have HF6 := Lib.hid ((HF2.out.trans HM.out.fresh (fun _ _ h => h)).trans hf6 (fun _ _ h => h))
      clear hf6
      go_wp2_with fail
      go_ret
      exact ⟨rfl, HF6.out⟩
end Go.Proofs.Ythmjnlkdoepmjaa
