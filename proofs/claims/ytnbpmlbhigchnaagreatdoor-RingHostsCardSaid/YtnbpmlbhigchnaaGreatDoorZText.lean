/- The reference's text of a number. Condition: the number is from 0 up, as an int holds it. -/
import Derived.Test.YtnbpmlbhigchnaaGreatDoorNxt
namespace Go.Proofs.YtnbpmlbhigchnaaGreatDoor
open Go.RowKit

theorem dec_le : ∀ n : Nat, (Lib.decDigits n).length ≤ n / 10 + 1 := by
  intro n
  induction n using Nat.strongRecOn with
  | _ n ih =>
    by_cases h : n < 10
    · rw [Lib.decDigits_one h]; simp
    · rw [Lib.decDigits, dif_neg h, List.length_append, List.length_singleton]
      have := ih (n / 10) (by omega)
      omega
theorem dec_more {n : Nat} (h : ¬ n < 10) : Lib.decDigits n = Lib.decDigits (n / 10) ++ [UInt8.ofNat (48 + n % 10)] := by rw [Lib.decDigits, dif_neg h]
theorem cons_bytes (u : UInt8) (s : List UInt8) : ((⟨[u].toArray⟩ : ByteArray) ++ ⟨s.toArray⟩) = ⟨(u :: s).toArray⟩ := by
  apply ByteArray.ext
  simp

set_option maxRecDepth 20000 in
set_option maxHeartbeats 1000000 in
theorem text_any (n : Nat) (hn : n ≤ 9223372036854775807) (w : World) : Calls Tryz.prog 26 #[.int .i64 n] w fun e w' => e = .returned (.string ⟨(Lib.decDigits n).toArray⟩) ∧ Fresh w w' := by
  have hdl := dec_le n
  go_enter Tryz.func26, Tryz.ntmps26
  go_wp2_with fail
  go_loopw [0, 3] (fun i v wr => ∃ (m : Nat) (s : List UInt8), m ≤ n ∧ i = .int .i64 m ∧ v = .string ⟨s.toArray⟩ ∧ Lib.decDigits n = Lib.decDigits m ++ s ∧ Fresh w wr) (fun i _ _ => (intOf i).toNat)
  case atStart => exact ⟨n, [], Nat.le_refl _, rfl, rfl, by simp, Touch.refl _ _⟩
  case round =>
    obtain ⟨m, s, hm, rfl, rfl, he, hf⟩ := hrel
    have HE := Lib.hid he
    have hsl : s.length ≤ n / 10 + 1 := by
      have := congrArg List.length he
      rw [List.length_append] at this
      omega
    have HF := Lib.hid hf
    have HFA := Lib.hid (fun o => hf.alloc o)
    clear he hf hdl
    have q1 : (m : Int).tdiv 10 = ((m / 10 : Nat) : Int) := by simp [Int.tdiv_eq_ediv]
    have q2 : (m : Int).tmod 10 = ((m % 10 : Nat) : Int) := by simp [Int.tmod_eq_emod]
    obtain ⟨d, hd⟩ : ∃ d, d = m % 10 := ⟨_, rfl⟩
    obtain ⟨k, hk⟩ : ∃ k, k = m / 10 := ⟨_, rfl⟩
    rw [← hd] at q2
    rw [← hk] at q1
    have hd9 : d < 10 := by omega
    have hkm : k ≤ m := by omega
    have hk0 : k = 0 → m < 10 := by omega
    have hk1 : k ≠ 0 → k < m ∧ ¬ m < 10 := by omega
    have d1 : IntKind.i64.wrap (k : Int) = (k : Int) := IntWalk.i64_in _ (by omega)
    have d2 : IntKind.i64.wrap (d : Int) = (d : Int) := IntWalk.i64_in _ (by omega)
    have g1 : IntKind.u8.wrap (48 + (d : Int)) = (48 + (d : Int)) := IntWalk.u8_in _ (by omega)
    have g3 : IntKind.i64.wrap (48 + (d : Int)) = (48 + (d : Int)) := IntWalk.i64_in _ (by omega)
    have kc := run_convert_Bs (P := Tryz.prog) 80 9 Tryz.underlying80 Tryz.underlying5 Tryz.underlying9 (bytes_one wr (UInt8.ofNat (48 + d)))
    rw [dig_u8 (by omega)] at kc
    have HK0 := Lib.hid (show k = 0 → UInt8.ofNat (48 + d) :: s = Lib.decDigits n from fun h => by
      rw [HE.out, Lib.decDigits_one (hk0 h), show m = d by have := hk0 h; omega]
      rfl)
    have HK1 := Lib.hid (show k ≠ 0 → Lib.decDigits n = Lib.decDigits k ++ (UInt8.ofNat (48 + d) :: s) from fun h => by
      rw [HE.out, dec_more (hk1 h).2, ← hd, ← hk]
      simp)
    generalize UInt8.ofNat (48 + d) = u at *
    have n1 : ¬ 9223372036854775807 < 1 + s.length := by omega
    have HCB := Lib.hid (cons_bytes u s)
    have HKM := Lib.hid hk1
    clear hd hk hk0 hk1
    by_cases hz : k = 0
    · go_wp2_with fail
      rw [show (({ data := #[u] } : ByteArray) ++ ⟨s.toArray⟩) = ⟨(u :: s).toArray⟩ from HCB.out]
      go_ret
      exact ⟨by rw [HK0.out hz]; rfl, HFA.out _⟩
    · have hlt := (HKM.out hz).1
      go_wp2_with fail
      rw [show (({ data := #[u] } : ByteArray) ++ ⟨s.toArray⟩) = ⟨(u :: s).toArray⟩ from HCB.out]
      go_roundw
      case rel => exact ⟨k, u :: s, by omega, rfl, rfl, HK1.out hz, HFA.out _⟩
      case measure => simp [intOf] <;> omega

set_option maxRecDepth 20000 in
set_option maxHeartbeats 1000000 in
theorem signed_any (n : Int) (h1 : -9223372036854775808 ≤ n) (h2 : n ≤ 9223372036854775807) (w : World) : Calls Tryz.prog 32 #[.int .i64 n] w fun e w' => e = .returned (.string ⟨(Lib.itoa n).toArray⟩) ∧ Fresh w w' := by
  by_cases h0 : 0 ≤ n
  · obtain ⟨m, rfl⟩ := Int.eq_ofNat_of_zero_le h0
    have he : Lib.itoa (m : Int) = Lib.decDigits m := by unfold Lib.itoa; rw [if_neg (by omega)]; rfl
    rw [he]
    have KT := Lib.hid (text_any m (by omega) w)
    clear he
    go_enter Tryz.func32, Tryz.ntmps32
    go_wp2_with fail
    refine KT.out.mono ?_
    rintro e w1 ⟨rfl, hf⟩
    have HF := Lib.hid hf
    clear hf KT
    go_wp2_with fail
    go_ret
    exact ⟨rfl, HF.out⟩
  · obtain ⟨M, hM⟩ : ∃ M : Nat, n = -(M : Int) := ⟨n.natAbs, by omega⟩
    have he : Lib.itoa n = 45 :: Lib.decDigits M := by unfold Lib.itoa; rw [if_pos (by omega), show n.natAbs = M by omega]
    rw [he]
    subst hM
    have hdl := dec_le M
    have hM2 : M ≤ 9223372036854775808 := by omega
    clear he h1 h2
    go_enter Tryz.func32, Tryz.ntmps32
    go_wp2_with fail
    go_loopw [0, 3] (fun i v wr => ∃ (m : Nat) (s : List UInt8), m ≤ M ∧ i = .int .i64 (-(m : Int)) ∧ v = .string ⟨s.toArray⟩ ∧ Lib.decDigits M = Lib.decDigits m ++ s ∧ Fresh w wr) (fun i _ _ => (intOf i).natAbs)
    case atStart => exact ⟨M, [], Nat.le_refl _, rfl, rfl, by simp, Touch.refl _ _⟩
    case round =>
      obtain ⟨m, s, hm, rfl, rfl, he, hf⟩ := hrel
      have HE := Lib.hid he
      have hsl : s.length ≤ M / 10 + 1 := by
        have := congrArg List.length he
        rw [List.length_append] at this
        omega
      have HFA := Lib.hid (fun o => hf.alloc o)
      clear he hf hdl h0
      obtain ⟨d, hd⟩ : ∃ d, d = m % 10 := ⟨_, rfl⟩
      obtain ⟨k, hk⟩ : ∃ k, k = m / 10 := ⟨_, rfl⟩
      have q1 : (-(m : Int)).tdiv 10 = -(k : Int) := by rw [Int.neg_tdiv, hk]; simp [Int.tdiv_eq_ediv]
      have q2 : (-(m : Int)).tmod 10 = -(d : Int) := by rw [Int.neg_tmod, hd]; simp [Int.tmod_eq_emod]
      have hd9 : d < 10 := by omega
      have hkm : k ≤ m := by omega
      have hk0 : k = 0 → m < 10 := by omega
      have hk1 : k ≠ 0 → k < m ∧ ¬ m < 10 := by omega
      have d1 : IntKind.i64.wrap (-(k : Int)) = -(k : Int) := IntWalk.i64_in _ (by omega)
      have d2 : IntKind.i64.wrap (-(d : Int)) = -(d : Int) := IntWalk.i64_in _ (by omega)
      have g0 : (48 : Int) - -(d : Int) = 48 + (d : Int) := by omega
      have g1 : IntKind.u8.wrap (48 + (d : Int)) = (48 + (d : Int)) := IntWalk.u8_in _ (by omega)
      have g3 : IntKind.i64.wrap (48 + (d : Int)) = (48 + (d : Int)) := IntWalk.i64_in _ (by omega)
      have kc := run_convert_Bs (P := Tryz.prog) 80 9 Tryz.underlying80 Tryz.underlying5 Tryz.underlying9 (bytes_one wr (UInt8.ofNat (48 + d)))
      rw [dig_u8 (by omega)] at kc
      have HK0 := Lib.hid (show k = 0 → UInt8.ofNat (48 + d) :: s = Lib.decDigits M from fun h => by
        rw [HE.out, Lib.decDigits_one (hk0 h), show m = d by have := hk0 h; omega]
        rfl)
      have HK1 := Lib.hid (show k ≠ 0 → Lib.decDigits M = Lib.decDigits k ++ (UInt8.ofNat (48 + d) :: s) from fun h => by
        rw [HE.out, dec_more (hk1 h).2, ← hd, ← hk]
        simp)
      generalize UInt8.ofNat (48 + d) = u at *
      have n1 : ¬ 9223372036854775807 < 1 + s.length := by omega
      have HCB := Lib.hid (cons_bytes u s)
      have HKM := Lib.hid hk1
      clear hd hk hk0 hk1
      by_cases hz : k = 0
      · subst hz
        have HCM := Lib.hid (cons_bytes 45 (u :: s))
        go_wp2_with fail
        rw [show (({ data := #[u] } : ByteArray) ++ ⟨s.toArray⟩) = ⟨(u :: s).toArray⟩ from HCB.out, show (({ data := #[45] } : ByteArray) ++ ⟨(u :: s).toArray⟩) = ⟨(45 :: u :: s).toArray⟩ from HCM.out]
        go_ret
        exact ⟨by rw [HK0.out trivial]; rfl, HFA.out _⟩
      · have hlt := (HKM.out hz).1
        have hkz : ¬ -(k : Int) = 0 := by omega
        go_wp2_with fail
        rw [show (({ data := #[u] } : ByteArray) ++ ⟨s.toArray⟩) = ⟨(u :: s).toArray⟩ from HCB.out]
        go_roundw
        case rel => exact ⟨k, u :: s, by omega, rfl, rfl, HK1.out hz, HFA.out _⟩
        case measure => simp [intOf] <;> omega
end Go.Proofs.YtnbpmlbhigchnaaGreatDoor
