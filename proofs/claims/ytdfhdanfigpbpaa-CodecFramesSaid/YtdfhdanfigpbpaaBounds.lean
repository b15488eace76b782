/- The contract of Within, and the walk of the law CodecBounds: it answers true. Conditions stand with each. -/
import Derived.Test.YtdfhdanfigpbpaaWakes
import Derived.Test.YtdfhdanfigpbpaaPlain
namespace Go.Proofs.Ytdfhdanfigpbpaa
open Go.RowKit

theorem emod_tmod (i m : Int) (h : 0 < m) : i % m = if i.tmod m < 0 then i.tmod m + m else i.tmod m := by
  rw [Int.tmod_eq_emod]
  have h1 := Int.emod_nonneg i (by omega : m ≠ 0)
  have h2 := Int.emod_lt_of_pos i h
  split
  · split <;> omega
  · have : (m.natAbs : Int) = m := by omega
    split <;> omega

set_option maxRecDepth 20000 in
theorem within_any (i m : Int) (w : World) (h0 : 0 < m) (h1 : m ≤ 1000) :
    Calls Try.prog 25 #[.int .i64 i, .int .i64 m] w fun e w' => w' = w ∧ e = .returned (.int .i64 (i % m)) := by
  have hz : m ≠ 0 := by omega
  have hlt : i.tmod m < m := Int.tmod_lt_of_pos i h0
  have hgt : -m < i.tmod m := by
    have := Int.tmod_lt_of_pos (-i) h0
    rw [Int.neg_tmod] at this
    omega
  have hwr : IntKind.i64.wrap (i.tmod m) = i.tmod m := IntWalk.i64_in _ (by omega)
  have hem := emod_tmod i m h0
  have HEM := Lib.hid hem
  clear hem
  by_cases hn : i.tmod m < 0
  · have hwa : IntKind.i64.wrap (i.tmod m + m) = i.tmod m + m := IntWalk.i64_in _ (by omega)
    go_enter Try.func25, Try.ntmps25
    go_wp2_with fail
    go_ret
    have h2 := HEM.out
    rw [if_pos hn] at h2
    rw [h2]
    exact ⟨rfl, rfl⟩
  · go_enter Try.func25, Try.ntmps25
    go_wp2_with fail
    go_ret
    have h2 := HEM.out
    rw [if_neg (by omega)] at h2
    rw [h2]
    exact ⟨rfl, rfl⟩

theorem plain_none {v : Int} (h : Enc.plain v = none) : v < 0 ∨ 4503599627370496 < v := by
  unfold Enc.plain Enc.number at h
  split at h
  · assumption
  · cases h
theorem plain_some {v : Int} {ys : List UInt8} (h : Enc.plain v = some ys) : 0 ≤ v ∧ v ≤ 4503599627370496 ∧ 1 ≤ ys.length ∧ ys.length ≤ 8 ∧ (1 < ys.length → ys.getD 1 0 ≠ 0) := by
  unfold Enc.plain Enc.number at h
  split at h
  · cases h
  · injection h with h
    have h7 := Enc.nsz_7 (n := v.toNat) (by omega)
    have hl := Enc.numB_length v.toNat
    rw [h] at hl
    refine ⟨by omega, by omega, by omega, by omega, fun h1 => ?_⟩
    have h2 := Plain.be_head v.toNat (by omega)
    rw [← h]
    simp only [Enc.numB, List.getD_cons_succ]
    exact h2

set_option maxRecDepth 100000 in
set_option maxHeartbeats 8000000 in
theorem law_bounds (k b : Int) (w : World) :
    Calls Try.prog 5 #[.int .i64 k, .int .i64 b] w fun e w' => e = .returned (.bool true) ∧ Fresh w w' := by
  have hk0 := Int.emod_nonneg k (show (7 : Int) ≠ 0 by omega)
  have hk1 := Int.emod_lt_of_pos k (show (0 : Int) < 7 by omega)
  have hb0 := Int.emod_nonneg b (show (5 : Int) ≠ 0 by omega)
  have hb1 := Int.emod_lt_of_pos b (show (0 : Int) < 5 by omega)
  obtain ⟨K, hK⟩ : ∃ K : Nat, k % 7 = (K : Int) := ⟨(k % 7).toNat, by omega⟩
  obtain ⟨B5, hB5⟩ : ∃ B5 : Nat, b % 5 = (B5 : Int) := ⟨(b % 5).toNat, by omega⟩
  have hW7 := fun w => within_any k 7 w (by omega) (by omega)
  have hW5 := fun w => within_any b 5 w (by omega) (by omega)
  rw [hK] at hW7
  rw [hB5] at hW5
  have HW7 := Lib.hid hW7
  have HW5 := Lib.hid hW5
  have hK6 : K ≤ 6 := by omega
  have hB4 : B5 ≤ 4 := by omega
  clear hW7 hW5 hK hB5 hk0 hk1 hb0 hb1
  go_enter Try.func5, Try.ntmps5
  go_wp2_with fail
  go_loop [5, 6] (fun nv iv => ∃ j : Nat, j ≤ K ∧ iv = .int .i64 j ∧ ∃ P : Nat, 1 ≤ P ∧ P ≤ 256 ^ j ∧ nv = .int .i64 P) (fun _ iv => K - (intOf iv).toNat)
  case atStart => exact ⟨0, by omega, rfl, 1, by omega, by omega, rfl⟩
  case round =>
    obtain ⟨j, hj, rfl, P, hP1, hP2, rfl⟩ := hrel
    have hP3 : P ≤ 281474976710656 := by
      have h1 : 256 ^ j ≤ 256 ^ 6 := Nat.pow_le_pow_right (by omega) (by omega)
      have h2 : (256 : Nat) ^ 6 = 281474976710656 := by decide
      omega
    have hP4 : P * 256 ≤ 256 ^ (j + 1) := by rw [Nat.pow_succ]; exact Nat.mul_le_mul_right _ hP2
    have HP4 := Lib.hid hP4
    clear hP4 hP2
    go_wp2_with fail
    refine (HW7.out _).mono ?_
    rintro e w1 ⟨rfl, rfl⟩
    by_cases hlt : j < K
    · have hw : IntKind.i64.wrap ((P : Int) * 256) = (P : Int) * 256 := IntWalk.i64_in _ (by omega)
      go_wp2_with fail
      refine ⟨⟨j + 1, by omega, by simp, P * 256, by omega, HP4.out, by simp⟩, by simp [intOf] <;> omega⟩
    · obtain rfl : j = K := by omega
      have hw1 : IntKind.i64.wrap ((P : Int) + (B5 : Int)) = (P : Int) + (B5 : Int) := IntWalk.i64_in _ (by omega)
      have hw2 : IntKind.i64.wrap ((P : Int) + (B5 : Int) - 2) = (P : Int) + (B5 : Int) - 2 := IntWalk.i64_in _ (by omega)
      go_wp2_with fail
      refine (HW5.out _).mono ?_
      rintro e w2 ⟨rfl, rfl⟩
      go_wp2_with fail
      go_loopw [5, 7] (fun nv iv wr => ∃ (v : Int) (j : Nat), j ≤ 2 ∧ iv = .int .i64 j ∧ nv = .int .i64 v ∧ -10 ≤ v ∧ v ≤ 9007199254740992 ∧ Fresh w2 wr) (fun _ iv _ => 2 - (intOf iv).toNat)
      case atStart => exact ⟨_, 0, by omega, rfl, rfl, by omega, by omega, Touch.refl _ _⟩
      case round =>
        obtain ⟨v, i, hi, rfl, rfl, hv0, hv1, hf⟩ := hrel
        have HF := Lib.hid hf
        clear hf
        by_cases hi2 : i < 2
        · have hw3 : IntKind.i64.wrap (4503599627370496 + (B5 : Int)) = 4503599627370496 + (B5 : Int) := IntWalk.i64_in _ (by omega)
          have hw4 : IntKind.i64.wrap (4503599627370496 + (B5 : Int) - 2) = 4503599627370496 + (B5 : Int) - 2 := IntWalk.i64_in _ (by omega)
          go_wp2_with fail
          refine (numberE_any v wr).mono ?_
          intro e w3 h
          rcases h.cases with ⟨hr, rfl, hf⟩ | ⟨ys, B, cb, hr, rfl, hrow, hnew, hf⟩
          · have HR := Lib.hid hr
            have HF2 := Lib.hid (HF.out.trans hf (fun _ _ h => h))
            have hpl : Enc.plain v = none := by have := hr; unfold Enc.numberE at this; rwa [Enc.nil0, Enc.nil_cat] at this
            have hvv := plain_none hpl
            clear hr hf h hpl
            go_wp2_with fail
            refine (refnumberE_any v w3).mono ?_
            intro e w4 h
            rcases h.cases with ⟨hr3, rfl, hf3⟩ | ⟨ys, B, cb, hr3, rfl, hrow, hnew, hf3⟩
            rotate_left
            · have := HR.out.symm.trans hr3; cases this
            have hcv := run_convert_Bs (P := Try.prog) (w := w4) 24 9 Try.underlying24 Try.underlying5 Try.underlying9 (A := none) (n := 0) (c := 0) (xs := []) ⟨rfl, Nat.le_refl _, by decide, fun h => by omega⟩
            have HF4 := Lib.hid (HF2.out.trans hf3 (fun _ _ h => h))
            clear hr3 hf3 h
            by_cases hneg : v < 0
            · have hge : ¬ 0 ≤ v := by omega
              go_wp2_with fail
              refine (HW5.out _).mono ?_
              rintro e w5 ⟨rfl, rfl⟩
              go_wp2_with fail
              refine ⟨⟨_, i + 1, by omega, by simp, rfl, by omega, by omega, HF4.out⟩, by simp [intOf] <;> omega⟩
            · have hge : 0 ≤ v := by omega
              have hgt : ¬ v ≤ 4503599627370496 := by omega
              go_wp2_with fail
              refine (HW5.out _).mono ?_
              rintro e w5 ⟨rfl, rfl⟩
              go_wp2_with fail
              refine ⟨⟨_, i + 1, by omega, by simp, rfl, by omega, by omega, HF4.out⟩, by simp [intOf] <;> omega⟩
          · have HR := Lib.hid hr
            have HROW := Lib.hid hrow
            have HF2 := Lib.hid (HF.out.trans hf (fun _ _ h => h))
            have hpl : Enc.plain v = some ys := by have := hr; unfold Enc.numberE at this; rwa [Enc.nil0, Enc.nil_cat] at this
            obtain ⟨hp0, hp1, hp2, hp3, hp4⟩ := plain_some hpl
            have HP4' := Lib.hid hp4
            clear hr hf h hpl hrow hnew hp4
            go_wp2_with fail
            refine (refnumberE_any v w3).mono ?_
            intro e w4 h
            rcases h.cases with ⟨hr3, rfl, hf3⟩ | ⟨ys', C, cc, hr3, rfl, hrow3, hnew3, hf3⟩
            · have := HR.out.symm.trans hr3; cases this
            obtain rfl : ys = ys' := Option.some.inj (HR.out.symm.trans hr3)
            have hrowb4 := HROW.out.touch hf3 (fun _ _ => id)
            have hcv := run_convert_Bs (P := Try.prog) 24 9 Try.underlying24 Try.underlying5 Try.underlying9 (Row.bs hrowb4)
            have hcv' := run_convert_Bs (P := Try.prog) 24 9 Try.underlying24 Try.underlying5 Try.underlying9 (Row.bs hrow3)
            have HF4 := Lib.hid (HF2.out.trans hf3 (fun _ _ h => h))
            have HB4 := Lib.hid (Row.bs hrowb4)
            clear hr3 hf3 h hrow3 hnew3 hrowb4
            by_cases hl1 : 1 < ys.length
            · obtain ⟨bb, oo, rfl⟩ := HB4.out.at_ (by omega)
              have hcell := HB4.out.cellAt (j := 1) hl1
              have hnz : ((ys.getD 1 0).toNat : Int) ≠ 0 := by
                intro h0
                exact HP4'.out hl1 (UInt8.toNat_inj.1 (by simpa using h0))
              have hlt := (ys.getD 1 0).toNat_lt
              generalize (ys.getD 1 0).toNat = z at hcell hnz hlt
              have hzb : ((z : Int) == 0) = false := beq_eq_false_iff_ne.2 hnz
              go_wp2_with fail
              refine (HW5.out _).mono ?_
              rintro e w5 ⟨rfl, rfl⟩
              go_wp2_with fail
              refine ⟨⟨_, i + 1, by omega, by simp, rfl, by omega, by omega, HF4.out⟩, by simp [intOf] <;> omega⟩
            · go_wp2_with fail
              refine (HW5.out _).mono ?_
              rintro e w5 ⟨rfl, rfl⟩
              go_wp2_with fail
              refine ⟨⟨_, i + 1, by omega, by simp, rfl, by omega, by omega, HF4.out⟩, by simp [intOf] <;> omega⟩
        · obtain rfl : i = 2 := by omega
          go_wp2_with fail
          refine (wakes_any wr).mono ?_
          rintro e w5 ⟨rfl, hf5⟩
          have HF5 := Lib.hid (HF.out.trans hf5 (fun _ _ h => h))
          clear hf5
          go_wp2_with fail
          go_ret
          exact ⟨rfl, HF5.out⟩
end Go.Proofs.Ytdfhdanfigpbpaa
