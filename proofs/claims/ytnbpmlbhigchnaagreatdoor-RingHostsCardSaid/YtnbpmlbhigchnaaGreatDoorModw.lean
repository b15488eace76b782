/- math.mod by the modulus at whole numbers; math.Mod; ring.taken. Conditions stand with each. -/
import Derived.Test.YtnbpmlbhigchnaaGreatDoorFrexp
namespace Go.Proofs.YtnbpmlbhigchnaaGreatDoor
open Go.RowKit Ieee

/-- the whole number that a float is -/
def mF : Value → Nat
  | .float _ b => (((double.read b).toInt .zero).getD 0).toNat
  | _ => 0
theorem mF_eq {r R : Nat} (h : FV r (R : Int)) (hR : R < 134217728) : mF (.float .f64 r) = R := by
  have : (double.read r).toInt .zero = some (R : Int) := (Rp.read h (lt53 (by omega) (by omega))).toInt
  simp [mF, this]
theorem log_cases {R : Nat} (h : 16777213 ≤ R) (h2 : R < 134217728) : R.log2 = 23 ∨ R.log2 = 24 ∨ R.log2 = 25 ∨ R.log2 = 26 := by
  obtain ⟨h3, h4⟩ := log_range h (by simpa using h2)
  omega
set_option maxRecDepth 20000 in
set_option maxHeartbeats 2000000 in
theorem mod_any {x : Nat} {a : Int} (hx : FV x a) (h1 : -134217728 < a) (h2 : a < 134217728) (w : World) :
    Calls Tryz.prog 80 #[.float .f64 x, .float .f64 4715268808246296576] w fun e w' => (∃ r, e = .returned (.float .f64 r) ∧ FV r (a.tmod 16777213)) ∧ w' = w := by
  have ha : a.natAbs < 2 ^ 53 := lt53 (by omega) (by omega)
  have hy : FV 4715268808246296576 16777213 := FV.modulus
  have ky0 : (FloatKind.f64.format.order 4715268808246296576 0 == some Ordering.eq) = false := by decide
  have K1 := Lib.hid (isInf_any hx ha w)
  have K2 := Lib.hid (isNaN_any hx ha w)
  have K3 := Lib.hid (isNaN_any hy (by decide) w)
  have K4 := abs_any hy (by decide) w
  rw [show fE ((16777213 : Int).natAbs : Int) = 4715268808246296576 by decide] at K4
  have K4 := Lib.hid K4
  have K5 := Frexp_any (m := 16777213) (f := 4503598016757760) (by decide) (by decide) (by decide) (by decide) w
  rw [show fE ((16777213 : Nat) : Int) = 4715268808246296576 by decide, show 1022 * 2 ^ 52 + 4503598016757760 = 4607182417189404672 by decide, show (((16777213 : Nat).log2 : Nat) : Int) + 1 = 24 by decide] at K5
  have K5 := Lib.hid K5
  have kx0 : (FloatKind.f64.format.order x 0 == some Ordering.lt) = decide (a < 0) := by
    rw [show FloatKind.f64.format.order x 0 = some (compare a 0) from hx.ord FV.pz ha (by decide)]
    exact cmp_lt a 0
  have kn : ∀ y w, (Op.unary .neg (.float .f64 y)).run Tryz.prog w = .ok (.float .f64 (Op.negFloat .f64 y)) w := fun _ _ => rfl
  obtain ⟨A, hA⟩ : ∃ A : Nat, A = a.natAbs := ⟨_, rfl⟩
  have HX := Lib.hid hx; have HA := Lib.hid hA
  clear hx hA hy ha
  go_enter Tryz.func80, Tryz.ntmps80
  go_wp2_with fail
  refine K1.out.mono ?_
  rintro e w1 ⟨rfl, hw1⟩
  rw [hw1]
  clear hw1 w1
  go_wp2_with fail
  refine K2.out.mono ?_
  rintro e w1 ⟨rfl, hw1⟩
  rw [hw1]
  clear hw1 w1
  go_wp2_with fail
  refine K3.out.mono ?_
  rintro e w1 ⟨rfl, hw1⟩
  rw [hw1]
  clear hw1 w1
  go_wp2_with fail
  refine K4.out.mono ?_
  rintro e w1 ⟨rfl, hw1⟩
  rw [hw1]
  clear hw1 w1
  go_wp2_with fail
  refine K5.out.mono ?_
  rintro e w1 ⟨rfl, hw1⟩
  rw [hw1]
  clear hw1 w1
  by_cases hneg : a < 0
  · have kd : decide (a < 0) = true := by simp; omega
    rw [kd] at kx0
    go_wp2_with fail
    go_loopw [7] (fun i wr => ∃ r R : Nat, i = .float .f64 r ∧ FV r (R : Int) ∧ R < 134217728 ∧ R % 16777213 = A % 16777213 ∧ wr = w) (fun i _ => mF i)
    case atStart =>
      have hA := HA.out
      exact ⟨_, A, rfl, by have := (HX.out).negF (lt53 (by omega) (by omega)); rwa [show -a = (A : Int) by omega] at this, by omega, rfl, rfl⟩
    case round =>
      obtain ⟨r, R, rfl, hr, hR, hRm, hwr⟩ := hrel
      rw [hwr]
      have HRM := Lib.hid hRm
      have kg : (FloatKind.f64.format.order r 4715268808246296576 == some Ordering.gt || FloatKind.f64.format.order r 4715268808246296576 == some Ordering.eq) = decide (16777213 ≤ R) := by
        rw [show FloatKind.f64.format.order r 4715268808246296576 = some (compare (R : Int) 16777213) from hr.ord FV.modulus (lt53 (by omega) (by omega)) (by decide)]
        have e1 := cmp_gt (R : Int) 16777213
        have e2 := cmp_eq (R : Int) 16777213
        have e3 : ∀ o o' : Ordering, (some o == some o') = (o == o') := fun o o' => by cases o <;> cases o' <;> rfl
        rw [e3, e3, e1, e2]
        by_cases h : 16777213 ≤ R
        · simp only [h, decide_true, Bool.or_eq_true, decide_eq_true_eq]; omega
        · simp only [h, decide_false, Bool.or_eq_false_iff, decide_eq_false_iff_not]; omega
      clear hRm
      by_cases hge : 16777213 ≤ R
      · have kd2 : decide (16777213 ≤ R) = true := by simpa using hge
        rw [kd2] at kg
        obtain rfl : r = fE (R : Int) := by
          rcases hr with h | ⟨h, _⟩
          · exact h
          · omega
        have hvR : FV (fE (R : Int)) (R : Int) := .inl rfl
        have hok := modE_ok hge (by simpa using hR)
        obtain ⟨f, hf, hk, hE⟩ := fE_parts (m := R) (by omega) (Nat.lt_trans hR (by decide))
        have KF0 := Frexp_any (by omega) (Nat.lt_trans hR (by decide)) hf hE w
        have ko0 := frac_order (g := 4503598016757760) hf (by decide)
        rw [show 1022 * 2 ^ 52 + 4503598016757760 = 4607182417189404672 by decide] at ko0
        have ko : FloatKind.f64.format.order (1022 * 2 ^ 52 + f) 4607182417189404672 = some (compare f 4503598016757760) := ko0
        clear ko0
        obtain ⟨FR, hFR⟩ : ∃ FR, FR = 1022 * 2 ^ 52 + f := ⟨_, rfl⟩
        rw [← hFR] at KF0 ko
        have hcf : (R <<< (52 - R.log2) < 16777213 <<< 29) ↔ f < 4503598016757760 := by
          rw [hk, show (16777213 <<< 29 : Nat) = 2 ^ 52 + 4503598016757760 by decide]
          exact ⟨Nat.lt_of_add_lt_add_left, fun h => Nat.add_lt_add_left h _⟩
        clear hFR hk hE hf hr
        rcases log_cases hge hR with hl | hl | hl | hl
        · rw [hl, show ((23 : Nat) : Int) + 1 = 24 from rfl] at KF0
          have KF := Lib.hid KF0
          clear KF0
          by_cases hlt : f < 4503598016757760
          · have hcs := hcf.2 hlt
            have := hok.2.2 hcs
            omega
          · have hcs := fun h => hlt (hcf.1 h)
            have kc : (FloatKind.f64.format.order FR 4607182417189404672 == some Ordering.lt) = false := by
              have : compare f 4503598016757760 ≠ .lt := fun e => hlt (Nat.compare_eq_lt.1 e)
              rw [ko]
              simp [this]
            clear ko hcf hlt

            have KL := Lib.hid (ldexp_0 w)
            have hW : FV 4715268808246296576 (16777213 * 2 ^ 0 : Int) := .inl (by decide)
            have hme : 16777213 * 2 ^ 0 ≤ R := by
              have := hok.1
              unfold modE at this
              rw [if_neg hcs, hl] at this
              exact this
            obtain ⟨r2, hs2, hv2⟩ := hvR.sub hW (by omega) (by decide) (lt53 (by omega) (by omega))
            have ks : ∀ t w, (binOp .sub t (.float .f64 (fE (R : Int))) (.float .f64 4715268808246296576)).run Tryz.prog w = .ok (.float .f64 r2) w := fun t w => run_float_arith w .sub t .f64 _ _ _ hs2
            have hR2 : (R : Int) - 16777213 * 2 ^ 0 = ((R - 16777213 * 2 ^ 0 : Nat) : Int) := by omega
            rw [hR2] at hv2
            have HV2 := Lib.hid hv2
            clear hv2 hs2 hok hvR hW hcs
            go_wp2_with fail
            refine KF.out.mono ?_
            rintro e w1 ⟨rfl, hw1⟩
            rw [hw1]
            clear hw1 w1
            go_wp2_with fail
            refine KL.out.mono ?_
            rintro e w1 ⟨rfl, hw1⟩
            rw [hw1]
            clear hw1 w1
            go_wp2_with fail
            go_roundw
            case rel =>
              refine ⟨r2, R - 16777213 * 2 ^ 0, rfl, HV2.out, by omega, ?_, by first | rfl | trivial⟩
              have := HRM.out
              omega
            case measure =>
              rw [mF_eq HV2.out (by omega), mF_eq (.inl rfl) (by omega)]
              omega
        · rw [hl, show ((24 : Nat) : Int) + 1 = 25 from rfl] at KF0
          have KF := Lib.hid KF0
          clear KF0
          by_cases hlt : f < 4503598016757760
          · have hcs := hcf.2 hlt
            have kc : (FloatKind.f64.format.order FR 4607182417189404672 == some Ordering.lt) = true := by rw [ko, Nat.compare_eq_lt.2 hlt]; rfl
            clear ko hcf hlt

            have KL := Lib.hid (ldexp_0 w)
            have hW : FV 4715268808246296576 (16777213 * 2 ^ 0 : Int) := .inl (by decide)
            have hme : 16777213 * 2 ^ 0 ≤ R := by
              have := hok.1
              unfold modE at this
              rw [if_pos hcs, hl] at this
              exact this
            obtain ⟨r2, hs2, hv2⟩ := hvR.sub hW (by omega) (by decide) (lt53 (by omega) (by omega))
            have ks : ∀ t w, (binOp .sub t (.float .f64 (fE (R : Int))) (.float .f64 4715268808246296576)).run Tryz.prog w = .ok (.float .f64 r2) w := fun t w => run_float_arith w .sub t .f64 _ _ _ hs2
            have hR2 : (R : Int) - 16777213 * 2 ^ 0 = ((R - 16777213 * 2 ^ 0 : Nat) : Int) := by omega
            rw [hR2] at hv2
            have HV2 := Lib.hid hv2
            clear hv2 hs2 hok hvR hW hcs
            go_wp2_with fail
            refine KF.out.mono ?_
            rintro e w1 ⟨rfl, hw1⟩
            rw [hw1]
            clear hw1 w1
            go_wp2_with fail
            refine KL.out.mono ?_
            rintro e w1 ⟨rfl, hw1⟩
            rw [hw1]
            clear hw1 w1
            go_wp2_with fail
            go_roundw
            case rel =>
              refine ⟨r2, R - 16777213 * 2 ^ 0, rfl, HV2.out, by omega, ?_, by first | rfl | trivial⟩
              have := HRM.out
              omega
            case measure =>
              rw [mF_eq HV2.out (by omega), mF_eq (.inl rfl) (by omega)]
              omega
          · have hcs := fun h => hlt (hcf.1 h)
            have kc : (FloatKind.f64.format.order FR 4607182417189404672 == some Ordering.lt) = false := by
              have : compare f 4503598016757760 ≠ .lt := fun e => hlt (Nat.compare_eq_lt.1 e)
              rw [ko]
              simp [this]
            clear ko hcf hlt

            have KL := Lib.hid (ldexp_1 w)
            have hW : FV 4719772407873667072 (16777213 * 2 ^ 1 : Int) := .inl (by decide)
            have hme : 16777213 * 2 ^ 1 ≤ R := by
              have := hok.1
              unfold modE at this
              rw [if_neg hcs, hl] at this
              exact this
            obtain ⟨r2, hs2, hv2⟩ := hvR.sub hW (by omega) (by decide) (lt53 (by omega) (by omega))
            have ks : ∀ t w, (binOp .sub t (.float .f64 (fE (R : Int))) (.float .f64 4719772407873667072)).run Tryz.prog w = .ok (.float .f64 r2) w := fun t w => run_float_arith w .sub t .f64 _ _ _ hs2
            have hR2 : (R : Int) - 16777213 * 2 ^ 1 = ((R - 16777213 * 2 ^ 1 : Nat) : Int) := by omega
            rw [hR2] at hv2
            have HV2 := Lib.hid hv2
            clear hv2 hs2 hok hvR hW hcs
            go_wp2_with fail
            refine KF.out.mono ?_
            rintro e w1 ⟨rfl, hw1⟩
            rw [hw1]
            clear hw1 w1
            go_wp2_with fail
            refine KL.out.mono ?_
            rintro e w1 ⟨rfl, hw1⟩
            rw [hw1]
            clear hw1 w1
            go_wp2_with fail
            go_roundw
            case rel =>
              refine ⟨r2, R - 16777213 * 2 ^ 1, rfl, HV2.out, by omega, ?_, by first | rfl | trivial⟩
              have := HRM.out
              omega
            case measure =>
              rw [mF_eq HV2.out (by omega), mF_eq (.inl rfl) (by omega)]
              omega
        · rw [hl, show ((25 : Nat) : Int) + 1 = 26 from rfl] at KF0
          have KF := Lib.hid KF0
          clear KF0
          by_cases hlt : f < 4503598016757760
          · have hcs := hcf.2 hlt
            have kc : (FloatKind.f64.format.order FR 4607182417189404672 == some Ordering.lt) = true := by rw [ko, Nat.compare_eq_lt.2 hlt]; rfl
            clear ko hcf hlt

            have KL := Lib.hid (ldexp_1 w)
            have hW : FV 4719772407873667072 (16777213 * 2 ^ 1 : Int) := .inl (by decide)
            have hme : 16777213 * 2 ^ 1 ≤ R := by
              have := hok.1
              unfold modE at this
              rw [if_pos hcs, hl] at this
              exact this
            obtain ⟨r2, hs2, hv2⟩ := hvR.sub hW (by omega) (by decide) (lt53 (by omega) (by omega))
            have ks : ∀ t w, (binOp .sub t (.float .f64 (fE (R : Int))) (.float .f64 4719772407873667072)).run Tryz.prog w = .ok (.float .f64 r2) w := fun t w => run_float_arith w .sub t .f64 _ _ _ hs2
            have hR2 : (R : Int) - 16777213 * 2 ^ 1 = ((R - 16777213 * 2 ^ 1 : Nat) : Int) := by omega
            rw [hR2] at hv2
            have HV2 := Lib.hid hv2
            clear hv2 hs2 hok hvR hW hcs
            go_wp2_with fail
            refine KF.out.mono ?_
            rintro e w1 ⟨rfl, hw1⟩
            rw [hw1]
            clear hw1 w1
            go_wp2_with fail
            refine KL.out.mono ?_
            rintro e w1 ⟨rfl, hw1⟩
            rw [hw1]
            clear hw1 w1
            go_wp2_with fail
            go_roundw
            case rel =>
              refine ⟨r2, R - 16777213 * 2 ^ 1, rfl, HV2.out, by omega, ?_, by first | rfl | trivial⟩
              have := HRM.out
              omega
            case measure =>
              rw [mF_eq HV2.out (by omega), mF_eq (.inl rfl) (by omega)]
              omega
          · have hcs := fun h => hlt (hcf.1 h)
            have kc : (FloatKind.f64.format.order FR 4607182417189404672 == some Ordering.lt) = false := by
              have : compare f 4503598016757760 ≠ .lt := fun e => hlt (Nat.compare_eq_lt.1 e)
              rw [ko]
              simp [this]
            clear ko hcf hlt

            have KL := Lib.hid (ldexp_2 w)
            have hW : FV 4724276007501037568 (16777213 * 2 ^ 2 : Int) := .inl (by decide)
            have hme : 16777213 * 2 ^ 2 ≤ R := by
              have := hok.1
              unfold modE at this
              rw [if_neg hcs, hl] at this
              exact this
            obtain ⟨r2, hs2, hv2⟩ := hvR.sub hW (by omega) (by decide) (lt53 (by omega) (by omega))
            have ks : ∀ t w, (binOp .sub t (.float .f64 (fE (R : Int))) (.float .f64 4724276007501037568)).run Tryz.prog w = .ok (.float .f64 r2) w := fun t w => run_float_arith w .sub t .f64 _ _ _ hs2
            have hR2 : (R : Int) - 16777213 * 2 ^ 2 = ((R - 16777213 * 2 ^ 2 : Nat) : Int) := by omega
            rw [hR2] at hv2
            have HV2 := Lib.hid hv2
            clear hv2 hs2 hok hvR hW hcs
            go_wp2_with fail
            refine KF.out.mono ?_
            rintro e w1 ⟨rfl, hw1⟩
            rw [hw1]
            clear hw1 w1
            go_wp2_with fail
            refine KL.out.mono ?_
            rintro e w1 ⟨rfl, hw1⟩
            rw [hw1]
            clear hw1 w1
            go_wp2_with fail
            go_roundw
            case rel =>
              refine ⟨r2, R - 16777213 * 2 ^ 2, rfl, HV2.out, by omega, ?_, by first | rfl | trivial⟩
              have := HRM.out
              omega
            case measure =>
              rw [mF_eq HV2.out (by omega), mF_eq (.inl rfl) (by omega)]
              omega
        · rw [hl, show ((26 : Nat) : Int) + 1 = 27 from rfl] at KF0
          have KF := Lib.hid KF0
          clear KF0
          by_cases hlt : f < 4503598016757760
          · have hcs := hcf.2 hlt
            have kc : (FloatKind.f64.format.order FR 4607182417189404672 == some Ordering.lt) = true := by rw [ko, Nat.compare_eq_lt.2 hlt]; rfl
            clear ko hcf hlt

            have KL := Lib.hid (ldexp_2 w)
            have hW : FV 4724276007501037568 (16777213 * 2 ^ 2 : Int) := .inl (by decide)
            have hme : 16777213 * 2 ^ 2 ≤ R := by
              have := hok.1
              unfold modE at this
              rw [if_pos hcs, hl] at this
              exact this
            obtain ⟨r2, hs2, hv2⟩ := hvR.sub hW (by omega) (by decide) (lt53 (by omega) (by omega))
            have ks : ∀ t w, (binOp .sub t (.float .f64 (fE (R : Int))) (.float .f64 4724276007501037568)).run Tryz.prog w = .ok (.float .f64 r2) w := fun t w => run_float_arith w .sub t .f64 _ _ _ hs2
            have hR2 : (R : Int) - 16777213 * 2 ^ 2 = ((R - 16777213 * 2 ^ 2 : Nat) : Int) := by omega
            rw [hR2] at hv2
            have HV2 := Lib.hid hv2
            clear hv2 hs2 hok hvR hW hcs
            go_wp2_with fail
            refine KF.out.mono ?_
            rintro e w1 ⟨rfl, hw1⟩
            rw [hw1]
            clear hw1 w1
            go_wp2_with fail
            refine KL.out.mono ?_
            rintro e w1 ⟨rfl, hw1⟩
            rw [hw1]
            clear hw1 w1
            go_wp2_with fail
            go_roundw
            case rel =>
              refine ⟨r2, R - 16777213 * 2 ^ 2, rfl, HV2.out, by omega, ?_, by first | rfl | trivial⟩
              have := HRM.out
              omega
            case measure =>
              rw [mF_eq HV2.out (by omega), mF_eq (.inl rfl) (by omega)]
              omega
          · have hcs := fun h => hlt (hcf.1 h)
            have kc : (FloatKind.f64.format.order FR 4607182417189404672 == some Ordering.lt) = false := by
              have : compare f 4503598016757760 ≠ .lt := fun e => hlt (Nat.compare_eq_lt.1 e)
              rw [ko]
              simp [this]
            clear ko hcf hlt

            have KL := Lib.hid (ldexp_3 w)
            have hW : FV 4728779607128408064 (16777213 * 2 ^ 3 : Int) := .inl (by decide)
            have hme : 16777213 * 2 ^ 3 ≤ R := by
              have := hok.1
              unfold modE at this
              rw [if_neg hcs, hl] at this
              exact this
            obtain ⟨r2, hs2, hv2⟩ := hvR.sub hW (by omega) (by decide) (lt53 (by omega) (by omega))
            have ks : ∀ t w, (binOp .sub t (.float .f64 (fE (R : Int))) (.float .f64 4728779607128408064)).run Tryz.prog w = .ok (.float .f64 r2) w := fun t w => run_float_arith w .sub t .f64 _ _ _ hs2
            have hR2 : (R : Int) - 16777213 * 2 ^ 3 = ((R - 16777213 * 2 ^ 3 : Nat) : Int) := by omega
            rw [hR2] at hv2
            have HV2 := Lib.hid hv2
            clear hv2 hs2 hok hvR hW hcs
            go_wp2_with fail
            refine KF.out.mono ?_
            rintro e w1 ⟨rfl, hw1⟩
            rw [hw1]
            clear hw1 w1
            go_wp2_with fail
            refine KL.out.mono ?_
            rintro e w1 ⟨rfl, hw1⟩
            rw [hw1]
            clear hw1 w1
            go_wp2_with fail
            go_roundw
            case rel =>
              refine ⟨r2, R - 16777213 * 2 ^ 3, rfl, HV2.out, by omega, ?_, by first | rfl | trivial⟩
              have := HRM.out
              omega
            case measure =>
              rw [mF_eq HV2.out (by omega), mF_eq (.inl rfl) (by omega)]
              omega
      · have kd2 : decide (16777213 ≤ R) = false := by simpa using hge
        rw [kd2] at kg
        have HR := Lib.hid hr
        clear hr
        go_wp2_with fail
        all_goals (go_ret)
        refine ⟨⟨Op.negFloat .f64 r, by simp, ?_⟩, rfl⟩
        have hm := HRM.out
        have hA := HA.out
        have e : a.tmod 16777213 = -(R : Int) := by
          have h3 : (-a).tmod 16777213 = (-a) % 16777213 := Int.tmod_eq_emod_of_nonneg (by omega)
          rw [Int.neg_tmod] at h3
          omega
        rw [e]
        exact HR.out.negF (lt53 (by omega) (by omega))
  · have kd : decide (a < 0) = false := by simp; omega
    rw [kd] at kx0
    go_wp2_with fail
    go_loopw [7] (fun i wr => ∃ r R : Nat, i = .float .f64 r ∧ FV r (R : Int) ∧ R < 134217728 ∧ R % 16777213 = A % 16777213 ∧ wr = w) (fun i _ => mF i)
    case atStart =>
      have hA := HA.out
      exact ⟨_, A, rfl, by have := HX.out; rwa [show a = (A : Int) by omega] at this, by omega, rfl, rfl⟩
    case round =>
      obtain ⟨r, R, rfl, hr, hR, hRm, hwr⟩ := hrel
      rw [hwr]
      have HRM := Lib.hid hRm
      have kg : (FloatKind.f64.format.order r 4715268808246296576 == some Ordering.gt || FloatKind.f64.format.order r 4715268808246296576 == some Ordering.eq) = decide (16777213 ≤ R) := by
        rw [show FloatKind.f64.format.order r 4715268808246296576 = some (compare (R : Int) 16777213) from hr.ord FV.modulus (lt53 (by omega) (by omega)) (by decide)]
        have e1 := cmp_gt (R : Int) 16777213
        have e2 := cmp_eq (R : Int) 16777213
        have e3 : ∀ o o' : Ordering, (some o == some o') = (o == o') := fun o o' => by cases o <;> cases o' <;> rfl
        rw [e3, e3, e1, e2]
        by_cases h : 16777213 ≤ R
        · simp only [h, decide_true, Bool.or_eq_true, decide_eq_true_eq]; omega
        · simp only [h, decide_false, Bool.or_eq_false_iff, decide_eq_false_iff_not]; omega
      clear hRm
      by_cases hge : 16777213 ≤ R
      · have kd2 : decide (16777213 ≤ R) = true := by simpa using hge
        rw [kd2] at kg
        obtain rfl : r = fE (R : Int) := by
          rcases hr with h | ⟨h, _⟩
          · exact h
          · omega
        have hvR : FV (fE (R : Int)) (R : Int) := .inl rfl
        have hok := modE_ok hge (by simpa using hR)
        obtain ⟨f, hf, hk, hE⟩ := fE_parts (m := R) (by omega) (Nat.lt_trans hR (by decide))
        have KF0 := Frexp_any (by omega) (Nat.lt_trans hR (by decide)) hf hE w
        have ko0 := frac_order (g := 4503598016757760) hf (by decide)
        rw [show 1022 * 2 ^ 52 + 4503598016757760 = 4607182417189404672 by decide] at ko0
        have ko : FloatKind.f64.format.order (1022 * 2 ^ 52 + f) 4607182417189404672 = some (compare f 4503598016757760) := ko0
        clear ko0
        obtain ⟨FR, hFR⟩ : ∃ FR, FR = 1022 * 2 ^ 52 + f := ⟨_, rfl⟩
        rw [← hFR] at KF0 ko
        have hcf : (R <<< (52 - R.log2) < 16777213 <<< 29) ↔ f < 4503598016757760 := by
          rw [hk, show (16777213 <<< 29 : Nat) = 2 ^ 52 + 4503598016757760 by decide]
          exact ⟨Nat.lt_of_add_lt_add_left, fun h => Nat.add_lt_add_left h _⟩
        clear hFR hk hE hf hr
        rcases log_cases hge hR with hl | hl | hl | hl
        · rw [hl, show ((23 : Nat) : Int) + 1 = 24 from rfl] at KF0
          have KF := Lib.hid KF0
          clear KF0
          by_cases hlt : f < 4503598016757760
          · have hcs := hcf.2 hlt
            have := hok.2.2 hcs
            omega
          · have hcs := fun h => hlt (hcf.1 h)
            have kc : (FloatKind.f64.format.order FR 4607182417189404672 == some Ordering.lt) = false := by
              have : compare f 4503598016757760 ≠ .lt := fun e => hlt (Nat.compare_eq_lt.1 e)
              rw [ko]
              simp [this]
            clear ko hcf hlt

            have KL := Lib.hid (ldexp_0 w)
            have hW : FV 4715268808246296576 (16777213 * 2 ^ 0 : Int) := .inl (by decide)
            have hme : 16777213 * 2 ^ 0 ≤ R := by
              have := hok.1
              unfold modE at this
              rw [if_neg hcs, hl] at this
              exact this
            obtain ⟨r2, hs2, hv2⟩ := hvR.sub hW (by omega) (by decide) (lt53 (by omega) (by omega))
            have ks : ∀ t w, (binOp .sub t (.float .f64 (fE (R : Int))) (.float .f64 4715268808246296576)).run Tryz.prog w = .ok (.float .f64 r2) w := fun t w => run_float_arith w .sub t .f64 _ _ _ hs2
            have hR2 : (R : Int) - 16777213 * 2 ^ 0 = ((R - 16777213 * 2 ^ 0 : Nat) : Int) := by omega
            rw [hR2] at hv2
            have HV2 := Lib.hid hv2
            clear hv2 hs2 hok hvR hW hcs
            go_wp2_with fail
            refine KF.out.mono ?_
            rintro e w1 ⟨rfl, hw1⟩
            rw [hw1]
            clear hw1 w1
            go_wp2_with fail
            refine KL.out.mono ?_
            rintro e w1 ⟨rfl, hw1⟩
            rw [hw1]
            clear hw1 w1
            go_wp2_with fail
            go_roundw
            case rel =>
              refine ⟨r2, R - 16777213 * 2 ^ 0, rfl, HV2.out, by omega, ?_, by first | rfl | trivial⟩
              have := HRM.out
              omega
            case measure =>
              rw [mF_eq HV2.out (by omega), mF_eq (.inl rfl) (by omega)]
              omega
        · rw [hl, show ((24 : Nat) : Int) + 1 = 25 from rfl] at KF0
          have KF := Lib.hid KF0
          clear KF0
          by_cases hlt : f < 4503598016757760
          · have hcs := hcf.2 hlt
            have kc : (FloatKind.f64.format.order FR 4607182417189404672 == some Ordering.lt) = true := by rw [ko, Nat.compare_eq_lt.2 hlt]; rfl
            clear ko hcf hlt

            have KL := Lib.hid (ldexp_0 w)
            have hW : FV 4715268808246296576 (16777213 * 2 ^ 0 : Int) := .inl (by decide)
            have hme : 16777213 * 2 ^ 0 ≤ R := by
              have := hok.1
              unfold modE at this
              rw [if_pos hcs, hl] at this
              exact this
            obtain ⟨r2, hs2, hv2⟩ := hvR.sub hW (by omega) (by decide) (lt53 (by omega) (by omega))
            have ks : ∀ t w, (binOp .sub t (.float .f64 (fE (R : Int))) (.float .f64 4715268808246296576)).run Tryz.prog w = .ok (.float .f64 r2) w := fun t w => run_float_arith w .sub t .f64 _ _ _ hs2
            have hR2 : (R : Int) - 16777213 * 2 ^ 0 = ((R - 16777213 * 2 ^ 0 : Nat) : Int) := by omega
            rw [hR2] at hv2
            have HV2 := Lib.hid hv2
            clear hv2 hs2 hok hvR hW hcs
            go_wp2_with fail
            refine KF.out.mono ?_
            rintro e w1 ⟨rfl, hw1⟩
            rw [hw1]
            clear hw1 w1
            go_wp2_with fail
            refine KL.out.mono ?_
            rintro e w1 ⟨rfl, hw1⟩
            rw [hw1]
            clear hw1 w1
            go_wp2_with fail
            go_roundw
            case rel =>
              refine ⟨r2, R - 16777213 * 2 ^ 0, rfl, HV2.out, by omega, ?_, by first | rfl | trivial⟩
              have := HRM.out
              omega
            case measure =>
              rw [mF_eq HV2.out (by omega), mF_eq (.inl rfl) (by omega)]
              omega
          · have hcs := fun h => hlt (hcf.1 h)
            have kc : (FloatKind.f64.format.order FR 4607182417189404672 == some Ordering.lt) = false := by
              have : compare f 4503598016757760 ≠ .lt := fun e => hlt (Nat.compare_eq_lt.1 e)
              rw [ko]
              simp [this]
            clear ko hcf hlt

            have KL := Lib.hid (ldexp_1 w)
            have hW : FV 4719772407873667072 (16777213 * 2 ^ 1 : Int) := .inl (by decide)
            have hme : 16777213 * 2 ^ 1 ≤ R := by
              have := hok.1
              unfold modE at this
              rw [if_neg hcs, hl] at this
              exact this
            obtain ⟨r2, hs2, hv2⟩ := hvR.sub hW (by omega) (by decide) (lt53 (by omega) (by omega))
            have ks : ∀ t w, (binOp .sub t (.float .f64 (fE (R : Int))) (.float .f64 4719772407873667072)).run Tryz.prog w = .ok (.float .f64 r2) w := fun t w => run_float_arith w .sub t .f64 _ _ _ hs2
            have hR2 : (R : Int) - 16777213 * 2 ^ 1 = ((R - 16777213 * 2 ^ 1 : Nat) : Int) := by omega
            rw [hR2] at hv2
            have HV2 := Lib.hid hv2
            clear hv2 hs2 hok hvR hW hcs
            go_wp2_with fail
            refine KF.out.mono ?_
            rintro e w1 ⟨rfl, hw1⟩
            rw [hw1]
            clear hw1 w1
            go_wp2_with fail
            refine KL.out.mono ?_
            rintro e w1 ⟨rfl, hw1⟩
            rw [hw1]
            clear hw1 w1
            go_wp2_with fail
            go_roundw
            case rel =>
              refine ⟨r2, R - 16777213 * 2 ^ 1, rfl, HV2.out, by omega, ?_, by first | rfl | trivial⟩
              have := HRM.out
              omega
            case measure =>
              rw [mF_eq HV2.out (by omega), mF_eq (.inl rfl) (by omega)]
              omega
        · rw [hl, show ((25 : Nat) : Int) + 1 = 26 from rfl] at KF0
          have KF := Lib.hid KF0
          clear KF0
          by_cases hlt : f < 4503598016757760
          · have hcs := hcf.2 hlt
            have kc : (FloatKind.f64.format.order FR 4607182417189404672 == some Ordering.lt) = true := by rw [ko, Nat.compare_eq_lt.2 hlt]; rfl
            clear ko hcf hlt

            have KL := Lib.hid (ldexp_1 w)
            have hW : FV 4719772407873667072 (16777213 * 2 ^ 1 : Int) := .inl (by decide)
            have hme : 16777213 * 2 ^ 1 ≤ R := by
              have := hok.1
              unfold modE at this
              rw [if_pos hcs, hl] at this
              exact this
            obtain ⟨r2, hs2, hv2⟩ := hvR.sub hW (by omega) (by decide) (lt53 (by omega) (by omega))
            have ks : ∀ t w, (binOp .sub t (.float .f64 (fE (R : Int))) (.float .f64 4719772407873667072)).run Tryz.prog w = .ok (.float .f64 r2) w := fun t w => run_float_arith w .sub t .f64 _ _ _ hs2
            have hR2 : (R : Int) - 16777213 * 2 ^ 1 = ((R - 16777213 * 2 ^ 1 : Nat) : Int) := by omega
            rw [hR2] at hv2
            have HV2 := Lib.hid hv2
            clear hv2 hs2 hok hvR hW hcs
            go_wp2_with fail
            refine KF.out.mono ?_
            rintro e w1 ⟨rfl, hw1⟩
            rw [hw1]
            clear hw1 w1
            go_wp2_with fail
            refine KL.out.mono ?_
            rintro e w1 ⟨rfl, hw1⟩
            rw [hw1]
            clear hw1 w1
            go_wp2_with fail
            go_roundw
            case rel =>
              refine ⟨r2, R - 16777213 * 2 ^ 1, rfl, HV2.out, by omega, ?_, by first | rfl | trivial⟩
              have := HRM.out
              omega
            case measure =>
              rw [mF_eq HV2.out (by omega), mF_eq (.inl rfl) (by omega)]
              omega
          · have hcs := fun h => hlt (hcf.1 h)
            have kc : (FloatKind.f64.format.order FR 4607182417189404672 == some Ordering.lt) = false := by
              have : compare f 4503598016757760 ≠ .lt := fun e => hlt (Nat.compare_eq_lt.1 e)
              rw [ko]
              simp [this]
            clear ko hcf hlt

            have KL := Lib.hid (ldexp_2 w)
            have hW : FV 4724276007501037568 (16777213 * 2 ^ 2 : Int) := .inl (by decide)
            have hme : 16777213 * 2 ^ 2 ≤ R := by
              have := hok.1
              unfold modE at this
              rw [if_neg hcs, hl] at this
              exact this
            obtain ⟨r2, hs2, hv2⟩ := hvR.sub hW (by omega) (by decide) (lt53 (by omega) (by omega))
            have ks : ∀ t w, (binOp .sub t (.float .f64 (fE (R : Int))) (.float .f64 4724276007501037568)).run Tryz.prog w = .ok (.float .f64 r2) w := fun t w => run_float_arith w .sub t .f64 _ _ _ hs2
            have hR2 : (R : Int) - 16777213 * 2 ^ 2 = ((R - 16777213 * 2 ^ 2 : Nat) : Int) := by omega
            rw [hR2] at hv2
            have HV2 := Lib.hid hv2
            clear hv2 hs2 hok hvR hW hcs
            go_wp2_with fail
            refine KF.out.mono ?_
            rintro e w1 ⟨rfl, hw1⟩
            rw [hw1]
            clear hw1 w1
            go_wp2_with fail
            refine KL.out.mono ?_
            rintro e w1 ⟨rfl, hw1⟩
            rw [hw1]
            clear hw1 w1
            go_wp2_with fail
            go_roundw
            case rel =>
              refine ⟨r2, R - 16777213 * 2 ^ 2, rfl, HV2.out, by omega, ?_, by first | rfl | trivial⟩
              have := HRM.out
              omega
            case measure =>
              rw [mF_eq HV2.out (by omega), mF_eq (.inl rfl) (by omega)]
              omega
        · rw [hl, show ((26 : Nat) : Int) + 1 = 27 from rfl] at KF0
          have KF := Lib.hid KF0
          clear KF0
          by_cases hlt : f < 4503598016757760
          · have hcs := hcf.2 hlt
            have kc : (FloatKind.f64.format.order FR 4607182417189404672 == some Ordering.lt) = true := by rw [ko, Nat.compare_eq_lt.2 hlt]; rfl
            clear ko hcf hlt

            have KL := Lib.hid (ldexp_2 w)
            have hW : FV 4724276007501037568 (16777213 * 2 ^ 2 : Int) := .inl (by decide)
            have hme : 16777213 * 2 ^ 2 ≤ R := by
              have := hok.1
              unfold modE at this
              rw [if_pos hcs, hl] at this
              exact this
            obtain ⟨r2, hs2, hv2⟩ := hvR.sub hW (by omega) (by decide) (lt53 (by omega) (by omega))
            have ks : ∀ t w, (binOp .sub t (.float .f64 (fE (R : Int))) (.float .f64 4724276007501037568)).run Tryz.prog w = .ok (.float .f64 r2) w := fun t w => run_float_arith w .sub t .f64 _ _ _ hs2
            have hR2 : (R : Int) - 16777213 * 2 ^ 2 = ((R - 16777213 * 2 ^ 2 : Nat) : Int) := by omega
            rw [hR2] at hv2
            have HV2 := Lib.hid hv2
            clear hv2 hs2 hok hvR hW hcs
            go_wp2_with fail
            refine KF.out.mono ?_
            rintro e w1 ⟨rfl, hw1⟩
            rw [hw1]
            clear hw1 w1
            go_wp2_with fail
            refine KL.out.mono ?_
            rintro e w1 ⟨rfl, hw1⟩
            rw [hw1]
            clear hw1 w1
            go_wp2_with fail
            go_roundw
            case rel =>
              refine ⟨r2, R - 16777213 * 2 ^ 2, rfl, HV2.out, by omega, ?_, by first | rfl | trivial⟩
              have := HRM.out
              omega
            case measure =>
              rw [mF_eq HV2.out (by omega), mF_eq (.inl rfl) (by omega)]
              omega
          · have hcs := fun h => hlt (hcf.1 h)
            have kc : (FloatKind.f64.format.order FR 4607182417189404672 == some Ordering.lt) = false := by
              have : compare f 4503598016757760 ≠ .lt := fun e => hlt (Nat.compare_eq_lt.1 e)
              rw [ko]
              simp [this]
            clear ko hcf hlt

            have KL := Lib.hid (ldexp_3 w)
            have hW : FV 4728779607128408064 (16777213 * 2 ^ 3 : Int) := .inl (by decide)
            have hme : 16777213 * 2 ^ 3 ≤ R := by
              have := hok.1
              unfold modE at this
              rw [if_neg hcs, hl] at this
              exact this
            obtain ⟨r2, hs2, hv2⟩ := hvR.sub hW (by omega) (by decide) (lt53 (by omega) (by omega))
            have ks : ∀ t w, (binOp .sub t (.float .f64 (fE (R : Int))) (.float .f64 4728779607128408064)).run Tryz.prog w = .ok (.float .f64 r2) w := fun t w => run_float_arith w .sub t .f64 _ _ _ hs2
            have hR2 : (R : Int) - 16777213 * 2 ^ 3 = ((R - 16777213 * 2 ^ 3 : Nat) : Int) := by omega
            rw [hR2] at hv2
            have HV2 := Lib.hid hv2
            clear hv2 hs2 hok hvR hW hcs
            go_wp2_with fail
            refine KF.out.mono ?_
            rintro e w1 ⟨rfl, hw1⟩
            rw [hw1]
            clear hw1 w1
            go_wp2_with fail
            refine KL.out.mono ?_
            rintro e w1 ⟨rfl, hw1⟩
            rw [hw1]
            clear hw1 w1
            go_wp2_with fail
            go_roundw
            case rel =>
              refine ⟨r2, R - 16777213 * 2 ^ 3, rfl, HV2.out, by omega, ?_, by first | rfl | trivial⟩
              have := HRM.out
              omega
            case measure =>
              rw [mF_eq HV2.out (by omega), mF_eq (.inl rfl) (by omega)]
              omega
      · have kd2 : decide (16777213 ≤ R) = false := by simpa using hge
        rw [kd2] at kg
        have HR := Lib.hid hr
        clear hr
        go_wp2_with fail
        all_goals (go_ret)
        refine ⟨⟨r, by simp, ?_⟩, rfl⟩
        have hm := HRM.out
        have hA := HA.out
        have e : a.tmod 16777213 = (R : Int) := by
          rw [Int.tmod_eq_emod_of_nonneg (by omega)]
          omega
        rw [e]
        exact HR.out

set_option maxRecDepth 20000 in
theorem Mod_any {x : Nat} {a : Int} (hx : FV x a) (h1 : -134217728 < a) (h2 : a < 134217728) (w : World) :
    Calls Tryz.prog 66 #[.float .f64 x, .float .f64 4715268808246296576] w fun e w' => (∃ r, e = .returned (.float .f64 r) ∧ FV r (a.tmod 16777213)) ∧ w' = w := by
  have KF := Lib.hid (mod_any hx h1 h2 w)
  clear hx h1 h2
  go_enter Tryz.func66, Tryz.ntmps66
  go_wp2_with fail
  refine KF.out.mono ?_
  rintro e w1 ⟨⟨r, rfl, hr⟩, rfl⟩
  go_wp2_with fail
  all_goals (go_ret; exact ⟨⟨r, by simp, hr⟩, rfl⟩)
set_option maxRecDepth 20000 in
theorem taken_any {x : Nat} {a : Int} (hx : FV x a) (h1 : -134217728 < a) (h2 : a < 134217728) (w : World) :
    Calls Tryz.prog 43 #[.float .f64 x] w fun e w' => (∃ r, e = .returned (.float .f64 r) ∧ FV r (a % 16777213)) ∧ w' = w := by
  have KF := Lib.hid (Mod_any hx h1 h2 w)
  have hm1 := Int.tmod_lt_of_pos a (b := 16777213) (by decide)
  have hm2 : -16777213 < a.tmod 16777213 := by
    have := Int.tmod_lt_of_pos (-a) (b := 16777213) (by decide)
    rw [Int.neg_tmod] at this
    omega
  have he : a % 16777213 = if a.tmod 16777213 < 0 then a.tmod 16777213 + 16777213 else a.tmod 16777213 := by
    have h3 := Int.mul_tdiv_add_tmod a 16777213
    split <;> omega
  generalize a.tmod 16777213 = m at *
  clear hx h1 h2
  go_enter Tryz.func43, Tryz.ntmps43
  go_wp2_with fail
  refine KF.out.mono ?_
  rintro e w1 ⟨⟨r, rfl, hr⟩, rfl⟩
  have k0 : (FloatKind.f64.format.order r 0 == some Ordering.lt) = decide (m < 0) := by
    rw [show FloatKind.f64.format.order r 0 = some (compare m 0) from hr.ord FV.pz (lt53 (by omega) (by omega)) (by decide)]
    exact cmp_lt m 0
  clear KF
  by_cases hneg : m < 0
  · obtain ⟨r2, hs2, hv2⟩ := hr.add FV.modulus (lt53 (by omega) (by omega)) (by decide) (lt53 (by omega) (by omega))
    have ks : ∀ t w, (binOp .add t (.float .f64 r) (.float .f64 4715268808246296576)).run Tryz.prog w = .ok (.float .f64 r2) w := fun t w => run_float_arith w .add t .f64 _ _ _ hs2
    rw [if_pos hneg] at he
    rw [show decide (m < 0) = true by simpa using hneg] at k0
    clear hr hs2
    go_wp2_with fail
    all_goals (go_ret)
    refine ⟨⟨r2, by simp, ?_⟩, rfl⟩
    rw [he]
    exact hv2
  · rw [if_neg hneg] at he
    rw [show decide (m < 0) = false by simpa using hneg] at k0
    go_wp2_with fail
    all_goals (go_ret)
    refine ⟨⟨r, by simp, ?_⟩, rfl⟩
    rw [he]
    exact hr
end Go.Proofs.YtnbpmlbhigchnaaGreatDoor
