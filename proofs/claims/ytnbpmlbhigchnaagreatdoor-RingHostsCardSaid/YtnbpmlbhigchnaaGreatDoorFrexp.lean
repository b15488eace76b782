/- math.Frexp at positive whole numbers; math.Ldexp of the modulus. Conditions stand with each. -/
import Derived.Test.YtnbpmlbhigchnaaGreatDoorMod
namespace Go.Proofs.YtnbpmlbhigchnaaGreatDoor
open Go.RowKit Ieee

set_option maxRecDepth 20000 in
theorem frexp_core (E f FR L : Nat) (w : World) (hL : L ≤ 52) (k0 : (FloatKind.f64.format.order E 0 == some Ordering.eq) = false) (KI : Hid (Calls Tryz.prog 87 #[.float .f64 E, .int .i64 0] w fun e w' => e = .returned (.bool false) ∧ w' = w))
    (KN : Hid (Calls Tryz.prog 88 #[.float .f64 E] w fun e w' => e = .returned (.bool false) ∧ w' = w)) (KZ : Hid (Calls Tryz.prog 101 #[.float .f64 E] w fun e w' => e = .returned (.tuple #[.float .f64 E, .int .i64 0]) ∧ w' = w))
    (k2 : bits .and .u64 ((E : Int) / 4503599627370496) 2047 = (L : Int) + 1023) (k4 : bits .andNot .u64 (E : Int) 9218868437227405312 = (f : Int)) (k5 : bits .or .u64 (f : Int) 4602678819172646912 = (FR : Int)) :
    Calls Tryz.prog 98 #[.float .f64 E] w fun e w' => e = .returned (.tuple #[.float .f64 FR, .int .i64 ((L : Int) + 1)]) ∧ w' = w := by
  have b1 := bitsOf_any E
  have b2 := ofBits_any
  have g1 : IntKind.i64.wrap ((L : Int) + 1023) = (L : Int) + 1023 := IntWalk.i64_in _ (by omega)
  have g2 : IntKind.i64.wrap (L : Int) = (L : Int) := IntWalk.i64_in _ (by omega)
  have g3 : IntKind.i64.wrap ((L : Int) + 1) = (L : Int) + 1 := IntWalk.i64_in _ (by omega)
  go_enter Tryz.func98, Tryz.ntmps98
  go_wp2_with fail
  refine KI.out.mono ?_
  rintro e w1 ⟨rfl, rfl⟩
  go_wp2_with fail
  refine KN.out.mono ?_
  rintro e w1 ⟨rfl, rfl⟩
  go_wp2_with fail
  refine KZ.out.mono ?_
  rintro e w1 ⟨rfl, rfl⟩
  go_wp2_with fail
  all_goals (go_ret2; exact ⟨by simp, rfl⟩)
set_option maxRecDepth 20000 in
theorem Frexp_core (E FR L : Nat) (w : World) (KF : Hid (Calls Tryz.prog 98 #[.float .f64 E] w fun e w' => e = .returned (.tuple #[.float .f64 FR, .int .i64 ((L : Int) + 1)]) ∧ w' = w)) :
    Calls Tryz.prog 91 #[.float .f64 E] w fun e w' => e = .returned (.tuple #[.float .f64 FR, .int .i64 ((L : Int) + 1)]) ∧ w' = w := by
  go_enter Tryz.func91, Tryz.ntmps91
  go_wp2_with fail
  refine KF.out.mono ?_
  rintro e w1 ⟨rfl, rfl⟩
  go_wp2_with fail
  all_goals (go_ret2; exact ⟨by simp, rfl⟩)
/-- Frexp of a positive whole number -/
theorem Frexp_any {m f : Nat} (h : m ≠ 0) (hm : m < 2 ^ 53) (hf : f < 2 ^ 52) (hE : fE (m : Int) = (m.log2 + 1023) * 2 ^ 52 + f) (w : World) :
    Calls Tryz.prog 91 #[.float .f64 (fE (m : Int))] w fun e w' => e = .returned (.tuple #[.float .f64 (1022 * 2 ^ 52 + f), .int .i64 ((m.log2 : Int) + 1)]) ∧ w' = w := by
  have hL := log2_lt53 hm
  have hv : FV (fE (m : Int)) (m : Int) := .inl rfl
  have hma : (m : Int).natAbs < 2 ^ 53 := by simpa using hm
  have hlt : fE (m : Int) < 2 ^ 63 := by
    rw [hE]
    have h1 : (m.log2 + 1023) * 2 ^ 52 ≤ 1075 * 2 ^ 52 := Nat.mul_le_mul_right _ (by omega)
    have h2 : 1075 * 2 ^ 52 + 2 ^ 52 < 2 ^ 63 := by simp
    exact Nat.lt_trans (Nat.add_lt_add_of_le_of_lt h1 hf) h2
  have he : m.log2 + 1023 < 2 ^ 11 := by
    have : (2 : Nat) ^ 11 = 2048 := by decide
    omega
  refine Frexp_core _ _ _ w (Lib.hid (frexp_core (fE (m : Int)) f _ m.log2 w hL ?_ (Lib.hid (isInf_any hv hma w)) (Lib.hid (isNaN_any hv hma w)) (Lib.hid (normalize_any (by omega) hma w)) ?_ ?_ ?_))
  · rw [show FloatKind.f64.format.order (fE (m : Int)) 0 = some (compare (m : Int) 0) from hv.ord FV.pz hma (by decide)]
    have : compare (m : Int) 0 ≠ .eq := fun e => by have := Int.compare_eq_eq.1 e; omega
    simp [this]
  · have := exp_bits (m.log2 + 1023) f hf he
    rw [← hE] at this
    have e1 : ((fE (m : Int) / 2 ^ 52 : Nat) : Int) = (fE (m : Int) : Int) / 4503599627370496 := by simp
    rw [e1] at this
    rw [this]
    simp
  · rw [frac_bits _ hlt, hE, Nat.mul_add_mod_self_right, Nat.mod_eq_of_lt hf]
  · have := or_bits f 1022 hf (by decide)
    simpa using this

set_option maxRecDepth 20000 in
theorem ldexp0_0 (w : World) : Calls Tryz.prog 100 #[.float .f64 4715268808246296576, .int .i64 0] w fun e w' => e = .returned (.float .f64 4715268808246296576) ∧ w' = w := by
  have hv : FV 4715268808246296576 16777213 := FV.modulus
  have hma : (16777213 : Int).natAbs < 2 ^ 53 := by decide
  have KI := Lib.hid (isInf_any hv hma w)
  have KN := Lib.hid (isNaN_any hv hma w)
  have KZ := normalize_any (n := 16777213) (by decide) hma w
  rw [show fE 16777213 = 4715268808246296576 by decide] at KZ
  have KZ := Lib.hid KZ
  have k0 : (FloatKind.f64.format.order 4715268808246296576 0 == some Ordering.eq) = false := by decide
  have b1 := bitsOf_any 4715268808246296576
  have b2 := ofBits_any
  have k2 : bits .and .i64 1046 2047 = 1046 := by kernel_rfl
  have k4 : bits .andNot .u64 4715268808246296576 9218868437227405312 = 4503598016757760 := by kernel_rfl
  have k5 : bits .or .u64 4503598016757760 4710765210229538816 = 4715268808246296576 := by kernel_rfl
  have k6 : ∀ t w, (binOp .mul t (.float .f64 4607182418800017408) (.float .f64 4715268808246296576)).run Tryz.prog w = .ok (.float .f64 4715268808246296576) w := fun t w => run_float_arith w .mul t .f64 _ _ _ (by kernel_rfl)
  clear hv hma
  go_enter Tryz.func100, Tryz.ntmps100
  go_wp2_with fail
  refine KI.out.mono ?_
  rintro e w1 ⟨rfl, rfl⟩
  go_wp2_with fail
  refine KN.out.mono ?_
  rintro e w1 ⟨rfl, rfl⟩
  go_wp2_with fail
  refine KZ.out.mono ?_
  rintro e w1 ⟨rfl, rfl⟩
  go_wp2_with fail
  all_goals (go_ret; exact ⟨by simp, rfl⟩)
set_option maxRecDepth 20000 in
theorem ldexp_0 (w : World) : Calls Tryz.prog 92 #[.float .f64 4715268808246296576, .int .i64 0] w fun e w' => e = .returned (.float .f64 4715268808246296576) ∧ w' = w := by
  have KF := Lib.hid (ldexp0_0 w)
  go_enter Tryz.func92, Tryz.ntmps92
  go_wp2_with fail
  refine KF.out.mono ?_
  rintro e w1 ⟨rfl, rfl⟩
  go_wp2_with fail
  all_goals (go_ret; exact ⟨by simp, rfl⟩)

set_option maxRecDepth 20000 in
theorem ldexp0_1 (w : World) : Calls Tryz.prog 100 #[.float .f64 4715268808246296576, .int .i64 1] w fun e w' => e = .returned (.float .f64 4719772407873667072) ∧ w' = w := by
  have hv : FV 4715268808246296576 16777213 := FV.modulus
  have hma : (16777213 : Int).natAbs < 2 ^ 53 := by decide
  have KI := Lib.hid (isInf_any hv hma w)
  have KN := Lib.hid (isNaN_any hv hma w)
  have KZ := normalize_any (n := 16777213) (by decide) hma w
  rw [show fE 16777213 = 4715268808246296576 by decide] at KZ
  have KZ := Lib.hid KZ
  have k0 : (FloatKind.f64.format.order 4715268808246296576 0 == some Ordering.eq) = false := by decide
  have b1 := bitsOf_any 4715268808246296576
  have b2 := ofBits_any
  have k2 : bits .and .i64 1046 2047 = 1046 := by kernel_rfl
  have k4 : bits .andNot .u64 4715268808246296576 9218868437227405312 = 4503598016757760 := by kernel_rfl
  have k5 : bits .or .u64 4503598016757760 4715268809856909312 = 4719772407873667072 := by kernel_rfl
  have k6 : ∀ t w, (binOp .mul t (.float .f64 4607182418800017408) (.float .f64 4719772407873667072)).run Tryz.prog w = .ok (.float .f64 4719772407873667072) w := fun t w => run_float_arith w .mul t .f64 _ _ _ (by kernel_rfl)
  clear hv hma
  go_enter Tryz.func100, Tryz.ntmps100
  go_wp2_with fail
  refine KI.out.mono ?_
  rintro e w1 ⟨rfl, rfl⟩
  go_wp2_with fail
  refine KN.out.mono ?_
  rintro e w1 ⟨rfl, rfl⟩
  go_wp2_with fail
  refine KZ.out.mono ?_
  rintro e w1 ⟨rfl, rfl⟩
  go_wp2_with fail
  all_goals (go_ret; exact ⟨by simp, rfl⟩)
set_option maxRecDepth 20000 in
theorem ldexp_1 (w : World) : Calls Tryz.prog 92 #[.float .f64 4715268808246296576, .int .i64 1] w fun e w' => e = .returned (.float .f64 4719772407873667072) ∧ w' = w := by
  have KF := Lib.hid (ldexp0_1 w)
  go_enter Tryz.func92, Tryz.ntmps92
  go_wp2_with fail
  refine KF.out.mono ?_
  rintro e w1 ⟨rfl, rfl⟩
  go_wp2_with fail
  all_goals (go_ret; exact ⟨by simp, rfl⟩)

set_option maxRecDepth 20000 in
theorem ldexp0_2 (w : World) : Calls Tryz.prog 100 #[.float .f64 4715268808246296576, .int .i64 2] w fun e w' => e = .returned (.float .f64 4724276007501037568) ∧ w' = w := by
  have hv : FV 4715268808246296576 16777213 := FV.modulus
  have hma : (16777213 : Int).natAbs < 2 ^ 53 := by decide
  have KI := Lib.hid (isInf_any hv hma w)
  have KN := Lib.hid (isNaN_any hv hma w)
  have KZ := normalize_any (n := 16777213) (by decide) hma w
  rw [show fE 16777213 = 4715268808246296576 by decide] at KZ
  have KZ := Lib.hid KZ
  have k0 : (FloatKind.f64.format.order 4715268808246296576 0 == some Ordering.eq) = false := by decide
  have b1 := bitsOf_any 4715268808246296576
  have b2 := ofBits_any
  have k2 : bits .and .i64 1046 2047 = 1046 := by kernel_rfl
  have k4 : bits .andNot .u64 4715268808246296576 9218868437227405312 = 4503598016757760 := by kernel_rfl
  have k5 : bits .or .u64 4503598016757760 4719772409484279808 = 4724276007501037568 := by kernel_rfl
  have k6 : ∀ t w, (binOp .mul t (.float .f64 4607182418800017408) (.float .f64 4724276007501037568)).run Tryz.prog w = .ok (.float .f64 4724276007501037568) w := fun t w => run_float_arith w .mul t .f64 _ _ _ (by kernel_rfl)
  clear hv hma
  go_enter Tryz.func100, Tryz.ntmps100
  go_wp2_with fail
  refine KI.out.mono ?_
  rintro e w1 ⟨rfl, rfl⟩
  go_wp2_with fail
  refine KN.out.mono ?_
  rintro e w1 ⟨rfl, rfl⟩
  go_wp2_with fail
  refine KZ.out.mono ?_
  rintro e w1 ⟨rfl, rfl⟩
  go_wp2_with fail
  all_goals (go_ret; exact ⟨by simp, rfl⟩)
set_option maxRecDepth 20000 in
theorem ldexp_2 (w : World) : Calls Tryz.prog 92 #[.float .f64 4715268808246296576, .int .i64 2] w fun e w' => e = .returned (.float .f64 4724276007501037568) ∧ w' = w := by
  have KF := Lib.hid (ldexp0_2 w)
  go_enter Tryz.func92, Tryz.ntmps92
  go_wp2_with fail
  refine KF.out.mono ?_
  rintro e w1 ⟨rfl, rfl⟩
  go_wp2_with fail
  all_goals (go_ret; exact ⟨by simp, rfl⟩)

set_option maxRecDepth 20000 in
theorem ldexp0_3 (w : World) : Calls Tryz.prog 100 #[.float .f64 4715268808246296576, .int .i64 3] w fun e w' => e = .returned (.float .f64 4728779607128408064) ∧ w' = w := by
  have hv : FV 4715268808246296576 16777213 := FV.modulus
  have hma : (16777213 : Int).natAbs < 2 ^ 53 := by decide
  have KI := Lib.hid (isInf_any hv hma w)
  have KN := Lib.hid (isNaN_any hv hma w)
  have KZ := normalize_any (n := 16777213) (by decide) hma w
  rw [show fE 16777213 = 4715268808246296576 by decide] at KZ
  have KZ := Lib.hid KZ
  have k0 : (FloatKind.f64.format.order 4715268808246296576 0 == some Ordering.eq) = false := by decide
  have b1 := bitsOf_any 4715268808246296576
  have b2 := ofBits_any
  have k2 : bits .and .i64 1046 2047 = 1046 := by kernel_rfl
  have k4 : bits .andNot .u64 4715268808246296576 9218868437227405312 = 4503598016757760 := by kernel_rfl
  have k5 : bits .or .u64 4503598016757760 4724276009111650304 = 4728779607128408064 := by kernel_rfl
  have k6 : ∀ t w, (binOp .mul t (.float .f64 4607182418800017408) (.float .f64 4728779607128408064)).run Tryz.prog w = .ok (.float .f64 4728779607128408064) w := fun t w => run_float_arith w .mul t .f64 _ _ _ (by kernel_rfl)
  clear hv hma
  go_enter Tryz.func100, Tryz.ntmps100
  go_wp2_with fail
  refine KI.out.mono ?_
  rintro e w1 ⟨rfl, rfl⟩
  go_wp2_with fail
  refine KN.out.mono ?_
  rintro e w1 ⟨rfl, rfl⟩
  go_wp2_with fail
  refine KZ.out.mono ?_
  rintro e w1 ⟨rfl, rfl⟩
  go_wp2_with fail
  all_goals (go_ret; exact ⟨by simp, rfl⟩)
set_option maxRecDepth 20000 in
theorem ldexp_3 (w : World) : Calls Tryz.prog 92 #[.float .f64 4715268808246296576, .int .i64 3] w fun e w' => e = .returned (.float .f64 4728779607128408064) ∧ w' = w := by
  have KF := Lib.hid (ldexp0_3 w)
  go_enter Tryz.func92, Tryz.ntmps92
  go_wp2_with fail
  refine KF.out.mono ?_
  rintro e w1 ⟨rfl, rfl⟩
  go_wp2_with fail
  all_goals (go_ret; exact ⟨by simp, rfl⟩)
end Go.Proofs.YtnbpmlbhigchnaaGreatDoor
