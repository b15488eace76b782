/- math's functions at whole numbers: IsNaN, Abs, IsInf, normalize, Frexp. Conditions stand with each. -/
import Derived.Test.YtnbpmlbhigchnaaGreatDoorBase
import Derived.Test.YtnbpmlbhigchnaaGreatDoorFop
import Derived.Laws.Externs
namespace Go.Proofs.YtnbpmlbhigchnaaGreatDoor
open Go.RowKit Ieee

section
variable {x : Nat} {a : Int}
theorem FV.ord {y : Nat} {b : Int} (hx : FV x a) (hy : FV y b) (ha : a.natAbs < 2 ^ 53) (hb : b.natAbs < 2 ^ 53) : FloatKind.f64.format.order x y = some (compare a b) := hx.order hy ha hb
theorem FV.self (hx : FV x a) (ha : a.natAbs < 2 ^ 53) : FloatKind.f64.format.order x x = some .eq := by rw [hx.ord hx ha ha]; simp
theorem bitsOf_any (x : Nat) (w : World) : (callFunc 96 #[.float .f64 x]).run Tryz.prog w = .ok (.value (.int .u64 x)) w := by
  rw [run_callFunc_extern (e := Extern.MathFloatBits.float64bits) Tryz.func96 (by kernel_rfl) (by kernel_rfl) (by kernel_rfl) (by kernel_rfl)]
  rfl
theorem ofBits_any (x : Int) (w : World) : (callFunc 95 #[.int .u64 x]).run Tryz.prog w = .ok (.value (.float .f64 x.toNat)) w := by
  rw [run_callFunc_extern (e := Extern.MathFloatBits.float64frombits) Tryz.func95 (by kernel_rfl) (by kernel_rfl) (by kernel_rfl) (by kernel_rfl)]
  rfl
set_option maxRecDepth 20000 in
theorem isNaN_any (hx : FV x a) (ha : a.natAbs < 2 ^ 53) (w : World) : Calls Tryz.prog 88 #[.float .f64 x] w fun e w' => e = .returned (.bool false) ∧ w' = w := by
  have k1 : (FloatKind.f64.format.order x x != some Ordering.eq) = false := by rw [hx.self ha]; rfl
  clear hx ha
  go_enter Tryz.func88, Tryz.ntmps88
  go_wp2
  all_goals (go_ret; exact ⟨rfl, rfl⟩)
set_option maxRecDepth 20000 in
theorem abs_any (hx : FV x a) (ha : a.natAbs < 2 ^ 53) (w : World) : Calls Tryz.prog 90 #[.float .f64 x] w fun e w' => e = .returned (.float .f64 (fE (a.natAbs : Int))) ∧ w' = w := by
  have k1 : bits .andNot .u64 (x : Int) 9223372036854775808 = ((fE (a.natAbs : Int) : Nat) : Int) := by rw [abs_bits x hx.lt, hx.abs ha]
  have b1 := bitsOf_any x
  have b2 := ofBits_any
  clear hx ha
  go_enter Tryz.func90, Tryz.ntmps90
  go_wp2
  all_goals (go_ret; exact ⟨by simp, rfl⟩)
set_option maxRecDepth 20000 in
theorem isInf_any (hx : FV x a) (ha : a.natAbs < 2 ^ 53) (w : World) : Calls Tryz.prog 87 #[.float .f64 x, .int .i64 0] w fun e w' => e = .returned (.bool false) ∧ w' = w := by
  have k1 : (FloatKind.f64.format.order (fE (a.natAbs : Int)) 9218868437227405311 == some Ordering.gt) = false := by
    rw [show FloatKind.f64.format.order (fE (a.natAbs : Int)) 9218868437227405311 = some .lt from order_max (.inl rfl) ha]
    rfl
  have KA := Lib.hid (abs_any hx ha w)
  clear hx ha
  go_enter Tryz.func87, Tryz.ntmps87
  go_wp2_with fail
  refine KA.out.mono ?_
  rintro e w1 ⟨rfl, rfl⟩
  go_wp2_with fail
  all_goals (go_ret; exact ⟨rfl, rfl⟩)
set_option maxRecDepth 20000 in
theorem normalize_any {n : Int} (h0 : 0 < n) (hn : n.natAbs < 2 ^ 53) (w : World) : Calls Tryz.prog 101 #[.float .f64 (fE n)] w fun e w' => e = .returned (.tuple #[.float .f64 (fE n), .int .i64 0]) ∧ w' = w := by
  have e0 : (n.natAbs : Int) = n := by omega
  have k1 : (FloatKind.f64.format.order (fE n) 4503599627370496 == some Ordering.lt) = false := by
    rw [show FloatKind.f64.format.order (fE n) 4503599627370496 = some .gt from order_normal h0 hn]
    rfl
  have KA := abs_any (.inl rfl : FV (fE n) n) hn w
  rw [e0] at KA
  have KA := Lib.hid KA
  clear h0 hn e0
  go_enter Tryz.func101, Tryz.ntmps101
  go_wp2_with fail
  refine KA.out.mono ?_
  rintro e w1 ⟨rfl, rfl⟩
  go_wp2_with fail
  all_goals (go_ret2; exact ⟨rfl, rfl⟩)
end
end Go.Proofs.YtnbpmlbhigchnaaGreatDoor
