/- What the model's operations on floats and complex numbers answer where the parts are whole numbers. Conditions stand with each. -/
import Derived.Test.YtnbpmlbhigchnaaGreatDoorCx
namespace Go.Proofs.YtnbpmlbhigchnaaGreatDoor
open Go Ieee

section
variable {P : Program} {x y : Nat} {o : Ordering}
theorem run_cmp_o (h : FloatKind.f64.format.order x y = some o) (t : TypeId) (w : World) :
    (binOp .lss t (.float .f64 x) (.float .f64 y)).run P w = .ok (.bool (o == .lt)) w ∧
    (binOp .gtr t (.float .f64 x) (.float .f64 y)).run P w = .ok (.bool (o == .gt)) w ∧
    (binOp .geq t (.float .f64 x) (.float .f64 y)).run P w = .ok (.bool (o == .gt || o == .eq)) w ∧
    (binOp .leq t (.float .f64 x) (.float .f64 y)).run P w = .ok (.bool (o == .lt || o == .eq)) w ∧
    (binOp .eql t (.float .f64 x) (.float .f64 y)).run P w = .ok (.bool (o == .eq)) w ∧
    (binOp .neq t (.float .f64 x) (.float .f64 y)).run P w = .ok (.bool (o != .eq)) w := by
  refine ⟨?_, ?_, ?_, ?_, ?_, ?_⟩ <;> cases o <;> first | (simp [binOp, Op.floatCmp, h]; done) | (simp [binOp, Op.floatCmp, h]; rfl)
variable {a b : Int}
theorem cmp_lt (a b : Int) : (compare a b == Ordering.lt) = decide (a < b) := by
  by_cases h : a < b
  · rw [Int.compare_eq_lt.2 h]; simp [h]
  · have : compare a b ≠ .lt := fun e => h (Int.compare_eq_lt.1 e)
    simp [h, this]
theorem cmp_eq (a b : Int) : (compare a b == Ordering.eq) = decide (a = b) := by
  by_cases h : a = b
  · subst h; simp
  · have : compare a b ≠ .eq := fun e => h (Int.compare_eq_eq.1 e)
    simp [h, this]
theorem cmp_gt (a b : Int) : (compare a b == Ordering.gt) = decide (b < a) := by
  by_cases h : b < a
  · rw [Int.compare_eq_gt.2 h]; simp [h]
  · have : compare a b ≠ .gt := fun e => h (Int.compare_eq_gt.1 e)
    simp [h, this]
theorem FV.lss (hx : FV x a) (hy : FV y b) (ha : a.natAbs < 2 ^ 53) (hb : b.natAbs < 2 ^ 53) (t : TypeId) (w : World) : (binOp .lss t (.float .f64 x) (.float .f64 y)).run P w = .ok (.bool (decide (a < b))) w := by
  rw [(run_cmp_o (hx.order hy ha hb) t w).1, cmp_lt]
theorem FV.geq (hx : FV x a) (hy : FV y b) (ha : a.natAbs < 2 ^ 53) (hb : b.natAbs < 2 ^ 53) (t : TypeId) (w : World) : (binOp .geq t (.float .f64 x) (.float .f64 y)).run P w = .ok (.bool (decide (b ≤ a))) w := by
  rw [(run_cmp_o (hx.order hy ha hb) t w).2.2.1, cmp_gt, cmp_eq]
  have : (decide (b < a) || decide (a = b)) = decide (b ≤ a) := by
    by_cases h : b ≤ a
    · simp only [h, decide_true, Bool.or_eq_true, decide_eq_true_eq]; omega
    · simp only [h, decide_false, Bool.or_eq_false_iff, decide_eq_false_iff_not]; omega
  rw [this]
theorem FV.eql (hx : FV x a) (hy : FV y b) (ha : a.natAbs < 2 ^ 53) (hb : b.natAbs < 2 ^ 53) (t : TypeId) (w : World) : (binOp .eql t (.float .f64 x) (.float .f64 y)).run P w = .ok (.bool (decide (a = b))) w := by
  rw [(run_cmp_o (hx.order hy ha hb) t w).2.2.2.2.1, cmp_eq]
theorem FV.neq (hx : FV x a) (hy : FV y b) (ha : a.natAbs < 2 ^ 53) (hb : b.natAbs < 2 ^ 53) (t : TypeId) (w : World) : (binOp .neq t (.float .f64 x) (.float .f64 y)).run P w = .ok (.bool (!decide (a = b))) w := by
  rw [(run_cmp_o (hx.order hy ha hb) t w).2.2.2.2.2, bne, cmp_eq]
theorem FV.gtMax (hx : FV x a) (ha : a.natAbs < 2 ^ 53) (t : TypeId) (w : World) : (binOp .gtr t (.float .f64 x) (.float .f64 9218868437227405311)).run P w = .ok (.bool false) w :=
  (run_cmp_o (o := .lt) (order_max hx ha) t w).2.1
theorem FV.ltNormal (h0 : 0 < a) (ha : a.natAbs < 2 ^ 53) (t : TypeId) (w : World) : (binOp .lss t (.float .f64 (fE a)) (.float .f64 4503599627370496)).run P w = .ok (.bool false) w :=
  (run_cmp_o (o := .gt) (order_normal h0 ha) t w).1
theorem FV.negF (hx : FV x a) (ha : a.natAbs < 2 ^ 53) : FV (Op.negFloat .f64 x) (-a) := hx.neg ha
end
end Go.Proofs.YtnbpmlbhigchnaaGreatDoor
