/- A point's step in complex numbers: the product and the sum that it is made of are exact; what comparisons of such floats answer. Conditions: the parts are whole and small. -/
import Derived.Test.YtnbpmlbhigchnaaGreatDoorBit
namespace Go.Proofs.YtnbpmlbhigchnaaGreatDoor
open Go Ieee

theorem lt53 {n : Int} (h : -9007199254740992 < n) (h2 : n < 9007199254740992) : n.natAbs < 2 ^ 53 := by
  have : (2 : Nat) ^ 53 = 9007199254740992 := by decide
  rw [this]
  omega
theorem FV.three : FV 4613937818241073152 3 := .inl (by decide)
theorem FV.two : FV 4611686018427387904 2 := .inl (by decide)
theorem FV.oneF : FV 4607182418800017408 1 := .inl (by decide)
theorem FV.pz : FV 0 0 := .inl (by decide)
theorem FV.modulus : FV 4715268808246296576 16777213 := .inl (by decide)
section
variable {x y : Nat} {a b : Int}
/-- z times the turn -/
theorem mul_turn (hx : FV x a) (hy : FV y b) (ha : -67108864 < a) (ha2 : a < 67108864) (hb : -67108864 < b) (hb2 : b < 67108864) :
    ∃ re im, cMulBits x y 4613937818241073152 4611686018427387904 = some (re, im) ∧ FV re (3 * a - 2 * b) ∧ FV im (2 * a + 3 * b) := by
  obtain ⟨r1, e1, h1⟩ := hx.mul FV.three (lt53 (by omega) (by omega)) (by decide) (lt53 (by omega) (by omega))
  obtain ⟨r2, e2, h2⟩ := hy.mul FV.two (lt53 (by omega) (by omega)) (by decide) (lt53 (by omega) (by omega))
  obtain ⟨r3, e3, h3⟩ := h1.sub h2 (lt53 (by omega) (by omega)) (lt53 (by omega) (by omega)) (lt53 (by omega) (by omega))
  obtain ⟨r4, e4, h4⟩ := hx.mul FV.two (lt53 (by omega) (by omega)) (by decide) (lt53 (by omega) (by omega))
  obtain ⟨r5, e5, h5⟩ := hy.mul FV.three (lt53 (by omega) (by omega)) (by decide) (lt53 (by omega) (by omega))
  obtain ⟨r6, e6, h6⟩ := h4.add h5 (lt53 (by omega) (by omega)) (lt53 (by omega) (by omega)) (lt53 (by omega) (by omega))
  refine ⟨r3, r6, by simp only [cMulBits, e1, e2, e3, e4, e5, e6, Option.bind_some], ?_, ?_⟩
  · rwa [show 3 * a - 2 * b = a * 3 - b * 2 by omega]
  · rwa [show 2 * a + 3 * b = a * 2 + b * 3 by omega]
/-- a byte and one more -/
theorem sum_byte {u v : Nat} {c d : Int} (hx : FV x a) (hy : FV y b) (hu : FV u c) (hv : FV v d) (ha : -1000000000 < a) (ha2 : a < 1000000000) (hb : -1000000000 < b) (hb2 : b < 1000000000)
    (hc : -1000000000 < c) (hc2 : c < 1000000000) (hd : -1000000000 < d) (hd2 : d < 1000000000) : ∃ re im, cSumBits .add .f64 x y u v = some (re, im) ∧ FV re (a + c) ∧ FV im (b + d) := by
  obtain ⟨r1, e1, h1⟩ := hx.add hu (lt53 (by omega) (by omega)) (lt53 (by omega) (by omega)) (lt53 (by omega) (by omega))
  obtain ⟨r2, e2, h2⟩ := hy.add hv (lt53 (by omega) (by omega)) (lt53 (by omega) (by omega)) (lt53 (by omega) (by omega))
  exact ⟨r1, r2, by simp only [cSumBits, e1, e2, Option.bind_some], h1, h2⟩
end
theorem xor_sign (r : Nat) (h : r < 2 ^ 63) : r ^^^ 2 ^ 63 = 2 ^ 63 + r := by
  have h1 : r ^^^ 2 ^ 63 = 2 ^ 63 ||| r := by
    refine Nat.eq_of_testBit_eq fun i => ?_
    rw [Nat.testBit_xor, Nat.testBit_or, Nat.testBit_two_pow]
    by_cases hi : 63 = i
    · subst hi
      rw [Nat.testBit_lt_two_pow h]
      simp
    · simp [hi]
  rw [h1, nat_join 63 _ _ (by simp) h]
theorem xor_sign' (r : Nat) (h : r < 2 ^ 63) : (2 ^ 63 + r) ^^^ 2 ^ 63 = r := by
  rw [← xor_sign r h, Nat.xor_assoc, Nat.xor_self, Nat.xor_zero]
/-- the sign turned -/
theorem FV.neg {x : Nat} {a : Int} (hx : FV x a) (ha : a.natAbs < 2 ^ 53) : FV (x ^^^ 2 ^ 63) (-a) := by
  by_cases h0 : a = 0
  · subst h0
    rcases hx with rfl | ⟨_, rfl⟩
    · exact .inr ⟨rfl, by rw [fE_zero]; decide⟩
    · exact .inl (by decide)
  · rcases hx with rfl | ⟨e, _⟩
    · left
      have hn : (-a).natAbs = a.natAbs := by omega
      rw [fE_pos h0 ha, fE_pos (n := -a) (by omega) (by rwa [hn]), hn]
      have hr : (a.natAbs.log2 + 1022) * 2 ^ 52 + a.natAbs <<< (52 - a.natAbs.log2) < 2 ^ 63 := by
        have hL := log2_lt53 ha
        have hk := kept_hi a.natAbs ha
        have h1 : (a.natAbs.log2 + 1022) * 2 ^ 52 ≤ 1074 * 2 ^ 52 := Nat.mul_le_mul_right _ (by omega)
        have h2 : 1074 * 2 ^ 52 + 2 ^ 53 < 2 ^ 63 := by simp
        exact Nat.lt_trans (Nat.add_lt_add_of_le_of_lt h1 hk) h2
      generalize (a.natAbs.log2 + 1022) * 2 ^ 52 + a.natAbs <<< (52 - a.natAbs.log2) = r at *
      have hsw : double.signWeight = 2 ^ 63 := rfl
      unfold Format.word
      rw [hsw]
      by_cases hneg : a < 0
      · have h2 : ¬ -a < 0 := by omega
        simp only [hneg, h2, decide_true, decide_false, if_true, Bool.false_eq_true, if_false]
        exact xor_sign' r hr
      · have h2 : -a < 0 := by omega
        simp only [hneg, h2, decide_true, decide_false, if_true, Bool.false_eq_true, if_false]
        exact xor_sign r hr
    · exact absurd e h0
/-- what the model's comparisons of floats answer -/
theorem FV.eqF {x y : Nat} {a b : Int} (hx : FV x a) (hy : FV y b) (ha : a.natAbs < 2 ^ 53) (hb : b.natAbs < 2 ^ 53) : Go.Op.floatEq .f64 x y = decide (a = b) := by
  unfold Go.Op.floatEq
  have : FloatKind.f64.format.order x y = some (compare a b) := hx.order hy ha hb
  rw [this]
  by_cases h : a = b
  · subst h; simp
  · have : compare a b ≠ .eq := fun e => h (Int.compare_eq_eq.1 e)
    simp [h, this]
end Go.Proofs.YtnbpmlbhigchnaaGreatDoor
