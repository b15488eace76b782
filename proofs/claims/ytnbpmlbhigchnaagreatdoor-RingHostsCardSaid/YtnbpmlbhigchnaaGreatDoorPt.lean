/- The points of texts as pairs of whole numbers: their steps, bounds and order; and how a remainder is found by taking shifted multiples away. No condition. -/
import Derived.Test.YtnbpmlbhigchnaaGreatDoorFlt
namespace Go.Proofs.YtnbpmlbhigchnaaGreatDoor
open Go Ieee

/-- both parts' modulus -/
abbrev pM : Int := 16777213
def stepZ (z : Int × Int) (b : Nat) : Int × Int := ((3 * z.1 - 2 * z.2 + b) % pM, (2 * z.1 + 3 * z.2 + 1) % pM)
def pointZ (s : List UInt8) : Int × Int := (s ++ [0, 0, 0]).foldl (fun (z : Int × Int) (b : UInt8) => stepZ z b.toNat) (1, 0)
def InZ (z : Int × Int) : Prop := 0 ≤ z.1 ∧ z.1 < pM ∧ 0 ≤ z.2 ∧ z.2 < pM
theorem InZ.step (z : Int × Int) (b : Nat) : InZ (stepZ z b) := by
  unfold InZ stepZ
  refine ⟨Int.emod_nonneg _ (by decide), Int.emod_lt_of_pos _ (by decide), Int.emod_nonneg _ (by decide), Int.emod_lt_of_pos _ (by decide)⟩
theorem InZ.fold (l : List UInt8) (z : Int × Int) (h : InZ z) : InZ (l.foldl (fun (z : Int × Int) (b : UInt8) => stepZ z b.toNat) z) := by
  induction l generalizing z with
  | nil => exact h
  | cons b l ih => exact ih _ (InZ.step z b.toNat)
theorem InZ.one : InZ (1, 0) := by unfold InZ; decide
theorem InZ.point (s : List UInt8) : InZ (pointZ s) := InZ.fold _ _ InZ.one
/-- the order of points -/
def befZ (a b : Int × Int) : Bool := decide (a.1 < b.1) || (decide (a.1 = b.1) && decide (a.2 < b.2))

/-- a positive whole number's word, by parts -/
theorem fE_parts {m : Nat} (h : m ≠ 0) (hm : m < 2 ^ 53) : ∃ f, f < 2 ^ 52 ∧ m <<< (52 - m.log2) = 2 ^ 52 + f ∧ fE (m : Int) = (m.log2 + 1023) * 2 ^ 52 + f := by
  have hlo := kept_lo m h hm
  have hhi := kept_hi m hm
  obtain ⟨f, hf⟩ : ∃ f, m <<< (52 - m.log2) = 2 ^ 52 + f := ⟨_, (Nat.add_sub_cancel' hlo).symm⟩
  have hf2 : f < 2 ^ 52 := by
    rw [hf, show (2 : Nat) ^ 53 = 2 ^ 52 + 2 ^ 52 by simp] at hhi
    exact Nat.lt_of_add_lt_add_left hhi
  refine ⟨f, hf2, hf, ?_⟩
  have := fE_pos (n := (m : Int)) (by omega) (by simpa using hm)
  rw [this]
  have e1 : (m : Int).natAbs = m := rfl
  have e2 : decide ((m : Int) < 0) = false := by simp
  rw [e1, e2, hf, ← Nat.add_assoc, show m.log2 + 1023 = m.log2 + 1022 + 1 by omega, Nat.add_mul (m.log2 + 1022) 1, Nat.one_mul]
  rfl
/-- how two fractions' words stand to each other -/
theorem frac_order {f g : Nat} (hf : f < 2 ^ 52) (hg : g < 2 ^ 52) : double.order (1022 * 2 ^ 52 + f) (1022 * 2 ^ 52 + g) = some (compare f g) := by
  have e1 := read_rung false 1022 f (by decide) (by decide) hf
  have e2 := read_rung false 1022 g (by decide) (by decide) hg
  have w1 : ∀ x, double.word false x = x := fun _ => rfl
  rw [w1] at e1 e2
  unfold Format.order
  rw [e1, e2]
  unfold Datum.order
  simp only [Int.min_self, Int.sub_self, Int.toNat_zero]
  congr 1
  simp only [signed, Nat.shiftLeft_zero, Bool.false_eq_true, if_false]
  rw [Int.compare_eq_ite_lt, Nat.compare_eq_ite_lt]
  have a1 : (((2 ^ 52 + f : Nat) : Int) < ((2 ^ 52 + g : Nat) : Int)) ↔ f < g := by
    rw [Int.ofNat_lt]
    exact ⟨Nat.lt_of_add_lt_add_left, fun h => Nat.add_lt_add_left h _⟩
  have a2 : (((2 ^ 52 + g : Nat) : Int) < ((2 ^ 52 + f : Nat) : Int)) ↔ g < f := by
    rw [Int.ofNat_lt]
    exact ⟨Nat.lt_of_add_lt_add_left, fun h => Nat.add_lt_add_left h _⟩
  simp only [a1, a2]

/-- one round of the remainder: the multiple that is taken away -/
def modE (r : Nat) : Nat := if r <<< (52 - r.log2) < 16777213 <<< 29 then r.log2 - 24 else r.log2 - 23
theorem log_range {r : Nat} (h : 16777213 ≤ r) (h2 : r < 2 ^ 27) : 23 ≤ r.log2 ∧ r.log2 ≤ 26 := by
  have h0 : r ≠ 0 := by omega
  constructor
  · exact (Nat.le_log2 h0).2 (by omega)
  · have := (Nat.log2_lt h0).2 h2
    omega
theorem modE_ok {r : Nat} (h : 16777213 ≤ r) (h2 : r < 2 ^ 27) : 16777213 * 2 ^ modE r ≤ r ∧ modE r ≤ 3 ∧ (r <<< (52 - r.log2) < 16777213 <<< 29 → 24 ≤ r.log2) := by
  obtain ⟨l1, l2⟩ := log_range h h2
  have hs := Nat.log2_self_le (n := r) (by omega)
  have hl : r.log2 = 23 ∨ r.log2 = 24 ∨ r.log2 = 25 ∨ r.log2 = 26 := by omega
  unfold modE
  simp only [Nat.shiftLeft_eq]
  rcases hl with e | e | e | e <;> rw [e] at hs ⊢ <;> split <;> rename_i hc <;> simp at hs hc ⊢ <;> omega
end Go.Proofs.YtnbpmlbhigchnaaGreatDoor
