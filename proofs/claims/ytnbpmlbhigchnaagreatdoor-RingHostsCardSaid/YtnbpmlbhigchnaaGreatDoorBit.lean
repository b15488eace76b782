/- The bits of words of whole numbers: the sign struck, the exponent read, struck and laid. Conditions stand with each. -/
import Derived.Test.YtnbpmlbhigchnaaGreatDoorPt
import Derived.Laws.BitsAllLaws
namespace Go.Proofs.YtnbpmlbhigchnaaGreatDoor
open Go Ieee

theorem and_low (b k : Nat) : b &&& (2 ^ k - 1) = b % 2 ^ k := Nat.and_two_pow_sub_one_eq_mod b k
/-- the sign struck -/
theorem abs_bits (b : Nat) (h : b < 2 ^ 64) : bits .andNot .u64 (b : Int) 9223372036854775808 = ((b % 2 ^ 63 : Nat) : Int) := by
  have := u64_andNot_nat b 9223372036854775808 h (by decide)
  rw [show ((9223372036854775808 : Nat) : Int) = 9223372036854775808 from rfl] at this
  rw [this, ← and_low b 63]
theorem and_field (b : Nat) (h : b < 2 ^ 63) : b &&& (18446744073709551615 - 9218868437227405312) = b % 2 ^ 52 := by
  have e : (18446744073709551615 - 9218868437227405312 : Nat) = 2 ^ 63 ||| (2 ^ 52 - 1) := by decide
  rw [e, Nat.and_or_distrib_left, and_low, nat_bit, Nat.div_eq_of_lt h]
  simp
/-- the exponent struck -/
theorem frac_bits (b : Nat) (h : b < 2 ^ 63) : bits .andNot .u64 (b : Int) 9218868437227405312 = ((b % 2 ^ 52 : Nat) : Int) := by
  have := u64_andNot_nat b 9218868437227405312 (by omega) (by decide)
  rw [show ((9218868437227405312 : Nat) : Int) = 9218868437227405312 from rfl] at this
  rw [this, and_field b h]
/-- an exponent laid -/
theorem or_bits (f e : Nat) (h : f < 2 ^ 52) (he : e < 2 ^ 11) : bits .or .u64 (f : Int) ((e * 2 ^ 52 : Nat) : Int) = ((e * 2 ^ 52 + f : Nat) : Int) := by
  have hb : e * 2 ^ 52 < 18446744073709551616 := by omega
  rw [u64_or_nat f (e * 2 ^ 52) (by omega) hb, Nat.or_comm, nat_join 52 _ _ (by rw [Nat.mul_mod_left]) h]
/-- an exponent read -/
theorem exp_bits (e f : Nat) (h : f < 2 ^ 52) (he : e < 2 ^ 11) : bits .and .u64 (((e * 2 ^ 52 + f) / 2 ^ 52 : Nat) : Int) 2047 = (e : Int) := by
  have h1 : (e * 2 ^ 52 + f) / 2 ^ 52 = e := by rw [Nat.mul_comm, Nat.mul_add_div (by decide), Nat.div_eq_of_lt h, Nat.add_zero]
  have := u64_and_nat e 2047 (by omega) (by decide)
  rw [show ((2047 : Nat) : Int) = 2047 from rfl] at this
  rw [h1, this, show (2047 : Nat) = 2 ^ 11 - 1 from rfl, and_low, Nat.mod_eq_of_lt he]
theorem two_le_pow (k : Nat) : (2 : Int) ≤ 2 ^ (k + 1) := by
  rw [Int.pow_succ]
  have := two_pos k
  omega
theorem big_lt_pow (k : Nat) : (4503599627370496 : Int) < 2 ^ (53 + k) := by
  rw [Int.pow_add]
  have := two_pos k
  have h : (2 : Int) ^ 53 = 9007199254740992 := by decide
  rw [h]
  omega
theorem fE_lt (n : Int) : fE n < 2 ^ 64 := Format.nearest_lt double _ _ _
theorem FV.lt {b : Nat} {n : Int} (h : FV b n) : b < 2 ^ 64 := by
  rcases h with rfl | ⟨_, rfl⟩
  · exact fE_lt n
  · decide
/-- the word without its sign is that of the size -/
theorem FV.abs {b : Nat} {n : Int} (h : FV b n) (hn : n.natAbs < 2 ^ 53) : b % 2 ^ 63 = fE (n.natAbs : Int) := by
  by_cases h0 : n = 0
  · subst h0
    have : fE ((0 : Int).natAbs : Int) = 0 := by decide
    rw [this]
    rcases h with rfl | ⟨_, rfl⟩ <;> decide
  · rcases h with rfl | ⟨e, _⟩
    · have hm : n.natAbs ≠ 0 := by omega
      obtain ⟨f, hf, hk, hE⟩ := fE_parts hm hn
      have hL := log2_lt53 hn
      rw [hE, fE_pos h0 hn, hk, ← Nat.add_assoc, show (n.natAbs.log2 + 1022) * 2 ^ 52 + 2 ^ 52 = (n.natAbs.log2 + 1023) * 2 ^ 52 by rw [show n.natAbs.log2 + 1023 = n.natAbs.log2 + 1022 + 1 by omega, Nat.add_mul (n.natAbs.log2 + 1022) 1, Nat.one_mul]]
      generalize n.natAbs.log2 = L at *
      have hlt : (L + 1023) * 2 ^ 52 + f < 2 ^ 63 := by
        have h1 : (L + 1023) * 2 ^ 52 ≤ 1075 * 2 ^ 52 := Nat.mul_le_mul_right _ (by omega)
        have h2 : 1075 * 2 ^ 52 + 2 ^ 52 < 2 ^ 63 := by simp
        exact Nat.lt_trans (Nat.add_lt_add_of_le_of_lt h1 hf) h2
      unfold Format.word
      have hsw : double.signWeight = 2 ^ 63 := rfl
      rw [hsw]
      split
      · rw [Nat.add_mod_left, Nat.mod_eq_of_lt hlt]
      · exact Nat.mod_eq_of_lt hlt
    · exact absurd e h0
/-- a whole number's word against the greatest -/
theorem order_max {b : Nat} {n : Int} (h : FV b n) (hn : n.natAbs < 2 ^ 53) : double.order b 9218868437227405311 = some .lt := by
  have hr : double.read 9218868437227405311 = Datum.number false 9007199254740991 971 := by decide
  obtain ⟨s, m, k, e1, e2⟩ := Rp.read h hn
  unfold Format.order
  rw [hr, e1]
  unfold Datum.order
  have em : min (-(k : Int)) 971 = -((k : Nat) : Int) := by omega
  simp only [em, Int.sub_self, Int.toNat_zero, e2]
  have e3 : ((971 : Int) - -(k : Int)).toNat = 971 + k := by omega
  rw [e3]
  congr 1
  rw [Int.compare_eq_lt]
  simp only [signed, Bool.false_eq_true, if_false, Nat.shiftLeft_eq]
  have hk := two_pos k
  have h1 : (n : Int) < 9007199254740991 * 2 ^ 971 := by
    have : (n : Int) < 9007199254740992 := by
      have : n.natAbs < 9007199254740992 := hn
      omega
    have h2 : (9007199254740991 * 2 : Int) ≤ 9007199254740991 * 2 ^ 971 := by
      refine Int.mul_le_mul_of_nonneg_left ?_ (by decide)
      exact two_le_pow 970
    omega
  have h3 := Int.mul_lt_mul_of_pos_right h1 hk
  rw [Int.mul_assoc, ← Int.pow_add] at h3
  simpa using h3
/-- .. and against the least normal number -/
theorem order_normal {n : Int} (h0 : 0 < n) (hn : n.natAbs < 2 ^ 53) : double.order (fE n) 4503599627370496 = some .gt := by
  have hr : double.read 4503599627370496 = Datum.number false 4503599627370496 (-1074) := by decide
  obtain ⟨s, m, k, e1, e2⟩ := Rp.read (.inl rfl : FV (fE n) n) hn
  unfold Format.order
  rw [hr, e1]
  unfold Datum.order
  have em : min (-(k : Int)) (-1074) = -((max k 1074 : Nat) : Int) := by omega
  simp only [em]
  rw [shift_up e2 (Nat.le_max_left k 1074)]
  have e3 : ((-1074 : Int) - -((max k 1074 : Nat) : Int)).toNat = max k 1074 - 1074 := by omega
  rw [e3]
  congr 1
  rw [Int.compare_eq_gt]
  simp only [signed, Bool.false_eq_true, if_false, Nat.shiftLeft_eq]
  obtain ⟨M, hM⟩ : ∃ M, max k 1074 = M + 1074 := ⟨max k 1074 - 1074, by omega⟩
  rw [hM, Nat.add_sub_cancel, Int.pow_add]
  have hp := two_pos M
  have h1 : ((4503599627370496 * 2 ^ M : Nat) : Int) = 4503599627370496 * 2 ^ M := by simp
  rw [h1]
  have h2 : (4503599627370496 : Int) < n * 2 ^ 1074 := by
    have h3 : (4503599627370496 : Int) < 2 ^ 1074 := big_lt_pow 1021
    have h4 : (1 : Int) * 2 ^ 1074 ≤ n * 2 ^ 1074 := Int.mul_le_mul_of_nonneg_right (by omega) (Int.le_of_lt (two_pos 1074))
    rw [Int.one_mul] at h4
    exact Int.lt_of_lt_of_le h3 h4
  have h5 := Int.mul_lt_mul_of_pos_right h2 hp
  rw [Int.mul_assoc] at h5
  rwa [Int.mul_comm (2 ^ M)]
end Go.Proofs.YtnbpmlbhigchnaaGreatDoor
