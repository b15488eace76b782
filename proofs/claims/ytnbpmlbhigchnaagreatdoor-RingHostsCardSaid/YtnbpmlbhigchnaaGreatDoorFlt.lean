/- Floats that are whole numbers: what the words are, and that sums, differences, products and comparisons of such are exact. Condition: below 2^53 in size. -/
import Derived.Laws.FloatArith
import Derived.Laws.ComplexArith
namespace Go.Proofs.YtnbpmlbhigchnaaGreatDoor
open Go Ieee

/-- the word of a whole number -/
def fE (n : Int) : Nat := double.nearest (n < 0) n.natAbs 0
/-- this word is that whole number (a zero has two) -/
def FV (b : Nat) (n : Int) : Prop := b = fE n ∨ (n = 0 ∧ b = 2 ^ 63)
/-- this datum is that whole number -/
def Rp (d : Datum) (n : Int) : Prop := ∃ (neg : Bool) (m k : Nat), d = .number neg m (-(k : Int)) ∧ signed neg m 0 = n * 2 ^ k

theorem log2_lt53 {m : Nat} (h : m < 2 ^ 53) : m.log2 ≤ 52 := by
  by_cases h0 : m = 0
  · subst h0; decide
  · have := (Nat.log2_lt h0).2 h; omega
theorem cut_exact (neg : Bool) (n d : Nat) (h : d ≤ (n <<< d).log2) : Toward.even.cut neg (n <<< d) d = n := by
  unfold Toward.cut
  have hm : min d ((n <<< d).log2 + 2) = d := by omega
  rw [hm]
  have h1 : (1 <<< d : Nat) = 2 ^ d := by rw [Nat.shiftLeft_eq, Nat.one_mul]
  have hp : 0 < 2 ^ d := Nat.pow_pos (by decide)
  simp only [h1, Nat.shiftLeft_eq, Nat.mul_mod_left, Nat.mul_div_cancel _ hp]
  simp
theorem log2_shift (m s : Nat) (h : m ≠ 0) : (m <<< s).log2 = m.log2 + s := by
  have hp : 0 < 2 ^ s := Nat.pow_pos (by decide)
  rw [Nat.shiftLeft_eq]
  have h' : m * 2 ^ s ≠ 0 := Nat.mul_ne_zero h (by omega)
  have h1 := Nat.log2_self_le h
  have h2 := Nat.lt_log2_self (n := m)
  refine Nat.le_antisymm (Nat.le_of_lt_succ ((Nat.log2_lt h').2 ?_)) ((Nat.le_log2 h').2 ?_)
  · rw [show (m.log2 + s).succ = (m.log2 + 1) + s by omega, Nat.pow_add]
    exact Nat.mul_lt_mul_of_pos_right h2 hp
  · rw [Nat.pow_add]
    exact Nat.mul_le_mul_right _ h1

/-- the rung of a positive whole number -/
theorem nearest_eq (neg : Bool) (m s : Nat) (h : m ≠ 0) (hm : m < 2 ^ 53) :
    double.nearest neg (m <<< s) (-(s : Int)) = double.word neg ((m.log2 + 1022) * 2 ^ 52 + m <<< (52 - m.log2)) := by
  have hL := log2_lt53 hm
  have hms : m <<< s ≠ 0 := by rw [Nat.shiftLeft_eq]; exact Nat.mul_ne_zero h (Nat.pos_iff_ne_zero.1 (Nat.pow_pos (by decide)))
  unfold Format.nearest
  rw [if_neg hms]
  simp only [log2_shift _ _ h]
  have hlp : double.leastPlace = -1074 := by decide
  have hfb : double.fractionBits = 52 := rfl
  have hlast : max (-(s : Int) + ((m.log2 + s : Nat) : Int) - (double.fractionBits : Nat)) double.leastPlace = (m.log2 : Int) - 52 := by
    rw [hlp, hfb]; omega
  rw [hlast, hlp]
  have hk : Toward.even.cut neg ((m <<< s) <<< (-(s : Int) - ((m.log2 : Int) - 52)).toNat) ((m.log2 : Int) - 52 - -(s : Int)).toNat = m <<< (52 - m.log2) := by
    by_cases hs : s ≤ 52 - m.log2
    · have e1 : (-(s : Int) - ((m.log2 : Int) - 52)).toNat = 52 - m.log2 - s := by omega
      have e2 : ((m.log2 : Int) - 52 - -(s : Int)).toNat = 0 := by omega
      rw [e1, e2, ← Nat.shiftLeft_add, show s + (52 - m.log2 - s) = 52 - m.log2 by omega]
      have := cut_exact neg (m <<< (52 - m.log2)) 0 (Nat.zero_le _)
      simpa using this
    · have e1 : (-(s : Int) - ((m.log2 : Int) - 52)).toNat = 0 := by omega
      have e2 : ((m.log2 : Int) - 52 - -(s : Int)).toNat = s - (52 - m.log2) := by omega
      rw [e1, e2]
      have e3 : m <<< s = (m <<< (52 - m.log2)) <<< (s - (52 - m.log2)) := by rw [← Nat.shiftLeft_add]; congr 1; omega
      simp only [Nat.shiftLeft_zero]
      rw [e3]
      refine cut_exact neg _ _ ?_
      rw [← e3, log2_shift _ _ h]
      omega
  rw [hk]
  have hr : ((m.log2 : Int) - 52 - -1074).toNat = m.log2 + 1022 := by omega
  rw [hr]
  have hb : double.binade = 2 ^ 52 := rfl
  have hi : double.infRung = 2047 * 2 ^ 52 := rfl
  rw [hb, hi]
  congr 1
  refine Nat.min_eq_left ?_
  have : m <<< (52 - m.log2) < 2 ^ 53 := by
    rw [Nat.shiftLeft_eq]
    have h1 := Nat.lt_log2_self (n := m)
    calc m * 2 ^ (52 - m.log2) < 2 ^ (m.log2 + 1) * 2 ^ (52 - m.log2) := Nat.mul_lt_mul_of_pos_right h1 (Nat.pow_pos (by decide))
      _ = 2 ^ 53 := by rw [← Nat.pow_add]; congr 1; omega
  have h2 : (m.log2 + 1022) * 2 ^ 52 ≤ (52 + 1022) * 2 ^ 52 := Nat.mul_le_mul_right _ (by omega)
  have h3 : (52 + 1022) * 2 ^ 52 + 2 ^ 53 ≤ 2047 * 2 ^ 52 := by simp
  exact Nat.le_trans (Nat.add_le_add h2 (Nat.le_of_lt this)) h3
theorem kept_lo (m : Nat) (h : m ≠ 0) (hm : m < 2 ^ 53) : 2 ^ 52 ≤ m <<< (52 - m.log2) := by
  rw [Nat.shiftLeft_eq]
  have h1 := Nat.log2_self_le h
  have hL := log2_lt53 hm
  calc 2 ^ 52 = 2 ^ m.log2 * 2 ^ (52 - m.log2) := by rw [← Nat.pow_add]; congr 1; omega
    _ ≤ m * 2 ^ (52 - m.log2) := Nat.mul_le_mul_right _ h1
theorem kept_hi (m : Nat) (hm : m < 2 ^ 53) : m <<< (52 - m.log2) < 2 ^ 53 := by
  rw [Nat.shiftLeft_eq]
  have h1 := Nat.lt_log2_self (n := m)
  have hL := log2_lt53 hm
  calc m * 2 ^ (52 - m.log2) < 2 ^ (m.log2 + 1) * 2 ^ (52 - m.log2) := Nat.mul_lt_mul_of_pos_right h1 (Nat.pow_pos (by decide))
    _ = 2 ^ 53 := by rw [← Nat.pow_add]; congr 1; omega

/-- what a rung of a normal number reads as -/
theorem read_rung (neg : Bool) (e f : Nat) (he : 1 ≤ e) (he2 : e < 2047) (hf : f < 2 ^ 52) :
    double.read (double.word neg (e * 2 ^ 52 + f)) = Datum.number neg (2 ^ 52 + f) (-1074 + ((e - 1 : Nat) : Int)) := by
  have hlt : e * 2 ^ 52 + f < 2 ^ 63 := by
    have : e * 2 ^ 52 ≤ 2046 * 2 ^ 52 := Nat.mul_le_mul_right _ (by omega)
    have h3 : 2046 * 2 ^ 52 + 2 ^ 52 < 2 ^ 63 := by simp
    exact Nat.lt_trans (Nat.add_lt_add_of_le_of_lt this hf) h3
  have hsw : double.signWeight = 2 ^ 63 := rfl
  have hb : double.binade = 2 ^ 52 := rfl
  have hi : double.infRung = 2047 * 2 ^ 52 := rfl
  have hlp : double.leastPlace = -1074 := by decide
  have hw : double.word neg (e * 2 ^ 52 + f) / 2 ^ 63 % 2 = neg.toNat ∧ double.word neg (e * 2 ^ 52 + f) % 2 ^ 63 = e * 2 ^ 52 + f := by
    unfold Format.word
    rw [hsw]
    cases neg
    · simp only [Bool.false_eq_true, if_false, Bool.toNat_false]
      rw [Nat.div_eq_of_lt hlt, Nat.mod_eq_of_lt hlt]
      exact ⟨rfl, rfl⟩
    · simp only [if_true, Bool.toNat_true]
      rw [Nat.add_div_left _ (by decide), Nat.div_eq_of_lt hlt, Nat.add_mod_left, Nat.mod_eq_of_lt hlt]
      exact ⟨rfl, rfl⟩
  unfold Format.read
  simp only [hsw, hw.1, hw.2, hb, hi, hlp]
  have h1 : ¬ e * 2 ^ 52 + f < 2 ^ 52 := by
    have : 1 * 2 ^ 52 ≤ e * 2 ^ 52 := Nat.mul_le_mul_right _ he
    omega
  have h2 : e * 2 ^ 52 + f < 2047 * 2 ^ 52 := by
    have : e * 2 ^ 52 ≤ 2046 * 2 ^ 52 := Nat.mul_le_mul_right _ (by omega)
    omega
  rw [if_neg h1, if_pos h2, Nat.mul_add_mod_self_right, Nat.mod_eq_of_lt hf, Nat.mul_comm, Nat.mul_add_div (by decide), Nat.div_eq_of_lt hf, Nat.add_zero]
  cases neg <;> rfl

theorem shl_pos {m s : Nat} (h : m ≠ 0) : m * 2 ^ s ≠ 0 := Nat.mul_ne_zero h (Nat.pos_iff_ne_zero.1 (Nat.pow_pos (by decide)))
theorem fE_zero : fE 0 = 0 := by decide
theorem fE_pos {n : Int} (h : n ≠ 0) (hn : n.natAbs < 2 ^ 53) : fE n = double.word (n < 0) ((n.natAbs.log2 + 1022) * 2 ^ 52 + n.natAbs <<< (52 - n.natAbs.log2)) := by
  have := nearest_eq (n < 0) n.natAbs 0 (by omega) hn
  simpa [fE] using this
theorem signed_abs (n : Int) (k : Nat) : signed (n < 0) (n.natAbs * 2 ^ k) 0 = n * 2 ^ k := by
  unfold signed
  by_cases h : n < 0
  · have e : (n.natAbs : Int) = -n := by omega
    simp only [h, decide_true, if_true, Nat.shiftLeft_zero, Int.natCast_mul, Int.natCast_pow, e]
    rw [Int.neg_mul, Int.neg_neg]
    rfl
  · have e : (n.natAbs : Int) = n := by omega
    simp only [h, decide_false, Bool.false_eq_true, if_false, Nat.shiftLeft_zero, Int.natCast_mul, Int.natCast_pow, e]
    rfl
/-- what a whole number's word reads as -/
theorem read_fE {n : Int} (h : n ≠ 0) (hn : n.natAbs < 2 ^ 53) : double.read (fE n) = Datum.number (n < 0) (n.natAbs <<< (52 - n.natAbs.log2)) (-((52 - n.natAbs.log2 : Nat) : Int)) := by
  have h0 : n.natAbs ≠ 0 := by omega
  have hL := log2_lt53 hn
  have hlo := kept_lo _ h0 hn
  have hhi := kept_hi _ hn
  obtain ⟨f, hf⟩ : ∃ f, n.natAbs <<< (52 - n.natAbs.log2) = 2 ^ 52 + f := ⟨_, (Nat.add_sub_cancel' hlo).symm⟩
  have hf2 : f < 2 ^ 52 := by
    rw [hf, show (2 : Nat) ^ 53 = 2 ^ 52 + 2 ^ 52 by simp] at hhi
    exact Nat.lt_of_add_lt_add_left hhi
  rw [fE_pos h hn, hf, ← Nat.add_assoc, show (n.natAbs.log2 + 1022) * 2 ^ 52 + 2 ^ 52 = (n.natAbs.log2 + 1023) * 2 ^ 52 by rw [show n.natAbs.log2 + 1023 = n.natAbs.log2 + 1022 + 1 by omega, Nat.add_mul (n.natAbs.log2 + 1022) 1, Nat.one_mul],
    read_rung _ _ f (by omega) (by omega) hf2]
  generalize n.natAbs.log2 = L at hL
  clear hf hf2 hlo hhi hn h0
  have e : (-1074 + ((L + 1023 - 1 : Nat) : Int)) = -((52 - L : Nat) : Int) := by omega
  rw [e]
theorem read_pz : double.read 0 = Datum.number false 0 (-1074) := by decide
theorem read_nz : double.read (2 ^ 63) = Datum.number true 0 (-1074) := by decide
theorem Rp.read {b : Nat} {n : Int} (h : FV b n) (hn : n.natAbs < 2 ^ 53) : Rp (double.read b) n := by
  rcases h with rfl | ⟨rfl, rfl⟩
  · by_cases h0 : n = 0
    · subst h0
      rw [fE_zero, read_pz]
      exact ⟨false, 0, 1074, rfl, (Int.zero_mul _).symm⟩
    · rw [read_fE h0 hn]
      refine ⟨_, _, _, rfl, ?_⟩
      rw [Nat.shiftLeft_eq]
      exact signed_abs n _
  · rw [read_nz]
    exact ⟨true, 0, 1074, rfl, (Int.zero_mul _).symm⟩
theorem two_pos (k : Nat) : (0 : Int) < 2 ^ k := Int.pow_pos (by decide)
theorem FV.write {d : Datum} {n : Int} (h : Rp d n) (hn : n.natAbs < 2 ^ 53) : FV (double.write d) n := by
  obtain ⟨neg, m, k, rfl, hs⟩ := h
  have hk := two_pos k
  simp only [signed, Nat.shiftLeft_zero] at hs
  show FV (double.nearest neg m (-(k : Int))) n
  by_cases h0 : n = 0
  · subst h0
    have hm : m = 0 := by
      cases neg <;> simp at hs <;> omega
    subst hm
    cases neg
    · exact .inl (by rw [fE_zero]; rfl)
    · exact .inr ⟨rfl, rfl⟩
  · left
    have hpk : (0 : Int) < n ∨ n < 0 := by omega
    have hm : m = n.natAbs * 2 ^ k ∧ neg = decide (n < 0) := by
      have e : ((n.natAbs * 2 ^ k : Nat) : Int) = (n.natAbs : Int) * 2 ^ k := by simp
      rcases hpk with hp | hp
      · have hpos : 0 < n * 2 ^ k := Int.mul_pos hp hk
        cases neg
        · simp only [Bool.false_eq_true, if_false] at hs
          refine ⟨?_, by simp; omega⟩
          have e2 : (n.natAbs : Int) = n := by omega
          rw [e2, ← hs] at e
          exact (Int.ofNat.inj e).symm
        · simp only [if_true] at hs
          omega
      · have hneg : n * 2 ^ k < 0 := Int.mul_neg_of_neg_of_pos hp hk
        cases neg
        · simp only [Bool.false_eq_true, if_false] at hs
          omega
        · simp only [if_true] at hs
          refine ⟨?_, by simp [hp]⟩
          have e2 : (n.natAbs : Int) = -n := by omega
          rw [e2, Int.neg_mul, ← hs, Int.neg_neg] at e
          exact (Int.ofNat.inj e).symm
    obtain ⟨rfl, rfl⟩ := hm
    have := nearest_eq (n < 0) n.natAbs k (by omega) hn
    rw [Nat.shiftLeft_eq] at this
    rw [this, fE_pos h0 hn]

theorem shift_up {neg : Bool} {m k K : Nat} {n : Int} (hs : signed neg m 0 = n * 2 ^ k) (hk : k ≤ K) : signed neg m (-(k : Int) - -(K : Int)).toNat = n * 2 ^ K := by
  have e : (-(k : Int) - -(K : Int)).toNat = K - k := by omega
  rw [e]
  have h2 : signed neg m (K - k) = signed neg m 0 * 2 ^ (K - k) := by
    unfold signed
    cases neg <;> simp [Nat.shiftLeft_eq, Int.neg_mul]
  rw [h2, hs, Int.mul_assoc, ← Int.pow_add]
  congr 2
  omega
theorem min_place (k l : Nat) : min (-(k : Int)) (-(l : Int)) = -((max k l : Nat) : Int) := by omega
theorem Rp.sum {d e : Datum} {a b : Int} (hd : Rp d a) (he : Rp e b) : ∃ r, d.sum e = some r ∧ Rp r (a + b) := by
  obtain ⟨s, m, k, rfl, h1⟩ := hd
  obtain ⟨t, n, l, rfl, h2⟩ := he
  unfold Datum.sum
  simp only [min_place]
  rw [shift_up h1 (Nat.le_max_left k l), shift_up h2 (Nat.le_max_right k l), ← Int.add_mul]
  refine ⟨_, rfl, _, _, _, rfl, ?_⟩
  by_cases h0 : (a + b) * 2 ^ max k l = 0
  · rw [h0]
    simp [signed]
  · rw [if_neg h0]
    have := signed_abs ((a + b) * 2 ^ max k l) 0
    simpa using this
theorem Rp.neg {d : Datum} {a : Int} (hd : Rp d a) : Rp d.opposite (-a) := by
  obtain ⟨s, m, k, rfl, h1⟩ := hd
  refine ⟨!s, m, k, rfl, ?_⟩
  rw [Int.neg_mul, ← h1]
  cases s <;> simp [signed]
theorem Rp.product {d e : Datum} {a b : Int} (hd : Rp d a) (he : Rp e b) : ∃ r, d.product e = some r ∧ Rp r (a * b) := by
  obtain ⟨s, m, k, rfl, h1⟩ := hd
  obtain ⟨t, n, l, rfl, h2⟩ := he
  refine ⟨_, rfl, s ^^ t, m * n, k + l, ?_, ?_⟩
  · rw [Datum.number.injEq]
    exact ⟨rfl, rfl, by omega⟩
  · have : signed (s ^^ t) (m * n) 0 = signed s m 0 * signed t n 0 := by
      cases s <;> cases t <;> simp [signed, Int.neg_mul, Int.mul_neg]
    rw [this, h1, h2, Int.pow_add]
    simp only [Int.mul_assoc, Int.mul_left_comm]
theorem Rp.order {d e : Datum} {a b : Int} (hd : Rp d a) (he : Rp e b) : d.order e = some (compare a b) := by
  obtain ⟨s, m, k, rfl, h1⟩ := hd
  obtain ⟨t, n, l, rfl, h2⟩ := he
  unfold Datum.order
  simp only [min_place]
  rw [shift_up h1 (Nat.le_max_left k l), shift_up h2 (Nat.le_max_right k l)]
  have hp := two_pos (max k l)
  congr 1
  rw [Int.compare_eq_ite_lt, Int.compare_eq_ite_lt]
  have e1 : (a * 2 ^ max k l < b * 2 ^ max k l) ↔ a < b := ⟨fun h => Int.lt_of_mul_lt_mul_right h (Int.le_of_lt hp), fun h => Int.mul_lt_mul_of_pos_right h hp⟩
  have e2 : (b * 2 ^ max k l < a * 2 ^ max k l) ↔ b < a := ⟨fun h => Int.lt_of_mul_lt_mul_right h (Int.le_of_lt hp), fun h => Int.mul_lt_mul_of_pos_right h hp⟩
  simp only [e1, e2]

section
variable {x y : Nat} {a b : Int}
theorem FV.add (hx : FV x a) (hy : FV y b) (ha : a.natAbs < 2 ^ 53) (hb : b.natAbs < 2 ^ 53) (hr : (a + b).natAbs < 2 ^ 53) : ∃ r, floatBits .add .f64 x y = some r ∧ FV r (a + b) := by
  obtain ⟨d, h1, h2⟩ := (Rp.read hx ha).sum (Rp.read hy hb)
  exact ⟨double.write d, by show ((double.read x).sum (double.read y)).map double.write = _; rw [h1]; rfl, FV.write h2 hr⟩
theorem FV.sub (hx : FV x a) (hy : FV y b) (ha : a.natAbs < 2 ^ 53) (hb : b.natAbs < 2 ^ 53) (hr : (a - b).natAbs < 2 ^ 53) : ∃ r, floatBits .sub .f64 x y = some r ∧ FV r (a - b) := by
  obtain ⟨d, h1, h2⟩ := (Rp.read hx ha).sum (Rp.read hy hb).neg
  exact ⟨double.write d, by show ((double.read x).sum (double.read y).opposite).map double.write = _; rw [h1]; rfl, FV.write (by rwa [Int.sub_eq_add_neg]) hr⟩
theorem FV.mul (hx : FV x a) (hy : FV y b) (ha : a.natAbs < 2 ^ 53) (hb : b.natAbs < 2 ^ 53) (hr : (a * b).natAbs < 2 ^ 53) : ∃ r, floatBits .mul .f64 x y = some r ∧ FV r (a * b) := by
  obtain ⟨d, h1, h2⟩ := (Rp.read hx ha).product (Rp.read hy hb)
  exact ⟨double.write d, by show ((double.read x).product (double.read y)).map double.write = _; rw [h1]; rfl, FV.write h2 hr⟩
theorem FV.order (hx : FV x a) (hy : FV y b) (ha : a.natAbs < 2 ^ 53) (hb : b.natAbs < 2 ^ 53) : double.order x y = some (compare a b) :=
  (Rp.read hx ha).order (Rp.read hy hb)
end

theorem Rp.form {d : Datum} {n : Int} (h : Rp d n) : ∃ (neg : Bool) (k : Nat), d = Datum.number neg (n.natAbs * 2 ^ k) (-(k : Int)) ∧ (n ≠ 0 → neg = decide (n < 0)) := by
  obtain ⟨neg, m, k, rfl, hs⟩ := h
  have hk := two_pos k
  simp only [signed, Nat.shiftLeft_zero] at hs
  have e : ((n.natAbs * 2 ^ k : Nat) : Int) = (n.natAbs : Int) * 2 ^ k := by simp
  have hpk : n = 0 ∨ (0 : Int) < n ∨ n < 0 := by omega
  refine ⟨neg, k, ?_⟩
  rcases hpk with h0 | hp | hp
  · subst h0
    have hm : m = 0 := by
      cases neg <;> simp at hs <;> omega
    subst hm
    exact ⟨by simp, fun h => absurd rfl h⟩
  · have hpos : 0 < n * 2 ^ k := Int.mul_pos hp hk
    cases neg
    · simp only [Bool.false_eq_true, if_false] at hs
      have e2 : (n.natAbs : Int) = n := by omega
      rw [e2, ← hs] at e
      exact ⟨by rw [Int.ofNat.inj e], fun _ => by simp; omega⟩
    · simp only [if_true] at hs
      omega
  · have hneg : n * 2 ^ k < 0 := Int.mul_neg_of_neg_of_pos hp hk
    cases neg
    · simp only [Bool.false_eq_true, if_false] at hs
      omega
    · simp only [if_true] at hs
      have e2 : (n.natAbs : Int) = -n := by omega
      rw [e2, Int.neg_mul, ← hs, Int.neg_neg] at e
      exact ⟨by rw [Int.ofNat.inj e], fun _ => by simp [hp]⟩
theorem Rp.toInt {d : Datum} {n : Int} (h : Rp d n) : d.toInt .zero = some n := by
  obtain ⟨neg, k, rfl, hn⟩ := h.form
  have e1 : (-(k : Int)).toNat = 0 := by omega
  have e2 : (- -(k : Int)).toNat = k := by omega
  have hp : 0 < 2 ^ k := Nat.pow_pos (by decide)
  have hc : Toward.zero.cut neg (n.natAbs * 2 ^ k) k = n.natAbs := by
    unfold Toward.cut
    by_cases h0 : n = 0
    · subst h0
      simp
    · have h1 : n.natAbs ≠ 0 := by omega
      have h2 : min k ((n.natAbs * 2 ^ k).log2 + 2) = k := by
        have := log2_shift n.natAbs k h1
        rw [Nat.shiftLeft_eq] at this
        omega
      rw [h2]
      simp only [Nat.shiftLeft_eq, Nat.one_mul, Nat.mul_div_cancel _ hp]
      rfl
  unfold Datum.toInt Datum.integral
  simp only [e1, e2, Nat.shiftLeft_zero, hc]
  congr 1
  by_cases h0 : n = 0
  · subst h0
    cases neg <;> rfl
  · rw [hn h0]
    have := signed_abs n 0
    simpa using this
theorem FV.toInt {b : Nat} {n : Int} (h : FV b n) (hn : n.natAbs < 2 ^ 53) : floatToIntVal .f64 b .i64 = some n := by
  unfold floatToIntVal
  have : (FloatKind.f64.decode b).toInt .zero = some n := (Rp.read h hn).toInt
  rw [this]
  have h1 : IntKind.i64.min = -9223372036854775808 := by decide
  have h2 : IntKind.i64.max = 9223372036854775807 := by decide
  simp only [h1, h2]
  have : n.natAbs < 9007199254740992 := hn
  rw [if_pos (by omega)]
theorem FV.ofInt (n : Int) : FV (floatOfInt .f64 n) n := .inl rfl
theorem FV.lit {n : Int} {b : Nat} (h : fE n = b) : FV b n := .inl h.symm
end Go.Proofs.YtnbpmlbhigchnaaGreatDoor
