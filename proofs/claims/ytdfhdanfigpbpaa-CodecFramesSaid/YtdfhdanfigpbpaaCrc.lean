/- The plain law of the sum: one changed byte changes it. No program is in sight here. -/
import Derived.Test.YtdfhdanfigpbpaaSum
namespace Go.Proofs.Ytdfhdanfigpbpaa.Enc

theorem xor_cancel {a b c : Nat} (h : c ^^^ a = c ^^^ b) : a = b := by
  have h1 := congrArg (c ^^^ ·) h
  simpa [← Nat.xor_assoc, Nat.xor_self, Nat.zero_xor] using h1
theorem crcBit_top {s : Nat} (h : s < 4294967296) : (crcBit s).testBit 31 = decide (s % 2 = 1) := by
  unfold crcBit
  rw [Nat.testBit_xor, Nat.testBit_lt_two_pow (show s / 2 < 2 ^ 31 by omega), Bool.false_xor]
  rcases Nat.mod_two_eq_zero_or_one s with e | e <;> rw [e] <;> decide
theorem crcBit_inj {s t : Nat} (hs : s < 4294967296) (ht : t < 4294967296) (h : crcBit s = crcBit t) : s = t := by
  have h1 := crcBit_top hs
  rw [h, crcBit_top ht] at h1
  have h2 : s % 2 = t % 2 := by
    rcases Nat.mod_two_eq_zero_or_one s with e | e <;> rcases Nat.mod_two_eq_zero_or_one t with e' | e' <;> rw [e, e'] at h1 ⊢ <;> simp at h1
  unfold crcBit at h
  rw [h2, Nat.xor_comm _ (3988292384 * (t % 2)), Nat.xor_comm (t / 2) _] at h
  have h3 := xor_cancel h
  omega
theorem crcBits_inj {s t : Nat} (hs : s < 4294967296) (ht : t < 4294967296) : ∀ k, crcBits k s = crcBits k t → s = t
  | 0, h => h
  | k + 1, h => crcBits_inj hs ht k (crcBit_inj (crcBits_lt hs k) (crcBits_lt ht k) h)
theorem crcStep_inj {s t : Nat} (hs : s < 4294967296) (ht : t < 4294967296) (b : UInt8) (h : crcStep s b = crcStep t b) : s = t := by
  have h1 := crcBits_inj (crcXor_lt hs b) (crcXor_lt ht b) 8 h
  rw [Nat.xor_comm s, Nat.xor_comm t] at h1
  exact xor_cancel h1
theorem crcStep_byte {s : Nat} (hs : s < 4294967296) {a b : UInt8} (h : crcStep s a = crcStep s b) : a = b :=
  UInt8.toNat_inj.1 (xor_cancel (crcBits_inj (crcXor_lt hs a) (crcXor_lt hs b) 8 h))
theorem crcFold_inj (xs : List UInt8) : ∀ {s t : Nat}, s < 4294967296 → t < 4294967296 → xs.foldl crcStep s = xs.foldl crcStep t → s = t := by
  induction xs with
  | nil => intro s t _ _ h; exact h
  | cons b xs ih => intro s t hs ht h; exact crcStep_inj hs ht b (ih (crcStep_lt hs b) (crcStep_lt ht b) h)
theorem sum_inj {xs ys : List UInt8} (h : sum xs = sum ys) : crcRun xs = crcRun ys := xor_cancel h
theorem sum_lt (xs : List UInt8) : sum xs < 4294967296 := Nat.xor_lt_two_pow (n := 32) (by omega) (crcRun_lt xs)
/-- one byte changed: another sum -/
theorem sum_flip {pre post : List UInt8} {a b : UInt8} (h : sum (pre ++ a :: post) = sum (pre ++ b :: post)) : a = b := by
  have h1 := sum_inj h
  unfold crcRun at h1
  rw [List.foldl_append, List.foldl_append, List.foldl_cons, List.foldl_cons] at h1
  have hp := crcFold_lt pre 4294967295 (by omega)
  exact crcStep_byte hp (crcFold_inj post (crcStep_lt hp a) (crcStep_lt hp b) h1)
theorem sum_set {xs : List UInt8} {i : Nat} (hi : i < xs.length) {b : UInt8} (h : sum (xs.set i b) = sum xs) : b = xs[i] := by
  have h1 : xs = xs.take i ++ xs[i] :: xs.drop (i + 1) := by rw [← List.drop_eq_getElem_cons hi, List.take_append_drop]
  have h2 : xs.set i b = xs.take i ++ b :: xs.drop (i + 1) := by rw [List.set_eq_take_append_cons_drop, if_pos hi]
  rw [h2] at h
  exact sum_flip (h.trans (congrArg sum h1))
end Go.Proofs.Ytdfhdanfigpbpaa.Enc
