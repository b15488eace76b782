/- The wal claims' texts, several in one: Frs. Conditions stand with each theorem. -/
import Derived.Test.YtlcmnihpfpmajaaGreatZa01
/- The plain law of frames: the sum of bytes, a frame, what is read of one that is cut or changed. No program is in sight here. -/
namespace Go.Proofs.YtlcmnihpfpmajaaGreat.Enc

/-- one bit of the sum -/
def crcBit (s : Nat) : Nat := s / 2 ^^^ (3988292384 * (s % 2))
theorem crcBit_lt {s : Nat} (h : s < 4294967296) : crcBit s < 4294967296 := by
  unfold crcBit
  have h1 : s / 2 < 2 ^ 32 := by omega
  have h2 : 3988292384 * (s % 2) < 2 ^ 32 := by omega
  exact Nat.xor_lt_two_pow h1 h2
def crcBits : Nat → Nat → Nat
  | 0, s => s
  | k + 1, s => crcBit (crcBits k s)
theorem crcBits_lt {s : Nat} (h : s < 4294967296) (k : Nat) : crcBits k s < 4294967296 := by
  induction k with
  | zero => exact h
  | succ k ih => exact crcBit_lt ih
def crcStep (s : Nat) (b : UInt8) : Nat := crcBits 8 (s ^^^ b.toNat)
theorem crcXor_lt {s : Nat} (h : s < 4294967296) (b : UInt8) : s ^^^ b.toNat < 4294967296 := by
  have := b.toNat_lt
  exact Nat.xor_lt_two_pow (n := 32) h (by omega)
theorem crcStep_lt {s : Nat} (h : s < 4294967296) (b : UInt8) : crcStep s b < 4294967296 := crcBits_lt (crcXor_lt h b) 8
def crcRun (xs : List UInt8) : Nat := xs.foldl crcStep 4294967295
theorem crcRun_snoc (xs : List UInt8) (b : UInt8) : crcRun (xs ++ [b]) = crcStep (crcRun xs) b := by simp [crcRun]
theorem crcFold_lt (xs : List UInt8) : ∀ s, s < 4294967296 → xs.foldl crcStep s < 4294967296 := by
  induction xs with
  | nil => intro s h; exact h
  | cons b xs ih => intro s h; exact ih _ (crcStep_lt h b)
theorem crcRun_lt (xs : List UInt8) : crcRun xs < 4294967296 := crcFold_lt xs _ (by omega)
theorem crcRun_take (xs : List UInt8) (i : Nat) (h : i < xs.length) : crcRun (xs.take (i + 1)) = crcStep (crcRun (xs.take i)) xs[i] := by
  rw [List.take_succ_eq_append_getElem h, crcRun_snoc]
/-- the sum -/
def sum (xs : List UInt8) : Nat := 4294967295 ^^^ crcRun xs

theorem xor_cancel {a b c : Nat} (h : c ^^^ a = c ^^^ b) : a = b := by
  have h1 := congrArg (c ^^^ ·) h
  simpa [← Nat.xor_assoc, Nat.xor_self, Nat.zero_xor] using h1
theorem crcBit_top {s : Nat} (h : s < 4294967296) : (crcBit s).testBit 31 = decide (s % 2 = 1) := by
  unfold crcBit
  rw [Nat.testBit_xor, Nat.testBit_lt_two_pow (show s / 2 < 2 ^ 31 by omega), Bool.false_xor]
  rcases Nat.mod_two_eq_zero_or_one s with e | e <;> rw [e] <;> decide
theorem crcBit_inj {s t : Nat} (hs : s < 4294967296) (ht : t < 4294967296) (h : crcBit s = crcBit t) : s = t := by
  have h1 := crcBit_top hs
  rw [h, crcBit_top ht] at h1
  have h2 : s % 2 = t % 2 := by
    rcases Nat.mod_two_eq_zero_or_one s with e | e <;> rcases Nat.mod_two_eq_zero_or_one t with e' | e' <;> rw [e, e'] at h1 ⊢ <;> simp at h1
  unfold crcBit at h
  rw [h2, Nat.xor_comm _ (3988292384 * (t % 2)), Nat.xor_comm (t / 2) _] at h
  have h3 := xor_cancel h
  omega
theorem crcBits_inj {s t : Nat} (hs : s < 4294967296) (ht : t < 4294967296) : ∀ k, crcBits k s = crcBits k t → s = t
  | 0, h => h
  | k + 1, h => crcBits_inj hs ht k (crcBit_inj (crcBits_lt hs k) (crcBits_lt ht k) h)
theorem crcStep_inj {s t : Nat} (hs : s < 4294967296) (ht : t < 4294967296) (b : UInt8) (h : crcStep s b = crcStep t b) : s = t := by
  have h1 := crcBits_inj (crcXor_lt hs b) (crcXor_lt ht b) 8 h
  rw [Nat.xor_comm s, Nat.xor_comm t] at h1
  exact xor_cancel h1
theorem crcStep_byte {s : Nat} (hs : s < 4294967296) {a b : UInt8} (h : crcStep s a = crcStep s b) : a = b :=
  UInt8.toNat_inj.1 (xor_cancel (crcBits_inj (crcXor_lt hs a) (crcXor_lt hs b) 8 h))
theorem crcFold_inj (xs : List UInt8) : ∀ {s t : Nat}, s < 4294967296 → t < 4294967296 → xs.foldl crcStep s = xs.foldl crcStep t → s = t := by
  induction xs with
  | nil => intro s t _ _ h; exact h
  | cons b xs ih => intro s t hs ht h; exact crcStep_inj hs ht b (ih (crcStep_lt hs b) (crcStep_lt ht b) h)
theorem sum_inj {xs ys : List UInt8} (h : sum xs = sum ys) : crcRun xs = crcRun ys := xor_cancel h
theorem sum_lt (xs : List UInt8) : sum xs < 4294967296 := Nat.xor_lt_two_pow (n := 32) (by omega) (crcRun_lt xs)
/-- one byte changed: another sum -/
theorem sum_flip {pre post : List UInt8} {a b : UInt8} (h : sum (pre ++ a :: post) = sum (pre ++ b :: post)) : a = b := by
  have h1 := sum_inj h
  unfold crcRun at h1
  rw [List.foldl_append, List.foldl_append, List.foldl_cons, List.foldl_cons] at h1
  have hp := crcFold_lt pre 4294967295 (by omega)
  exact crcStep_byte hp (crcFold_inj post (crcStep_lt hp a) (crcStep_lt hp b) h1)
theorem sum_set {xs : List UInt8} {i : Nat} (hi : i < xs.length) {b : UInt8} (h : sum (xs.set i b) = sum xs) : b = xs[i] := by
  have h1 : xs = xs.take i ++ xs[i] :: xs.drop (i + 1) := by rw [← List.drop_eq_getElem_cons hi, List.take_append_drop]
  have h2 : xs.set i b = xs.take i ++ b :: xs.drop (i + 1) := by rw [List.set_eq_take_append_cons_drop, if_pos hi]
  rw [h2] at h
  exact sum_flip (h.trans (congrArg sum h1))
def four (n : Nat) : List UInt8 := [UInt8.ofNat (n / 16777216), UInt8.ofNat (n / 65536), UInt8.ofNat (n / 256), UInt8.ofNat n]
theorem four_length (n : Nat) : (four n).length = 4 := rfl
def unfour (xs : List UInt8) : Nat := (xs.getD 0 0).toNat * 16777216 + (xs.getD 1 0).toNat * 65536 + (xs.getD 2 0).toNat * 256 + (xs.getD 3 0).toNat
theorem unfour_four (n : Nat) (h : n < 4294967296) (post : List UInt8) : unfour (four n ++ post) = n := by
  simp [unfour, four]
  omega
theorem unfour_lt (xs : List UInt8) : unfour xs < 4294967296 := by
  unfold unfour
  have h0 := (xs.getD 0 0).toNat_lt
  have h1 := (xs.getD 1 0).toNat_lt
  have h2 := (xs.getD 2 0).toNat_lt
  have h3 := (xs.getD 3 0).toNat_lt
  omega
/-- a frame: how many bytes, their sum, they -/
def frame (p : List UInt8) : List UInt8 := four p.length ++ (four (sum p) ++ p)
/-- the frame at the front: its payload, and how many bytes it has -/
def unframe (raw : List UInt8) : Option (List UInt8 × Nat) :=
  if raw.length < 8 then none
  else if 1048576 < unfour raw ∨ raw.length - 8 < unfour raw then none
  else if sum ((raw.drop 8).take (unfour raw)) = unfour (raw.drop 4) then some ((raw.drop 8).take (unfour raw), 8 + unfour raw) else none

theorem frame_len (p : List UInt8) : (frame p).length = p.length + 8 := by simp [frame, four_length]; omega
theorem unframe_of {p post : List UInt8} (hp : p.length ≤ 1048576) : unframe (frame p ++ post) = some (p, 8 + p.length) := by
  have h4 : (frame p ++ post) = four p.length ++ (four (sum p) ++ (p ++ post)) := by simp [frame]
  have hs := sum_lt p
  have hu : unfour (frame p ++ post) = p.length := by rw [h4]; exact unfour_four _ (by omega) _
  have hd4 : (frame p ++ post).drop 4 = four (sum p) ++ (p ++ post) := by rw [h4]; exact List.drop_left' (four_length _)
  have hd8 : (frame p ++ post).drop 8 = p ++ post := by
    rw [show (8 : Nat) = 4 + 4 from rfl, ← List.drop_drop, hd4]
    exact List.drop_left' (four_length _)
  have hl : (frame p ++ post).length = p.length + 8 + post.length := by rw [List.length_append, frame_len]
  unfold unframe
  rw [hu, hd8, hd4, unfour_four _ hs, hl, if_neg (by omega), if_neg (by omega), List.take_left, if_pos rfl]
theorem unframe_cut {p post : List UInt8} (hp : p.length ≤ 1048576) {k : Nat} (hk : k < p.length + 8) : unframe ((frame p ++ post).take k) = none := by
  have hl : ((frame p ++ post).take k).length = k := by rw [List.length_take, List.length_append, frame_len]; omega
  unfold unframe
  rw [hl]
  by_cases h8 : k < 8
  · rw [if_pos h8]
  · have h4 : ((frame p ++ post).take k) = four p.length ++ ((four (sum p) ++ (p ++ post)).take (k - 4)) := by
      rw [show (frame p ++ post) = four p.length ++ (four (sum p) ++ (p ++ post)) from by simp [frame], List.take_append, four_length, List.take_of_length_le (by rw [four_length]; omega)]
    rw [if_neg h8, h4, unfour_four _ (by omega), if_pos (.inr (by omega))]
theorem unframe_short {raw : List UInt8} (h : raw.length < 8) : unframe raw = none := by
  unfold unframe
  rw [if_pos h]
theorem unframe_le {raw p : List UInt8} {k : Nat} (h : unframe raw = some (p, k)) : 8 ≤ k ∧ k ≤ raw.length := by
  unfold unframe at h
  split at h
  · cases h
  · split at h
    · cases h
    · split at h
      · injection h with h
        injection h with h1 h2
        omega
      · cases h

set_option maxRecDepth 100000 in
theorem unfour_set {x0 x1 x2 x3 b : UInt8} {p : List UInt8} {j : Nat} (hj : j < 4) (h : unfour (([x0, x1, x2, x3] ++ p).set j b) = unfour ([x0, x1, x2, x3] ++ p)) : [x0, x1, x2, x3][j]? = some b := by
  have h0 := x0.toNat_lt
  have h1 := x1.toNat_lt
  have h2 := x2.toNat_lt
  have h3 := x3.toNat_lt
  have hb := b.toNat_lt
  have hj' : j = 0 ∨ j = 1 ∨ j = 2 ∨ j = 3 := by omega
  rcases hj' with rfl | rfl | rfl | rfl <;>
  · simp [unfour] at h ⊢
    exact UInt8.toNat_inj.1 (by omega)
theorem unframe_flip' {p : List UInt8} (hp : p.length ≤ 1048576) {k : Nat} (h4 : 4 ≤ k) (hk : k < p.length + 8) {b : UInt8} (hb : (frame p)[k]? ≠ some b) : unframe ((frame p).set k b) = none := by
  have hs : (frame p).set k b = four p.length ++ (four (sum p) ++ p).set (k - 4) b := by
    unfold frame
    rw [List.set_append_right _ _ (by rw [four_length]; exact h4), four_length]
  have hu : unfour ((frame p).set k b) = p.length := by rw [hs]; exact unfour_four _ (by omega) _
  have hd4 : ((frame p).set k b).drop 4 = (four (sum p) ++ p).set (k - 4) b := by rw [hs]; exact List.drop_left' (four_length _)
  have hg : (frame p)[k]? = (four (sum p) ++ p)[k - 4]? := by
    unfold frame
    rw [List.getElem?_append_right (by rw [four_length]; exact h4), four_length]
  unfold unframe
  rw [List.length_set, frame_len, hu, if_neg (by omega), if_neg (by omega)]
  refine if_neg fun he => hb ?_
  rw [hg]
  have hd8 : ((frame p).set k b).drop 8 = ((four (sum p) ++ p).set (k - 4) b).drop 4 := by rw [← hd4, List.drop_drop]
  rw [hd8, hd4] at he
  by_cases h8 : k < 8
  · have e1 : (four (sum p) ++ p).set (k - 4) b = (four (sum p)).set (k - 4) b ++ p := List.set_append_left _ _ (by rw [four_length]; omega)
    have e2 : ((four (sum p) ++ p).set (k - 4) b).drop 4 = p := by rw [e1]; exact List.drop_left' (by rw [List.length_set]; exact four_length _)
    rw [e2, List.take_length] at he
    have e3 : unfour (four (sum p) ++ p) = sum p := unfour_four _ (sum_lt p) _
    rw [List.getElem?_append_left (by rw [four_length]; omega)]
    exact unfour_set (p := p) (by omega) (he.symm.trans e3.symm)
  · have e1 : (four (sum p) ++ p).set (k - 4) b = four (sum p) ++ p.set (k - 8) b := by
      rw [List.set_append_right _ _ (by rw [four_length]; omega), four_length, show k - 4 - 4 = k - 8 by omega]
    have e2 : (four (sum p) ++ p.set (k - 8) b).drop 4 = p.set (k - 8) b := List.drop_left' (four_length _)
    rw [e1, e2, unfour_four _ (sum_lt p), List.take_of_length_le (by rw [List.length_set]; exact Nat.le_refl _)] at he
    rw [List.getElem?_append_right (by rw [four_length]; omega), four_length, show k - 4 - 4 = k - 8 by omega, List.getElem?_eq_getElem (by omega)]
    exact congrArg some (sum_set (by omega) he).symm
end Go.Proofs.YtlcmnihpfpmajaaGreat.Enc
