/- The contracts of Sum, the codec's and the reference's: both hand back the plain law's sum. Conditions: the bytes can be read. -/
import Derived.Test.YtdfhdanfigpbpaaEye2
import Derived.Laws.BitsAllLaws
namespace Go.Proofs.Ytdfhdanfigpbpaa
open Go.RowKit

namespace Enc
/-- one bit of the sum -/
def crcBit (s : Nat) : Nat := s / 2 ^^^ (3988292384 * (s % 2))
theorem crcBit_lt {s : Nat} (h : s < 4294967296) : crcBit s < 4294967296 := by
  unfold crcBit
  have h1 : s / 2 < 2 ^ 32 := by omega
  have h2 : 3988292384 * (s % 2) < 2 ^ 32 := by omega
  exact Nat.xor_lt_two_pow h1 h2
def crcBits : Nat → Nat → Nat
  | 0, s => s
  | k + 1, s => crcBit (crcBits k s)
theorem crcBits_lt {s : Nat} (h : s < 4294967296) (k : Nat) : crcBits k s < 4294967296 := by
  induction k with
  | zero => exact h
  | succ k ih => exact crcBit_lt ih
def crcStep (s : Nat) (b : UInt8) : Nat := crcBits 8 (s ^^^ b.toNat)
theorem crcXor_lt {s : Nat} (h : s < 4294967296) (b : UInt8) : s ^^^ b.toNat < 4294967296 := by
  have := b.toNat_lt
  exact Nat.xor_lt_two_pow (n := 32) h (by omega)
theorem crcStep_lt {s : Nat} (h : s < 4294967296) (b : UInt8) : crcStep s b < 4294967296 := crcBits_lt (crcXor_lt h b) 8
def crcRun (xs : List UInt8) : Nat := xs.foldl crcStep 4294967295
theorem crcRun_snoc (xs : List UInt8) (b : UInt8) : crcRun (xs ++ [b]) = crcStep (crcRun xs) b := by simp [crcRun]
theorem crcFold_lt (xs : List UInt8) : ∀ s, s < 4294967296 → xs.foldl crcStep s < 4294967296 := by
  induction xs with
  | nil => intro s h; exact h
  | cons b xs ih => intro s h; exact ih _ (crcStep_lt h b)
theorem crcRun_lt (xs : List UInt8) : crcRun xs < 4294967296 := crcFold_lt xs _ (by omega)
theorem crcRun_take (xs : List UInt8) (i : Nat) (h : i < xs.length) : crcRun (xs.take (i + 1)) = crcStep (crcRun (xs.take i)) xs[i] := by
  rw [List.take_succ_eq_append_getElem h, crcRun_snoc]
/-- the sum -/
def sum (xs : List UInt8) : Nat := 4294967295 ^^^ crcRun xs
end Enc

theorem xor_u32 (a b : Nat) (ha : a < 4294967296) (hb : b < 4294967296) : bits .xor .u32 (a : Int) (b : Int) = ((a ^^^ b : Nat) : Int) := u32_xor_nat a b ha hb

set_option maxRecDepth 100000 in
set_option maxHeartbeats 4000000 in
/-- codec.Sum. -/
theorem sum_any (A : Option Addr) (n c : Nat) (xs : List UInt8) (w : World) (h : Bs w A n c xs) :
    Calls Try.prog 23 #[.slice A n c] w fun e w' => w' = w ∧ e = .returned (.int .u32 (Enc.sum xs : Nat)) := by
  have hm := h.2.2.1
  have hnc := h.2.1
  unfold maxLen at hm
  have hxl := h.1
  have H := Lib.hid h
  clear h
  go_enter Try.func23, Try.ntmps23
  go_wp2_with fail
  go_loop [3, 8] (fun s i => ∃ j : Nat, j ≤ n ∧ i = .int .i64 j ∧ s = .int .u32 (Enc.crcRun (xs.take j) : Nat)) (fun _ i => n - (intOf i).toNat)
  case atStart => exact ⟨0, by omega, rfl, rfl⟩
  case round =>
    obtain ⟨j, hj, rfl, rfl⟩ := hrel
    by_cases hlt : j < n
    · obtain ⟨b, o, rfl⟩ := H.out.at_ (by omega)
      have hcell := H.out.cellAt hlt
      have hsl := Enc.crcRun_lt (xs.take j)
      have hstep := Enc.crcRun_take xs j (by omega)
      have hxj : xs.getD j 0 = xs[j]'(by omega) := by simp [List.getD_eq_getElem?_getD, List.getElem?_eq_getElem (show j < xs.length by omega)]
      rw [hxj] at hcell
      obtain ⟨x, hx⟩ : ∃ x, x = xs[j]'(by omega) := ⟨_, rfl⟩
      rw [← hx] at hcell hstep
      obtain ⟨s, hs⟩ : ∃ s, s = Enc.crcRun (xs.take j) := ⟨_, rfl⟩
      rw [← hs] at hsl hstep ⊢
      have HS := Lib.hid hstep
      have hxb := x.toNat_lt
      have hxor := xor_u32 s x.toNat hsl (by omega)
      have hxl := Enc.crcXor_lt hsl x
      clear hx hxj hs hstep
      go_wp2_with fail
      have hbits : ∀ k, Enc.crcBits k (s ^^^ x.toNat) < 4294967296 := fun k => Enc.crcBits_lt hxl k
      have HBITS := Lib.hid hbits
      clear hbits
      go_loop [3, 16] (fun s' i => ∃ k : Nat, k ≤ 8 ∧ i = .int .i64 k ∧ s' = .int .u32 (Enc.crcBits k (s ^^^ x.toNat) : Nat)) (fun _ i => 8 - (intOf i).toNat)
      case atStart => exact ⟨0, by omega, rfl, rfl⟩
      case round =>
        obtain ⟨k, hk, rfl, rfl⟩ := hrel
        by_cases hk8 : k < 8
        · have hb1 := HBITS.out k
          have hstep : Enc.crcBits (k + 1) (s ^^^ x.toNat) = Enc.crcBits k (s ^^^ x.toNat) / 2 ^^^ (3988292384 * (Enc.crcBits k (s ^^^ x.toNat) % 2)) := rfl
          obtain ⟨t, ht⟩ : ∃ t, t = Enc.crcBits k (s ^^^ x.toNat) := ⟨_, rfl⟩
          rw [← ht] at hb1 hstep ⊢
          have HSTEP := Lib.hid hstep
          clear ht hstep
          have hand : bits .and .u32 (t : Int) 1 = ((t % 2 : Nat) : Int) := by
            rw [show (1 : Int) = ((1 : Nat) : Int) from rfl, u32_and_nat t 1 hb1 (by omega), nat_mask1]
          have hwr : IntKind.u32.wrap (3988292384 * ((t % 2 : Nat) : Int)) = ((3988292384 * (t % 2) : Nat) : Int) := by rw [IntKind.wrap_u32']; omega
          have hxo : bits .xor .u32 ((t : Int) / 2) ((3988292384 * (t % 2) : Nat) : Int) = ((t / 2 ^^^ (3988292384 * (t % 2)) : Nat) : Int) := by
            rw [show (t : Int) / 2 = ((t / 2 : Nat) : Int) from by omega]
            exact u32_xor_nat (t / 2) (3988292384 * (t % 2)) (by omega) (by omega)
          go_wp2_with fail
          refine ⟨⟨k + 1, by omega, by simp, ?_⟩, by simp [intOf] <;> omega⟩
          rw [HSTEP.out, ← hxo, Int.natCast_mul, Int.natCast_emod]
          rfl
        · have : k = 8 := by omega
          subst this
          go_wp2_with fail
          refine ⟨⟨j + 1, by omega, by simp, ?_⟩, by simp [intOf] <;> omega⟩
          rw [HS.out]
          rfl
    · have : j = n := by omega
      subst this
      have hs := Enc.crcRun_lt (xs.take j)
      have hall : xs.take j = xs := List.take_of_length_le (by omega)
      rw [hall] at hs
      have hnot : bits .xor .u32 IntKind.u32.max (Enc.crcRun xs : Int) = ((4294967295 ^^^ Enc.crcRun xs : Nat) : Int) := by
        rw [show IntKind.u32.max = ((4294967295 : Nat) : Int) from by decide]
        exact u32_xor_nat _ _ (by omega) hs
      obtain ⟨s, hsE⟩ : ∃ s, s = Enc.crcRun xs := ⟨_, rfl⟩
      rw [hall]
      have hsum : Enc.sum xs = 4294967295 ^^^ s := by rw [hsE]; rfl
      rw [← hsE] at hnot ⊢
      have HSUM := Lib.hid hsum
      have HNOT := Lib.hid hnot
      clear hsum hsE hall hnot
      go_wp2_with fail
      go_ret
      exact ⟨rfl, by rw [HSUM.out, HNOT.out]; rfl⟩

set_option maxRecDepth 100000 in
set_option maxHeartbeats 4000000 in
/-- the reference's Sum. -/
theorem refsum_any (A : Option Addr) (n c : Nat) (xs : List UInt8) (w : World) (h : Bs w A n c xs) :
    Calls Try.prog 24 #[.slice A n c] w fun e w' => w' = w ∧ e = .returned (.int .u32 (Enc.sum xs : Nat)) := by
  have hm := h.2.2.1
  have hnc := h.2.1
  unfold maxLen at hm
  have hxl := h.1
  have H := Lib.hid h
  clear h
  go_enter Try.func24, Try.ntmps24
  go_wp2_with fail
  go_loop [3, 4] (fun s i => ∃ j : Nat, j ≤ n ∧ i = .int .i64 j ∧ s = .int .u32 (Enc.crcRun (xs.take j) : Nat)) (fun _ i => n - (intOf i).toNat)
  case atStart => exact ⟨0, by omega, rfl, rfl⟩
  case round =>
    obtain ⟨j, hj, rfl, rfl⟩ := hrel
    by_cases hlt : j < n
    · obtain ⟨b, o, rfl⟩ := H.out.at_ (by omega)
      have hcell := H.out.cellAt hlt
      have hsl := Enc.crcRun_lt (xs.take j)
      have hstep := Enc.crcRun_take xs j (by omega)
      have hxj : xs.getD j 0 = xs[j]'(by omega) := by simp [List.getD_eq_getElem?_getD, List.getElem?_eq_getElem (show j < xs.length by omega)]
      rw [hxj] at hcell
      obtain ⟨x, hx⟩ : ∃ x, x = xs[j]'(by omega) := ⟨_, rfl⟩
      rw [← hx] at hcell hstep
      obtain ⟨s, hs⟩ : ∃ s, s = Enc.crcRun (xs.take j) := ⟨_, rfl⟩
      rw [← hs] at hsl hstep ⊢
      have HS := Lib.hid hstep
      have hxb := x.toNat_lt
      have hxor := xor_u32 s x.toNat hsl (by omega)
      have hxl := Enc.crcXor_lt hsl x
      clear hx hxj hs hstep
      go_wp2_with fail
      have hbits : ∀ k, Enc.crcBits k (s ^^^ x.toNat) < 4294967296 := fun k => Enc.crcBits_lt hxl k
      have HBITS := Lib.hid hbits
      clear hbits
      go_loop [3, 5] (fun s' i => ∃ k : Nat, k ≤ 8 ∧ i = .int .i64 k ∧ s' = .int .u32 (Enc.crcBits k (s ^^^ x.toNat) : Nat)) (fun _ i => 8 - (intOf i).toNat)
      case atStart => exact ⟨0, by omega, rfl, rfl⟩
      case round =>
        obtain ⟨k, hk, rfl, rfl⟩ := hrel
        by_cases hk8 : k < 8
        · have hb1 := HBITS.out k
          have hstep : Enc.crcBits (k + 1) (s ^^^ x.toNat) = Enc.crcBits k (s ^^^ x.toNat) / 2 ^^^ (3988292384 * (Enc.crcBits k (s ^^^ x.toNat) % 2)) := rfl
          obtain ⟨t, ht⟩ : ∃ t, t = Enc.crcBits k (s ^^^ x.toNat) := ⟨_, rfl⟩
          rw [← ht] at hb1 hstep ⊢
          have HSTEP := Lib.hid hstep
          clear ht hstep
          by_cases hodd : t % 2 = 1
          · have hxo : bits .xor .u32 ((t : Int) / 2) 3988292384 = ((t / 2 ^^^ 3988292384 : Nat) : Int) := by
              rw [show (t : Int) / 2 = ((t / 2 : Nat) : Int) from by omega, show (3988292384 : Int) = ((3988292384 : Nat) : Int) from rfl]
              exact u32_xor_nat (t / 2) 3988292384 (by omega) (by omega)
            have hodd' : (t : Int) % 2 = 1 := by omega
            go_wp2_with fail
            refine ⟨⟨k + 1, by omega, by simp, ?_⟩, by simp [intOf] <;> omega⟩
            rw [HSTEP.out, hodd, Nat.mul_one]
          · have hodd' : (t : Int) % 2 = 0 := by omega
            go_wp2_with fail
            refine ⟨⟨k + 1, by omega, by simp, ?_⟩, by simp [intOf] <;> omega⟩
            rw [HSTEP.out, show t % 2 = 0 by omega, Nat.mul_zero, Nat.xor_zero]
            rfl
        · have : k = 8 := by omega
          subst this
          go_wp2_with fail
          refine ⟨⟨j + 1, by omega, by simp, ?_⟩, by simp [intOf] <;> omega⟩
          rw [HS.out]
          rfl
    · have : j = n := by omega
      subst this
      have hs := Enc.crcRun_lt (xs.take j)
      have hall : xs.take j = xs := List.take_of_length_le (by omega)
      rw [hall] at hs
      have hnot : bits .xor .u32 IntKind.u32.max (Enc.crcRun xs : Int) = ((4294967295 ^^^ Enc.crcRun xs : Nat) : Int) := by
        rw [show IntKind.u32.max = ((4294967295 : Nat) : Int) from by decide]
        exact u32_xor_nat _ _ (by omega) hs
      obtain ⟨s, hsE⟩ : ∃ s, s = Enc.crcRun xs := ⟨_, rfl⟩
      rw [hall]
      have hsum : Enc.sum xs = 4294967295 ^^^ s := by rw [hsE]; rfl
      rw [← hsE] at hnot ⊢
      have HSUM := Lib.hid hsum
      have HNOT := Lib.hid hnot
      clear hsum hsE hall hnot
      go_wp2_with fail
      go_ret
      exact ⟨rfl, by rw [HSUM.out, HNOT.out]; rfl⟩
end Go.Proofs.Ytdfhdanfigpbpaa
