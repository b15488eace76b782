/- The contracts of four and unfour (the codec's and the reference's), and of bytes.Clone. Conditions stand with each. -/
import Derived.Test.YtdfhdanfigpbpaaWakes
import Derived.Test.YtdfhdanfigpbpaaCrc
namespace Go.Proofs.Ytdfhdanfigpbpaa
open Go.RowKit

namespace Enc
def four (n : Nat) : List UInt8 := [UInt8.ofNat (n / 16777216), UInt8.ofNat (n / 65536), UInt8.ofNat (n / 256), UInt8.ofNat n]
theorem four_length (n : Nat) : (four n).length = 4 := rfl
def unfour (xs : List UInt8) : Nat := (xs.getD 0 0).toNat * 16777216 + (xs.getD 1 0).toNat * 65536 + (xs.getD 2 0).toNat * 256 + (xs.getD 3 0).toNat
theorem unfour_four (n : Nat) (h : n < 4294967296) (post : List UInt8) : unfour (four n ++ post) = n := by
  simp [unfour, four]
  omega
theorem unfour_lt (xs : List UInt8) : unfour xs < 4294967296 := by
  unfold unfour
  have h0 := (xs.getD 0 0).toNat_lt
  have h1 := (xs.getD 1 0).toNat_lt
  have h2 := (xs.getD 2 0).toNat_lt
  have h3 := (xs.getD 3 0).toNat_lt
  omega
/-- a frame: how many bytes, their sum, they -/
def frame (p : List UInt8) : List UInt8 := four p.length ++ (four (sum p) ++ p)
/-- the frame at the front: its payload, and how many bytes it has -/
def unframe (raw : List UInt8) : Option (List UInt8 × Nat) :=
  if raw.length < 8 then none
  else if 1048576 < unfour raw ∨ raw.length - 8 < unfour raw then none
  else if sum ((raw.drop 8).take (unfour raw)) = unfour (raw.drop 4) then some ((raw.drop 8).take (unfour raw), 8 + unfour raw) else none
end Enc

theorem four_cells (n : Nat) (h : n < 4294967296) : [Value.int .u8 ((n : Int) / 16777216), .int .u8 ((n : Int) / 65536 % 256), .int .u8 ((n : Int) / 256 % 256), .int .u8 ((n : Int) % 256)] = u8s (Enc.four n) := by
  simp [u8s, Enc.four]
  omega

set_option maxRecDepth 20000 in
theorem four_any (n : Nat) (w : World) (h : n < 4294967296) :
    Calls Try.prog 97 #[.int .u32 n] w fun e w' => Fresh w w' ∧ w'.heap.size = w.heap.size + 1 ∧ e = .returned (.slice (some ⟨w.heap.size, 0, none⟩) 4 4) ∧ Row w' (.slice (some ⟨w.heap.size, 0, none⟩) 4 4) (Enc.four n) := by
  go_enter Try.func97, Try.ntmps97
  go_wp2_with fail
  go_ret
  exact ⟨(Touch.refl _ w).alloc _, by simp, rfl, Row.lit (Enc.four n) #[.int .u8 ((n : Int) / 16777216), .int .u8 ((n : Int) / 65536 % 256), .int .u8 ((n : Int) / 256 % 256), .int .u8 ((n : Int) % 256)] (four_cells n h) (by rw [Enc.four_length]; omega)⟩

theorem or4 (x0 x1 x2 x3 : Nat) (h0 : x0 < 2 ^ 8) (h1 : x1 < 2 ^ 8) (h2 : x2 < 2 ^ 8) (h3 : x3 < 2 ^ 8) :
    bits .or .u32 (bits .or .u32 (bits .or .u32 ((x0 : Int) * 16777216) ((x1 : Int) * 65536)) ((x2 : Int) * 256)) (x3 : Int) = ((x0 * 16777216 + x1 * 65536 + x2 * 256 + x3 : Nat) : Int) := by
  have e1 : x0 * 16777216 ||| x1 * 65536 = x0 * 16777216 + x1 * 65536 := by
    have := Nat.shiftLeft_add_eq_or_of_lt (b := x1 * 65536) (i := 24) (by omega) x0
    rw [Nat.shiftLeft_eq, show (2 : Nat) ^ 24 = 16777216 from rfl] at this
    exact this.symm
  have e2 : (x0 * 16777216 + x1 * 65536) ||| x2 * 256 = x0 * 16777216 + x1 * 65536 + x2 * 256 := by
    have := Nat.shiftLeft_add_eq_or_of_lt (b := x2 * 256) (i := 16) (by omega) (x0 * 256 + x1)
    rw [Nat.shiftLeft_eq, show (2 : Nat) ^ 16 = 65536 from rfl, show (x0 * 256 + x1) * 65536 = x0 * 16777216 + x1 * 65536 by simp only [Nat.add_mul, Nat.mul_assoc, Nat.reduceMul]] at this
    exact this.symm
  have e3 : (x0 * 16777216 + x1 * 65536 + x2 * 256) ||| x3 = x0 * 16777216 + x1 * 65536 + x2 * 256 + x3 := by
    have := Nat.shiftLeft_add_eq_or_of_lt (b := x3) (i := 8) (by omega) (x0 * 65536 + x1 * 256 + x2)
    rw [Nat.shiftLeft_eq, show (2 : Nat) ^ 8 = 256 from rfl, show (x0 * 65536 + x1 * 256 + x2) * 256 = x0 * 16777216 + x1 * 65536 + x2 * 256 by simp only [Nat.add_mul, Nat.mul_assoc, Nat.reduceMul]] at this
    exact this.symm
  rw [show (x0 : Int) * 16777216 = ((x0 * 16777216 : Nat) : Int) by simp, show (x1 : Int) * 65536 = ((x1 * 65536 : Nat) : Int) by simp, show (x2 : Int) * 256 = ((x2 * 256 : Nat) : Int) by simp]
  rw [u32_or_nat _ _ (by omega) (by omega), e1, u32_or_nat _ _ (by omega) (by omega), e2, u32_or_nat _ _ (by omega) (by omega), e3]

set_option maxRecDepth 20000 in
theorem unfour_any (A : Option Addr) (n c : Nat) (xs : List UInt8) (w : World) (hb : Bs w A n c xs) (h4 : 4 ≤ n) :
    Calls Try.prog 98 #[.slice A n c] w fun e w' => (∃ k, w' = w.drewN k) ∧ e = .returned (.int .u32 (Enc.unfour xs : Nat)) := by
  obtain ⟨b, o, rfl⟩ := hb.at_ (by omega)
  have hc0 : w.cell? ⟨b, o, none⟩ = some (.int .u8 ((xs.getD 0 0).toNat : Int)) := hb.cellAt (j := 0) (by omega)
  have hc1 := hb.cellAt (j := 1) (by omega)
  have hc2 := hb.cellAt (j := 2) (by omega)
  have hc3 := hb.cellAt (j := 3) (by omega)
  have hx0 := (xs.getD 0 0).toNat_lt
  have hx1 := (xs.getD 1 0).toNat_lt
  have hx2 := (xs.getD 2 0).toNat_lt
  have hx3 := (xs.getD 3 0).toNat_lt
  have hu : Enc.unfour xs = (xs.getD 0 0).toNat * 16777216 + (xs.getD 1 0).toNat * 65536 + (xs.getD 2 0).toNat * 256 + (xs.getD 3 0).toNat := rfl
  generalize (xs.getD 0 0).toNat = x0 at *
  generalize (xs.getD 1 0).toNat = x1 at *
  generalize (xs.getD 2 0).toNat = x2 at *
  generalize (xs.getD 3 0).toNat = x3 at *
  have HU := Lib.hid hu
  have hn0 : (0 : Int) < (n : Int) := by omega
  have hnn : 0 < n := by omega
  have hn1 : (1 : Int) < (n : Int) := by omega
  have hn2 : (2 : Int) < (n : Int) := by omega
  have hn3 : (3 : Int) < (n : Int) := by omega
  clear hu hb
  go_enter Try.func98, Try.ntmps98
  go_wp2_with fail
  go_quiet (fail)
  go_wp2_with fail
  go_ret
  refine ⟨⟨nq, rfl⟩, ?_⟩
  have := or4 x0 x1 x2 x3 hx0 hx1 hx2 hx3
  rw [HU.out, ← this]
  rfl
end Go.Proofs.Ytdfhdanfigpbpaa
