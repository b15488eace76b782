/- ring.step, ring.Point, ring.Turn, ring.Before at points whose parts are whole and in range. Conditions stand with each. -/
import Derived.Test.YtnbpmlbhigchnaaGreatDoorModw
namespace Go.Proofs.YtnbpmlbhigchnaaGreatDoor
open Go.RowKit Ieee

set_option maxRecDepth 20000 in
set_option maxHeartbeats 1000000 in
theorem step_any {x y : Nat} {z : Int × Int} (hx : FV x z.1) (hy : FV y z.2) (hz : InZ z) (b : UInt8) (w : World) :
    Calls Tryz.prog 36 #[.complex .f64 x y, .int .u8 (b.toNat : Int)] w fun e w' => (∃ x' y', e = .returned (.complex .f64 x' y') ∧ FV x' (stepZ z b.toNat).1 ∧ FV y' (stepZ z b.toNat).2) ∧ w' = w := by
  obtain ⟨z1, z2⟩ := z
  obtain ⟨h1, h2, h3, h4⟩ := hz
  dsimp only [pM] at *
  have hb : b.toNat < 256 := b.toNat_lt
  obtain ⟨r1, i1, e1, hr1, hi1⟩ := mul_turn hx hy (by omega) (by omega) (by omega) (by omega)
  have km : ∀ t w, (binOp .mul t (.complex .f64 x y) (.complex .f64 4613937818241073152 4611686018427387904)).run Tryz.prog w = .ok (.complex .f64 r1 i1) w := fun t w => run_complex_mul w t _ _ _ _ _ _ e1
  obtain ⟨r2, i2, e2, hr2, hi2⟩ := sum_byte hr1 hi1 (FV.ofInt (b.toNat : Int)) FV.oneF (by omega) (by omega) (by omega) (by omega) (by omega) (by omega) (by omega) (by omega)
  have ks : ∀ t w, (binOp .add t (.complex .f64 r1 i1) (.complex .f64 (floatOfInt .f64 (b.toNat : Int)) 4607182418800017408)).run Tryz.prog w = .ok (.complex .f64 r2 i2) w := fun t w => run_complex_sum w .add (.inl rfl) t .f64 _ _ _ _ _ _ e2
  have K1 := Lib.hid (taken_any hr2 (by omega) (by omega) w)
  have K2 := Lib.hid (taken_any hi2 (by omega) (by omega) w)
  have s1 : (stepZ (z1, z2) b.toNat).1 = (3 * z1 - 2 * z2 + (b.toNat : Int)) % 16777213 := rfl
  have s2 : (stepZ (z1, z2) b.toNat).2 = (2 * z1 + 3 * z2 + 1) % 16777213 := rfl
  rw [s1, s2]
  clear hx hy hr1 hi1 hr2 hi2 e1 e2 s1 s2
  go_enter Tryz.func36, Tryz.ntmps36
  go_wp2_with (simp only [km, ks])
  refine K1.out.mono ?_
  rintro e w1 ⟨⟨r3, rfl, hr3⟩, hw1⟩
  rw [hw1]
  clear hw1 w1
  go_wp2_with fail
  refine K2.out.mono ?_
  rintro e w1 ⟨⟨i3, rfl, hi3⟩, hw1⟩
  rw [hw1]
  clear hw1 w1
  go_wp2_with fail
  all_goals (go_ret; exact ⟨⟨r3, i3, by simp, hr3, hi3⟩, rfl⟩)

/-- the point as far as it is read -/
theorem pointZ_eq (s : List UInt8) : pointZ s = stepZ (stepZ (stepZ (s.foldl (fun (z : Int × Int) (b : UInt8) => stepZ z b.toNat) (1, 0)) 0) 0) 0 := by
  unfold pointZ
  rw [List.foldl_append]
  rfl
def partZ (s : List UInt8) (k : Nat) : Int × Int := ((s ++ [0, 0, 0]).take k).foldl (fun (z : Int × Int) (b : UInt8) => stepZ z b.toNat) (1, 0)
theorem partZ_in (s : List UInt8) (k : Nat) : InZ (partZ s k) := InZ.fold _ _ InZ.one
theorem partZ_step (s : List UInt8) (k : Nat) (b : UInt8) (h : (s ++ [0, 0, 0])[k]? = some b) : partZ s (k + 1) = stepZ (partZ s k) b.toNat := by
  unfold partZ
  rw [List.take_add_one, h, List.foldl_append]
  rfl
theorem partZ_end (s : List UInt8) : partZ s (s.length + 3) = pointZ s := by
  unfold partZ pointZ
  rw [List.take_of_length_le (by simp)]

set_option maxRecDepth 20000 in
set_option maxHeartbeats 1000000 in
theorem point_any (s : List UInt8) (hs : s.length ≤ 1000000) (w : World) :
    Calls Tryz.prog 18 #[.string ⟨s.toArray⟩] w fun e w' => (∃ x y, e = .returned (.complex .f64 x y) ∧ FV x (pointZ s).1 ∧ FV y (pointZ s).2) ∧ w' = w := by
  have hsz : (⟨s.toArray⟩ : ByteArray).size = s.length := rfl
  go_enter Tryz.func18, Tryz.ntmps18
  go_wp2_with fail
  go_loop [3, 7] (fun z i => ∃ j x y : Nat, j ≤ s.length ∧ i = .int .i64 j ∧ z = .complex .f64 x y ∧ FV x (partZ s j).1 ∧ FV y (partZ s j).2) (fun _ i => s.length - (intOf i).toNat)
  case atStart => exact ⟨0, _, _, Nat.zero_le _, rfl, rfl, FV.oneF, FV.pz⟩
  case round =>
    obtain ⟨j, x, y, hj, rfl, rfl, hx, hy⟩ := hrel
    have HX := Lib.hid hx; have HY := Lib.hid hy
    clear hx hy
    by_cases hlt : j < s.length
    · obtain ⟨b, hb⟩ : ∃ b, s[j]? = some b := ⟨s[j], List.getElem?_eq_getElem hlt⟩
      have KS := Lib.hid (step_any HX.out HY.out (partZ_in s j) b w)
      have HB := Lib.hid hb
      have hbb : (⟨s.toArray⟩ : ByteArray)[j]'(by rw [hsz]; exact hlt) = b := by
        have := List.getElem?_eq_getElem hlt
        rw [hb] at this
        exact (Option.some.inj this).symm
      clear hb
      go_wp2_with fail
      refine KS.out.mono ?_
      rintro e w1 ⟨⟨x2, y2, rfl, hx2, hy2⟩, hw1⟩
      have h0 : (s ++ [0, 0, 0])[j]? = some b := by rw [List.getElem?_append_left hlt]; exact HB.out
      rw [← partZ_step s j b h0] at hx2 hy2
      have HX2 := Lib.hid hx2; have HY2 := Lib.hid hy2
      rw [hw1]
      clear hw1 w1 hx2 hy2 h0
      go_wp2_with fail
      go_round
      case rel => exact ⟨j + 1, x2, y2, by omega, by go_num, rfl, HX2.out, HY2.out⟩
      case measure => simp [intOf] <;> omega
    · obtain rfl : j = s.length := by omega
      go_wp2_with fail
      go_loop [3, 16] (fun z i => ∃ j x y : Nat, j ≤ 3 ∧ i = .int .i64 j ∧ z = .complex .f64 x y ∧ FV x (partZ s (s.length + j)).1 ∧ FV y (partZ s (s.length + j)).2) (fun _ i => 3 - (intOf i).toNat)
      case atStart => exact ⟨0, _, _, Nat.zero_le _, rfl, rfl, HX.out, HY.out⟩
      case round =>
        obtain ⟨j, x, y, hj, rfl, rfl, hx, hy⟩ := hrel
        have HX := Lib.hid hx; have HY := Lib.hid hy
        clear hx hy
        by_cases hlt : j < 3
        · have KS := Lib.hid (step_any HX.out HY.out (partZ_in s (s.length + j)) 0 w)
          go_wp2_with fail
          refine KS.out.mono ?_
          rintro e w1 ⟨⟨x2, y2, rfl, hx2, hy2⟩, hw1⟩
          have h0 : (s ++ [0, 0, 0])[s.length + j]? = some (0 : UInt8) := by
            rw [List.getElem?_append_right (by omega), Nat.add_sub_cancel_left]
            have : j = 0 ∨ j = 1 ∨ j = 2 := by omega
            rcases this with rfl | rfl | rfl <;> rfl
          rw [← partZ_step s _ 0 h0] at hx2 hy2
          have HX2 := Lib.hid hx2; have HY2 := Lib.hid hy2
          rw [hw1]
          clear hw1 w1 hx2 hy2 h0
          go_wp2_with fail
          go_round
          case rel => exact ⟨j + 1, x2, y2, by omega, by go_num, rfl, HX2.out, HY2.out⟩
          case measure => simp [intOf] <;> omega
        · obtain rfl : j = 3 := by omega
          have hx := HX.out
          have hy := HY.out
          rw [partZ_end] at hx hy
          have HX2 := Lib.hid hx; have HY2 := Lib.hid hy
          clear hx hy
          go_wp2_with fail
          all_goals (go_ret; exact ⟨⟨x, y, by simp, HX2.out, HY2.out⟩, rfl⟩)
end Go.Proofs.YtnbpmlbhigchnaaGreatDoor
