/- The document's points: whole, step, Point, Z, Before; ring.Turn, ring.Before. Conditions stand with each. -/
import Derived.Test.YtnbpmlbhigchnaaGreatDoorPnt
import Derived.Test.YtnbpmlbhigchnaaGreatDoorRndQ
namespace Go.Proofs.YtnbpmlbhigchnaaGreatDoor
open Go.RowKit Ieee

set_option maxRecDepth 20000 in
theorem whole_any (n : Int) (_h1 : -1000000000 < n) (_h2 : n < 1000000000) (w : World) : Calls Tryz.prog 65 #[.int .i64 n] w fun e w' => e = .returned (.int .i64 (n % 16777213)) ∧ w' = w := by
  have hm1 := Int.tmod_lt_of_pos n (b := 16777213) (by decide)
  have hm2 : -16777213 < n.tmod 16777213 := by
    have := Int.tmod_lt_of_pos (-n) (b := 16777213) (by decide)
    rw [Int.neg_tmod] at this
    omega
  have he : n % 16777213 = if n.tmod 16777213 < 0 then n.tmod 16777213 + 16777213 else n.tmod 16777213 := by
    have h3 := Int.mul_tdiv_add_tmod n 16777213
    split <;> omega
  have g1 : IntKind.i64.wrap (n.tmod 16777213) = n.tmod 16777213 := IntWalk.i64_in _ (by omega)
  have g2 : IntKind.i64.wrap (n.tmod 16777213 + 16777213) = n.tmod 16777213 + 16777213 := IntWalk.i64_in _ (by omega)
  by_cases hneg : n.tmod 16777213 < 0
  · rw [if_pos hneg] at he
    rw [he]
    clear he
    go_enter Tryz.func65, Tryz.ntmps65
    go_wp2_with fail
    all_goals (go_ret; exact ⟨by simp, rfl⟩)
  · rw [if_neg hneg] at he
    rw [he]
    clear he
    go_enter Tryz.func65, Tryz.ntmps65
    go_wp2_with fail
    all_goals (go_ret; exact ⟨by simp, rfl⟩)

/-- a point as the document holds it -/
def zV (z : Int × Int) : Value := .agg #[.int .i64 z.1, .int .i64 z.2]
set_option maxRecDepth 20000 in
set_option maxHeartbeats 1000000 in
theorem refstep_any (z : Int × Int) (hz : InZ z) (b : Nat) (hb : b < 256) (w : World) :
    Calls Tryz.prog 42 #[.agg #[.int .i64 z.1, .int .i64 z.2], .int .i64 (b : Int)] w fun e w' => e = .returned (zV (stepZ z b)) ∧ Fresh w w' := by
  obtain ⟨z1, z2⟩ := z
  obtain ⟨h1, h2, h3, h4⟩ := hz
  dsimp only [pM] at *
  have K1 := Lib.hid (fun W => whole_any (3 * z1 - 2 * z2 + b) (by omega) (by omega) W)
  have K2 := Lib.hid (fun W => whole_any (2 * z1 + 3 * z2 + 1) (by omega) (by omega) W)
  have g1 : IntKind.i64.wrap (3 * z1) = 3 * z1 := IntWalk.i64_in _ (by omega)
  have g2 : IntKind.i64.wrap (2 * z2) = 2 * z2 := IntWalk.i64_in _ (by omega)
  have g3 : IntKind.i64.wrap (3 * z1 - 2 * z2) = 3 * z1 - 2 * z2 := IntWalk.i64_in _ (by omega)
  have g4 : IntKind.i64.wrap (3 * z1 - 2 * z2 + b) = 3 * z1 - 2 * z2 + b := IntWalk.i64_in _ (by omega)
  have g5 : IntKind.i64.wrap (2 * z1) = 2 * z1 := IntWalk.i64_in _ (by omega)
  have g6 : IntKind.i64.wrap (3 * z2) = 3 * z2 := IntWalk.i64_in _ (by omega)
  have g7 : IntKind.i64.wrap (2 * z1 + 3 * z2) = 2 * z1 + 3 * z2 := IntWalk.i64_in _ (by omega)
  have g8 : IntKind.i64.wrap (2 * z1 + 3 * z2 + 1) = 2 * z1 + 3 * z2 + 1 := IntWalk.i64_in _ (by omega)
  obtain ⟨W1, hW1⟩ : ∃ W1, W1 = (w.alloc (.cells #[.int .i64 z1, .int .i64 z2] 47)).alloc (.cells #[.int .i64 0, .int .i64 0] 47) := ⟨_, rfl⟩
  have hf : Fresh w W1 := by rw [hW1]; exact ((Touch.refl _ w).alloc _).alloc _
  have hb1 : Blk W1 w.heap.size 47 #[.int .i64 z1, .int .i64 z2] := by rw [hW1]; exact (Blk.new _ _ _).alloc _
  have hb2 : Blk W1 (w.heap.size + 1) 47 #[.int .i64 0, .int .i64 0] := by
    rw [hW1]
    have := Blk.new (w.alloc (.cells #[.int .i64 z1, .int .i64 z2] 47)) 47 #[.int .i64 0, .int .i64 0]
    rwa [World.size_alloc] at this
  have c0 := hb1.cell 0
  have c1 := hb1.cell 1
  have d0 := hb2.cell 0
  have d1 := hb2.cell 1
  have f0 := hb2.frozen 0
  have f1 := hb2.frozen 1
  simp only [List.getElem?_toArray, List.getElem?_cons_zero, List.getElem?_cons_succ] at c0 c1 d0 d1
  have HW := Lib.hid hW1; have HF := Lib.hid hf; have HB2 := Lib.hid hb2
  clear hf hb1 hb2 hW1
  go_enter Tryz.func42, Tryz.ntmps42
  go_wp2_with fail
  rw [← HW.out]
  refine region_tail 20 (by kernel_rfl) (by kernel_rfl) rfl rfl ?_
  simp only [List.take_succ_cons, List.take_zero, List.drop_succ_cons, List.drop_zero]
  repeat (go_big_quiet_step (fail))
  go_big_quiet_want
  go_big_quiet_op
  refine ⟨_, K1.out _, ?_⟩
  go_big_quiet_on
  repeat (go_big_quiet_step (fail))
  go_big_quiet_want
  go_big_quiet_op
  refine ⟨_, K2.out _, ?_⟩
  go_big_quiet_on
  repeat (go_big_quiet_step (fail))
  refine wpQuiet_nil ?_
  go_wp2_with fail
  have hb3 := ((HB2.out.set_ 0 (.int .i64 ((3 * z1 - 2 * z2 + (b : Int)) % 16777213))).set_ 1 (.int .i64 ((2 * z1 + 3 * z2 + 1) % 16777213))).drew
  have e0 := hb3.cell 0
  have e1 := hb3.cell 1
  simp [-World.cell?_drew] at e0 e1
  refine bodyPost_ret (v := zV (stepZ (z1, z2) b)) (by simp [results, Tryz.results42, go_sem, e0, e1, zV, stepZ]) rfl ⟨rfl, ?_⟩
  exact ((HF.out.setCell (p := ⟨w.heap.size + 1, 0, none⟩) (.inl (Nat.le_succ _)) _).setCell (p := ⟨w.heap.size + 1, 1, none⟩) (.inl (Nat.le_succ _)) _).drew

/-- the box of a point -/
def zCells (z : Int × Int) : Array Value := #[.int .i64 z.1, .int .i64 z.2]
set_option maxRecDepth 20000 in
set_option maxHeartbeats 2000000 in
theorem refpoint_any (s : List UInt8) (hs : s.length ≤ 1000000) (w : World) :
    Calls Tryz.prog 25 #[.string ⟨s.toArray⟩] w fun e w' => e = .returned (zV (pointZ s)) ∧ Fresh w w' := by
  have hsz : (⟨s.toArray⟩ : ByteArray).size = s.length := rfl
  obtain ⟨W1, hW1⟩ : ∃ W1, W1 = (w.alloc (.cells #[.int .i64 0, .int .i64 0] 47)).alloc (.cells #[.int .i64 1, .int .i64 0] 47) := ⟨_, rfl⟩
  have HF := Lib.hid (show Fresh w W1 by rw [hW1]; exact ((Touch.refl _ w).alloc _).alloc _)
  have HA := Lib.hid (show Blk W1 w.heap.size 47 #[.int .i64 0, .int .i64 0] by rw [hW1]; exact (Blk.new _ _ _).alloc _)
  have HB := Lib.hid (show Blk W1 (w.heap.size + 1) 47 (zCells (partZ s 0)) by
    rw [hW1]
    have := Blk.new (w.alloc (.cells #[.int .i64 0, .int .i64 0] 47)) 47 #[.int .i64 1, .int .i64 0]
    rwa [World.size_alloc] at this)
  have HW := Lib.hid hW1
  clear hW1
  go_enter Tryz.func25, Tryz.ntmps25
  go_wp2_with fail
  rw [← HW.out]
  go_loopw [4] (fun i wr => ∃ j : Nat, j ≤ s.length ∧ i = .int .i64 j ∧ Fresh w wr ∧ Blk wr w.heap.size 47 #[.int .i64 0, .int .i64 0] ∧ Blk wr (w.heap.size + 1) 47 (zCells (partZ s j))) (fun i _ => s.length - (intOf i).toNat)
  case atStart => exact ⟨0, Nat.zero_le _, rfl, HF.out, HA.out, HB.out⟩
  case round =>
    clear HW HF HA HB
    obtain ⟨j, hj, rfl, hf, ha, hb⟩ := hrel
    have HF := Lib.hid hf; have HA := Lib.hid ha; have HB := Lib.hid hb
    clear hf ha hb
    by_cases hlt : j < s.length
    · obtain ⟨b, hbj⟩ : ∃ b, s[j]? = some b := ⟨s[j], List.getElem?_eq_getElem hlt⟩
      have hbb : (⟨s.toArray⟩ : ByteArray)[j]'(by rw [hsz]; exact hlt) = b := by
        have := List.getElem?_eq_getElem hlt
        rw [hbj] at this
        exact (Option.some.inj this).symm
      have h0 : (s ++ [0, 0, 0])[j]? = some b := by rw [List.getElem?_append_left hlt]; exact hbj
      have hst := partZ_step s j b h0
      have KS := Lib.hid (fun W => refstep_any (partZ s j) (partZ_in s j) b.toNat b.toNat_lt W)
      rw [← hst] at KS
      have HBv := HB.out
      obtain ⟨z2, hz2⟩ : ∃ z2, z2 = partZ s (j + 1) := ⟨_, rfl⟩
      rw [← hz2] at KS
      have HZ2 := Lib.hid hz2
      clear hz2
      generalize partZ s j = z at *
      have c0 : wr.cell? ⟨w.heap.size + 1, 0, none⟩ = some (.int .i64 z.1) := HBv.cell 0
      have c1 : wr.cell? ⟨w.heap.size + 1, 1, none⟩ = some (.int .i64 z.2) := HBv.cell 1
      clear HBv hbj h0 hst
      go_wp2_with fail
      refine region_tail 5 (by kernel_rfl) (by kernel_rfl) rfl rfl ?_
      simp only [List.take_succ_cons, List.take_zero, List.drop_succ_cons, List.drop_zero]
      repeat (go_big_quiet_step (fail))
      refine wpQuiet_nil ?_
      go_wp2_with fail
      rw [show wrap64 (b.toNat : Int) = (b.toNat : Int) from by have := b.toNat_lt; unfold wrap64; omega]
      refine (KS.out _).mono ?_
      rintro e w3 ⟨rfl, hf3⟩
      have hb3 := HB.out.drew.touch hf3 id
      have HA3 := Lib.hid (HA.out.drew.touch hf3 id)
      have HF3 := Lib.hid (HF.out.drew.trans hf3 fun _ _ => id)
      have HB3 := Lib.hid hb3
      have d0 : w3.cell? ⟨w.heap.size + 1, 0, none⟩ = some (.int .i64 z.1) := hb3.cell 0
      have d1 : w3.cell? ⟨w.heap.size + 1, 1, none⟩ = some (.int .i64 z.2) := hb3.cell 1
      have f0 := hb3.frozen 0
      have f1 := hb3.frozen 1
      clear hf3 hb3 c0 c1
      dsimp only [zV]
      go_wp2_with fail
      go_roundw
      case rel =>
        refine ⟨j + 1, by omega, by go_num, (HF3.out.setCell (p := ⟨w.heap.size + 1, 0, none⟩) (.inl (Nat.le_succ _)) _).setCell (p := ⟨w.heap.size + 1, 1, none⟩) (.inl (Nat.le_succ _)) _,
          (HA3.out.far (p := ⟨w.heap.size + 1, 0, none⟩) (Nat.ne_of_lt (Nat.lt_succ_self _)) _).far (p := ⟨w.heap.size + 1, 1, none⟩) (Nat.ne_of_lt (Nat.lt_succ_self _)) _, ?_⟩
        rw [← HZ2.out]
        have := (HB3.out.set_ 0 (.int .i64 z2.1)).set_ 1 (.int .i64 z2.2)
        simpa [zCells] using this
      case measure => simp [intOf] <;> omega
    · obtain rfl : j = s.length := by omega
      go_wp2_with fail
      go_loopw [5] (fun i wr => ∃ j : Nat, j ≤ 3 ∧ i = .int .i64 j ∧ Fresh w wr ∧ Blk wr w.heap.size 47 #[.int .i64 0, .int .i64 0] ∧ Blk wr (w.heap.size + 1) 47 (zCells (partZ s (s.length + j)))) (fun i _ => 3 - (intOf i).toNat)
      case atStart => exact ⟨0, Nat.zero_le _, rfl, HF.out, HA.out, HB.out⟩
      case round =>
        clear HF HA HB
        obtain ⟨j, hj, rfl, hf, ha, hb⟩ := hrel
        have HF := Lib.hid hf; have HA := Lib.hid ha; have HB := Lib.hid hb
        clear hf ha hb
        by_cases hlt : j < 3
        · have h0 : (s ++ [0, 0, 0])[s.length + j]? = some (0 : UInt8) := by
            rw [List.getElem?_append_right (by omega), Nat.add_sub_cancel_left]
            have : j = 0 ∨ j = 1 ∨ j = 2 := by omega
            rcases this with rfl | rfl | rfl <;> rfl
          have hst := partZ_step s (s.length + j) 0 h0
          have KS := Lib.hid (fun W => refstep_any (partZ s (s.length + j)) (partZ_in s (s.length + j)) 0 (by decide) W)
          rw [show (0 : UInt8).toNat = 0 from rfl] at hst
          rw [← hst] at KS
          rw [Nat.add_assoc] at KS
          have HBv := HB.out
          have hz2 : ∃ z2, z2 = partZ s (s.length + (j + 1)) := ⟨_, rfl⟩
          obtain ⟨z2, hz2⟩ := hz2
          rw [← hz2] at KS
          have HZ2 := Lib.hid hz2
          clear hz2
          generalize partZ s (s.length + j) = z at *
          have c0 : wr.cell? ⟨w.heap.size + 1, 0, none⟩ = some (.int .i64 z.1) := HBv.cell 0
          have c1 : wr.cell? ⟨w.heap.size + 1, 1, none⟩ = some (.int .i64 z.2) := HBv.cell 1
          clear HBv h0 hst
          go_wp2_with fail
          refine (KS.out _).mono ?_
          rintro e w3 ⟨rfl, hf3⟩
          have hb3 := HB.out.touch hf3 id
          have HA3 := Lib.hid (HA.out.touch hf3 id)
          have HF3 := Lib.hid (HF.out.trans hf3 fun _ _ => id)
          have HB3 := Lib.hid hb3
          have d0 : w3.cell? ⟨w.heap.size + 1, 0, none⟩ = some (.int .i64 z.1) := hb3.cell 0
          have d1 : w3.cell? ⟨w.heap.size + 1, 1, none⟩ = some (.int .i64 z.2) := hb3.cell 1
          have f0 := hb3.frozen 0
          have f1 := hb3.frozen 1
          clear hf3 hb3 c0 c1
          dsimp only [zV]
          go_wp2_with fail
          go_roundw
          case rel =>
            refine ⟨j + 1, by omega, by go_num, (HF3.out.setCell (p := ⟨w.heap.size + 1, 0, none⟩) (.inl (Nat.le_succ _)) _).setCell (p := ⟨w.heap.size + 1, 1, none⟩) (.inl (Nat.le_succ _)) _,
              (HA3.out.far (p := ⟨w.heap.size + 1, 0, none⟩) (Nat.ne_of_lt (Nat.lt_succ_self _)) _).far (p := ⟨w.heap.size + 1, 1, none⟩) (Nat.ne_of_lt (Nat.lt_succ_self _)) _, ?_⟩
            rw [← HZ2.out]
            have := (HB3.out.set_ 0 (.int .i64 z2.1)).set_ 1 (.int .i64 z2.2)
            simpa [zCells] using this
          case measure => simp [intOf] <;> omega
        · obtain rfl : j = 3 := by omega
          have hb := HB.out
          rw [partZ_end] at hb
          obtain ⟨z, hz⟩ : ∃ z, z = pointZ s := ⟨_, rfl⟩
          rw [← hz] at hb
          have HZ := Lib.hid hz
          clear hz
          have c0 : wr.cell? ⟨w.heap.size + 1, 0, none⟩ = some (.int .i64 z.1) := hb.cell 0
          have c1 : wr.cell? ⟨w.heap.size + 1, 1, none⟩ = some (.int .i64 z.2) := hb.cell 1
          have f0 := HA.out.frozen 0
          have f1 := HA.out.frozen 1
          have a0 := HA.out.cell 0
          have a1 := HA.out.cell 1
          simp only [List.getElem?_toArray, List.getElem?_cons_zero, List.getElem?_cons_succ] at a0 a1
          clear hb
          go_wp2_with fail
          have hb3 := ((HA.out.set_ 0 (.int .i64 z.1)).set_ 1 (.int .i64 z.2))
          have e0 := hb3.cell 0
          have e1 := hb3.cell 1
          simp at e0 e1
          refine bodyPost_ret (v := zV z) (by simp [results, Tryz.results25, go_sem, e0, e1, zV]) rfl ⟨by rw [HZ.out], ?_⟩
          exact (HF.out.setCell (p := ⟨w.heap.size, 0, none⟩) (.inl (Nat.le_refl _)) _).setCell (p := ⟨w.heap.size, 1, none⟩) (.inl (Nat.le_refl _)) _
end Go.Proofs.YtnbpmlbhigchnaaGreatDoor
