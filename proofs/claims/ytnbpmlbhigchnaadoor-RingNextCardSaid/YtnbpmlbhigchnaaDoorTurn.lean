/- ring.Turn, ring.Before, the document's Z and Before, equality of complex numbers; ring.Shard and the document's Shard. Conditions stand with each. -/
import Derived.Test.YtnbpmlbhigchnaaDoorRef
namespace Go.Proofs.YtnbpmlbhigchnaaDoor
open Go.RowKit Ieee

theorem InZ.lt {z : Int × Int} (h : InZ z) : z.1.natAbs < 2 ^ 53 ∧ z.2.natAbs < 2 ^ 53 := by
  obtain ⟨h1, h2, h3, h4⟩ := h
  dsimp only [pM] at *
  exact ⟨lt53 (by omega) (by omega), lt53 (by omega) (by omega)⟩

theorem befZ_cmp (z q : Int × Int) : befZ z q = (compare z.1 q.1 == .lt || (compare z.1 q.1 == .eq && compare z.2 q.2 == .lt)) := by
  rw [cmp_lt, cmp_eq, cmp_lt]
  rfl
set_option maxRecDepth 20000 in
theorem before_any {x y u v : Nat} {z q : Int × Int} (hx : FV x z.1) (hy : FV y z.2) (hu : FV u q.1) (hv : FV v q.2) (hz : InZ z) (hq : InZ q) (w : World) :
    Calls Tryd.prog 16 #[.complex .f64 x y, .complex .f64 u v] w fun e w' => e = .returned (.bool (befZ z q)) ∧ w' = w := by
  have o1 : FloatKind.f64.format.order x u = some (compare z.1 q.1) := hx.order hu hz.lt.1 hq.lt.1
  have o2 : FloatKind.f64.format.order y v = some (compare z.2 q.2) := hy.order hv hz.lt.2 hq.lt.2
  rw [befZ_cmp]
  generalize compare z.1 q.1 = c1 at *
  generalize compare z.2 q.2 = c2 at *
  clear hx hy hu hv hz hq
  cases c1 <;> cases c2
  all_goals
    go_enter Tryd.func16, Tryd.ntmps16
    go_wp2_with fail
    all_goals (go_ret; exact ⟨by first | rfl | simp [o1, o2], rfl⟩)

set_option maxRecDepth 20000 in
theorem turn_any {x y : Nat} {z : Int × Int} (hx : FV x z.1) (hy : FV y z.2) (hz : z.2.natAbs < 2 ^ 53) (w : World) :
    Calls Tryd.prog 15 #[.complex .f64 x y] w fun e w' => (∃ x' y', e = .returned (.complex .f64 x' y') ∧ FV x' (-z.2) ∧ FV y' z.1) ∧ w' = w := by
  have HN := Lib.hid (hy.negF hz)
  have HX := Lib.hid hx
  have kn : ∀ w, (Op.unary .neg (.float .f64 y)).run Tryd.prog w = .ok (.float .f64 (Op.negFloat .f64 y)) w := fun _ => rfl
  clear hx hy hz
  go_enter Tryd.func15, Tryd.ntmps15
  go_wp2_with fail
  all_goals (go_ret; exact ⟨⟨_, _, rfl, HN.out, HX.out⟩, rfl⟩)

set_option maxRecDepth 20000 in
theorem refz_any (z : Int × Int) (w : World) :
    Calls Tryd.prog 14 #[.agg #[.int .i64 z.1, .int .i64 z.2]] w fun e w' => e = .returned (.complex .f64 (floatOfInt .f64 z.1) (floatOfInt .f64 z.2)) ∧ Fresh w w' := by
  obtain ⟨W1, hW1⟩ : ∃ W1, W1 = w.alloc (.cells #[.int .i64 z.1, .int .i64 z.2] 24) := ⟨_, rfl⟩
  have HF := Lib.hid (show Fresh w W1 by rw [hW1]; exact (Touch.refl _ w).alloc _)
  have hb : Blk W1 w.heap.size 24 #[.int .i64 z.1, .int .i64 z.2] := by rw [hW1]; exact Blk.new _ _ _
  have c0 : W1.cell? ⟨w.heap.size, 0, none⟩ = some (.int .i64 z.1) := hb.cell 0
  have c1 : W1.cell? ⟨w.heap.size, 1, none⟩ = some (.int .i64 z.2) := hb.cell 1
  have HW := Lib.hid hW1
  clear hb hW1
  go_enter Tryd.func14, Tryd.ntmps14
  go_wp2_with fail
  rw [← HW.out]
  go_wp2_with fail
  all_goals (go_ret; exact ⟨rfl, HF.out⟩)

set_option maxRecDepth 20000 in
theorem refbefore_any (z q : Int × Int) (w : World) :
    Calls Tryd.prog 17 #[.agg #[.int .i64 z.1, .int .i64 z.2], .agg #[.int .i64 q.1, .int .i64 q.2]] w fun e w' => e = .returned (.bool (befZ z q)) ∧ Fresh w w' := by
  obtain ⟨W1, hW1⟩ : ∃ W1, W1 = (w.alloc (.cells #[.int .i64 z.1, .int .i64 z.2] 24)).alloc (.cells #[.int .i64 q.1, .int .i64 q.2] 24) := ⟨_, rfl⟩
  have HF := Lib.hid (show Fresh w W1 by rw [hW1]; exact ((Touch.refl _ w).alloc _).alloc _)
  have hb : Blk W1 w.heap.size 24 #[.int .i64 z.1, .int .i64 z.2] := by rw [hW1]; exact (Blk.new _ _ _).alloc _
  have hd : Blk W1 (w.heap.size + 1) 24 #[.int .i64 q.1, .int .i64 q.2] := by
    rw [hW1]
    have := Blk.new (w.alloc (.cells #[.int .i64 z.1, .int .i64 z.2] 24)) 24 #[.int .i64 q.1, .int .i64 q.2]
    rwa [World.size_alloc] at this
  have c0 : W1.cell? ⟨w.heap.size, 0, none⟩ = some (.int .i64 z.1) := hb.cell 0
  have c1 : W1.cell? ⟨w.heap.size, 1, none⟩ = some (.int .i64 z.2) := hb.cell 1
  have d0 : W1.cell? ⟨w.heap.size + 1, 0, none⟩ = some (.int .i64 q.1) := hd.cell 0
  have d1 : W1.cell? ⟨w.heap.size + 1, 1, none⟩ = some (.int .i64 q.2) := hd.cell 1
  have HW := Lib.hid hW1
  clear hb hd hW1
  unfold befZ
  obtain ⟨a, b⟩ := z
  obtain ⟨c, d⟩ := q
  dsimp only at *
  rcases Int.lt_trichotomy a c with h1 | rfl | h1
  case' inl => have h2 : ¬ a = c := by omega
  case' inr.inl => have h1 : ¬ a < a := by omega
  case' inr.inl => have h2 : a = a := rfl
  case' inr.inr => have h2 : ¬ a = c := by omega
  case' inr.inr => have h3 : ¬ a < c := by omega
  all_goals
    go_enter Tryd.func17, Tryd.ntmps17
    go_wp2_with fail
    rw [← HW.out]
    go_wp2_with fail
    all_goals (go_ret; exact ⟨by first | rfl | (simp [h1, h2]; done) | (simp; omega), HF.out⟩)

/-- whose shard -/
def shardZ (s : List UInt8) (n : Int) : Int := if n < 1 then 0 else ((pointZ s).1 + (pointZ s).2).tmod n

set_option maxRecDepth 20000 in
theorem shard_any (s : List UInt8) (hs : s.length ≤ 1000000) (n : Int) (hn : n ≤ 9223372036854775807) (w : World) :
    Calls Tryd.prog 23 #[.string ⟨s.toArray⟩, .int .i64 n] w fun e w' => e = .returned (.int .i64 (shardZ s n)) ∧ w' = w := by
  unfold shardZ
  by_cases h : n < 1
  · rw [if_pos h]
    go_enter Tryd.func23, Tryd.ntmps23
    go_wp2_with fail
    all_goals (go_ret; exact ⟨rfl, rfl⟩)
  · rw [if_neg h]
    have KP := Lib.hid (point_any s hs w)
    have hz := InZ.point s
    obtain ⟨h1, h2, h3, h4⟩ := hz
    dsimp only [pM] at *
    have h0 : ¬ n = 0 := by omega
    generalize pointZ s = z at *
    have hr1 := Int.tmod_nonneg n (a := z.1 + z.2) (by omega)
    have hr2 := Int.tmod_lt_of_pos (z.1 + z.2) (b := n) (by omega)
    have hr : IntKind.i64.wrap ((z.1 + z.2).tmod n) = (z.1 + z.2).tmod n := IntWalk.i64_in _ (by omega)
    go_enter Tryd.func23, Tryd.ntmps23
    go_wp2_with fail
    refine KP.out.mono ?_
    rintro e w1 ⟨⟨x, y, rfl, hx, hy⟩, hw1⟩
    rw [hw1]
    clear hw1 w1 KP
    obtain ⟨r, hr0, hrv⟩ := hx.add hy (lt53 (by omega) (by omega)) (lt53 (by omega) (by omega)) (lt53 (by omega) (by omega))
    have ka : ∀ t w, (binOp .add t (.float .f64 x) (.float .f64 y)).run Tryd.prog w = .ok (.float .f64 r) w := fun t w => run_float_arith w .add t .f64 x y r hr0
    have kc : ∀ w, (convert 31 3 (.float .f64 r)).run Tryd.prog w = .ok (.int .i64 (z.1 + z.2)) w := fun w => run_convert_float_int w _ _ .f64 .i64 r (z.1 + z.2) (by rw [Tryd.underlying31]; rfl) Tryd.underlying3 (hrv.toInt (lt53 (by omega) (by omega)))
    clear hx hy hr0 hrv
    go_wp2_with fail
    all_goals (go_ret; exact ⟨by simp [Int.tmod_eq_emod_of_nonneg (show 0 ≤ z.1 + z.2 by omega)], rfl⟩)

set_option maxRecDepth 20000 in
theorem refshard_any (s : List UInt8) (hs : s.length ≤ 1000000) (n : Int) (hn : n ≤ 9223372036854775807) (w : World) :
    Calls Tryd.prog 24 #[.string ⟨s.toArray⟩, .int .i64 n] w fun e w' => e = .returned (.int .i64 (shardZ s n)) ∧ Fresh w w' := by
  unfold shardZ
  by_cases h : n < 1
  · rw [if_pos h]
    go_enter Tryd.func24, Tryd.ntmps24
    go_wp2_with fail
    all_goals (go_ret; exact ⟨rfl, Touch.refl _ _⟩)
  · rw [if_neg h]
    have KP := Lib.hid (refpoint_any s hs w)
    have hz := InZ.point s
    obtain ⟨h1, h2, h3, h4⟩ := hz
    dsimp only [pM] at *
    have h0 : ¬ n = 0 := by omega
    generalize pointZ s = z at *
    have hr1 := Int.tmod_nonneg n (a := z.1 + z.2) (by omega)
    have hr2 := Int.tmod_lt_of_pos (z.1 + z.2) (b := n) (by omega)
    have hr : IntKind.i64.wrap ((z.1 + z.2).tmod n) = (z.1 + z.2).tmod n := IntWalk.i64_in _ (by omega)
    have hr' : IntKind.i64.wrap (z.1 + z.2) = (z.1 + z.2) := IntWalk.i64_in _ (by omega)
    go_enter Tryd.func24, Tryd.ntmps24
    go_wp2_with fail
    refine KP.out.mono ?_
    rintro e w1 ⟨rfl, hf1⟩
    obtain ⟨W1, hW1⟩ : ∃ W1, W1 = w1.alloc (.cells #[.int .i64 z.1, .int .i64 z.2] 24) := ⟨_, rfl⟩
    have HF := Lib.hid (show Fresh w W1 by rw [hW1]; exact hf1.alloc _)
    have hb : Blk W1 w1.heap.size 24 #[.int .i64 z.1, .int .i64 z.2] := by rw [hW1]; exact Blk.new _ _ _
    have c0 : W1.cell? ⟨w1.heap.size, 0, none⟩ = some (.int .i64 z.1) := hb.cell 0
    have c1 : W1.cell? ⟨w1.heap.size, 1, none⟩ = some (.int .i64 z.2) := hb.cell 1
    have HW := Lib.hid hW1
    dsimp only [zV]
    clear hb hW1 hf1 KP
    go_wp2_with fail
    rw [← HW.out]
    go_wp2_with fail
    all_goals (go_ret; exact ⟨by simp [Int.tmod_eq_emod_of_nonneg (show 0 ≤ z.1 + z.2 by omega)], HF.out⟩)
end Go.Proofs.YtnbpmlbhigchnaaDoor
