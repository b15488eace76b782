/- ring.Turn, ring.Before, the document's Z and Before, equality of complex numbers; ring.Shard and the document's Shard. Conditions stand with each. -/
import Derived.Test.YtnbpmlbhigchnaaGreatDoorRef
namespace Go.Proofs.YtnbpmlbhigchnaaGreatDoor
open Go.RowKit Ieee

theorem InZ.lt {z : Int × Int} (h : InZ z) : z.1.natAbs < 2 ^ 53 ∧ z.2.natAbs < 2 ^ 53 := by
  obtain ⟨h1, h2, h3, h4⟩ := h
  dsimp only [pM] at *
  exact ⟨lt53 (by omega) (by omega), lt53 (by omega) (by omega)⟩

theorem befZ_cmp (z q : Int × Int) : befZ z q = (compare z.1 q.1 == .lt || (compare z.1 q.1 == .eq && compare z.2 q.2 == .lt)) := by
  rw [cmp_lt, cmp_eq, cmp_lt]
  rfl
set_option maxRecDepth 20000 in
theorem before_any {x y u v : Nat} {z q : Int × Int} (hx : FV x z.1) (hy : FV y z.2) (hu : FV u q.1) (hv : FV v q.2) (hz : InZ z) (hq : InZ q) (w : World) :
    Calls Tryz.prog 31 #[.complex .f64 x y, .complex .f64 u v] w fun e w' => e = .returned (.bool (befZ z q)) ∧ w' = w := by
  have o1 : FloatKind.f64.format.order x u = some (compare z.1 q.1) := hx.order hu hz.lt.1 hq.lt.1
  have o2 : FloatKind.f64.format.order y v = some (compare z.2 q.2) := hy.order hv hz.lt.2 hq.lt.2
  rw [befZ_cmp]
  generalize compare z.1 q.1 = c1 at *
  generalize compare z.2 q.2 = c2 at *
  clear hx hy hu hv hz hq
  cases c1 <;> cases c2
  all_goals
    go_enter Tryz.func31, Tryz.ntmps31
    go_wp2_with fail
    all_goals (go_ret; exact ⟨by first | rfl | simp [o1, o2], rfl⟩)

set_option maxRecDepth 20000 in
theorem turn_any {x y : Nat} {z : Int × Int} (hx : FV x z.1) (hy : FV y z.2) (hz : z.2.natAbs < 2 ^ 53) (w : World) :
    Calls Tryz.prog 27 #[.complex .f64 x y] w fun e w' => (∃ x' y', e = .returned (.complex .f64 x' y') ∧ FV x' (-z.2) ∧ FV y' z.1) ∧ w' = w := by
  have HN := Lib.hid (hy.negF hz)
  have HX := Lib.hid hx
  have kn : ∀ w, (Op.unary .neg (.float .f64 y)).run Tryz.prog w = .ok (.float .f64 (Op.negFloat .f64 y)) w := fun _ => rfl
  clear hx hy hz
  go_enter Tryz.func27, Tryz.ntmps27
  go_wp2_with fail
  all_goals (go_ret; exact ⟨⟨_, _, rfl, HN.out, HX.out⟩, rfl⟩)

set_option maxRecDepth 20000 in
theorem refz_any (z : Int × Int) (w : World) :
    Calls Tryz.prog 15 #[.agg #[.int .i64 z.1, .int .i64 z.2]] w fun e w' => e = .returned (.complex .f64 (floatOfInt .f64 z.1) (floatOfInt .f64 z.2)) ∧ Fresh w w' := by
  obtain ⟨W1, hW1⟩ : ∃ W1, W1 = w.alloc (.cells #[.int .i64 z.1, .int .i64 z.2] 47) := ⟨_, rfl⟩
  have HF := Lib.hid (show Fresh w W1 by rw [hW1]; exact (Touch.refl _ w).alloc _)
  have hb : Blk W1 w.heap.size 47 #[.int .i64 z.1, .int .i64 z.2] := by rw [hW1]; exact Blk.new _ _ _
  have c0 : W1.cell? ⟨w.heap.size, 0, none⟩ = some (.int .i64 z.1) := hb.cell 0
  have c1 : W1.cell? ⟨w.heap.size, 1, none⟩ = some (.int .i64 z.2) := hb.cell 1
  have HW := Lib.hid hW1
  clear hb hW1
  go_enter Tryz.func15, Tryz.ntmps15
  go_wp2_with fail
  rw [← HW.out]
  go_wp2_with fail
  all_goals (go_ret; exact ⟨rfl, HF.out⟩)

set_option maxRecDepth 20000 in
theorem refbefore_any (z q : Int × Int) (w : World) :
    Calls Tryz.prog 33 #[.agg #[.int .i64 z.1, .int .i64 z.2], .agg #[.int .i64 q.1, .int .i64 q.2]] w fun e w' => e = .returned (.bool (befZ z q)) ∧ Fresh w w' := by
  obtain ⟨W1, hW1⟩ : ∃ W1, W1 = (w.alloc (.cells #[.int .i64 z.1, .int .i64 z.2] 47)).alloc (.cells #[.int .i64 q.1, .int .i64 q.2] 47) := ⟨_, rfl⟩
  have HF := Lib.hid (show Fresh w W1 by rw [hW1]; exact ((Touch.refl _ w).alloc _).alloc _)
  have hb : Blk W1 w.heap.size 47 #[.int .i64 z.1, .int .i64 z.2] := by rw [hW1]; exact (Blk.new _ _ _).alloc _
  have hd : Blk W1 (w.heap.size + 1) 47 #[.int .i64 q.1, .int .i64 q.2] := by
    rw [hW1]
    have := Blk.new (w.alloc (.cells #[.int .i64 z.1, .int .i64 z.2] 47)) 47 #[.int .i64 q.1, .int .i64 q.2]
    rwa [World.size_alloc] at this
  have c0 : W1.cell? ⟨w.heap.size, 0, none⟩ = some (.int .i64 z.1) := hb.cell 0
  have c1 : W1.cell? ⟨w.heap.size, 1, none⟩ = some (.int .i64 z.2) := hb.cell 1
  have d0 : W1.cell? ⟨w.heap.size + 1, 0, none⟩ = some (.int .i64 q.1) := hd.cell 0
  have d1 : W1.cell? ⟨w.heap.size + 1, 1, none⟩ = some (.int .i64 q.2) := hd.cell 1
  have HW := Lib.hid hW1
  clear hb hd hW1
  unfold befZ
  obtain ⟨a, b⟩ := z
  obtain ⟨c, d⟩ := q
  dsimp only at *
  rcases Int.lt_trichotomy a c with h1 | rfl | h1
  case' inl => have h2 : ¬ a = c := by omega
  case' inr.inl => have h1 : ¬ a < a := by omega
  case' inr.inl => have h2 : a = a := rfl
  case' inr.inr => have h2 : ¬ a = c := by omega
  case' inr.inr => have h3 : ¬ a < c := by omega
  all_goals
    go_enter Tryz.func33, Tryz.ntmps33
    go_wp2_with fail
    rw [← HW.out]
    go_wp2_with fail
    all_goals (go_ret; exact ⟨by first | rfl | (simp [h1, h2]; done) | (simp; omega), HF.out⟩)

/-- whose shard -/
def shardZ (s : List UInt8) (n : Int) : Int := if n < 1 then 0 else ((pointZ s).1 + (pointZ s).2).tmod n

end Go.Proofs.YtnbpmlbhigchnaaGreatDoor
