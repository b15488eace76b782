/- The law RingPoints, walked. Condition: few texts' slots, as a slice has. -/
import Derived.Test.YtnbpmlbhigchnaaDoorLawA
import Derived.Deep.RegionHeld
import Derived.Shelf.SlSortCmp.QuietGrown
import Derived.BigQuiet
namespace Go.Proofs.YtnbpmlbhigchnaaDoor
open Go.RowKit Ieee Go.Sort

abbrev nF (x : Nat) : Nat := Op.negFloat .f64 x
set_option maxRecDepth 20000 in
theorem turn_run (x y : Nat) (w : World) : Calls Tryd.prog 15 #[.complex .f64 x y] w fun e w' => e = .returned (.complex .f64 (nF y) x) ∧ w' = w := by
  have kn : ∀ w, (Op.unary .neg (.float .f64 y)).run Tryd.prog w = .ok (.float .f64 (nF y)) w := fun _ => rfl
  go_enter Tryd.func15, Tryd.ntmps15
  go_wp2_with fail
  all_goals (go_ret; exact ⟨rfl, rfl⟩)
theorem nF_int {z : Int} : ∀ w, (Op.unary .neg (.float .f64 (floatOfInt .f64 z))).run Tryd.prog w = .ok (.float .f64 (nF (floatOfInt .f64 z))) w := fun _ => rfl
theorem FV.cmpE {x y : Nat} {a b : Int} (hx : FV x a) (hy : FV y b) (ha : a.natAbs < 2 ^ 53) (hb : b.natAbs < 2 ^ 53) : FloatKind.f64.format.order x y = some (compare a b) := hx.order hy ha hb
theorem neq_z {x y u v : Nat} {z q : Int × Int} (hx : FV x z.1) (hy : FV y z.2) (hu : FV u q.1) (hv : FV v q.2) (hz : InZ z) (hq : InZ q) (t : TypeId) (w : World) :
    (binOp .neq t (.complex .f64 x y) (.complex .f64 u v)).run Tryd.prog w = .ok (.bool (!decide (z = q))) w := by
  rw [run_neq_complex, hx.cmpE hu hz.lt.1 hq.lt.1, hy.cmpE hv hz.lt.2 hq.lt.2]
  have e : ((some (compare z.1 q.1) == some Ordering.eq) && (some (compare z.2 q.2) == some Ordering.eq)) = decide (z = q) := by
    have h1 : (some (compare z.1 q.1) == some Ordering.eq) = decide (z.1 = q.1) := by rw [← cmp_eq]; rfl
    have h2 : (some (compare z.2 q.2) == some Ordering.eq) = decide (z.2 = q.2) := by rw [← cmp_eq]; rfl
    rw [h1, h2]
    obtain ⟨a, b⟩ := z
    obtain ⟨c, d⟩ := q
    by_cases h : a = c <;> by_cases h' : b = d <;> simp [h, h']
  rw [e]
set_option maxRecDepth 20000 in
theorem refbefore_grown (z q : Int × Int) (w : World) :
    Calls Tryd.prog 17 #[.agg #[.int .i64 z.1, .int .i64 z.2], .agg #[.int .i64 q.1, .int .i64 q.2]] w fun e w' => e = .returned (.bool (befZ z q)) ∧ ∃ q os', w' = Sort.grow (w.drewN q) os' := by
  obtain ⟨W1, hW1⟩ : ∃ W1, W1 = (w.alloc (.cells #[.int .i64 z.1, .int .i64 z.2] 24)).alloc (.cells #[.int .i64 q.1, .int .i64 q.2] 24) := ⟨_, rfl⟩
  have HF := Lib.hid (show ∃ q os', W1 = Sort.grow (w.drewN q) os' from ⟨0, _, by rw [hW1, alloc_eq_grow, alloc_eq_grow, grow_grow]; rfl⟩)
  have hb : Blk W1 w.heap.size 24 #[.int .i64 z.1, .int .i64 z.2] := by rw [hW1]; exact (Blk.new _ _ _).alloc _
  have hd : Blk W1 (w.heap.size + 1) 24 #[.int .i64 q.1, .int .i64 q.2] := by
    rw [hW1]
    have := Blk.new (w.alloc (.cells #[.int .i64 z.1, .int .i64 z.2] 24)) 24 #[.int .i64 q.1, .int .i64 q.2]
    rwa [World.size_alloc] at this
  have c0 : W1.cell? ⟨w.heap.size, 0, none⟩ = some (.int .i64 z.1) := hb.cell 0
  have c1 : W1.cell? ⟨w.heap.size, 1, none⟩ = some (.int .i64 z.2) := hb.cell 1
  have d0 : W1.cell? ⟨w.heap.size + 1, 0, none⟩ = some (.int .i64 q.1) := hd.cell 0
  have d1 : W1.cell? ⟨w.heap.size + 1, 1, none⟩ = some (.int .i64 q.2) := hd.cell 1
  have HW := Lib.hid hW1
  clear hb hd hW1
  unfold befZ
  obtain ⟨a, b⟩ := z
  obtain ⟨c, d⟩ := q
  dsimp only at *
  rcases Int.lt_trichotomy a c with h1 | rfl | h1
  case' inl => have h2 : ¬ a = c := by omega
  case' inr.inl => have h1 : ¬ a < a := by omega
  case' inr.inl => have h2 : a = a := rfl
  case' inr.inr => have h2 : ¬ a = c := by omega
  case' inr.inr => have h3 : ¬ a < c := by omega
  all_goals
    go_enter Tryd.func17, Tryd.ntmps17
    go_wp2_with fail
    rw [← HW.out]
    go_wp2_with fail
    all_goals (go_ret; exact ⟨by first | rfl | (simp [h1, h2]; done) | (simp; omega), HF.out⟩)

theorem before_grown {x y u v : Nat} {z q : Int × Int} (hx : FV x z.1) (hy : FV y z.2) (hu : FV u q.1) (hv : FV v q.2) (hz : InZ z) (hq : InZ q) (w : World) :
    Calls Tryd.prog 16 #[.complex .f64 x y, .complex .f64 u v] w fun e w' => e = .returned (.bool (befZ z q)) ∧ ∃ n os', w' = Sort.grow (w.drewN n) os' :=
  (before_any hx hy hu hv hz hq w).mono fun _ _ ⟨he, hw⟩ => ⟨he, 0, #[], by rw [hw, grow_empty]; rfl⟩
theorem Fresh.grow_ (w : World) (n : Nat) (os : Array Obj) : Fresh w (Sort.grow (w.drewN n) os) := by
  refine ⟨rfl, rfl, rfl, by simp, fun k hk _ => ?_⟩
  rw [heap_grow_old _ _ (by simpa using hk)]
  rfl
/-- how two points' words compare -/
theorem cmp_cases' {x y u v : Nat} {z q : Int × Int} (hx : FV x z.1) (hy : FV y z.2) (hu : FV u q.1) (hv : FV v q.2) (hz : InZ z) (hq : InZ q) :
    (z = q ∧ FloatKind.f64.format.order x u = some .eq ∧ FloatKind.f64.format.order y v = some .eq) ∨ (∃ c, ¬ c = Ordering.eq ∧ FloatKind.f64.format.order x u = some c ∧ z ≠ q) ∨
    (∃ c, FloatKind.f64.format.order x u = some .eq ∧ ¬ c = Ordering.eq ∧ FloatKind.f64.format.order y v = some c ∧ z ≠ q) := by
  have h1 := hx.cmpE hu hz.lt.1 hq.lt.1
  have h2 := hy.cmpE hv hz.lt.2 hq.lt.2
  by_cases e1 : z.1 = q.1
  · have e1' : compare z.1 q.1 = .eq := Int.compare_eq_eq.2 e1
    rw [e1'] at h1
    by_cases e2 : z.2 = q.2
    · have e2' : compare z.2 q.2 = .eq := Int.compare_eq_eq.2 e2
      rw [e2'] at h2
      exact .inl ⟨Prod.ext e1 e2, h1, h2⟩
    · exact .inr (.inr ⟨_, h1, fun e => e2 (Int.compare_eq_eq.1 e), h2, fun e => e2 (by rw [e])⟩)
  · exact .inr (.inl ⟨_, fun e => e1 (Int.compare_eq_eq.1 e), h1, fun e => e1 (by rw [e])⟩)
theorem befZ_parts {z q : Int × Int} (h : z ≠ q) : befZ z q ≠ befZ q z := by
  obtain ⟨a, b⟩ := z
  obtain ⟨c, d⟩ := q
  unfold befZ
  rcases Int.lt_trichotomy a c with h1 | h1 | h1
  · have : ¬ c < a := by omega
    have h2 : ¬ c = a := by omega
    simp [h1, this, h2]
  · subst h1
    have hbd : b ≠ d := fun e => h (by rw [e])
    rcases Int.lt_or_gt_of_ne hbd with h2 | h2
    · have : ¬ d < b := by omega
      simp [h2, this]
    · have : ¬ b < d := by omega
      simp [h2, this]
  · have : ¬ a < c := by omega
    have h2 : ¬ a = c := by omega
    simp [h1, this, h2]

theorem cmp_cases {x y u v : Nat} {z q : Int × Int} (hx : FV x z.1) (hy : FV y z.2) (hu : FV u q.1) (hv : FV v q.2) (hz : InZ z) (hq : InZ q) :
    (FloatKind.f64.format.order x u = some .eq ∧ FloatKind.f64.format.order y v = some .eq) ∨ (∃ c, ¬ c = Ordering.eq ∧ FloatKind.f64.format.order x u = some c ∧ befZ q z = !befZ z q) ∨
    (∃ c, FloatKind.f64.format.order x u = some .eq ∧ ¬ c = Ordering.eq ∧ FloatKind.f64.format.order y v = some c ∧ befZ q z = !befZ z q) := by
  have hb : z ≠ q → befZ q z = !befZ z q := fun h => by
    have := befZ_parts h
    cases h1 : befZ z q <;> cases h2 : befZ q z <;> simp_all
  rcases cmp_cases' hx hy hu hv hz hq with ⟨_, h⟩ | ⟨c, h1, h2, h3⟩ | ⟨c, h1, h2, h3, h4⟩
  · exact .inl h
  · exact .inr (.inl ⟨c, h1, h2, hb h3⟩)
  · exact .inr (.inr ⟨c, h1, h2, h3, hb h4⟩)

set_option maxRecDepth 20000 in
set_option maxHeartbeats 16000000 in
theorem law_points (A : Option Addr) (c : Nat) (l : List (List UInt8)) (w : World) (hv : Vs w 1 A l.length c (strV l)) (hl : ∀ s ∈ l, s.length ≤ maxLen) :
    Calls Tryd.prog 3 #[.slice A l.length c] w fun e w' => e = .returned (.bool true) ∧ Fresh w w' := by
  have HV := Lib.hid hv; have HL := Lib.hid hl
  have hlc := hv.2.1
  have hcm := hv.2.2.1
  unfold maxLen at hcm
  clear hv hl
  have KW := Lib.hid (fun W => wakes_any W)
  go_enter Tryd.func3, Tryd.ntmps3
  go_wp2_with fail
  go_loopw [3] (fun i wr => ∃ j : Nat, j ≤ l.length ∧ j ≤ 20 ∧ i = .int .i64 j ∧ Fresh w wr) (fun i _ => 20 - (intOf i).toNat)
  case atStart => exact ⟨0, Nat.zero_le _, Nat.zero_le _, rfl, Touch.refl _ _⟩
  case round =>
    obtain ⟨j, hj, hj2, rfl, hf⟩ := hrel
    have HF := Lib.hid hf
    clear hf
    by_cases hlt : j < l.length
    · by_cases h20 : j < 20
      · obtain ⟨s, hs⟩ : ∃ s, l[j]? = some s := ⟨_, List.getElem?_eq_getElem hlt⟩
        obtain ⟨b, o, rfl⟩ := HV.out.at_ (by omega)
        have cx : wr.cell? ⟨b, o + j, none⟩ = some (.string ⟨s.toArray⟩) := (HV.out.fresh HF.out).cellAt (by simp [strV, hs])
        have KC := Lib.hid (fun W => clip_any s (HL.out s (List.mem_of_getElem? hs)) W)
        have hcl := clip_len s
        clear hs
        generalize s.take 500 = t at *
        have KP := Lib.hid (fun W => point_any t (by omega) W)
        have KR := Lib.hid (fun W => refpoint_any t (by omega) W)
        have HZ := Lib.hid (InZ.point t)
        generalize pointZ t = z at *
        clear hcl
        go_wp2_with fail
        refine (KC.out _).mono ?_
        rintro e w1 ⟨rfl, hw1⟩
        rw [hw1]
        clear hw1 w1
        go_wp2_with fail
        refine (KR.out _).mono ?_
        rintro e w1 ⟨rfl, hf1⟩
        have hf1' := HF.out.trans hf1 fun _ _ => id
        have cx1 : w1.cell? ⟨b, o + j, none⟩ = some (.string ⟨s.toArray⟩) := hf1.cell cx id
        dsimp only [zV]
        obtain ⟨W2, hW2⟩ : ∃ W2, W2 = w1.alloc (.cells #[.int .i64 z.1, .int .i64 z.2] 24) := ⟨_, rfl⟩
        have HF2 := Lib.hid (show Fresh w W2 by rw [hW2]; exact hf1'.alloc _)
        have hb2 : Blk W2 w1.heap.size 24 #[.int .i64 z.1, .int .i64 z.2] := by rw [hW2]; exact Blk.new _ _ _
        have HB2 := Lib.hid hb2
        have hblt : b < w1.heap.size := World.block_lt_of_cell? _ _ cx1
        have HW2 := Lib.hid hW2
        clear hf1 hf1' hb2 hW2 cx
        go_wp2_with fail
        refine (KC.out _).mono ?_
        rintro e w2 ⟨rfl, hw2⟩
        rw [hw2]
        clear hw2 w2
        go_wp2_with fail
        refine (KP.out _).mono ?_
        rintro e w2 ⟨⟨x, y, rfl, hx, hy⟩, hw2⟩
        rw [hw2, ← HW2.out]
        clear hw2 w2 KC KP KR cx1
        have HX := Lib.hid hx; have HY := Lib.hid hy
        have hl := HZ.out.lt
        have o1 : FloatKind.f64.format.order x (floatOfInt .f64 z.1) = some .eq := hx.same (FV.ofInt _) hl.1
        have o2 : FloatKind.f64.format.order y (floatOfInt .f64 z.2) = some .eq := hy.same (FV.ofInt _) hl.2
        have o3 : FloatKind.f64.format.order (nF y) (nF (floatOfInt .f64 z.2)) = some .eq := (hy.negF hl.2).same ((FV.ofInt z.2).negF hl.2) (by rw [Int.natAbs_neg]; exact hl.2)
        have o5 : FloatKind.f64.format.order (nF (nF x)) x = some .eq := by
          have h1 := (hx.negF hl.1).negF (by rw [Int.natAbs_neg]; exact hl.1)
          rw [Int.neg_neg] at h1
          exact h1.same hx hl.1
        have o6 : FloatKind.f64.format.order (nF (nF y)) y = some .eq := by
          have h1 := (hy.negF hl.2).negF (by rw [Int.natAbs_neg]; exact hl.2)
          rw [Int.neg_neg] at h1
          exact h1.same hy hl.2
        have kn : ∀ w, (Op.unary .neg (.float .f64 (floatOfInt .f64 z.2))).run Tryd.prog w = .ok (.float .f64 (nF (floatOfInt .f64 z.2))) w := fun _ => rfl
        have KB := Lib.hid (fun W => before_any hx hy hx hy HZ.out HZ.out W)
        rw [befZ_irrefl] at KB
        have KT := Lib.hid (fun x y W => turn_run x y W)
        have KZ := Lib.hid (fun W => refz_any z W)
        have KS := Lib.hid (show ∀ W, Fresh W2 W → (W.cell? ⟨w1.heap.size, 0, none⟩ = some (.int .i64 z.1) ∧ W.cell? ⟨w1.heap.size, 1, none⟩ = some (.int .i64 z.2)) from fun W hW => ⟨(HB2.out.touch hW id).cell 0, (HB2.out.touch hW id).cell 1⟩)
        clear hx hy hl
        have hfd : Fresh W2 W2.drew := (Touch.refl (fun _ => False) W2).drew
        have k0 := KS.out _ hfd
        go_upto_region 6 with fail
        go_region_held (fun W => W.cell? ⟨w1.heap.size, 0, none⟩ = some (.int .i64 z.1) ∧ W.cell? ⟨w1.heap.size, 1, none⟩ = some (.int .i64 z.2))
          (first | exact k1 | exact k0)
          (first
            | (go_at_call 14; refine (KZ.out _).mono ?_; rintro e w3 ⟨rfl, hf3⟩; have k1 := KS.out _ (hfd.trans hf3 fun _ _ => id); have HF3 := Lib.hid (hfd.trans hf3 fun _ _ => id); clear hf3)
            | (go_at_call 15; refine (KT.out _ _ _).mono ?_; rintro e w4 ⟨rfl, rfl⟩)
            | (go_at_call 16; refine (KB.out _).mono ?_; rintro e w4 ⟨rfl, rfl⟩))
        all_goals
          clear k0 k1 o1 o2 o3 o5 o6 kn KB KT KZ hfd
          have HFW := Lib.hid (HF2.out.trans HF3.out fun _ _ => id)
          have HBW := Lib.hid (HB2.out.touch HF3.out id)
          clear KS HF3 HB2 HF2 HW2
          go_wp2_with fail
          go_loopw [6] (fun i wr => ∃ k : Nat, k ≤ j ∧ i = .int .i64 k ∧ Fresh w wr ∧ Blk wr w1.heap.size 24 #[.int .i64 z.1, .int .i64 z.2]) (fun i _ => j - (intOf i).toNat)
          case atStart => exact ⟨0, Nat.zero_le _, rfl, HFW.out, HBW.out⟩
          case round =>
            clear HFW HBW
            obtain ⟨k, hk, rfl, hf, hb⟩ := hrel
            have HFR := Lib.hid hf; have HBR := Lib.hid hb
            clear hf hb
            by_cases hkj : k < j
            · obtain ⟨s2, hs2⟩ : ∃ s, l[k]? = some s := ⟨_, List.getElem?_eq_getElem (by omega)⟩
              have cy : wr.cell? ⟨b, o + k, none⟩ = some (.string ⟨s2.toArray⟩) := (HV.out.fresh HFR.out).cellAt (by simp [strV, hs2])
              have KC := Lib.hid (fun W => clip_any s2 (HL.out s2 (List.mem_of_getElem? hs2)) W)
              have hcl := clip_len s2
              clear hs2
              generalize s2.take 500 = t2 at *
              have KP := Lib.hid (fun W => point_any t2 (by omega) W)
              have KR := Lib.hid (fun W => refpoint_any t2 (by omega) W)
              have HQ := Lib.hid (InZ.point t2)
              generalize pointZ t2 = q at *
              clear hcl
              go_wp2_with fail
              refine (KC.out _).mono ?_
              rintro e w4 ⟨rfl, hw4⟩
              rw [hw4]
              clear hw4 w4
              go_wp2_with fail
              refine (KR.out _).mono ?_
              rintro e w4 ⟨rfl, hf4⟩
              have cy1 : w4.cell? ⟨b, o + k, none⟩ = some (.string ⟨s2.toArray⟩) := hf4.cell cy id
              have hblt2 : b < w4.heap.size := World.block_lt_of_cell? _ _ cy1
              dsimp only [zV]
              obtain ⟨W5, hW5⟩ : ∃ W5, W5 = w4.alloc (.cells #[.int .i64 q.1, .int .i64 q.2] 24) := ⟨_, rfl⟩
              have HF5 := Lib.hid (show Fresh w W5 by rw [hW5]; exact (HFR.out.trans hf4 fun _ _ => id).alloc _)
              have HB5 := Lib.hid (show Blk W5 w1.heap.size 24 #[.int .i64 z.1, .int .i64 z.2] by rw [hW5]; exact (HBR.out.touch hf4 id).alloc _)
              have HC5 := Lib.hid (show Blk W5 w4.heap.size 24 #[.int .i64 q.1, .int .i64 q.2] by rw [hW5]; exact Blk.new _ _ _)
              have HW5 := Lib.hid hW5
              clear hf4 hW5 cy
              go_wp2_with fail
              refine (KC.out _).mono ?_
              rintro e w6 ⟨rfl, hw6⟩
              rw [hw6]
              clear hw6 w6
              go_wp2_with fail
              refine (KP.out _).mono ?_
              rintro e w6 ⟨⟨u, v, rfl, hu, hv⟩, hw6⟩
              rw [hw6, ← HW5.out]
              clear hw6 w6 KC KP KR cy1
              have HU := Lib.hid hu; have HVV := Lib.hid hv
              have hcase := cmp_cases HX.out HY.out hu hv HZ.out HQ.out
              have ka0 : ∀ n os, (Sort.grow (W5.drewN n) os).cell? ⟨w1.heap.size, 0, none⟩ = some (.int .i64 z.1) := cell_grown HB5.out.lt (HB5.out.cell 0)
              have ka1 : ∀ n os, (Sort.grow (W5.drewN n) os).cell? ⟨w1.heap.size, 1, none⟩ = some (.int .i64 z.2) := cell_grown HB5.out.lt (HB5.out.cell 1)
              have kc0 : ∀ n os, (Sort.grow (W5.drewN n) os).cell? ⟨w4.heap.size, 0, none⟩ = some (.int .i64 q.1) := cell_grown HC5.out.lt (HC5.out.cell 0)
              have kc1 : ∀ n os, (Sort.grow (W5.drewN n) os).cell? ⟨w4.heap.size, 1, none⟩ = some (.int .i64 q.2) := cell_grown HC5.out.lt (HC5.out.cell 1)
              clear hu hv
              have mixed : Tryd.prog.follows .mixedOrders = true := by kernel_rfl
              rcases hcase with ⟨p1, p2⟩ | ⟨c1, hc1, p1, hbb⟩ | ⟨c2, p1, hc2, p2, hbb⟩
              case' inr.inl => cases c1
              case' inr.inr => cases c2
              case inr.inl.eq => exact absurd rfl hc1
              case inr.inr.eq => exact absurd rfl hc2
              all_goals
                go_upto_region 13 with fail
                refine wp_region_quiet_grown (by kernel_rfl) (by kernel_rfl) ?_
                repeat (go_big_quiet_step (first
                  | (go_at_call 17; exact Calls.grown_of (refbefore_grown z q _))
                  | (go_at_call 16; exact Calls.grown_of (before_grown (by first | exact HX.out | exact HU.out) (by first | exact HY.out | exact HVV.out) (by first | exact HX.out | exact HU.out) (by first | exact HY.out | exact HVV.out) (by first | exact HZ.out | exact HQ.out) (by first | exact HZ.out | exact HQ.out) _))))
                refine wpQuiet_nil ?_
                intro _ hw'
                obtain ⟨⟨nq, osq⟩, hw''⟩ := hw'
                subst hw''
              all_goals
                have HF7 := Lib.hid (Fresh.grow_ W5 nq osq)
                clear ka0 ka1 kc0 kc1
                go_wp2_with fail
                go_roundw
                case rel => exact ⟨k + 1, by omega, by go_num, HF5.out.trans HF7.out fun _ _ => id, HB5.out.touch HF7.out id⟩
                case measure => simp [intOf] <;> omega
            · obtain rfl : k = j := by omega
              go_wp2_with fail
              go_roundw
              case rel => exact ⟨k + 1, by omega, by omega, by go_num, HFR.out⟩
              case measure => simp [intOf] <;> omega
      · obtain rfl : j = 20 := by omega
        have h0 : (20 : Int) < (l.length : Int) := by omega
        go_wp2_with fail
        refine (KW.out _).mono ?_
        rintro e w3 ⟨rfl, hf3⟩
        have HF3 := Lib.hid (HF.out.trans hf3 fun _ _ => id)
        clear hf3 KW
        go_wp2_with fail
        all_goals (go_ret; exact ⟨rfl, HF3.out⟩)
    · obtain rfl : j = l.length := by omega
      go_wp2_with fail
      refine (KW.out _).mono ?_
      rintro e w3 ⟨rfl, hf3⟩
      have HF3 := Lib.hid (HF.out.trans hf3 fun _ _ => id)
      clear hf3 KW
      go_wp2_with fail
      all_goals (go_ret; exact ⟨rfl, HF3.out⟩)
end Go.Proofs.YtnbpmlbhigchnaaDoor
