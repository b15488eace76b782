/- A spot as the ring holds it, its order, and the contract of ring.compare. No condition. -/
import Derived.Test.YtnbpmlbhigchnaaGreatDoorTurn
import Derived.Test.YtnbpmlbhigchnaaGreatDoorSpec
import Derived.Test.YtnbpmlbhigchnaaGreatDoorShelf
namespace Go.Proofs.YtnbpmlbhigchnaaGreatDoor
open Go.RowKit Ieee Go.Sort

/-- a spot: the words of its point's parts, the point, the host -/
structure Sp where
  x : Nat
  y : Nat
  z : Int × Int
  h : Int
  hx : FV x z.1
  hy : FV y z.2
  hz : InZ z
instance : Inhabited Sp := ⟨⟨4607182418800017408, 0, (1, 0), 0, FV.oneF, FV.pz, InZ.one⟩⟩
def Sp.enc (s : Sp) : List Value := [.complex .f64 s.x s.y, .int .i64 s.h]
def Sp.key (s : Sp) : Key := (s.z, s.h)
theorem Sp.enc_len (s : Sp) : s.enc.length = 2 := rfl
theorem Sp.enc_one (s : Sp) : ∀ v ∈ s.enc, v.oneCell' = true := by
  intro v hv
  simp only [Sp.enc, List.mem_cons, List.not_mem_nil, or_false] at hv
  rcases hv with rfl | rfl <;> rfl
/-- how spots are compared -/
def cfS (a b : Sp) : Int := if befZ a.z b.z then -1 else if befZ b.z a.z then 1 else Lib.compareInt a.h b.h
theorem ltOf_cfS (a b : Sp) : ltOf cfS a b = ltK a.key b.key := by
  unfold ltOf cfS ltK Sp.key Lib.compareInt
  dsimp only
  cases befZ a.z b.z with
  | true => simp
  | false =>
    cases befZ b.z a.z with
    | true => simp
    | false =>
      by_cases h : a.h < b.h
      · simp [h]
      · by_cases h2 : b.h < a.h <;> simp [h, h2]
theorem swoS : SWO (ltOf cfS) where
  irrefl x := by rw [ltOf_cfS]; exact ltK_irrefl _
  trans x y z h1 h2 := by rw [ltOf_cfS] at *; exact ltK_trans h1 h2
  ntrans x y z h1 h2 := by
    rw [ltOf_cfS] at *
    cases h3 : ltK x.key z.key with
    | false => rfl
    | true =>
      have a1 : ¬ ltK x.key y.key = true := by rw [h1]; simp
      have a2 : ¬ ltK y.key z.key = true := by rw [h2]; simp
      rw [ltK_iff] at a1 a2 h3
      omega

set_option maxRecDepth 20000 in
set_option maxHeartbeats 1000000 in
theorem compare_any (a b : Sp) (W : World) :
    Calls Tryz.prog 22 #[.agg #[.complex .f64 a.x a.y, .int .i64 a.h], .agg #[.complex .f64 b.x b.y, .int .i64 b.h]] W fun e w' => e = .returned (.int .i64 (cfS a b)) ∧ ∃ q os', w' = Sort.grow (W.drewN q) os' := by
  obtain ⟨W1, hW1⟩ : ∃ W1, W1 = (W.alloc (.cells #[.complex .f64 a.x a.y, .int .i64 a.h] 60)).alloc (.cells #[.complex .f64 b.x b.y, .int .i64 b.h] 60) := ⟨_, rfl⟩
  have HG := Lib.hid (show ∃ q os', W1 = Sort.grow (W.drewN q) os' from ⟨0, _, by rw [hW1, alloc_eq_grow, alloc_eq_grow, grow_grow]; rfl⟩)
  have hb : Blk W1 W.heap.size 60 #[.complex .f64 a.x a.y, .int .i64 a.h] := by rw [hW1]; exact (Blk.new _ _ _).alloc _
  have hd : Blk W1 (W.heap.size + 1) 60 #[.complex .f64 b.x b.y, .int .i64 b.h] := by
    rw [hW1]
    have := Blk.new (W.alloc (.cells #[.complex .f64 a.x a.y, .int .i64 a.h] 60)) 60 #[.complex .f64 b.x b.y, .int .i64 b.h]
    rwa [World.size_alloc] at this
  have c0 : W1.cell? ⟨W.heap.size, 0, none⟩ = some (.complex .f64 a.x a.y) := hb.cell 0
  have c1 : W1.cell? ⟨W.heap.size, 1, none⟩ = some (.int .i64 a.h) := hb.cell 1
  have d0 : W1.cell? ⟨W.heap.size + 1, 0, none⟩ = some (.complex .f64 b.x b.y) := hd.cell 0
  have d1 : W1.cell? ⟨W.heap.size + 1, 1, none⟩ = some (.int .i64 b.h) := hd.cell 1
  have HW := Lib.hid hW1
  have KB1 := Lib.hid (fun W => before_any a.hx a.hy b.hx b.hy a.hz b.hz W)
  have KB2 := Lib.hid (fun W => before_any b.hx b.hy a.hx a.hy b.hz a.hz W)
  have KC := Lib.hid (fun W => Tryz.cmp_Compare_int a.h b.h W)
  have hcf : cfS a b = if befZ a.z b.z then -1 else if befZ b.z a.z then 1 else Lib.compareInt a.h b.h := rfl
  rw [hcf]
  clear hb hd hW1 hcf
  generalize befZ a.z b.z = b1 at *
  generalize befZ b.z a.z = b2 at *
  generalize Lib.compareInt a.h b.h = r at *
  go_enter Tryz.func22, Tryz.ntmps22
  go_wp2_with fail
  rw [← HW.out]
  go_wp2_with fail
  refine (KB1.out W1).mono ?_
  rintro e w1 ⟨rfl, hw1⟩
  rw [hw1]
  clear hw1 w1
  cases b1 with
  | true =>
    go_wp2_with fail
    all_goals (go_ret; exact ⟨rfl, HG.out⟩)
  | false =>
    go_wp2_with fail
    refine (KB2.out W1).mono ?_
    rintro e w1 ⟨rfl, hw1⟩
    rw [hw1]
    clear hw1 w1
    cases b2 with
    | true =>
      go_wp2_with fail
      all_goals (go_ret; exact ⟨rfl, HG.out⟩)
    | false =>
      go_wp2_with fail
      refine (KC.out W1).mono ?_
      rintro e w1 ⟨rfl, hw1⟩
      rw [hw1]
      clear hw1 w1
      go_wp2_with fail
      all_goals (go_ret; exact ⟨rfl, HG.out⟩)
theorem cmpLays_any (blk off size : Nat) (w : World) : CmpLays Tryz.prog 22 #[] Sp.enc 2 cfS blk off size w :=
  fun _ _ _ _ x y => compare_any x y _
end Go.Proofs.YtnbpmlbhigchnaaGreatDoor
