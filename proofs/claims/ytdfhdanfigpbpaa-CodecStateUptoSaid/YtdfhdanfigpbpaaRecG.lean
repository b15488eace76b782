/- The contracts of codec.record at more types, in their wide form (printed by gen_recg.py). -/
import Derived.Test.YtdfhdanfigpbpaaRecs
namespace Go.Proofs.Ytdfhdanfigpbpaa
open Go.RowKit

/-- nothing but G was touched, and three blocks and more are new -/
def Fresh3 (G : Nat → Prop) (w w2 : World) : Prop := Touch G w w2 ∧ w.heap.size + 1 + 1 < w2.heap.size
/-- how the closure of a record ends -/
def RecG {α : Type} (f : α → Value) (be : Nat) (G : Nat → Prop) (A : Option Addr) (n c : Nat) (xs : List UInt8) (bad : Nat → Prop) (Good : α → Nat → World → Prop) (w1 : World) (e : Ending) (w2 : World) : Prop :=
  (∃ a, e = .panicked [stopAt a] ∧ bad a ∧ Touch (fun k => k = be ∨ G k) w1 w2) ∨
  (∃ x q, e = .returned (f x) ∧ Good x q w2 ∧ Eye w2 be A n c xs q ∧ Touch (fun k => k = be ∨ G k) w1 w2)
/-- how a record ends -/
def RecGEnd {α : Type} (f : α → Value) (zero : Value) (n : Nat) (G : Nat → Prop) (bad : Nat → Prop) (Good : α → Nat → World → Prop) (w : World) (e : Ending) (w' : World) : Prop :=
  Touch G w w' ∧ ((∃ a, bad a ∧ e = .returned (.tuple #[zero, .int .i64 (a : Nat), .int .i64 2])) ∨
    (∃ x q w2, Good x q w2 ∧ ((q < n ∧ e = .returned (.tuple #[zero, .int .i64 (q : Nat), .int .i64 2])) ∨ (n ≤ q ∧ w2 = w' ∧ e = .returned (.tuple #[f x, .int .i64 0, .int .i64 0])))))


set_option maxRecDepth 20000 in
set_option maxHeartbeats 400000 in
theorem rcatch_idle_int (p q r : Addr) (w : World) :
    CallsD Try.prog 108 #[.pointer (some p), .pointer (some q), .pointer (some r)] .returning w fun e u' w' => e = .returned (.tuple #[]) ∧ u' = .returning ∧ w' = w := by
  refine callsD_of_wpS Try.func108 rfl fun c₀ cs hu => ?_
  apply wpS_seq
  apply wpS_region
  simp [wpOpsS, go_sem, recoverD, hu, Try.ntmps108, Exit.thenS]
  refine wpS_of_wp ?_
  have heq : ∀ w, (binOp .eql 20 .nilIface .nilIface).run Try.prog w = .ok (.bool true) w := fun _ => by kernel_rfl
  go_wp2
  cases c₀
  simp_all [bodyPostS, results, Try.results108]

set_option maxRecDepth 20000 in
set_option maxHeartbeats 400000 in
theorem rcatch_stop_int (xb ab yb at_ : Nat) (c0 : Value) (n m : Int) (older : List PanicEntry) (w : World) (hx : Blk w xb 3 #[c0]) (hne : xb ≠ ab) (ha : Blk w ab 3 #[.int .i64 n]) (hy : Blk w yb 26 #[.int .i64 m]) :
    CallsD Try.prog 108 #[.pointer (some ⟨xb, 0, none⟩), .pointer (some ⟨ab, 0, none⟩), .pointer (some ⟨yb, 0, none⟩)] (.panicking (stopAt at_ :: older)) w fun e u' w' =>
      e = .returned (.tuple #[]) ∧ u' = .panicking ({ stopAt at_ with recovered := true } :: older) ∧ Touch (fun k => k = xb ∨ k = ab ∨ k = yb) w w' ∧ Blk w' xb 3 #[.int .i64 0] ∧ Blk w' ab 3 #[.int .i64 at_] ∧ Blk w' yb 26 #[.int .i64 2] := by
  have hay : ab ≠ yb := ha.ne_ hy (by decide)
  have hxy : xb ≠ yb := hx.ne_ hy (by decide)
  have hcx0 : w.cell? ⟨xb, 0, none⟩ = some c0 := hx.cell 0
  have hfx0 : w.frozen? ⟨xb, 0, none⟩ = false := hx.frozen 0
  have hca : w.cell? ⟨ab, 0, none⟩ = some (.int .i64 n) := ha.cell 0
  have hfa : w.frozen? ⟨ab, 0, none⟩ = false := ha.frozen 0
  have hcy : w.cell? ⟨yb, 0, none⟩ = some (.int .i64 m) := hy.cell 0
  have hfy : w.frozen? ⟨yb, 0, none⟩ = false := hy.frozen 0
  have hxl := hx.lt
  have hal := ha.lt
  have hyl := hy.lt
  refine callsD_of_wpS Try.func108 rfl fun c₀ cs hu => ?_
  apply wpS_seq
  apply wpS_region
  simp [wpOpsS, go_sem, recoverD, hu, Try.ntmps108, Exit.thenS, stopAt, Array.replicate_succ, Array.replicate_zero]
  refine wpS_of_wp ?_
  have heq : ∀ w, (binOp .eql 20 (.iface 118 (.agg #[.int .i64 at_])) .nilIface).run Try.prog w = .ok (.bool false) w := fun _ => by kernel_rfl
  have hta : ∀ w, (Instr.typeAssert (.iface 118 (.agg #[.int .i64 at_])) 20 118 true).run Try.prog w = .ok (.tuple #[.agg #[.int .i64 at_], .bool true]) w := fun _ => by kernel_rfl
  have HX := Lib.hid hx; clear hx
  have HA := Lib.hid ha; clear ha
  have HY := Lib.hid hy; clear hy
  go_wp2
  go_region
  go_wp2
  obtain ⟨W, hW⟩ : ∃ W, W = (((((w.setCell ⟨xb, 0, none⟩ (.int .i64 0)).setCell ⟨ab, 0, none⟩ (.int .i64 at_)).setCell ⟨yb, 0, none⟩ (.int .i64 2)).alloc (.cells #[.int .i64 at_] 118))).drew := ⟨_, rfl⟩
  rw [← hW]
  have h1 : Touch (fun k => k = xb ∨ k = ab ∨ k = yb) w W := by
    rw [hW]
    exact ((((((Touch.refl (fun k => k = xb ∨ k = ab ∨ k = yb) w).setCell (p := ⟨xb, 0, none⟩) (.inr (.inl rfl)) _).setCell (p := ⟨ab, 0, none⟩) (.inr (.inr (.inl rfl))) _).setCell (p := ⟨yb, 0, none⟩) (.inr (.inr (.inr rfl))) _).alloc _)).drew
  have h2 : Blk W xb 3 #[.int .i64 0] := by
    rw [hW]
    exact (((((HX.out.set_ 0 (.int .i64 0)).far (p := ⟨ab, 0, none⟩) hne (.int .i64 at_)).far (p := ⟨yb, 0, none⟩) hxy (.int .i64 2)).alloc (.cells #[.int .i64 at_] 118))).drew
  have h3 : Blk W ab 3 #[.int .i64 at_] := by
    rw [hW]
    exact ((((((HA.out.far (p := ⟨xb, 0, none⟩) hne.symm (.int .i64 0)).set_ 0 (.int .i64 at_)).far (p := ⟨yb, 0, none⟩) hay (.int .i64 2)).alloc (.cells #[.int .i64 at_] 118))).drew)
  have h4 : Blk W yb 26 #[.int .i64 2] := by
    rw [hW]
    exact ((((((HY.out.far (p := ⟨xb, 0, none⟩) hxy.symm (.int .i64 0)).far (p := ⟨ab, 0, none⟩) hay.symm (.int .i64 at_)).set_ 0 (.int .i64 2)).alloc (.cells #[.int .i64 at_] 118))).drew)
  have hW' := Lib.hid hW
  clear hW
  exact ⟨rfl, _, rfl, _, results_none rfl _ _ _, rfl, rfl, h1, h2, h3, h4⟩

set_option maxRecDepth 100000 in
set_option maxHeartbeats 2000000 in
theorem record_int_g (fid : Nat) (caps : Array Value) (G : Nat → Prop) (A : Option Addr) (n c : Nat) (xs : List UInt8) (bad : Nat → Prop) (Good : Int → Nat → World → Prop) (w : World) (hbs : Bs w A n c xs) (hA : ∀ a, A = some a → 0 < n → a.block < w.heap.size)
    (hG : ∀ k, G k → k < w.heap.size) (hent : ∀ (args : Array Value) (w : World), (callFunc fid args).run Try.prog w = .ok (.enter fid args) w)
    (hstab : ∀ x q w2 w3, Fresh3 G w w2 → Good x q w2 → Touch (fun k => k = w.heap.size ∨ k = w.heap.size + 1 ∨ k = w.heap.size + 1 + 1) w2 w3 → Good x q w3)
    (hf : ∀ w1 be, Fresh w w1 → w.heap.size + 1 + 1 < be → Eye w1 be A n c xs 0 → Calls Try.prog fid (#[.pointer (some ⟨be, 0, none⟩)] ++ caps) w1 (RecG intV be G A n c xs bad Good w1)) :
    Calls Try.prog 77 #[.slice A n c, .func (.func fid) #[] caps] w (RecGEnd intV (.int .i64 0) n G bad Good w) := by
  have hmf : ∀ (fn : Fn) (first cap : Array Value) (w : World), (Instr.makeFunc fn first cap).run Try.prog w = .ok (.func fn first cap) w := fun _ _ _ _ => rfl
  have HF := Lib.hid hf; clear hf
  have hcm := hbs.2.2.1
  have hnc := hbs.2.1
  unfold maxLen at hcm
  have HBS := Lib.hid hbs; clear hbs
  have HAB := Lib.hid hA; clear hA
  have HG := Lib.hid hG; clear hG
  have HST := Lib.hid hstab; clear hstab
  go_enter_defers Try.func77, Try.ntmps77
  go_wp2_with fail
  obtain ⟨w1, hw1⟩ : ∃ w1, w1 = (((w.alloc (Obj.cells #[.int .i64 0] 3)).alloc (Obj.cells #[.int .i64 0] 3)).alloc (Obj.cells #[.int .i64 0] 26)).alloc (Obj.cells #[.slice A n c, .int .i64 0] 111) := ⟨_, rfl⟩
  have hfr : Fresh w w1 := by rw [hw1]; exact ((((Touch.refl _ w).alloc _).alloc _).alloc _).alloc _
  have hBx : Blk w1 w.heap.size 3 #[.int .i64 0] := by rw [hw1]; exact (((Blk.new w _ _).alloc _).alloc _).alloc _
  have hBa : Blk w1 (w.heap.size + 1) 3 #[.int .i64 0] := by
    rw [hw1]
    have := ((Blk.new (w.alloc (Obj.cells #[.int .i64 0] 3)) 3 #[.int .i64 0]).alloc (Obj.cells #[.int .i64 0] 26)).alloc (Obj.cells #[.slice A n c, .int .i64 0] 111)
    simpa only [World.size_alloc] using this
  have hBy : Blk w1 (w.heap.size + 1 + 1) 26 #[.int .i64 0] := by
    rw [hw1]
    have := (Blk.new ((w.alloc (Obj.cells #[.int .i64 0] 3)).alloc (Obj.cells #[.int .i64 0] 3)) 26 #[.int .i64 0]).alloc (Obj.cells #[.slice A n c, .int .i64 0] 111)
    simpa only [World.size_alloc] using this
  have hBe : Blk w1 (w.heap.size + 1 + 1 + 1) 111 #[.slice A n c, .int .i64 ((0 : Nat) : Int)] := by
    rw [hw1]
    have := Blk.new (((w.alloc (Obj.cells #[.int .i64 0] 3)).alloc (Obj.cells #[.int .i64 0] 3)).alloc (Obj.cells #[.int .i64 0] 26)) 111 #[.slice A n c, .int .i64 0]
    simp only [World.size_alloc] at this
    exact this
  have hsz : w.heap.size + 1 + 1 + 1 + 1 = w1.heap.size := by rw [hw1]; simp
  rw [← hw1]
  have HW1 := Lib.hid hw1; clear hw1
  have hey : Eye w1 (w.heap.size + 1 + 1 + 1) A n c xs 0 := ⟨hBe, HBS.out.fresh hfr, Nat.zero_le _, fun a ha h0 => by have := HAB.out a ha h0; omega⟩
  refine (HF.out w1 (w.heap.size + 1 + 1 + 1) hfr (by omega) hey).mono ?_
  intro e w2 h
  rcases h with ⟨a, rfl, hr, ht⟩ | ⟨x, q, rfl, hr, he2, ht⟩
  · have hBx' := hBx.touch ht (fun h => h.elim (fun h => by omega) (fun h => by have := HG.out _ h; omega))
    have hBa' := hBa.touch ht (fun h => h.elim (fun h => by omega) (fun h => by have := HG.out _ h; omega))
    have hBy' := hBy.touch ht (fun h => h.elim (fun h => by omega) (fun h => by have := HG.out _ h; omega))
    refine leaves_cons (f := 108) (args := #[.pointer (some ⟨w.heap.size, 0, none⟩), .pointer (some ⟨w.heap.size + 1, 0, none⟩), .pointer (some ⟨w.heap.size + 1 + 1, 0, none⟩)]) (by simp) (by simp [go_sem]) ?_
    refine (rcatch_stop_int (w.heap.size) (w.heap.size + 1) (w.heap.size + 1 + 1) a (.int .i64 0) 0 0 [] w2 hBx' (by omega) hBa' hBy').mono ?_
    rintro e u' w3 ⟨rfl, rfl, ht3, hb1, hb2, hb3⟩
    have hfin : Touch G w w3 := ((hfr.mono (fun _ _ h => h.elim)).trans ht (fun i hi hs => hs.elim (fun hs => by omega) (fun hs => hs))).trans ht3 (fun i hi hs => by omega)
    have HFIN : RecGEnd intV (.int .i64 0) n G bad Good w (.returned (.tuple #[.int .i64 0, .int .i64 a, .int .i64 2])) w3 := ⟨hfin, .inl ⟨a, hr, rfl⟩⟩
    have hcz0 := hb1.cell 0
    have hca := hb2.cell 0
    have hcy := hb3.cell 0
    simp only [List.getElem?_toArray, List.getElem?_cons_zero] at hcz0 hca hcy
    simpa [Leaves, settle, results, Try.results77, go_sem, hcz0, hca, hcy] using HFIN
  · have hBx' := hBx.touch ht (fun h => h.elim (fun h => by omega) (fun h => by have := HG.out _ h; omega))
    have hBa' := hBa.touch ht (fun h => h.elim (fun h => by omega) (fun h => by have := HG.out _ h; omega))
    have hBy' := hBy.touch ht (fun h => h.elim (fun h => by omega) (fun h => by have := HG.out _ h; omega))
    have hsz2 := ht.size
    have hfr2 : Touch G w w2 := (hfr.mono (fun _ _ h => h.elim)).trans ht (fun i hi hs => hs.elim (fun hs => by omega) (fun hs => hs))
    have hst3 : Fresh3 G w w2 := ⟨hfr2, by omega⟩
    have hqn := he2.2.2.1
    have hcv0 := hBx'.cell 0
    have hfv0 := hBx'.frozen 0
    have hca := hBa'.cell 0
    have hcy := hBy'.cell 0
    have hfa := hBa'.frozen 0
    have hfy := hBy'.frozen 0
    have hce0 := he2.1.cell 0
    have hce1 := he2.1.cell 1
    simp only [List.getElem?_toArray, List.getElem?_cons_zero, List.getElem?_cons_succ] at hcv0 hca hcy hce0 hce1
    have HR := Lib.hid hr
    have HFR2 := Lib.hid hfr2
    have HST3 := Lib.hid hst3
    clear hst3
    have HBX := Lib.hid hBx'
    have HBA := Lib.hid hBa'
    have HBY := Lib.hid hBy'
    clear hr hfr2 hBx' hBa' hBy' he2 ht hBx hBa hBy hBe hfr hey hmf hent
    by_cases hq : q < n
    · have HQ := Lib.hid hq
      obtain ⟨w3, hw3⟩ : ∃ w3, w3 = (w2.setCell ⟨w.heap.size, 0, none⟩ (.int .i64 x)) := ⟨_, rfl⟩
      have hB3 : Blk w3 w.heap.size 3 #[.int .i64 x] := by rw [hw3]; exact (HBX.out.set_ 0 (.int .i64 x))
      have hBa3 : Blk w3 (w.heap.size + 1) 3 #[.int .i64 0] := by rw [hw3]; exact (HBA.out.far (p := ⟨w.heap.size, 0, none⟩) (by simp) (.int .i64 x))
      have hBy3 : Blk w3 (w.heap.size + 1 + 1) 26 #[.int .i64 0] := by rw [hw3]; exact (HBY.out.far (p := ⟨w.heap.size, 0, none⟩) (by simp; omega) (.int .i64 x))
      have hfr3 : Touch G w w3 := by rw [hw3]; exact (HFR2.out.setCell (p := ⟨w.heap.size, 0, none⟩) (.inl (Nat.le_refl _)) _)
      have HB3 := Lib.hid hB3
      have HBA3 := Lib.hid hBa3
      have HBY3 := Lib.hid hBy3
      have HFR3 := Lib.hid hfr3
      have HW3 := Lib.hid hw3
      clear hB3 hBa3 hBy3 hfr3 hw3
      unfold intV
      go_wp2_with fail
      rw [← HW3.out]
      refine (fail_any _ _ _).mono ?_
      rintro e w4 ⟨rfl, rfl⟩
      refine leaves_cons (f := 108) (args := #[.pointer (some ⟨w.heap.size, 0, none⟩), .pointer (some ⟨w.heap.size + 1, 0, none⟩), .pointer (some ⟨w.heap.size + 1 + 1, 0, none⟩)]) (by simp) (by simp [go_sem]) ?_
      refine (rcatch_stop_int (w.heap.size) (w.heap.size + 1) (w.heap.size + 1 + 1) q (.int .i64 x) 0 0 [] w3 HB3.out (by omega) HBA3.out HBY3.out).mono ?_
      rintro e u' w4 ⟨rfl, rfl, ht3, hb1, hb2, hb3⟩
      have hfin : Touch G w w4 := HFR3.out.trans ht3 (fun i hi hs => by omega)
      have HFIN : RecGEnd intV (.int .i64 0) n G bad Good w (.returned (.tuple #[.int .i64 0, .int .i64 q, .int .i64 2])) w4 := ⟨hfin, .inr ⟨x, q, w2, HR.out, .inl ⟨HQ.out, rfl⟩⟩⟩
      have hcz0 := hb1.cell 0
      have hca := hb2.cell 0
      have hcy := hb3.cell 0
      simp only [List.getElem?_toArray, List.getElem?_cons_zero] at hcz0 hca hcy
      simpa [Leaves, settle, results, Try.results77, go_sem, hcz0, hca, hcy] using HFIN
    · have HQ := Lib.hid hq
      unfold intV
      go_wp2_with fail
      obtain ⟨w5, hw5⟩ : ∃ w5, w5 = (((w2.setCell ⟨w.heap.size, 0, none⟩ (.int .i64 x)).setCell ⟨w.heap.size, 0, none⟩ (.int .i64 x)).setCell ⟨w.heap.size + 1, 0, none⟩ (.int .i64 0)).setCell ⟨w.heap.size + 1 + 1, 0, none⟩ (.int .i64 0) := ⟨_, rfl⟩
      have hb1 : Blk w5 w.heap.size 3 #[.int .i64 x] := by rw [hw5]; exact (((HBX.out.set_ 0 (.int .i64 x)).set_ 0 (.int .i64 x)).far (p := ⟨w.heap.size + 1, 0, none⟩) (by simp) (.int .i64 0)).far (p := ⟨w.heap.size + 1 + 1, 0, none⟩) (by simp; omega) (.int .i64 0)
      have hb2 : Blk w5 (w.heap.size + 1) 3 #[.int .i64 0] := by rw [hw5]; exact (((HBA.out.far (p := ⟨w.heap.size, 0, none⟩) (by simp) (.int .i64 x)).far (p := ⟨w.heap.size, 0, none⟩) (by simp) (.int .i64 x)).set_ 0 (.int .i64 0)).far (p := ⟨w.heap.size + 1 + 1, 0, none⟩) (by simp) (.int .i64 0)
      have hb3 : Blk w5 (w.heap.size + 1 + 1) 26 #[.int .i64 0] := by rw [hw5]; exact (((HBY.out.far (p := ⟨w.heap.size, 0, none⟩) (by simp; omega) (.int .i64 x)).far (p := ⟨w.heap.size, 0, none⟩) (by simp; omega) (.int .i64 x)).far (p := ⟨w.heap.size + 1, 0, none⟩) (by simp) (.int .i64 0)).set_ 0 (.int .i64 0)
      have hfin : Touch G w w5 := by rw [hw5]; exact (((HFR2.out.setCell (p := ⟨w.heap.size, 0, none⟩) (.inl (Nat.le_refl _)) _).setCell (p := ⟨w.heap.size, 0, none⟩) (.inl (Nat.le_refl _)) _).setCell (p := ⟨w.heap.size + 1, 0, none⟩) (.inl (by simp)) _).setCell (p := ⟨w.heap.size + 1 + 1, 0, none⟩) (.inl (by simp; omega)) _
      have hgood : Good x q w5 := HST.out x q w2 w5 HST3.out HR.out (by rw [hw5]; exact ((((Touch.refl (fun k => k = w.heap.size ∨ k = w.heap.size + 1 ∨ k = w.heap.size + 1 + 1) w2).setCell (p := ⟨w.heap.size, 0, none⟩) (.inr (.inl rfl)) _).setCell (p := ⟨w.heap.size, 0, none⟩) (.inr (.inl rfl)) _).setCell (p := ⟨w.heap.size + 1, 0, none⟩) (.inr (.inr (.inl rfl))) _).setCell (p := ⟨w.heap.size + 1 + 1, 0, none⟩) (.inr (.inr (.inr rfl))) _)
      rw [← hw5]
      clear hw5
      have HFIN : RecGEnd intV (.int .i64 0) n G bad Good w (.returned (.tuple #[.int .i64 x, .int .i64 0, .int .i64 0])) w5 := ⟨hfin, .inr ⟨x, q, w5, hgood, .inr ⟨by omega, rfl, rfl⟩⟩⟩
      refine leaves_cons (f := 108) (args := #[.pointer (some ⟨w.heap.size, 0, none⟩), .pointer (some ⟨w.heap.size + 1, 0, none⟩), .pointer (some ⟨w.heap.size + 1 + 1, 0, none⟩)]) (by simp) (by simp [go_sem]) ?_
      refine (rcatch_idle_int _ _ _ _).mono ?_
      rintro e u' w4 ⟨rfl, rfl, rfl⟩
      have hcz0 := hb1.cell 0
      have hca := hb2.cell 0
      have hcy := hb3.cell 0
      simp only [List.getElem?_toArray, List.getElem?_cons_zero] at hcz0 hca hcy
      simpa [Leaves, settle, results, Try.results77, go_sem, hcz0, hca, hcy] using HFIN

end Go.Proofs.Ytdfhdanfigpbpaa
