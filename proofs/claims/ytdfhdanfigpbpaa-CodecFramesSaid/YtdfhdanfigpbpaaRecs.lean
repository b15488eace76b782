/- The contracts of codec.record at its types (printed by gen_recs.py). -/
import Derived.Test.YtdfhdanfigpbpaaEye2
import Derived.Test.YtdfhdanfigpbpaaWritten
import Derived.RegionTactic
import Derived.BigRegion
namespace Go.Proofs.Ytdfhdanfigpbpaa
open Go.RowKit

def evV (e : Dec.Ev) : Value := .agg #[.int .i64 e.k, .string ⟨e.node.toArray⟩, .string ⟨e.tx.toArray⟩, .int .i64 e.n]
def leV (l : Dec.Le) : Value := .agg #[.int .i64 l.o, .int .i64 l.r]
def intV (n : Int) : Value := .int .i64 n
/-- What a reading of a whole record gives. -/
def RecEnd {α : Type} (f : α → Value) (zero : Value) (w : World) (r : Except Nat α) (e : Ending) (w' : World) : Prop :=
  match r with
  | .ok x => e = .returned (.tuple #[f x, .int .i64 0, .int .i64 0]) ∧ Fresh w w'
  | .error a => e = .returned (.tuple #[zero, .int .i64 a, .int .i64 2]) ∧ Fresh w w'


set_option maxRecDepth 20000 in
set_option maxHeartbeats 400000 in
theorem rcatch_idle_event (p q r : Addr) (w : World) :
    CallsD Try.prog 104 #[.pointer (some p), .pointer (some q), .pointer (some r)] .returning w fun e u' w' => e = .returned (.tuple #[]) ∧ u' = .returning ∧ w' = w := by
  refine callsD_of_wpS Try.func104 rfl fun c₀ cs hu => ?_
  apply wpS_seq
  apply wpS_region
  simp [wpOpsS, go_sem, recoverD, hu, Try.ntmps104, Exit.thenS]
  refine wpS_of_wp ?_
  have heq : ∀ w, (binOp .eql 20 .nilIface .nilIface).run Try.prog w = .ok (.bool true) w := fun _ => by kernel_rfl
  go_wp2
  cases c₀
  simp_all [bodyPostS, results, Try.results104]

set_option maxRecDepth 20000 in
set_option maxHeartbeats 400000 in
theorem rcatch_stop_event (xb ab yb at_ : Nat) (c0 c1 c2 c3 : Value) (n m : Int) (older : List PanicEntry) (w : World) (hx : Blk w xb 23 #[c0, c1, c2, c3]) (hne : xb ≠ ab) (ha : Blk w ab 3 #[.int .i64 n]) (hy : Blk w yb 26 #[.int .i64 m]) :
    CallsD Try.prog 104 #[.pointer (some ⟨xb, 0, none⟩), .pointer (some ⟨ab, 0, none⟩), .pointer (some ⟨yb, 0, none⟩)] (.panicking (stopAt at_ :: older)) w fun e u' w' =>
      e = .returned (.tuple #[]) ∧ u' = .panicking ({ stopAt at_ with recovered := true } :: older) ∧ Touch (fun k => k = xb ∨ k = ab ∨ k = yb) w w' ∧ Blk w' xb 23 #[.int .i64 0, .string ⟨#[]⟩, .string ⟨#[]⟩, .int .i64 0] ∧ Blk w' ab 3 #[.int .i64 at_] ∧ Blk w' yb 26 #[.int .i64 2] := by
  have hay : ab ≠ yb := ha.ne_ hy (by decide)
  have hxy : xb ≠ yb := hx.ne_ hy (by decide)
  have hcx0 : w.cell? ⟨xb, 0, none⟩ = some c0 := hx.cell 0
  have hcx1 : w.cell? ⟨xb, 1, none⟩ = some c1 := hx.cell 1
  have hcx2 : w.cell? ⟨xb, 2, none⟩ = some c2 := hx.cell 2
  have hcx3 : w.cell? ⟨xb, 3, none⟩ = some c3 := hx.cell 3
  have hfx0 : w.frozen? ⟨xb, 0, none⟩ = false := hx.frozen 0
  have hfx1 : w.frozen? ⟨xb, 1, none⟩ = false := hx.frozen 1
  have hfx2 : w.frozen? ⟨xb, 2, none⟩ = false := hx.frozen 2
  have hfx3 : w.frozen? ⟨xb, 3, none⟩ = false := hx.frozen 3
  have hca : w.cell? ⟨ab, 0, none⟩ = some (.int .i64 n) := ha.cell 0
  have hfa : w.frozen? ⟨ab, 0, none⟩ = false := ha.frozen 0
  have hcy : w.cell? ⟨yb, 0, none⟩ = some (.int .i64 m) := hy.cell 0
  have hfy : w.frozen? ⟨yb, 0, none⟩ = false := hy.frozen 0
  have hxl := hx.lt
  have hal := ha.lt
  have hyl := hy.lt
  refine callsD_of_wpS Try.func104 rfl fun c₀ cs hu => ?_
  apply wpS_seq
  apply wpS_region
  simp [wpOpsS, go_sem, recoverD, hu, Try.ntmps104, Exit.thenS, stopAt, Array.replicate_succ, Array.replicate_zero]
  refine wpS_of_wp ?_
  have heq : ∀ w, (binOp .eql 20 (.iface 118 (.agg #[.int .i64 at_])) .nilIface).run Try.prog w = .ok (.bool false) w := fun _ => by kernel_rfl
  have hta : ∀ w, (Instr.typeAssert (.iface 118 (.agg #[.int .i64 at_])) 20 118 true).run Try.prog w = .ok (.tuple #[.agg #[.int .i64 at_], .bool true]) w := fun _ => by kernel_rfl
  have HX := Lib.hid hx; clear hx
  have HA := Lib.hid ha; clear ha
  have HY := Lib.hid hy; clear hy
  go_wp2
  go_region
  go_wp2
  obtain ⟨W, hW⟩ : ∃ W, W = ((((((((w.setCell ⟨xb, 0, none⟩ (.int .i64 0)).setCell ⟨xb, 1, none⟩ (.string ⟨#[]⟩)).setCell ⟨xb, 2, none⟩ (.string ⟨#[]⟩)).setCell ⟨xb, 3, none⟩ (.int .i64 0)).setCell ⟨ab, 0, none⟩ (.int .i64 at_)).setCell ⟨yb, 0, none⟩ (.int .i64 2)).alloc (.cells #[.int .i64 at_] 118)).alloc (.cells #[.int .i64 0, .string ⟨#[]⟩, .string ⟨#[]⟩, .int .i64 0] 23)).drew := ⟨_, rfl⟩
  rw [← hW]
  have h1 : Touch (fun k => k = xb ∨ k = ab ∨ k = yb) w W := by
    rw [hW]
    exact (((((((((Touch.refl (fun k => k = xb ∨ k = ab ∨ k = yb) w).setCell (p := ⟨xb, 0, none⟩) (.inr (.inl rfl)) _).setCell (p := ⟨xb, 1, none⟩) (.inr (.inl rfl)) _).setCell (p := ⟨xb, 2, none⟩) (.inr (.inl rfl)) _).setCell (p := ⟨xb, 3, none⟩) (.inr (.inl rfl)) _).setCell (p := ⟨ab, 0, none⟩) (.inr (.inr (.inl rfl))) _).setCell (p := ⟨yb, 0, none⟩) (.inr (.inr (.inr rfl))) _).alloc _).alloc _).drew
  have h2 : Blk W xb 23 #[.int .i64 0, .string ⟨#[]⟩, .string ⟨#[]⟩, .int .i64 0] := by
    rw [hW]
    exact ((((((((HX.out.set_ 0 (.int .i64 0)).set_ 1 (.string ⟨#[]⟩)).set_ 2 (.string ⟨#[]⟩)).set_ 3 (.int .i64 0)).far (p := ⟨ab, 0, none⟩) hne (.int .i64 at_)).far (p := ⟨yb, 0, none⟩) hxy (.int .i64 2)).alloc (.cells #[.int .i64 at_] 118)).alloc (.cells #[.int .i64 0, .string ⟨#[]⟩, .string ⟨#[]⟩, .int .i64 0] 23)).drew
  have h3 : Blk W ab 3 #[.int .i64 at_] := by
    rw [hW]
    exact (((((((((HA.out.far (p := ⟨xb, 0, none⟩) hne.symm (.int .i64 0)).far (p := ⟨xb, 1, none⟩) hne.symm (.string ⟨#[]⟩)).far (p := ⟨xb, 2, none⟩) hne.symm (.string ⟨#[]⟩)).far (p := ⟨xb, 3, none⟩) hne.symm (.int .i64 0)).set_ 0 (.int .i64 at_)).far (p := ⟨yb, 0, none⟩) hay (.int .i64 2)).alloc (.cells #[.int .i64 at_] 118)).alloc (.cells #[.int .i64 0, .string ⟨#[]⟩, .string ⟨#[]⟩, .int .i64 0] 23)).drew)
  have h4 : Blk W yb 26 #[.int .i64 2] := by
    rw [hW]
    exact (((((((((HY.out.far (p := ⟨xb, 0, none⟩) hxy.symm (.int .i64 0)).far (p := ⟨xb, 1, none⟩) hxy.symm (.string ⟨#[]⟩)).far (p := ⟨xb, 2, none⟩) hxy.symm (.string ⟨#[]⟩)).far (p := ⟨xb, 3, none⟩) hxy.symm (.int .i64 0)).far (p := ⟨ab, 0, none⟩) hay.symm (.int .i64 at_)).set_ 0 (.int .i64 2)).alloc (.cells #[.int .i64 at_] 118)).alloc (.cells #[.int .i64 0, .string ⟨#[]⟩, .string ⟨#[]⟩, .int .i64 0] 23)).drew)
  have hW' := Lib.hid hW
  clear hW
  exact ⟨rfl, _, rfl, _, results_none rfl _ _ _, rfl, rfl, h1, h2, h3, h4⟩

set_option maxRecDepth 100000 in
set_option maxHeartbeats 2000000 in
theorem record_event (fid : Nat) (A : Option Addr) (n c : Nat) (xs : List UInt8) (r : Dec.Rd Dec.Ev) (w : World) (hbs : Bs w A n c xs) (hA : ∀ a, A = some a → 0 < n → a.block < w.heap.size)
    (hent : ∀ (args : Array Value) (w : World), (callFunc fid args).run Try.prog w = .ok (.enter fid args) w)
    (hf : ∀ w1 be, Fresh w w1 → w.heap.size < be → Eye w1 be A n c xs 0 → Calls Try.prog fid #[.pointer (some ⟨be, 0, none⟩)] w1 (EyeEnd (α := Dec.Ev) evV be A n c xs w1 r)) :
    Calls Try.prog 62 #[.slice A n c, .func (.func fid) #[] #[]] w (RecEnd evV (.agg #[.int .i64 0, .string ⟨#[]⟩, .string ⟨#[]⟩, .int .i64 0]) w (Dec.whole r n)) := by
  have hmf : ∀ (fn : Fn) (first cap : Array Value) (w : World), (Instr.makeFunc fn first cap).run Try.prog w = .ok (.func fn first cap) w := fun _ _ _ _ => rfl
  have HF := Lib.hid hf; clear hf
  have hcm := hbs.2.2.1
  have hnc := hbs.2.1
  unfold maxLen at hcm
  have HBS := Lib.hid hbs; clear hbs
  have HAB := Lib.hid hA; clear hA
  go_enter_defers Try.func62, Try.ntmps62
  go_wp2_with fail
  obtain ⟨w1, hw1⟩ : ∃ w1, w1 = (((w.alloc (Obj.cells #[.int .i64 0, .string ⟨#[]⟩, .string ⟨#[]⟩, .int .i64 0] 23)).alloc (Obj.cells #[.int .i64 0] 3)).alloc (Obj.cells #[.int .i64 0] 26)).alloc (Obj.cells #[.slice A n c, .int .i64 0] 111) := ⟨_, rfl⟩
  have hfr : Fresh w w1 := by rw [hw1]; exact ((((Touch.refl _ w).alloc _).alloc _).alloc _).alloc _
  have hBx : Blk w1 w.heap.size 23 #[.int .i64 0, .string ⟨#[]⟩, .string ⟨#[]⟩, .int .i64 0] := by rw [hw1]; exact (((Blk.new w _ _).alloc _).alloc _).alloc _
  have hBa : Blk w1 (w.heap.size + 1) 3 #[.int .i64 0] := by
    rw [hw1]
    have := ((Blk.new (w.alloc (Obj.cells #[.int .i64 0, .string ⟨#[]⟩, .string ⟨#[]⟩, .int .i64 0] 23)) 3 #[.int .i64 0]).alloc (Obj.cells #[.int .i64 0] 26)).alloc (Obj.cells #[.slice A n c, .int .i64 0] 111)
    simpa only [World.size_alloc] using this
  have hBy : Blk w1 (w.heap.size + 1 + 1) 26 #[.int .i64 0] := by
    rw [hw1]
    have := (Blk.new ((w.alloc (Obj.cells #[.int .i64 0, .string ⟨#[]⟩, .string ⟨#[]⟩, .int .i64 0] 23)).alloc (Obj.cells #[.int .i64 0] 3)) 26 #[.int .i64 0]).alloc (Obj.cells #[.slice A n c, .int .i64 0] 111)
    simpa only [World.size_alloc] using this
  have hBe : Blk w1 (w.heap.size + 1 + 1 + 1) 111 #[.slice A n c, .int .i64 ((0 : Nat) : Int)] := by
    rw [hw1]
    have := Blk.new (((w.alloc (Obj.cells #[.int .i64 0, .string ⟨#[]⟩, .string ⟨#[]⟩, .int .i64 0] 23)).alloc (Obj.cells #[.int .i64 0] 3)).alloc (Obj.cells #[.int .i64 0] 26)) 111 #[.slice A n c, .int .i64 0]
    simp only [World.size_alloc] at this
    exact this
  have hsz : w.heap.size + 1 + 1 + 1 + 1 = w1.heap.size := by rw [hw1]; simp
  rw [← hw1]
  have HW1 := Lib.hid hw1; clear hw1
  have hey : Eye w1 (w.heap.size + 1 + 1 + 1) A n c xs 0 := ⟨hBe, HBS.out.fresh hfr, Nat.zero_le _, fun a ha h0 => by have := HAB.out a ha h0; omega⟩
  refine (HF.out w1 (w.heap.size + 1 + 1 + 1) hfr (by omega) hey).mono ?_
  intro e w2 h
  rcases h.cases with ⟨a, hr, rfl, ht⟩ | ⟨x, q, hr, rfl, he2, ht⟩
  · have hBx' := hBx.touch ht (by omega)
    have hBa' := hBa.touch ht (by omega)
    have hBy' := hBy.touch ht (by omega)
    refine leaves_cons (f := 104) (args := #[.pointer (some ⟨w.heap.size, 0, none⟩), .pointer (some ⟨w.heap.size + 1, 0, none⟩), .pointer (some ⟨w.heap.size + 1 + 1, 0, none⟩)]) (by simp) (by simp [go_sem]) ?_
    refine (rcatch_stop_event (w.heap.size) (w.heap.size + 1) (w.heap.size + 1 + 1) a (.int .i64 0) (.string ⟨#[]⟩) (.string ⟨#[]⟩) (.int .i64 0) 0 0 [] w2 hBx' (by omega) hBa' hBy').mono ?_
    rintro e u' w3 ⟨rfl, rfl, ht3, hb1, hb2, hb3⟩
    have hfin : Fresh w w3 := (hfr.trans ht (fun i hi hs => by omega)).trans ht3 (fun i hi hs => by omega)
    have HFIN : RecEnd evV (.agg #[.int .i64 0, .string ⟨#[]⟩, .string ⟨#[]⟩, .int .i64 0]) w (Dec.whole r n) (.returned (.tuple #[.agg #[.int .i64 0, .string ⟨#[]⟩, .string ⟨#[]⟩, .int .i64 0], .int .i64 a, .int .i64 2])) w3 := by rw [hr]; exact ⟨rfl, hfin⟩
    have hcz0 := hb1.cell 0
    have hcz1 := hb1.cell 1
    have hcz2 := hb1.cell 2
    have hcz3 := hb1.cell 3
    have hca := hb2.cell 0
    have hcy := hb3.cell 0
    simp only [List.getElem?_toArray, List.getElem?_cons_zero, List.getElem?_cons_succ] at hcz0 hcz1 hcz2 hcz3 hca hcy
    simpa [Leaves, settle, results, Try.results62, go_sem, hcz0, hcz1, hcz2, hcz3, hca, hcy] using HFIN
  · have hBx' := hBx.touch ht (by omega)
    have hBa' := hBa.touch ht (by omega)
    have hBy' := hBy.touch ht (by omega)
    have hsz2 := ht.size
    have hfr2 : Fresh w w2 := hfr.trans ht (fun i hi hs => by omega)
    have hqn := he2.2.2.1
    have hcv0 := hBx'.cell 0
    have hcv1 := hBx'.cell 1
    have hcv2 := hBx'.cell 2
    have hcv3 := hBx'.cell 3
    have hfv0 := hBx'.frozen 0
    have hfv1 := hBx'.frozen 1
    have hfv2 := hBx'.frozen 2
    have hfv3 := hBx'.frozen 3
    have hca := hBa'.cell 0
    have hcy := hBy'.cell 0
    have hfa := hBa'.frozen 0
    have hfy := hBy'.frozen 0
    have hce0 := he2.1.cell 0
    have hce1 := he2.1.cell 1
    simp only [List.getElem?_toArray, List.getElem?_cons_zero, List.getElem?_cons_succ] at hcv0 hcv1 hcv2 hcv3 hca hcy hce0 hce1
    have HR := Lib.hid hr
    have HFR2 := Lib.hid hfr2
    have HBX := Lib.hid hBx'
    have HBA := Lib.hid hBa'
    have HBY := Lib.hid hBy'
    clear hr h hfr2 hBx' hBa' hBy' he2 ht hBx hBa hBy hBe hfr hey hmf hent
    by_cases hq : q < n
    · have hw : Dec.whole r n = .error q := by rw [HR.out]; exact if_pos hq
      have HW := Lib.hid hw; clear hw
      obtain ⟨w3, hw3⟩ : ∃ w3, w3 = ((((w2.setCell ⟨w.heap.size, 0, none⟩ (.int .i64 x.k)).setCell ⟨w.heap.size, 1, none⟩ (.string ⟨x.node.toArray⟩)).setCell ⟨w.heap.size, 2, none⟩ (.string ⟨x.tx.toArray⟩)).setCell ⟨w.heap.size, 3, none⟩ (.int .i64 x.n)) := ⟨_, rfl⟩
      have hB3 : Blk w3 w.heap.size 23 #[.int .i64 x.k, .string ⟨x.node.toArray⟩, .string ⟨x.tx.toArray⟩, .int .i64 x.n] := by rw [hw3]; exact ((((HBX.out.set_ 0 (.int .i64 x.k)).set_ 1 (.string ⟨x.node.toArray⟩)).set_ 2 (.string ⟨x.tx.toArray⟩)).set_ 3 (.int .i64 x.n))
      have hBa3 : Blk w3 (w.heap.size + 1) 3 #[.int .i64 0] := by rw [hw3]; exact ((((HBA.out.far (p := ⟨w.heap.size, 0, none⟩) (by simp) (.int .i64 x.k)).far (p := ⟨w.heap.size, 1, none⟩) (by simp) (.string ⟨x.node.toArray⟩)).far (p := ⟨w.heap.size, 2, none⟩) (by simp) (.string ⟨x.tx.toArray⟩)).far (p := ⟨w.heap.size, 3, none⟩) (by simp) (.int .i64 x.n))
      have hBy3 : Blk w3 (w.heap.size + 1 + 1) 26 #[.int .i64 0] := by rw [hw3]; exact ((((HBY.out.far (p := ⟨w.heap.size, 0, none⟩) (by simp; omega) (.int .i64 x.k)).far (p := ⟨w.heap.size, 1, none⟩) (by simp; omega) (.string ⟨x.node.toArray⟩)).far (p := ⟨w.heap.size, 2, none⟩) (by simp; omega) (.string ⟨x.tx.toArray⟩)).far (p := ⟨w.heap.size, 3, none⟩) (by simp; omega) (.int .i64 x.n))
      have hfr3 : Fresh w w3 := by rw [hw3]; exact ((((HFR2.out.setCell (p := ⟨w.heap.size, 0, none⟩) (.inl (Nat.le_refl _)) _).setCell (p := ⟨w.heap.size, 1, none⟩) (.inl (Nat.le_refl _)) _).setCell (p := ⟨w.heap.size, 2, none⟩) (.inl (Nat.le_refl _)) _).setCell (p := ⟨w.heap.size, 3, none⟩) (.inl (Nat.le_refl _)) _)
      have HB3 := Lib.hid hB3
      have HBA3 := Lib.hid hBa3
      have HBY3 := Lib.hid hBy3
      have HFR3 := Lib.hid hfr3
      have HW3 := Lib.hid hw3
      clear hB3 hBa3 hBy3 hfr3 hw3
      unfold evV
      go_wp2_with fail
      rw [← HW3.out]
      refine (fail_any _ _ _).mono ?_
      rintro e w4 ⟨rfl, rfl⟩
      refine leaves_cons (f := 104) (args := #[.pointer (some ⟨w.heap.size, 0, none⟩), .pointer (some ⟨w.heap.size + 1, 0, none⟩), .pointer (some ⟨w.heap.size + 1 + 1, 0, none⟩)]) (by simp) (by simp [go_sem]) ?_
      refine (rcatch_stop_event (w.heap.size) (w.heap.size + 1) (w.heap.size + 1 + 1) q (.int .i64 x.k) (.string ⟨x.node.toArray⟩) (.string ⟨x.tx.toArray⟩) (.int .i64 x.n) 0 0 [] w3 HB3.out (by omega) HBA3.out HBY3.out).mono ?_
      rintro e u' w4 ⟨rfl, rfl, ht3, hb1, hb2, hb3⟩
      have hfin : Fresh w w4 := HFR3.out.trans ht3 (fun i hi hs => by omega)
      have HFIN : RecEnd evV (.agg #[.int .i64 0, .string ⟨#[]⟩, .string ⟨#[]⟩, .int .i64 0]) w (Dec.whole r n) (.returned (.tuple #[.agg #[.int .i64 0, .string ⟨#[]⟩, .string ⟨#[]⟩, .int .i64 0], .int .i64 q, .int .i64 2])) w4 := by rw [HW.out]; exact ⟨rfl, hfin⟩
      have hcz0 := hb1.cell 0
      have hcz1 := hb1.cell 1
      have hcz2 := hb1.cell 2
      have hcz3 := hb1.cell 3
      have hca := hb2.cell 0
      have hcy := hb3.cell 0
      simp only [List.getElem?_toArray, List.getElem?_cons_zero, List.getElem?_cons_succ] at hcz0 hcz1 hcz2 hcz3 hca hcy
      simpa [Leaves, settle, results, Try.results62, go_sem, hcz0, hcz1, hcz2, hcz3, hca, hcy] using HFIN
    · have hw : Dec.whole r n = .ok x := by rw [HR.out]; exact if_neg hq
      have HW := Lib.hid hw; clear hw
      unfold evV
      go_wp2_with fail
      obtain ⟨w5, hw5⟩ : ∃ w5, w5 = (((((((((w2.setCell ⟨w.heap.size, 0, none⟩ (.int .i64 x.k)).setCell ⟨w.heap.size, 1, none⟩ (.string ⟨x.node.toArray⟩)).setCell ⟨w.heap.size, 2, none⟩ (.string ⟨x.tx.toArray⟩)).setCell ⟨w.heap.size, 3, none⟩ (.int .i64 x.n)).setCell ⟨w.heap.size, 0, none⟩ (.int .i64 x.k)).setCell ⟨w.heap.size, 1, none⟩ (.string ⟨x.node.toArray⟩)).setCell ⟨w.heap.size, 2, none⟩ (.string ⟨x.tx.toArray⟩)).setCell ⟨w.heap.size, 3, none⟩ (.int .i64 x.n)).setCell ⟨w.heap.size + 1, 0, none⟩ (.int .i64 0)).setCell ⟨w.heap.size + 1 + 1, 0, none⟩ (.int .i64 0) := ⟨_, rfl⟩
      have hb1 : Blk w5 w.heap.size 23 #[.int .i64 x.k, .string ⟨x.node.toArray⟩, .string ⟨x.tx.toArray⟩, .int .i64 x.n] := by rw [hw5]; exact (((((((((HBX.out.set_ 0 (.int .i64 x.k)).set_ 1 (.string ⟨x.node.toArray⟩)).set_ 2 (.string ⟨x.tx.toArray⟩)).set_ 3 (.int .i64 x.n)).set_ 0 (.int .i64 x.k)).set_ 1 (.string ⟨x.node.toArray⟩)).set_ 2 (.string ⟨x.tx.toArray⟩)).set_ 3 (.int .i64 x.n)).far (p := ⟨w.heap.size + 1, 0, none⟩) (by simp) (.int .i64 0)).far (p := ⟨w.heap.size + 1 + 1, 0, none⟩) (by simp; omega) (.int .i64 0)
      have hb2 : Blk w5 (w.heap.size + 1) 3 #[.int .i64 0] := by rw [hw5]; exact (((((((((HBA.out.far (p := ⟨w.heap.size, 0, none⟩) (by simp) (.int .i64 x.k)).far (p := ⟨w.heap.size, 1, none⟩) (by simp) (.string ⟨x.node.toArray⟩)).far (p := ⟨w.heap.size, 2, none⟩) (by simp) (.string ⟨x.tx.toArray⟩)).far (p := ⟨w.heap.size, 3, none⟩) (by simp) (.int .i64 x.n)).far (p := ⟨w.heap.size, 0, none⟩) (by simp) (.int .i64 x.k)).far (p := ⟨w.heap.size, 1, none⟩) (by simp) (.string ⟨x.node.toArray⟩)).far (p := ⟨w.heap.size, 2, none⟩) (by simp) (.string ⟨x.tx.toArray⟩)).far (p := ⟨w.heap.size, 3, none⟩) (by simp) (.int .i64 x.n)).set_ 0 (.int .i64 0)).far (p := ⟨w.heap.size + 1 + 1, 0, none⟩) (by simp) (.int .i64 0)
      have hb3 : Blk w5 (w.heap.size + 1 + 1) 26 #[.int .i64 0] := by rw [hw5]; exact (((((((((HBY.out.far (p := ⟨w.heap.size, 0, none⟩) (by simp; omega) (.int .i64 x.k)).far (p := ⟨w.heap.size, 1, none⟩) (by simp; omega) (.string ⟨x.node.toArray⟩)).far (p := ⟨w.heap.size, 2, none⟩) (by simp; omega) (.string ⟨x.tx.toArray⟩)).far (p := ⟨w.heap.size, 3, none⟩) (by simp; omega) (.int .i64 x.n)).far (p := ⟨w.heap.size, 0, none⟩) (by simp; omega) (.int .i64 x.k)).far (p := ⟨w.heap.size, 1, none⟩) (by simp; omega) (.string ⟨x.node.toArray⟩)).far (p := ⟨w.heap.size, 2, none⟩) (by simp; omega) (.string ⟨x.tx.toArray⟩)).far (p := ⟨w.heap.size, 3, none⟩) (by simp; omega) (.int .i64 x.n)).far (p := ⟨w.heap.size + 1, 0, none⟩) (by simp) (.int .i64 0)).set_ 0 (.int .i64 0)
      have hfin : Fresh w w5 := by rw [hw5]; exact (((((((((HFR2.out.setCell (p := ⟨w.heap.size, 0, none⟩) (.inl (Nat.le_refl _)) _).setCell (p := ⟨w.heap.size, 1, none⟩) (.inl (Nat.le_refl _)) _).setCell (p := ⟨w.heap.size, 2, none⟩) (.inl (Nat.le_refl _)) _).setCell (p := ⟨w.heap.size, 3, none⟩) (.inl (Nat.le_refl _)) _).setCell (p := ⟨w.heap.size, 0, none⟩) (.inl (Nat.le_refl _)) _).setCell (p := ⟨w.heap.size, 1, none⟩) (.inl (Nat.le_refl _)) _).setCell (p := ⟨w.heap.size, 2, none⟩) (.inl (Nat.le_refl _)) _).setCell (p := ⟨w.heap.size, 3, none⟩) (.inl (Nat.le_refl _)) _).setCell (p := ⟨w.heap.size + 1, 0, none⟩) (.inl (by simp)) _).setCell (p := ⟨w.heap.size + 1 + 1, 0, none⟩) (.inl (by simp; omega)) _
      rw [← hw5]
      clear hw5
      have HFIN : RecEnd evV (.agg #[.int .i64 0, .string ⟨#[]⟩, .string ⟨#[]⟩, .int .i64 0]) w (Dec.whole r n) (.returned (.tuple #[.agg #[.int .i64 x.k, .string ⟨x.node.toArray⟩, .string ⟨x.tx.toArray⟩, .int .i64 x.n], .int .i64 0, .int .i64 0])) w5 := by rw [HW.out]; exact ⟨rfl, hfin⟩
      refine leaves_cons (f := 104) (args := #[.pointer (some ⟨w.heap.size, 0, none⟩), .pointer (some ⟨w.heap.size + 1, 0, none⟩), .pointer (some ⟨w.heap.size + 1 + 1, 0, none⟩)]) (by simp) (by simp [go_sem]) ?_
      refine (rcatch_idle_event _ _ _ _).mono ?_
      rintro e u' w4 ⟨rfl, rfl, rfl⟩
      have hcz0 := hb1.cell 0
      have hcz1 := hb1.cell 1
      have hcz2 := hb1.cell 2
      have hcz3 := hb1.cell 3
      have hca := hb2.cell 0
      have hcy := hb3.cell 0
      simp only [List.getElem?_toArray, List.getElem?_cons_zero, List.getElem?_cons_succ] at hcz0 hcz1 hcz2 hcz3 hca hcy
      simpa [Leaves, settle, results, Try.results62, go_sem, hcz0, hcz1, hcz2, hcz3, hca, hcy] using HFIN


set_option maxRecDepth 20000 in
set_option maxHeartbeats 400000 in
theorem rcatch_idle_lease (p q r : Addr) (w : World) :
    CallsD Try.prog 107 #[.pointer (some p), .pointer (some q), .pointer (some r)] .returning w fun e u' w' => e = .returned (.tuple #[]) ∧ u' = .returning ∧ w' = w := by
  refine callsD_of_wpS Try.func107 rfl fun c₀ cs hu => ?_
  apply wpS_seq
  apply wpS_region
  simp [wpOpsS, go_sem, recoverD, hu, Try.ntmps107, Exit.thenS]
  refine wpS_of_wp ?_
  have heq : ∀ w, (binOp .eql 20 .nilIface .nilIface).run Try.prog w = .ok (.bool true) w := fun _ => by kernel_rfl
  go_wp2
  cases c₀
  simp_all [bodyPostS, results, Try.results107]

set_option maxRecDepth 20000 in
set_option maxHeartbeats 400000 in
theorem rcatch_stop_lease (xb ab yb at_ : Nat) (c0 c1 : Value) (n m : Int) (older : List PanicEntry) (w : World) (hx : Blk w xb 42 #[c0, c1]) (hne : xb ≠ ab) (ha : Blk w ab 3 #[.int .i64 n]) (hy : Blk w yb 26 #[.int .i64 m]) :
    CallsD Try.prog 107 #[.pointer (some ⟨xb, 0, none⟩), .pointer (some ⟨ab, 0, none⟩), .pointer (some ⟨yb, 0, none⟩)] (.panicking (stopAt at_ :: older)) w fun e u' w' =>
      e = .returned (.tuple #[]) ∧ u' = .panicking ({ stopAt at_ with recovered := true } :: older) ∧ Touch (fun k => k = xb ∨ k = ab ∨ k = yb) w w' ∧ Blk w' xb 42 #[.int .i64 0, .int .i64 0] ∧ Blk w' ab 3 #[.int .i64 at_] ∧ Blk w' yb 26 #[.int .i64 2] := by
  have hay : ab ≠ yb := ha.ne_ hy (by decide)
  have hxy : xb ≠ yb := hx.ne_ hy (by decide)
  have hcx0 : w.cell? ⟨xb, 0, none⟩ = some c0 := hx.cell 0
  have hcx1 : w.cell? ⟨xb, 1, none⟩ = some c1 := hx.cell 1
  have hfx0 : w.frozen? ⟨xb, 0, none⟩ = false := hx.frozen 0
  have hfx1 : w.frozen? ⟨xb, 1, none⟩ = false := hx.frozen 1
  have hca : w.cell? ⟨ab, 0, none⟩ = some (.int .i64 n) := ha.cell 0
  have hfa : w.frozen? ⟨ab, 0, none⟩ = false := ha.frozen 0
  have hcy : w.cell? ⟨yb, 0, none⟩ = some (.int .i64 m) := hy.cell 0
  have hfy : w.frozen? ⟨yb, 0, none⟩ = false := hy.frozen 0
  have hxl := hx.lt
  have hal := ha.lt
  have hyl := hy.lt
  refine callsD_of_wpS Try.func107 rfl fun c₀ cs hu => ?_
  apply wpS_seq
  apply wpS_region
  simp [wpOpsS, go_sem, recoverD, hu, Try.ntmps107, Exit.thenS, stopAt, Array.replicate_succ, Array.replicate_zero]
  refine wpS_of_wp ?_
  have heq : ∀ w, (binOp .eql 20 (.iface 118 (.agg #[.int .i64 at_])) .nilIface).run Try.prog w = .ok (.bool false) w := fun _ => by kernel_rfl
  have hta : ∀ w, (Instr.typeAssert (.iface 118 (.agg #[.int .i64 at_])) 20 118 true).run Try.prog w = .ok (.tuple #[.agg #[.int .i64 at_], .bool true]) w := fun _ => by kernel_rfl
  have HX := Lib.hid hx; clear hx
  have HA := Lib.hid ha; clear ha
  have HY := Lib.hid hy; clear hy
  go_wp2
  go_region
  go_wp2
  obtain ⟨W, hW⟩ : ∃ W, W = ((((((w.setCell ⟨xb, 0, none⟩ (.int .i64 0)).setCell ⟨xb, 1, none⟩ (.int .i64 0)).setCell ⟨ab, 0, none⟩ (.int .i64 at_)).setCell ⟨yb, 0, none⟩ (.int .i64 2)).alloc (.cells #[.int .i64 at_] 118)).alloc (.cells #[.int .i64 0, .int .i64 0] 42)).drew := ⟨_, rfl⟩
  rw [← hW]
  have h1 : Touch (fun k => k = xb ∨ k = ab ∨ k = yb) w W := by
    rw [hW]
    exact (((((((Touch.refl (fun k => k = xb ∨ k = ab ∨ k = yb) w).setCell (p := ⟨xb, 0, none⟩) (.inr (.inl rfl)) _).setCell (p := ⟨xb, 1, none⟩) (.inr (.inl rfl)) _).setCell (p := ⟨ab, 0, none⟩) (.inr (.inr (.inl rfl))) _).setCell (p := ⟨yb, 0, none⟩) (.inr (.inr (.inr rfl))) _).alloc _).alloc _).drew
  have h2 : Blk W xb 42 #[.int .i64 0, .int .i64 0] := by
    rw [hW]
    exact ((((((HX.out.set_ 0 (.int .i64 0)).set_ 1 (.int .i64 0)).far (p := ⟨ab, 0, none⟩) hne (.int .i64 at_)).far (p := ⟨yb, 0, none⟩) hxy (.int .i64 2)).alloc (.cells #[.int .i64 at_] 118)).alloc (.cells #[.int .i64 0, .int .i64 0] 42)).drew
  have h3 : Blk W ab 3 #[.int .i64 at_] := by
    rw [hW]
    exact (((((((HA.out.far (p := ⟨xb, 0, none⟩) hne.symm (.int .i64 0)).far (p := ⟨xb, 1, none⟩) hne.symm (.int .i64 0)).set_ 0 (.int .i64 at_)).far (p := ⟨yb, 0, none⟩) hay (.int .i64 2)).alloc (.cells #[.int .i64 at_] 118)).alloc (.cells #[.int .i64 0, .int .i64 0] 42)).drew)
  have h4 : Blk W yb 26 #[.int .i64 2] := by
    rw [hW]
    exact (((((((HY.out.far (p := ⟨xb, 0, none⟩) hxy.symm (.int .i64 0)).far (p := ⟨xb, 1, none⟩) hxy.symm (.int .i64 0)).far (p := ⟨ab, 0, none⟩) hay.symm (.int .i64 at_)).set_ 0 (.int .i64 2)).alloc (.cells #[.int .i64 at_] 118)).alloc (.cells #[.int .i64 0, .int .i64 0] 42)).drew)
  have hW' := Lib.hid hW
  clear hW
  exact ⟨rfl, _, rfl, _, results_none rfl _ _ _, rfl, rfl, h1, h2, h3, h4⟩

set_option maxRecDepth 100000 in
set_option maxHeartbeats 2000000 in
theorem record_lease (fid : Nat) (A : Option Addr) (n c : Nat) (xs : List UInt8) (r : Dec.Rd Dec.Le) (w : World) (hbs : Bs w A n c xs) (hA : ∀ a, A = some a → 0 < n → a.block < w.heap.size)
    (hent : ∀ (args : Array Value) (w : World), (callFunc fid args).run Try.prog w = .ok (.enter fid args) w)
    (hf : ∀ w1 be, Fresh w w1 → w.heap.size < be → Eye w1 be A n c xs 0 → Calls Try.prog fid #[.pointer (some ⟨be, 0, none⟩)] w1 (EyeEnd (α := Dec.Le) leV be A n c xs w1 r)) :
    Calls Try.prog 74 #[.slice A n c, .func (.func fid) #[] #[]] w (RecEnd leV (.agg #[.int .i64 0, .int .i64 0]) w (Dec.whole r n)) := by
  have hmf : ∀ (fn : Fn) (first cap : Array Value) (w : World), (Instr.makeFunc fn first cap).run Try.prog w = .ok (.func fn first cap) w := fun _ _ _ _ => rfl
  have HF := Lib.hid hf; clear hf
  have hcm := hbs.2.2.1
  have hnc := hbs.2.1
  unfold maxLen at hcm
  have HBS := Lib.hid hbs; clear hbs
  have HAB := Lib.hid hA; clear hA
  go_enter_defers Try.func74, Try.ntmps74
  go_wp2_with fail
  obtain ⟨w1, hw1⟩ : ∃ w1, w1 = (((w.alloc (Obj.cells #[.int .i64 0, .int .i64 0] 42)).alloc (Obj.cells #[.int .i64 0] 3)).alloc (Obj.cells #[.int .i64 0] 26)).alloc (Obj.cells #[.slice A n c, .int .i64 0] 111) := ⟨_, rfl⟩
  have hfr : Fresh w w1 := by rw [hw1]; exact ((((Touch.refl _ w).alloc _).alloc _).alloc _).alloc _
  have hBx : Blk w1 w.heap.size 42 #[.int .i64 0, .int .i64 0] := by rw [hw1]; exact (((Blk.new w _ _).alloc _).alloc _).alloc _
  have hBa : Blk w1 (w.heap.size + 1) 3 #[.int .i64 0] := by
    rw [hw1]
    have := ((Blk.new (w.alloc (Obj.cells #[.int .i64 0, .int .i64 0] 42)) 3 #[.int .i64 0]).alloc (Obj.cells #[.int .i64 0] 26)).alloc (Obj.cells #[.slice A n c, .int .i64 0] 111)
    simpa only [World.size_alloc] using this
  have hBy : Blk w1 (w.heap.size + 1 + 1) 26 #[.int .i64 0] := by
    rw [hw1]
    have := (Blk.new ((w.alloc (Obj.cells #[.int .i64 0, .int .i64 0] 42)).alloc (Obj.cells #[.int .i64 0] 3)) 26 #[.int .i64 0]).alloc (Obj.cells #[.slice A n c, .int .i64 0] 111)
    simpa only [World.size_alloc] using this
  have hBe : Blk w1 (w.heap.size + 1 + 1 + 1) 111 #[.slice A n c, .int .i64 ((0 : Nat) : Int)] := by
    rw [hw1]
    have := Blk.new (((w.alloc (Obj.cells #[.int .i64 0, .int .i64 0] 42)).alloc (Obj.cells #[.int .i64 0] 3)).alloc (Obj.cells #[.int .i64 0] 26)) 111 #[.slice A n c, .int .i64 0]
    simp only [World.size_alloc] at this
    exact this
  have hsz : w.heap.size + 1 + 1 + 1 + 1 = w1.heap.size := by rw [hw1]; simp
  rw [← hw1]
  have HW1 := Lib.hid hw1; clear hw1
  have hey : Eye w1 (w.heap.size + 1 + 1 + 1) A n c xs 0 := ⟨hBe, HBS.out.fresh hfr, Nat.zero_le _, fun a ha h0 => by have := HAB.out a ha h0; omega⟩
  refine (HF.out w1 (w.heap.size + 1 + 1 + 1) hfr (by omega) hey).mono ?_
  intro e w2 h
  rcases h.cases with ⟨a, hr, rfl, ht⟩ | ⟨x, q, hr, rfl, he2, ht⟩
  · have hBx' := hBx.touch ht (by omega)
    have hBa' := hBa.touch ht (by omega)
    have hBy' := hBy.touch ht (by omega)
    refine leaves_cons (f := 107) (args := #[.pointer (some ⟨w.heap.size, 0, none⟩), .pointer (some ⟨w.heap.size + 1, 0, none⟩), .pointer (some ⟨w.heap.size + 1 + 1, 0, none⟩)]) (by simp) (by simp [go_sem]) ?_
    refine (rcatch_stop_lease (w.heap.size) (w.heap.size + 1) (w.heap.size + 1 + 1) a (.int .i64 0) (.int .i64 0) 0 0 [] w2 hBx' (by omega) hBa' hBy').mono ?_
    rintro e u' w3 ⟨rfl, rfl, ht3, hb1, hb2, hb3⟩
    have hfin : Fresh w w3 := (hfr.trans ht (fun i hi hs => by omega)).trans ht3 (fun i hi hs => by omega)
    have HFIN : RecEnd leV (.agg #[.int .i64 0, .int .i64 0]) w (Dec.whole r n) (.returned (.tuple #[.agg #[.int .i64 0, .int .i64 0], .int .i64 a, .int .i64 2])) w3 := by rw [hr]; exact ⟨rfl, hfin⟩
    have hcz0 := hb1.cell 0
    have hcz1 := hb1.cell 1
    have hca := hb2.cell 0
    have hcy := hb3.cell 0
    simp only [List.getElem?_toArray, List.getElem?_cons_zero, List.getElem?_cons_succ] at hcz0 hcz1 hca hcy
    simpa [Leaves, settle, results, Try.results74, go_sem, hcz0, hcz1, hca, hcy] using HFIN
  · have hBx' := hBx.touch ht (by omega)
    have hBa' := hBa.touch ht (by omega)
    have hBy' := hBy.touch ht (by omega)
    have hsz2 := ht.size
    have hfr2 : Fresh w w2 := hfr.trans ht (fun i hi hs => by omega)
    have hqn := he2.2.2.1
    have hcv0 := hBx'.cell 0
    have hcv1 := hBx'.cell 1
    have hfv0 := hBx'.frozen 0
    have hfv1 := hBx'.frozen 1
    have hca := hBa'.cell 0
    have hcy := hBy'.cell 0
    have hfa := hBa'.frozen 0
    have hfy := hBy'.frozen 0
    have hce0 := he2.1.cell 0
    have hce1 := he2.1.cell 1
    simp only [List.getElem?_toArray, List.getElem?_cons_zero, List.getElem?_cons_succ] at hcv0 hcv1 hca hcy hce0 hce1
    have HR := Lib.hid hr
    have HFR2 := Lib.hid hfr2
    have HBX := Lib.hid hBx'
    have HBA := Lib.hid hBa'
    have HBY := Lib.hid hBy'
    clear hr h hfr2 hBx' hBa' hBy' he2 ht hBx hBa hBy hBe hfr hey hmf hent
    by_cases hq : q < n
    · have hw : Dec.whole r n = .error q := by rw [HR.out]; exact if_pos hq
      have HW := Lib.hid hw; clear hw
      obtain ⟨w3, hw3⟩ : ∃ w3, w3 = ((w2.setCell ⟨w.heap.size, 0, none⟩ (.int .i64 x.o)).setCell ⟨w.heap.size, 1, none⟩ (.int .i64 x.r)) := ⟨_, rfl⟩
      have hB3 : Blk w3 w.heap.size 42 #[.int .i64 x.o, .int .i64 x.r] := by rw [hw3]; exact ((HBX.out.set_ 0 (.int .i64 x.o)).set_ 1 (.int .i64 x.r))
      have hBa3 : Blk w3 (w.heap.size + 1) 3 #[.int .i64 0] := by rw [hw3]; exact ((HBA.out.far (p := ⟨w.heap.size, 0, none⟩) (by simp) (.int .i64 x.o)).far (p := ⟨w.heap.size, 1, none⟩) (by simp) (.int .i64 x.r))
      have hBy3 : Blk w3 (w.heap.size + 1 + 1) 26 #[.int .i64 0] := by rw [hw3]; exact ((HBY.out.far (p := ⟨w.heap.size, 0, none⟩) (by simp; omega) (.int .i64 x.o)).far (p := ⟨w.heap.size, 1, none⟩) (by simp; omega) (.int .i64 x.r))
      have hfr3 : Fresh w w3 := by rw [hw3]; exact ((HFR2.out.setCell (p := ⟨w.heap.size, 0, none⟩) (.inl (Nat.le_refl _)) _).setCell (p := ⟨w.heap.size, 1, none⟩) (.inl (Nat.le_refl _)) _)
      have HB3 := Lib.hid hB3
      have HBA3 := Lib.hid hBa3
      have HBY3 := Lib.hid hBy3
      have HFR3 := Lib.hid hfr3
      have HW3 := Lib.hid hw3
      clear hB3 hBa3 hBy3 hfr3 hw3
      unfold leV
      go_wp2_with fail
      rw [← HW3.out]
      refine (fail_any _ _ _).mono ?_
      rintro e w4 ⟨rfl, rfl⟩
      refine leaves_cons (f := 107) (args := #[.pointer (some ⟨w.heap.size, 0, none⟩), .pointer (some ⟨w.heap.size + 1, 0, none⟩), .pointer (some ⟨w.heap.size + 1 + 1, 0, none⟩)]) (by simp) (by simp [go_sem]) ?_
      refine (rcatch_stop_lease (w.heap.size) (w.heap.size + 1) (w.heap.size + 1 + 1) q (.int .i64 x.o) (.int .i64 x.r) 0 0 [] w3 HB3.out (by omega) HBA3.out HBY3.out).mono ?_
      rintro e u' w4 ⟨rfl, rfl, ht3, hb1, hb2, hb3⟩
      have hfin : Fresh w w4 := HFR3.out.trans ht3 (fun i hi hs => by omega)
      have HFIN : RecEnd leV (.agg #[.int .i64 0, .int .i64 0]) w (Dec.whole r n) (.returned (.tuple #[.agg #[.int .i64 0, .int .i64 0], .int .i64 q, .int .i64 2])) w4 := by rw [HW.out]; exact ⟨rfl, hfin⟩
      have hcz0 := hb1.cell 0
      have hcz1 := hb1.cell 1
      have hca := hb2.cell 0
      have hcy := hb3.cell 0
      simp only [List.getElem?_toArray, List.getElem?_cons_zero, List.getElem?_cons_succ] at hcz0 hcz1 hca hcy
      simpa [Leaves, settle, results, Try.results74, go_sem, hcz0, hcz1, hca, hcy] using HFIN
    · have hw : Dec.whole r n = .ok x := by rw [HR.out]; exact if_neg hq
      have HW := Lib.hid hw; clear hw
      unfold leV
      go_wp2_with fail
      obtain ⟨w5, hw5⟩ : ∃ w5, w5 = (((((w2.setCell ⟨w.heap.size, 0, none⟩ (.int .i64 x.o)).setCell ⟨w.heap.size, 1, none⟩ (.int .i64 x.r)).setCell ⟨w.heap.size, 0, none⟩ (.int .i64 x.o)).setCell ⟨w.heap.size, 1, none⟩ (.int .i64 x.r)).setCell ⟨w.heap.size + 1, 0, none⟩ (.int .i64 0)).setCell ⟨w.heap.size + 1 + 1, 0, none⟩ (.int .i64 0) := ⟨_, rfl⟩
      have hb1 : Blk w5 w.heap.size 42 #[.int .i64 x.o, .int .i64 x.r] := by rw [hw5]; exact (((((HBX.out.set_ 0 (.int .i64 x.o)).set_ 1 (.int .i64 x.r)).set_ 0 (.int .i64 x.o)).set_ 1 (.int .i64 x.r)).far (p := ⟨w.heap.size + 1, 0, none⟩) (by simp) (.int .i64 0)).far (p := ⟨w.heap.size + 1 + 1, 0, none⟩) (by simp; omega) (.int .i64 0)
      have hb2 : Blk w5 (w.heap.size + 1) 3 #[.int .i64 0] := by rw [hw5]; exact (((((HBA.out.far (p := ⟨w.heap.size, 0, none⟩) (by simp) (.int .i64 x.o)).far (p := ⟨w.heap.size, 1, none⟩) (by simp) (.int .i64 x.r)).far (p := ⟨w.heap.size, 0, none⟩) (by simp) (.int .i64 x.o)).far (p := ⟨w.heap.size, 1, none⟩) (by simp) (.int .i64 x.r)).set_ 0 (.int .i64 0)).far (p := ⟨w.heap.size + 1 + 1, 0, none⟩) (by simp) (.int .i64 0)
      have hb3 : Blk w5 (w.heap.size + 1 + 1) 26 #[.int .i64 0] := by rw [hw5]; exact (((((HBY.out.far (p := ⟨w.heap.size, 0, none⟩) (by simp; omega) (.int .i64 x.o)).far (p := ⟨w.heap.size, 1, none⟩) (by simp; omega) (.int .i64 x.r)).far (p := ⟨w.heap.size, 0, none⟩) (by simp; omega) (.int .i64 x.o)).far (p := ⟨w.heap.size, 1, none⟩) (by simp; omega) (.int .i64 x.r)).far (p := ⟨w.heap.size + 1, 0, none⟩) (by simp) (.int .i64 0)).set_ 0 (.int .i64 0)
      have hfin : Fresh w w5 := by rw [hw5]; exact (((((HFR2.out.setCell (p := ⟨w.heap.size, 0, none⟩) (.inl (Nat.le_refl _)) _).setCell (p := ⟨w.heap.size, 1, none⟩) (.inl (Nat.le_refl _)) _).setCell (p := ⟨w.heap.size, 0, none⟩) (.inl (Nat.le_refl _)) _).setCell (p := ⟨w.heap.size, 1, none⟩) (.inl (Nat.le_refl _)) _).setCell (p := ⟨w.heap.size + 1, 0, none⟩) (.inl (by simp)) _).setCell (p := ⟨w.heap.size + 1 + 1, 0, none⟩) (.inl (by simp; omega)) _
      rw [← hw5]
      clear hw5
      have HFIN : RecEnd leV (.agg #[.int .i64 0, .int .i64 0]) w (Dec.whole r n) (.returned (.tuple #[.agg #[.int .i64 x.o, .int .i64 x.r], .int .i64 0, .int .i64 0])) w5 := by rw [HW.out]; exact ⟨rfl, hfin⟩
      refine leaves_cons (f := 107) (args := #[.pointer (some ⟨w.heap.size, 0, none⟩), .pointer (some ⟨w.heap.size + 1, 0, none⟩), .pointer (some ⟨w.heap.size + 1 + 1, 0, none⟩)]) (by simp) (by simp [go_sem]) ?_
      refine (rcatch_idle_lease _ _ _ _).mono ?_
      rintro e u' w4 ⟨rfl, rfl, rfl⟩
      have hcz0 := hb1.cell 0
      have hcz1 := hb1.cell 1
      have hca := hb2.cell 0
      have hcy := hb3.cell 0
      simp only [List.getElem?_toArray, List.getElem?_cons_zero, List.getElem?_cons_succ] at hcz0 hcz1 hca hcy
      simpa [Leaves, settle, results, Try.results74, go_sem, hcz0, hcz1, hca, hcy] using HFIN

end Go.Proofs.Ytdfhdanfigpbpaa
