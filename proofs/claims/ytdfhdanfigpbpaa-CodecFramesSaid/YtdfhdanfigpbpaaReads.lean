/- The contracts of the codec's straight readers (printed by gen_reads.py). -/
import Derived.Test.YtdfhdanfigpbpaaRecs
namespace Go.Proofs.Ytdfhdanfigpbpaa
open Go.RowKit

theorem RecEnd.cases {α : Type} {f : α → Value} {zero : Value} {w : World} {r : Except Nat α} {e : Ending} {w' : World} (h : RecEnd f zero w r e w') :
    (∃ a, r = .error a ∧ e = .returned (.tuple #[zero, .int .i64 a, .int .i64 2]) ∧ Fresh w w') ∨ (∃ x, r = .ok x ∧ e = .returned (.tuple #[f x, .int .i64 0, .int .i64 0]) ∧ Fresh w w') := by
  cases r with
  | error a => exact .inl ⟨a, rfl, h.1, h.2⟩
  | ok x => exact .inr ⟨x, rfl, h.1, h.2⟩
theorem RecEnd.bad {α : Type} {f : α → Value} {zero : Value} {w w' : World} {r : Except Nat α} {a : Nat} (hr : r = .error a) (h : Fresh w w') : RecEnd f zero w r (.returned (.tuple #[zero, .int .i64 a, .int .i64 2])) w' := hr ▸ ⟨rfl, h⟩
theorem RecEnd.good {α : Type} {f : α → Value} {zero : Value} {w w' : World} {r : Except Nat α} {x : α} (hr : r = .ok x) (h : Fresh w w') : RecEnd f zero w r (.returned (.tuple #[f x, .int .i64 0, .int .i64 0])) w' := hr ▸ ⟨rfl, h⟩

set_option maxRecDepth 100000 in
set_option maxHeartbeats 2000000 in
theorem event1_read (be : Nat) (A : Option Addr) (n c : Nat) (xs : List UInt8) (p0 : Nat) (w : World) (he : Eye w be A n c xs p0) :
    Calls Try.prog 63 #[.pointer (some ⟨be, 0, none⟩)] w (EyeEnd (α := Dec.Ev) evV be A n c xs w (Dec.event xs p0)) := by
  obtain ⟨w0, hw0⟩ : ∃ w0, w0 = w.alloc (.cells #[.int .i64 0, .string ⟨#[]⟩, .string ⟨#[]⟩, .int .i64 0] 23) := ⟨_, rfl⟩
  have hT0 : Fresh w w0 := by rw [hw0]; exact (Touch.refl _ w).alloc _
  have hB0 : Blk w0 w.heap.size 23 #[.int .i64 0, .string ⟨#[]⟩, .string ⟨#[]⟩, .int .i64 0] := by rw [hw0]; exact Blk.new _ _ _
  have hlt := he.1.lt
  have HE0 := Lib.hid (show Eye w0 be A n c xs p0 from ⟨he.1.touch hT0 id, he.2.1.fresh hT0, he.2.2.1, he.2.2.2⟩)
  have HB0 := Lib.hid hB0
  have HT0 := Lib.hid (show Touch (· = be) w w0 from hT0.mono fun _ _ h => h.elim)
  have HW0 := Lib.hid hw0
  have HN := Lib.hid he.2.2.2
  clear hB0 hT0 hw0 he
  have hstep : ∀ (wa : World) (i : Nat) (u : Value) (q : Nat), Eye wa be A n c xs q → Eye (wa.setCell ⟨w.heap.size, i, none⟩ u) be A n c xs q := by
    intro wa i u q h
    refine ⟨h.1.far (p := ⟨w.heap.size, i, none⟩) (by simp; omega) _, h.2.1.keep fun h0 p v hp ⟨a, ha, e⟩ => ?_, h.2.2.1, h.2.2.2⟩
    have := HN.out a ha h0
    rw [World.cell?_setCell_other _ _ _ _ (by intro h9; rw [← h9] at e; simp at e; omega)]
    exact hp
  have HSTEP := Lib.hid hstep; clear hstep
  go_enter Try.func63, Try.ntmps63
  go_wp2_with fail
  rw [← HW0.out]
  refine (enumber_any be A n c xs p0 1 15 w0 HE0.out).mono ?_
  intro e wa0 h
  rcases h.cases with ⟨a, hr, rfl, ht⟩ | ⟨x0, p1, hr, rfl, he, ht⟩
  · exact ⟨rfl, EyeEnd.bad (show Dec.event xs p0 = .error a by unfold Dec.event Dec.bind; simp only [hr]) (HT0.out.trans ht fun _ _ h => h)⟩
  have hb := HB0.out.touch ht (by omega)
  have hc0 := hb.cell 0
  have hf0 := hb.frozen 0
  simp only [List.getElem?_toArray, List.getElem?_cons_zero] at hc0
  have HR0 := Lib.hid hr
  obtain ⟨w1, hw1⟩ : ∃ w', w' = wa0.setCell ⟨w.heap.size, 0, none⟩ (.int .i64 x0) := ⟨_, rfl⟩
  have HB1 := Lib.hid (show Blk w1 w.heap.size 23 #[.int .i64 x0, .string ⟨#[]⟩, .string ⟨#[]⟩, .int .i64 0] by rw [hw1]; exact hb.set_ 0 (.int .i64 x0))
  have HE1 := Lib.hid (show Eye w1 be A n c xs p1 by rw [hw1]; exact HSTEP.out _ _ _ _ he)
  have HT1 := Lib.hid (show Touch (· = be) w w1 by rw [hw1]; exact (HT0.out.trans ht fun _ _ h => h).setCell (p := ⟨w.heap.size, 0, none⟩) (.inl (Nat.le_refl _)) _)
  have HW1 := Lib.hid hw1
  clear hw1 hb hr h he ht
  go_wp2_with fail
  rw [← HW1.out]
  clear hc0 hf0
  refine (etext_any be A n c xs p1 w1 HE1.out).mono ?_
  intro e wa1 h
  rcases h.cases with ⟨a, hr, rfl, ht⟩ | ⟨x1, p2, hr, rfl, he, ht⟩
  · exact ⟨rfl, EyeEnd.bad (show Dec.event xs p0 = .error a by unfold Dec.event Dec.bind; simp only [HR0.out]; simp only [hr]) (HT1.out.trans ht fun _ _ h => h)⟩
  have hb := HB1.out.touch ht (by omega)
  have hc1 := hb.cell 1
  have hf1 := hb.frozen 1
  simp only [List.getElem?_toArray, List.getElem?_cons_zero, List.getElem?_cons_succ] at hc1
  have HR1 := Lib.hid hr
  obtain ⟨w2, hw2⟩ : ∃ w', w' = wa1.setCell ⟨w.heap.size, 1, none⟩ (.string ⟨x1.toArray⟩) := ⟨_, rfl⟩
  have HB2 := Lib.hid (show Blk w2 w.heap.size 23 #[.int .i64 x0, .string ⟨x1.toArray⟩, .string ⟨#[]⟩, .int .i64 0] by rw [hw2]; exact hb.set_ 1 (.string ⟨x1.toArray⟩))
  have HE2 := Lib.hid (show Eye w2 be A n c xs p2 by rw [hw2]; exact HSTEP.out _ _ _ _ he)
  have HT2 := Lib.hid (show Touch (· = be) w w2 by rw [hw2]; exact (HT1.out.trans ht fun _ _ h => h).setCell (p := ⟨w.heap.size, 1, none⟩) (.inl (Nat.le_refl _)) _)
  have HW2 := Lib.hid hw2
  clear hw2 hb hr h he ht
  go_wp2_with fail
  rw [← HW2.out]
  clear hc1 hf1
  refine (etext_any be A n c xs p2 w2 HE2.out).mono ?_
  intro e wa2 h
  rcases h.cases with ⟨a, hr, rfl, ht⟩ | ⟨x2, p3, hr, rfl, he, ht⟩
  · exact ⟨rfl, EyeEnd.bad (show Dec.event xs p0 = .error a by unfold Dec.event Dec.bind; simp only [HR0.out]; simp only [HR1.out]; simp only [hr]) (HT2.out.trans ht fun _ _ h => h)⟩
  have hb := HB2.out.touch ht (by omega)
  have hc2 := hb.cell 2
  have hf2 := hb.frozen 2
  simp only [List.getElem?_toArray, List.getElem?_cons_zero, List.getElem?_cons_succ] at hc2
  have HR2 := Lib.hid hr
  obtain ⟨w3, hw3⟩ : ∃ w', w' = wa2.setCell ⟨w.heap.size, 2, none⟩ (.string ⟨x2.toArray⟩) := ⟨_, rfl⟩
  have HB3 := Lib.hid (show Blk w3 w.heap.size 23 #[.int .i64 x0, .string ⟨x1.toArray⟩, .string ⟨x2.toArray⟩, .int .i64 0] by rw [hw3]; exact hb.set_ 2 (.string ⟨x2.toArray⟩))
  have HE3 := Lib.hid (show Eye w3 be A n c xs p3 by rw [hw3]; exact HSTEP.out _ _ _ _ he)
  have HT3 := Lib.hid (show Touch (· = be) w w3 by rw [hw3]; exact (HT2.out.trans ht fun _ _ h => h).setCell (p := ⟨w.heap.size, 2, none⟩) (.inl (Nat.le_refl _)) _)
  have HW3 := Lib.hid hw3
  clear hw3 hb hr h he ht
  go_wp2_with fail
  rw [← HW3.out]
  clear hc2 hf2
  refine (esigned_any be A n c xs p3 w3 HE3.out).mono ?_
  intro e wa3 h
  rcases h.cases with ⟨a, hr, rfl, ht⟩ | ⟨x3, p4, hr, rfl, he, ht⟩
  · exact ⟨rfl, EyeEnd.bad (show Dec.event xs p0 = .error a by unfold Dec.event Dec.bind; simp only [HR0.out]; simp only [HR1.out]; simp only [HR2.out]; simp only [hr]) (HT3.out.trans ht fun _ _ h => h)⟩
  have hb := HB3.out.touch ht (by omega)
  have hc3 := hb.cell 3
  have hf3 := hb.frozen 3
  simp only [List.getElem?_toArray, List.getElem?_cons_zero, List.getElem?_cons_succ] at hc3
  have HR3 := Lib.hid hr
  obtain ⟨w4, hw4⟩ : ∃ w', w' = wa3.setCell ⟨w.heap.size, 3, none⟩ (.int .i64 x3) := ⟨_, rfl⟩
  have HB4 := Lib.hid (show Blk w4 w.heap.size 23 #[.int .i64 x0, .string ⟨x1.toArray⟩, .string ⟨x2.toArray⟩, .int .i64 x3] by rw [hw4]; exact hb.set_ 3 (.int .i64 x3))
  have HE4 := Lib.hid (show Eye w4 be A n c xs p4 by rw [hw4]; exact HSTEP.out _ _ _ _ he)
  have HT4 := Lib.hid (show Touch (· = be) w w4 by rw [hw4]; exact (HT3.out.trans ht fun _ _ h => h).setCell (p := ⟨w.heap.size, 3, none⟩) (.inl (Nat.le_refl _)) _)
  have HW4 := Lib.hid hw4
  clear hw4 hb hr h he ht
  have hd0 := HB4.out.cell 0
  have hg0 := HB4.out.frozen 0
  have hd1 := HB4.out.cell 1
  have hg1 := HB4.out.frozen 1
  have hd2 := HB4.out.cell 2
  have hg2 := HB4.out.frozen 2
  have hd3 := HB4.out.cell 3
  have hg3 := HB4.out.frozen 3
  simp only [List.getElem?_toArray, List.getElem?_cons_zero, List.getElem?_cons_succ] at hd0 hd1 hd2 hd3
  rw [HW4.out] at hd0 hg0 hd1 hg1 hd2 hg2 hd3 hg3
  go_wp2_with fail
  obtain ⟨W, hW⟩ : ∃ W, W = (((((wa3.setCell ⟨w.heap.size, 3, none⟩ (.int .i64 x3)).setCell ⟨w.heap.size, 0, none⟩ (.int .i64 x0)).setCell ⟨w.heap.size, 1, none⟩ (.string ⟨x1.toArray⟩)).setCell ⟨w.heap.size, 2, none⟩ (.string ⟨x2.toArray⟩)).setCell ⟨w.heap.size, 3, none⟩ (.int .i64 x3)) := ⟨_, rfl⟩
  have hBW : Blk W w.heap.size 23 #[.int .i64 x0, .string ⟨x1.toArray⟩, .string ⟨x2.toArray⟩, .int .i64 x3] := by rw [hW, ← HW4.out]; exact ((((HB4.out.set_ 0 (.int .i64 x0)).set_ 1 (.string ⟨x1.toArray⟩)).set_ 2 (.string ⟨x2.toArray⟩)).set_ 3 (.int .i64 x3))
  have hEW : Eye W be A n c xs p4 := by rw [hW, ← HW4.out]; exact (HSTEP.out _ 3 (.int .i64 x3) _ (HSTEP.out _ 2 (.string ⟨x2.toArray⟩) _ (HSTEP.out _ 1 (.string ⟨x1.toArray⟩) _ (HSTEP.out _ 0 (.int .i64 x0) _ HE4.out))))
  have hTW : Touch (· = be) w W := by rw [hW, ← HW4.out]; exact ((((HT4.out.setCell (p := ⟨w.heap.size, 0, none⟩) (.inl (Nat.le_refl _)) (.int .i64 x0)).setCell (p := ⟨w.heap.size, 1, none⟩) (.inl (Nat.le_refl _)) (.string ⟨x1.toArray⟩)).setCell (p := ⟨w.heap.size, 2, none⟩) (.inl (Nat.le_refl _)) (.string ⟨x2.toArray⟩)).setCell (p := ⟨w.heap.size, 3, none⟩) (.inl (Nat.le_refl _)) (.int .i64 x3))
  rw [← hW]
  have he0 := hBW.cell 0
  have he1 := hBW.cell 1
  have he2 := hBW.cell 2
  have he3 := hBW.cell 3
  simp only [List.getElem?_toArray, List.getElem?_cons_zero, List.getElem?_cons_succ] at he0 he1 he2 he3
  have hend : EyeEnd (α := Dec.Ev) evV be A n c xs w (Dec.event xs p0) (.returned (.agg #[.int .i64 x0, .string ⟨x1.toArray⟩, .string ⟨x2.toArray⟩, .int .i64 x3])) W := EyeEnd.good (f := evV) (show Dec.event xs p0 = .ok (⟨x0, x1, x2, x3⟩, p4) by unfold Dec.event Dec.bind; simp only [HR0.out]; simp only [HR1.out]; simp only [HR2.out]; simp only [HR3.out]) hEW hTW
  have HEND := Lib.hid hend
  clear hend hW hBW hEW hTW
  exact bodyPost_ret (v := .agg #[.int .i64 x0, .string ⟨x1.toArray⟩, .string ⟨x2.toArray⟩, .int .i64 x3]) (by simp [results, Try.results63, go_sem, he0, he1, he2, he3]) rfl HEND.out

set_option maxRecDepth 100000 in
set_option maxHeartbeats 2000000 in
theorem event_read (A : Option Addr) (n c : Nat) (xs : List UInt8) (w : World) (hbs : Bs w A n c xs) (hA : ∀ a, A = some a → 0 < n → a.block < w.heap.size) :
    Calls Try.prog 17 #[.slice A n c] w (RecEnd evV (.agg #[.int .i64 0, .string ⟨#[]⟩, .string ⟨#[]⟩, .int .i64 0]) w (Dec.whole (Dec.event xs 0) n)) := by
  obtain ⟨w0, hw0⟩ : ∃ w0, w0 = w.alloc (.cells #[.int .i64 0, .string ⟨#[]⟩, .string ⟨#[]⟩, .int .i64 0] 23) := ⟨_, rfl⟩
  have hT0 : Fresh w w0 := by rw [hw0]; exact (Touch.refl _ w).alloc _
  have hB0 : Blk w0 w.heap.size 23 #[.int .i64 0, .string ⟨#[]⟩, .string ⟨#[]⟩, .int .i64 0] := by rw [hw0]; exact Blk.new _ _ _
  have hsz : w.heap.size < w0.heap.size := by rw [hw0]; simp
  have HK := Lib.hid (record_event 63 A n c xs (Dec.event xs 0) w0 (hbs.fresh hT0) (fun a ha h0 => by have := hA a ha h0; omega) (fun args w => by simp [go_sem]) (fun w1 be _ _ he => event1_read be A n c xs 0 w1 he))
  have HB0 := Lib.hid hB0
  have HT0 := Lib.hid hT0
  have HW0 := Lib.hid hw0
  clear hB0 hT0 hw0 hbs hA
  go_enter Try.func17, Try.ntmps17
  go_wp2_with fail
  rw [← HW0.out]
  refine HK.out.mono ?_
  intro e w1 h
  rcases h.cases with ⟨a, hr, rfl, ht⟩ | ⟨x, hr, rfl, ht⟩
  · have hb := HB0.out.touch ht id
    have hc0 := hb.cell 0
    have hf0 := hb.frozen 0
    have hc1 := hb.cell 1
    have hf1 := hb.frozen 1
    have hc2 := hb.cell 2
    have hf2 := hb.frozen 2
    have hc3 := hb.cell 3
    have hf3 := hb.frozen 3
    simp only [List.getElem?_toArray, List.getElem?_cons_zero, List.getElem?_cons_succ] at hc0 hc1 hc2 hc3
    have HR := Lib.hid hr
    obtain ⟨W, hW⟩ : ∃ W, W = ((((w1.setCell ⟨w.heap.size, 0, none⟩ (.int .i64 0)).setCell ⟨w.heap.size, 1, none⟩ (.string ⟨#[]⟩)).setCell ⟨w.heap.size, 2, none⟩ (.string ⟨#[]⟩)).setCell ⟨w.heap.size, 3, none⟩ (.int .i64 0)) := ⟨_, rfl⟩
    have hBW : Blk W w.heap.size 23 #[.int .i64 0, .string ⟨#[]⟩, .string ⟨#[]⟩, .int .i64 0] := by rw [hW]; exact ((((hb.set_ 0 (.int .i64 0)).set_ 1 (.string ⟨#[]⟩)).set_ 2 (.string ⟨#[]⟩)).set_ 3 (.int .i64 0))
    have hTW : Fresh w W := by rw [hW]; exact (((((HT0.out.trans ht fun _ _ h => h).setCell (p := ⟨w.heap.size, 0, none⟩) (.inl (Nat.le_refl _)) _).setCell (p := ⟨w.heap.size, 1, none⟩) (.inl (Nat.le_refl _)) _).setCell (p := ⟨w.heap.size, 2, none⟩) (.inl (Nat.le_refl _)) _).setCell (p := ⟨w.heap.size, 3, none⟩) (.inl (Nat.le_refl _)) _)
    have HBW := Lib.hid hBW
    have HTW := Lib.hid hTW
    have HW := Lib.hid hW
    clear hr h hb ht hBW hTW hW
    go_wp2_with fail
    rw [← HW.out]
    have he0 := HBW.out.cell 0
    have he1 := HBW.out.cell 1
    have he2 := HBW.out.cell 2
    have he3 := HBW.out.cell 3
    simp only [List.getElem?_toArray, List.getElem?_cons_zero, List.getElem?_cons_succ] at he0 he1 he2 he3
    exact bodyPost_ret (v := .tuple #[.agg #[.int .i64 0, .string ⟨#[]⟩, .string ⟨#[]⟩, .int .i64 0], .int .i64 a, .int .i64 2]) (by simp [results, Try.results17, go_sem, he0, he1, he2, he3]) rfl (RecEnd.bad HR.out HTW.out)
  · have hb := HB0.out.touch ht id
    have hc0 := hb.cell 0
    have hf0 := hb.frozen 0
    have hc1 := hb.cell 1
    have hf1 := hb.frozen 1
    have hc2 := hb.cell 2
    have hf2 := hb.frozen 2
    have hc3 := hb.cell 3
    have hf3 := hb.frozen 3
    simp only [List.getElem?_toArray, List.getElem?_cons_zero, List.getElem?_cons_succ] at hc0 hc1 hc2 hc3
    have HR := Lib.hid hr
    obtain ⟨W, hW⟩ : ∃ W, W = ((((w1.setCell ⟨w.heap.size, 0, none⟩ (.int .i64 x.k)).setCell ⟨w.heap.size, 1, none⟩ (.string ⟨x.node.toArray⟩)).setCell ⟨w.heap.size, 2, none⟩ (.string ⟨x.tx.toArray⟩)).setCell ⟨w.heap.size, 3, none⟩ (.int .i64 x.n)) := ⟨_, rfl⟩
    have hBW : Blk W w.heap.size 23 #[.int .i64 x.k, .string ⟨x.node.toArray⟩, .string ⟨x.tx.toArray⟩, .int .i64 x.n] := by rw [hW]; exact ((((hb.set_ 0 (.int .i64 x.k)).set_ 1 (.string ⟨x.node.toArray⟩)).set_ 2 (.string ⟨x.tx.toArray⟩)).set_ 3 (.int .i64 x.n))
    have hTW : Fresh w W := by rw [hW]; exact (((((HT0.out.trans ht fun _ _ h => h).setCell (p := ⟨w.heap.size, 0, none⟩) (.inl (Nat.le_refl _)) _).setCell (p := ⟨w.heap.size, 1, none⟩) (.inl (Nat.le_refl _)) _).setCell (p := ⟨w.heap.size, 2, none⟩) (.inl (Nat.le_refl _)) _).setCell (p := ⟨w.heap.size, 3, none⟩) (.inl (Nat.le_refl _)) _)
    have HBW := Lib.hid hBW
    have HTW := Lib.hid hTW
    have HW := Lib.hid hW
    clear hr h hb ht hBW hTW hW
    unfold evV
    go_wp2_with fail
    rw [← HW.out]
    have he0 := HBW.out.cell 0
    have he1 := HBW.out.cell 1
    have he2 := HBW.out.cell 2
    have he3 := HBW.out.cell 3
    simp only [List.getElem?_toArray, List.getElem?_cons_zero, List.getElem?_cons_succ] at he0 he1 he2 he3
    exact bodyPost_ret (v := .tuple #[.agg #[.int .i64 x.k, .string ⟨x.node.toArray⟩, .string ⟨x.tx.toArray⟩, .int .i64 x.n], .int .i64 0, .int .i64 0]) (by simp [results, Try.results17, go_sem, he0, he1, he2, he3]) rfl (RecEnd.good (f := evV) HR.out HTW.out)

set_option maxRecDepth 100000 in
set_option maxHeartbeats 2000000 in
theorem lease1_read (be : Nat) (A : Option Addr) (n c : Nat) (xs : List UInt8) (p0 : Nat) (w : World) (he : Eye w be A n c xs p0) :
    Calls Try.prog 75 #[.pointer (some ⟨be, 0, none⟩)] w (EyeEnd (α := Dec.Le) leV be A n c xs w (Dec.lease xs p0)) := by
  obtain ⟨w0, hw0⟩ : ∃ w0, w0 = w.alloc (.cells #[.int .i64 0, .int .i64 0] 42) := ⟨_, rfl⟩
  have hT0 : Fresh w w0 := by rw [hw0]; exact (Touch.refl _ w).alloc _
  have hB0 : Blk w0 w.heap.size 42 #[.int .i64 0, .int .i64 0] := by rw [hw0]; exact Blk.new _ _ _
  have hlt := he.1.lt
  have HE0 := Lib.hid (show Eye w0 be A n c xs p0 from ⟨he.1.touch hT0 id, he.2.1.fresh hT0, he.2.2.1, he.2.2.2⟩)
  have HB0 := Lib.hid hB0
  have HT0 := Lib.hid (show Touch (· = be) w w0 from hT0.mono fun _ _ h => h.elim)
  have HW0 := Lib.hid hw0
  have HN := Lib.hid he.2.2.2
  clear hB0 hT0 hw0 he
  have hstep : ∀ (wa : World) (i : Nat) (u : Value) (q : Nat), Eye wa be A n c xs q → Eye (wa.setCell ⟨w.heap.size, i, none⟩ u) be A n c xs q := by
    intro wa i u q h
    refine ⟨h.1.far (p := ⟨w.heap.size, i, none⟩) (by simp; omega) _, h.2.1.keep fun h0 p v hp ⟨a, ha, e⟩ => ?_, h.2.2.1, h.2.2.2⟩
    have := HN.out a ha h0
    rw [World.cell?_setCell_other _ _ _ _ (by intro h9; rw [← h9] at e; simp at e; omega)]
    exact hp
  have HSTEP := Lib.hid hstep; clear hstep
  go_enter Try.func75, Try.ntmps75
  go_wp2_with fail
  rw [← HW0.out]
  refine (esigned_any be A n c xs p0 w0 HE0.out).mono ?_
  intro e wa0 h
  rcases h.cases with ⟨a, hr, rfl, ht⟩ | ⟨x0, p1, hr, rfl, he, ht⟩
  · exact ⟨rfl, EyeEnd.bad (show Dec.lease xs p0 = .error a by unfold Dec.lease Dec.bind; simp only [hr]) (HT0.out.trans ht fun _ _ h => h)⟩
  have hb := HB0.out.touch ht (by omega)
  have hc0 := hb.cell 0
  have hf0 := hb.frozen 0
  simp only [List.getElem?_toArray, List.getElem?_cons_zero] at hc0
  have HR0 := Lib.hid hr
  obtain ⟨w1, hw1⟩ : ∃ w', w' = wa0.setCell ⟨w.heap.size, 0, none⟩ (.int .i64 x0) := ⟨_, rfl⟩
  have HB1 := Lib.hid (show Blk w1 w.heap.size 42 #[.int .i64 x0, .int .i64 0] by rw [hw1]; exact hb.set_ 0 (.int .i64 x0))
  have HE1 := Lib.hid (show Eye w1 be A n c xs p1 by rw [hw1]; exact HSTEP.out _ _ _ _ he)
  have HT1 := Lib.hid (show Touch (· = be) w w1 by rw [hw1]; exact (HT0.out.trans ht fun _ _ h => h).setCell (p := ⟨w.heap.size, 0, none⟩) (.inl (Nat.le_refl _)) _)
  have HW1 := Lib.hid hw1
  clear hw1 hb hr h he ht
  go_wp2_with fail
  rw [← HW1.out]
  clear hc0 hf0
  refine (eplain_any be A n c xs p1 w1 HE1.out).mono ?_
  intro e wa1 h
  rcases h.cases with ⟨a, hr, rfl, ht⟩ | ⟨x1, p2, hr, rfl, he, ht⟩
  · exact ⟨rfl, EyeEnd.bad (show Dec.lease xs p0 = .error a by unfold Dec.lease Dec.bind; simp only [HR0.out]; simp only [hr]) (HT1.out.trans ht fun _ _ h => h)⟩
  have hb := HB1.out.touch ht (by omega)
  have hc1 := hb.cell 1
  have hf1 := hb.frozen 1
  simp only [List.getElem?_toArray, List.getElem?_cons_zero, List.getElem?_cons_succ] at hc1
  have HR1 := Lib.hid hr
  obtain ⟨w2, hw2⟩ : ∃ w', w' = wa1.setCell ⟨w.heap.size, 1, none⟩ (.int .i64 x1) := ⟨_, rfl⟩
  have HB2 := Lib.hid (show Blk w2 w.heap.size 42 #[.int .i64 x0, .int .i64 x1] by rw [hw2]; exact hb.set_ 1 (.int .i64 x1))
  have HE2 := Lib.hid (show Eye w2 be A n c xs p2 by rw [hw2]; exact HSTEP.out _ _ _ _ he)
  have HT2 := Lib.hid (show Touch (· = be) w w2 by rw [hw2]; exact (HT1.out.trans ht fun _ _ h => h).setCell (p := ⟨w.heap.size, 1, none⟩) (.inl (Nat.le_refl _)) _)
  have HW2 := Lib.hid hw2
  clear hw2 hb hr h he ht
  have hd0 := HB2.out.cell 0
  have hg0 := HB2.out.frozen 0
  have hd1 := HB2.out.cell 1
  have hg1 := HB2.out.frozen 1
  simp only [List.getElem?_toArray, List.getElem?_cons_zero, List.getElem?_cons_succ] at hd0 hd1
  rw [HW2.out] at hd0 hg0 hd1 hg1
  go_wp2_with fail
  obtain ⟨W, hW⟩ : ∃ W, W = (((wa1.setCell ⟨w.heap.size, 1, none⟩ (.int .i64 x1)).setCell ⟨w.heap.size, 0, none⟩ (.int .i64 x0)).setCell ⟨w.heap.size, 1, none⟩ (.int .i64 x1)) := ⟨_, rfl⟩
  have hBW : Blk W w.heap.size 42 #[.int .i64 x0, .int .i64 x1] := by rw [hW, ← HW2.out]; exact ((HB2.out.set_ 0 (.int .i64 x0)).set_ 1 (.int .i64 x1))
  have hEW : Eye W be A n c xs p2 := by rw [hW, ← HW2.out]; exact (HSTEP.out _ 1 (.int .i64 x1) _ (HSTEP.out _ 0 (.int .i64 x0) _ HE2.out))
  have hTW : Touch (· = be) w W := by rw [hW, ← HW2.out]; exact ((HT2.out.setCell (p := ⟨w.heap.size, 0, none⟩) (.inl (Nat.le_refl _)) (.int .i64 x0)).setCell (p := ⟨w.heap.size, 1, none⟩) (.inl (Nat.le_refl _)) (.int .i64 x1))
  rw [← hW]
  have he0 := hBW.cell 0
  have he1 := hBW.cell 1
  simp only [List.getElem?_toArray, List.getElem?_cons_zero, List.getElem?_cons_succ] at he0 he1
  have hend : EyeEnd (α := Dec.Le) leV be A n c xs w (Dec.lease xs p0) (.returned (.agg #[.int .i64 x0, .int .i64 x1])) W := EyeEnd.good (f := leV) (show Dec.lease xs p0 = .ok (⟨x0, x1⟩, p2) by unfold Dec.lease Dec.bind; simp only [HR0.out]; simp only [HR1.out]) hEW hTW
  have HEND := Lib.hid hend
  clear hend hW hBW hEW hTW
  exact bodyPost_ret (v := .agg #[.int .i64 x0, .int .i64 x1]) (by simp [results, Try.results75, go_sem, he0, he1]) rfl HEND.out

set_option maxRecDepth 100000 in
set_option maxHeartbeats 2000000 in
theorem lease_read (A : Option Addr) (n c : Nat) (xs : List UInt8) (w : World) (hbs : Bs w A n c xs) (hA : ∀ a, A = some a → 0 < n → a.block < w.heap.size) :
    Calls Try.prog 30 #[.slice A n c] w (RecEnd leV (.agg #[.int .i64 0, .int .i64 0]) w (Dec.whole (Dec.lease xs 0) n)) := by
  obtain ⟨w0, hw0⟩ : ∃ w0, w0 = w.alloc (.cells #[.int .i64 0, .int .i64 0] 42) := ⟨_, rfl⟩
  have hT0 : Fresh w w0 := by rw [hw0]; exact (Touch.refl _ w).alloc _
  have hB0 : Blk w0 w.heap.size 42 #[.int .i64 0, .int .i64 0] := by rw [hw0]; exact Blk.new _ _ _
  have hsz : w.heap.size < w0.heap.size := by rw [hw0]; simp
  have HK := Lib.hid (record_lease 75 A n c xs (Dec.lease xs 0) w0 (hbs.fresh hT0) (fun a ha h0 => by have := hA a ha h0; omega) (fun args w => by simp [go_sem]) (fun w1 be _ _ he => lease1_read be A n c xs 0 w1 he))
  have HB0 := Lib.hid hB0
  have HT0 := Lib.hid hT0
  have HW0 := Lib.hid hw0
  clear hB0 hT0 hw0 hbs hA
  go_enter Try.func30, Try.ntmps30
  go_wp2_with fail
  rw [← HW0.out]
  refine HK.out.mono ?_
  intro e w1 h
  rcases h.cases with ⟨a, hr, rfl, ht⟩ | ⟨x, hr, rfl, ht⟩
  · have hb := HB0.out.touch ht id
    have hc0 := hb.cell 0
    have hf0 := hb.frozen 0
    have hc1 := hb.cell 1
    have hf1 := hb.frozen 1
    simp only [List.getElem?_toArray, List.getElem?_cons_zero, List.getElem?_cons_succ] at hc0 hc1
    have HR := Lib.hid hr
    obtain ⟨W, hW⟩ : ∃ W, W = ((w1.setCell ⟨w.heap.size, 0, none⟩ (.int .i64 0)).setCell ⟨w.heap.size, 1, none⟩ (.int .i64 0)) := ⟨_, rfl⟩
    have hBW : Blk W w.heap.size 42 #[.int .i64 0, .int .i64 0] := by rw [hW]; exact ((hb.set_ 0 (.int .i64 0)).set_ 1 (.int .i64 0))
    have hTW : Fresh w W := by rw [hW]; exact (((HT0.out.trans ht fun _ _ h => h).setCell (p := ⟨w.heap.size, 0, none⟩) (.inl (Nat.le_refl _)) _).setCell (p := ⟨w.heap.size, 1, none⟩) (.inl (Nat.le_refl _)) _)
    have HBW := Lib.hid hBW
    have HTW := Lib.hid hTW
    have HW := Lib.hid hW
    clear hr h hb ht hBW hTW hW
    go_wp2_with fail
    rw [← HW.out]
    have he0 := HBW.out.cell 0
    have he1 := HBW.out.cell 1
    simp only [List.getElem?_toArray, List.getElem?_cons_zero, List.getElem?_cons_succ] at he0 he1
    exact bodyPost_ret (v := .tuple #[.agg #[.int .i64 0, .int .i64 0], .int .i64 a, .int .i64 2]) (by simp [results, Try.results30, go_sem, he0, he1]) rfl (RecEnd.bad HR.out HTW.out)
  · have hb := HB0.out.touch ht id
    have hc0 := hb.cell 0
    have hf0 := hb.frozen 0
    have hc1 := hb.cell 1
    have hf1 := hb.frozen 1
    simp only [List.getElem?_toArray, List.getElem?_cons_zero, List.getElem?_cons_succ] at hc0 hc1
    have HR := Lib.hid hr
    obtain ⟨W, hW⟩ : ∃ W, W = ((w1.setCell ⟨w.heap.size, 0, none⟩ (.int .i64 x.o)).setCell ⟨w.heap.size, 1, none⟩ (.int .i64 x.r)) := ⟨_, rfl⟩
    have hBW : Blk W w.heap.size 42 #[.int .i64 x.o, .int .i64 x.r] := by rw [hW]; exact ((hb.set_ 0 (.int .i64 x.o)).set_ 1 (.int .i64 x.r))
    have hTW : Fresh w W := by rw [hW]; exact (((HT0.out.trans ht fun _ _ h => h).setCell (p := ⟨w.heap.size, 0, none⟩) (.inl (Nat.le_refl _)) _).setCell (p := ⟨w.heap.size, 1, none⟩) (.inl (Nat.le_refl _)) _)
    have HBW := Lib.hid hBW
    have HTW := Lib.hid hTW
    have HW := Lib.hid hW
    clear hr h hb ht hBW hTW hW
    unfold leV
    go_wp2_with fail
    rw [← HW.out]
    have he0 := HBW.out.cell 0
    have he1 := HBW.out.cell 1
    simp only [List.getElem?_toArray, List.getElem?_cons_zero, List.getElem?_cons_succ] at he0 he1
    exact bodyPost_ret (v := .tuple #[.agg #[.int .i64 x.o, .int .i64 x.r], .int .i64 0, .int .i64 0]) (by simp [results, Try.results30, go_sem, he0, he1]) rfl (RecEnd.good (f := leV) HR.out HTW.out)

end Go.Proofs.Ytdfhdanfigpbpaa
