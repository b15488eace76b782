/- The contract of the codec's ReadEnvelope (printed by gen_reads.py). -/
import Derived.Test.YtdfhdanfigpbpaaEyeM
import Derived.Test.YtdfhdanfigpbpaaRecEnv
import Derived.Test.YtdfhdanfigpbpaaReads
import Derived.Test.YtdfhdanfigpbpaaPuts
namespace Go.Proofs.Ytdfhdanfigpbpaa
open Go.RowKit

set_option maxRecDepth 100000 in
set_option maxHeartbeats 2000000 in
theorem envelope1_read (be : Nat) (A : Option Addr) (n c : Nat) (xs : List UInt8) (p0 : Nat) (w : World) (he : Eye w be A n c xs p0) :
    Calls Try.prog 90 #[.pointer (some ⟨be, 0, none⟩)] w (EyeEnd (α := Dec.En) enV be A n c xs w (Dec.envelope xs p0)) := by
  obtain ⟨w0, hw0⟩ : ∃ w0, w0 = w.alloc (.cells #[.int .i64 0, .int .i64 0, .int .i64 0, .int .i64 0, .int .i64 0, .string ⟨#[]⟩, .string ⟨#[]⟩, .string ⟨#[]⟩, .string ⟨#[]⟩, .string ⟨#[]⟩, .int .i64 0] 59) := ⟨_, rfl⟩
  have hT0 : Fresh w w0 := by rw [hw0]; exact (Touch.refl _ w).alloc _
  have hB0 : Blk w0 w.heap.size 59 #[.int .i64 0, .int .i64 0, .int .i64 0, .int .i64 0, .int .i64 0, .string ⟨#[]⟩, .string ⟨#[]⟩, .string ⟨#[]⟩, .string ⟨#[]⟩, .string ⟨#[]⟩, .int .i64 0] := by rw [hw0]; exact Blk.new _ _ _
  have hlt := he.1.lt
  have HE0 := Lib.hid (show Eye w0 be A n c xs p0 from ⟨he.1.touch hT0 id, he.2.1.fresh hT0, he.2.2.1, he.2.2.2⟩)
  have HB0 := Lib.hid hB0
  have HT0 := Lib.hid (show Touch (· = be) w w0 from hT0.mono fun _ _ h => h.elim)
  have HW0 := Lib.hid hw0
  have HN := Lib.hid he.2.2.2
  clear hB0 hT0 hw0 he
  have hstep : ∀ (wa : World) (i : Nat) (u : Value) (q : Nat), Eye wa be A n c xs q → Eye (wa.setCell ⟨w.heap.size, i, none⟩ u) be A n c xs q := by
    intro wa i u q h
    refine ⟨h.1.far (p := ⟨w.heap.size, i, none⟩) (by simp; omega) _, h.2.1.keep fun h0 p v hp ⟨a, ha, e⟩ => ?_, h.2.2.1, h.2.2.2⟩
    have := HN.out a ha h0
    rw [World.cell?_setCell_other _ _ _ _ (by intro h9; rw [← h9] at e; simp at e; omega)]
    exact hp
  have HSTEP := Lib.hid hstep; clear hstep
  go_enter Try.func90, Try.ntmps90
  go_wp2_with fail
  rw [← HW0.out]
  refine (enumber_any be A n c xs p0 1 2 w0 HE0.out).mono ?_
  intro e wa0 h
  rcases h.cases with ⟨a, hr, rfl, ht⟩ | ⟨x0, p1, hr, rfl, he, ht⟩
  · exact ⟨rfl, EyeEnd.bad (show Dec.envelope xs p0 = .error a by unfold Dec.envelope Dec.bind; simp only [hr]) (HT0.out.trans ht fun _ _ h => h)⟩
  have hb := HB0.out.touch ht (by omega)
  have hc0 := hb.cell 0
  have hf0 := hb.frozen 0
  simp only [List.getElem?_toArray, List.getElem?_cons_zero] at hc0
  have HR0 := Lib.hid hr
  obtain ⟨w1, hw1⟩ : ∃ w', w' = wa0.setCell ⟨w.heap.size, 0, none⟩ (.int .i64 x0) := ⟨_, rfl⟩
  have HB1 := Lib.hid (show Blk w1 w.heap.size 59 #[.int .i64 x0, .int .i64 0, .int .i64 0, .int .i64 0, .int .i64 0, .string ⟨#[]⟩, .string ⟨#[]⟩, .string ⟨#[]⟩, .string ⟨#[]⟩, .string ⟨#[]⟩, .int .i64 0] by rw [hw1]; exact hb.set_ 0 (.int .i64 x0))
  have HE1 := Lib.hid (show Eye w1 be A n c xs p1 by rw [hw1]; exact HSTEP.out _ _ _ _ he)
  have HT1 := Lib.hid (show Touch (· = be) w w1 by rw [hw1]; exact (HT0.out.trans ht fun _ _ h => h).setCell (p := ⟨w.heap.size, 0, none⟩) (.inl (Nat.le_refl _)) _)
  have HW1 := Lib.hid hw1
  clear hw1 hb hr h he ht
  go_wp2_with fail
  rw [← HW1.out]
  clear hc0 hf0
  refine (eplain_any be A n c xs p1 w1 HE1.out).mono ?_
  intro e wa1 h
  rcases h.cases with ⟨a, hr, rfl, ht⟩ | ⟨x1, p2, hr, rfl, he, ht⟩
  · exact ⟨rfl, EyeEnd.bad (show Dec.envelope xs p0 = .error a by unfold Dec.envelope Dec.bind; simp only [HR0.out]; simp only [hr]) (HT1.out.trans ht fun _ _ h => h)⟩
  have hb := HB1.out.touch ht (by omega)
  have hc1 := hb.cell 1
  have hf1 := hb.frozen 1
  simp only [List.getElem?_toArray, List.getElem?_cons_zero, List.getElem?_cons_succ] at hc1
  have HR1 := Lib.hid hr
  obtain ⟨w2, hw2⟩ : ∃ w', w' = wa1.setCell ⟨w.heap.size, 1, none⟩ (.int .i64 x1) := ⟨_, rfl⟩
  have HB2 := Lib.hid (show Blk w2 w.heap.size 59 #[.int .i64 x0, .int .i64 x1, .int .i64 0, .int .i64 0, .int .i64 0, .string ⟨#[]⟩, .string ⟨#[]⟩, .string ⟨#[]⟩, .string ⟨#[]⟩, .string ⟨#[]⟩, .int .i64 0] by rw [hw2]; exact hb.set_ 1 (.int .i64 x1))
  have HE2 := Lib.hid (show Eye w2 be A n c xs p2 by rw [hw2]; exact HSTEP.out _ _ _ _ he)
  have HT2 := Lib.hid (show Touch (· = be) w w2 by rw [hw2]; exact (HT1.out.trans ht fun _ _ h => h).setCell (p := ⟨w.heap.size, 1, none⟩) (.inl (Nat.le_refl _)) _)
  have HW2 := Lib.hid hw2
  clear hw2 hb hr h he ht
  go_wp2_with fail
  rw [← HW2.out]
  clear hc1 hf1
  refine (eplain_any be A n c xs p2 w2 HE2.out).mono ?_
  intro e wa2 h
  rcases h.cases with ⟨a, hr, rfl, ht⟩ | ⟨x2, p3, hr, rfl, he, ht⟩
  · exact ⟨rfl, EyeEnd.bad (show Dec.envelope xs p0 = .error a by unfold Dec.envelope Dec.bind; simp only [HR0.out]; simp only [HR1.out]; simp only [hr]) (HT2.out.trans ht fun _ _ h => h)⟩
  have hb := HB2.out.touch ht (by omega)
  have hc2 := hb.cell 2
  have hf2 := hb.frozen 2
  simp only [List.getElem?_toArray, List.getElem?_cons_zero, List.getElem?_cons_succ] at hc2
  have HR2 := Lib.hid hr
  obtain ⟨w3, hw3⟩ : ∃ w', w' = wa2.setCell ⟨w.heap.size, 2, none⟩ (.int .i64 x2) := ⟨_, rfl⟩
  have HB3 := Lib.hid (show Blk w3 w.heap.size 59 #[.int .i64 x0, .int .i64 x1, .int .i64 x2, .int .i64 0, .int .i64 0, .string ⟨#[]⟩, .string ⟨#[]⟩, .string ⟨#[]⟩, .string ⟨#[]⟩, .string ⟨#[]⟩, .int .i64 0] by rw [hw3]; exact hb.set_ 2 (.int .i64 x2))
  have HE3 := Lib.hid (show Eye w3 be A n c xs p3 by rw [hw3]; exact HSTEP.out _ _ _ _ he)
  have HT3 := Lib.hid (show Touch (· = be) w w3 by rw [hw3]; exact (HT2.out.trans ht fun _ _ h => h).setCell (p := ⟨w.heap.size, 2, none⟩) (.inl (Nat.le_refl _)) _)
  have HW3 := Lib.hid hw3
  clear hw3 hb hr h he ht
  go_wp2_with fail
  rw [← HW3.out]
  clear hc2 hf2
  refine (eplain_any be A n c xs p3 w3 HE3.out).mono ?_
  intro e wa3 h
  rcases h.cases with ⟨a, hr, rfl, ht⟩ | ⟨x3, p4, hr, rfl, he, ht⟩
  · exact ⟨rfl, EyeEnd.bad (show Dec.envelope xs p0 = .error a by unfold Dec.envelope Dec.bind; simp only [HR0.out]; simp only [HR1.out]; simp only [HR2.out]; simp only [hr]) (HT3.out.trans ht fun _ _ h => h)⟩
  have hb := HB3.out.touch ht (by omega)
  have hc3 := hb.cell 3
  have hf3 := hb.frozen 3
  simp only [List.getElem?_toArray, List.getElem?_cons_zero, List.getElem?_cons_succ] at hc3
  have HR3 := Lib.hid hr
  obtain ⟨w4, hw4⟩ : ∃ w', w' = wa3.setCell ⟨w.heap.size, 3, none⟩ (.int .i64 x3) := ⟨_, rfl⟩
  have HB4 := Lib.hid (show Blk w4 w.heap.size 59 #[.int .i64 x0, .int .i64 x1, .int .i64 x2, .int .i64 x3, .int .i64 0, .string ⟨#[]⟩, .string ⟨#[]⟩, .string ⟨#[]⟩, .string ⟨#[]⟩, .string ⟨#[]⟩, .int .i64 0] by rw [hw4]; exact hb.set_ 3 (.int .i64 x3))
  have HE4 := Lib.hid (show Eye w4 be A n c xs p4 by rw [hw4]; exact HSTEP.out _ _ _ _ he)
  have HT4 := Lib.hid (show Touch (· = be) w w4 by rw [hw4]; exact (HT3.out.trans ht fun _ _ h => h).setCell (p := ⟨w.heap.size, 3, none⟩) (.inl (Nat.le_refl _)) _)
  have HW4 := Lib.hid hw4
  clear hw4 hb hr h he ht
  go_wp2_with fail
  rw [← HW4.out]
  clear hc3 hf3
  refine (email_any be A n c xs p4 w4 HE4.out).mono ?_
  intro e wa4 h
  rcases h.cases with ⟨a, hr, rfl, ht⟩ | ⟨x4, p5, hr, rfl, he, ht⟩
  · exact ⟨rfl, EyeEnd.bad (show Dec.envelope xs p0 = .error a by unfold Dec.envelope Dec.bind; simp only [HR0.out]; simp only [HR1.out]; simp only [HR2.out]; simp only [HR3.out]; simp only [hr]) (HT4.out.trans ht fun _ _ h => h)⟩
  have hb := HB4.out.touch ht (by omega)
  have hc4_0 := hb.cell 4
  have hf4_0 := hb.frozen 4
  have hc4_1 := hb.cell 5
  have hf4_1 := hb.frozen 5
  have hc4_2 := hb.cell 6
  have hf4_2 := hb.frozen 6
  have hc4_3 := hb.cell 7
  have hf4_3 := hb.frozen 7
  have hc4_4 := hb.cell 8
  have hf4_4 := hb.frozen 8
  have hc4_5 := hb.cell 9
  have hf4_5 := hb.frozen 9
  have hc4_6 := hb.cell 10
  have hf4_6 := hb.frozen 10
  simp only [List.getElem?_toArray, List.getElem?_cons_zero, List.getElem?_cons_succ] at hc4_0 hc4_1 hc4_2 hc4_3 hc4_4 hc4_5 hc4_6
  have HR4 := Lib.hid hr
  obtain ⟨w5, hw5⟩ : ∃ w', w' = (((((((wa4.setCell ⟨w.heap.size, 4, none⟩ (.int .i64 x4.k)).setCell ⟨w.heap.size, 5, none⟩ (.string ⟨x4.to.toArray⟩)).setCell ⟨w.heap.size, 6, none⟩ (.string ⟨x4.fr.toArray⟩)).setCell ⟨w.heap.size, 7, none⟩ (.string ⟨x4.node.toArray⟩)).setCell ⟨w.heap.size, 8, none⟩ (.string ⟨x4.name.toArray⟩)).setCell ⟨w.heap.size, 9, none⟩ (.string ⟨x4.tx.toArray⟩)).setCell ⟨w.heap.size, 10, none⟩ (.int .i64 x4.st)) := ⟨_, rfl⟩
  have HB5 := Lib.hid (show Blk w5 w.heap.size 59 #[.int .i64 x0, .int .i64 x1, .int .i64 x2, .int .i64 x3, .int .i64 x4.k, .string ⟨x4.to.toArray⟩, .string ⟨x4.fr.toArray⟩, .string ⟨x4.node.toArray⟩, .string ⟨x4.name.toArray⟩, .string ⟨x4.tx.toArray⟩, .int .i64 x4.st] by rw [hw5]; exact (Blk.puts_end [.int .i64 x0, .int .i64 x1, .int .i64 x2, .int .i64 x3] [.int .i64 0, .string ⟨#[]⟩, .string ⟨#[]⟩, .string ⟨#[]⟩, .string ⟨#[]⟩, .string ⟨#[]⟩, .int .i64 0] [.int .i64 x4.k, .string ⟨x4.to.toArray⟩, .string ⟨x4.fr.toArray⟩, .string ⟨x4.node.toArray⟩, .string ⟨x4.name.toArray⟩, .string ⟨x4.tx.toArray⟩, .int .i64 x4.st] hb rfl))
  have HE5 := Lib.hid (show Eye w5 be A n c xs p5 by rw [hw5]; exact (puts_ind (P := fun wa => Eye wa be A n c xs p5) w.heap.size (fun wa g u h => HSTEP.out wa g u _ h) [.int .i64 x4.k, .string ⟨x4.to.toArray⟩, .string ⟨x4.fr.toArray⟩, .string ⟨x4.node.toArray⟩, .string ⟨x4.name.toArray⟩, .string ⟨x4.tx.toArray⟩, .int .i64 x4.st] 4 _ he))
  have HT5 := Lib.hid (show Touch (· = be) w w5 by rw [hw5]; exact ((HT4.out.trans ht fun _ _ h => h).puts (b := w.heap.size) (.inl (Nat.le_refl _)) 4 [.int .i64 x4.k, .string ⟨x4.to.toArray⟩, .string ⟨x4.fr.toArray⟩, .string ⟨x4.node.toArray⟩, .string ⟨x4.name.toArray⟩, .string ⟨x4.tx.toArray⟩, .int .i64 x4.st]))
  have HW5 := Lib.hid hw5
  clear hw5 hb hr h he ht
  simp only [mlV]
  have hd0 := HB5.out.cell 0
  have hg0 := HB5.out.frozen 0
  have hd1 := HB5.out.cell 1
  have hg1 := HB5.out.frozen 1
  have hd2 := HB5.out.cell 2
  have hg2 := HB5.out.frozen 2
  have hd3 := HB5.out.cell 3
  have hg3 := HB5.out.frozen 3
  have hd4 := HB5.out.cell 4
  have hg4 := HB5.out.frozen 4
  have hd5 := HB5.out.cell 5
  have hg5 := HB5.out.frozen 5
  have hd6 := HB5.out.cell 6
  have hg6 := HB5.out.frozen 6
  have hd7 := HB5.out.cell 7
  have hg7 := HB5.out.frozen 7
  have hd8 := HB5.out.cell 8
  have hg8 := HB5.out.frozen 8
  have hd9 := HB5.out.cell 9
  have hg9 := HB5.out.frozen 9
  have hd10 := HB5.out.cell 10
  have hg10 := HB5.out.frozen 10
  simp only [List.getElem?_toArray, List.getElem?_cons_zero, List.getElem?_cons_succ] at hd0 hd1 hd2 hd3 hd4 hd5 hd6 hd7 hd8 hd9 hd10
  rw [HW5.out] at hd0 hg0 hd1 hg1 hd2 hg2 hd3 hg3 hd4 hg4 hd5 hg5 hd6 hg6 hd7 hg7 hd8 hg8 hd9 hg9 hd10 hg10
  go_wp2_with fail
  obtain ⟨W, hW⟩ : ∃ W, W = ((((((((((((((((((wa4.setCell ⟨w.heap.size, 4, none⟩ (.int .i64 x4.k)).setCell ⟨w.heap.size, 5, none⟩ (.string ⟨x4.to.toArray⟩)).setCell ⟨w.heap.size, 6, none⟩ (.string ⟨x4.fr.toArray⟩)).setCell ⟨w.heap.size, 7, none⟩ (.string ⟨x4.node.toArray⟩)).setCell ⟨w.heap.size, 8, none⟩ (.string ⟨x4.name.toArray⟩)).setCell ⟨w.heap.size, 9, none⟩ (.string ⟨x4.tx.toArray⟩)).setCell ⟨w.heap.size, 10, none⟩ (.int .i64 x4.st)).setCell ⟨w.heap.size, 0, none⟩ (.int .i64 x0)).setCell ⟨w.heap.size, 1, none⟩ (.int .i64 x1)).setCell ⟨w.heap.size, 2, none⟩ (.int .i64 x2)).setCell ⟨w.heap.size, 3, none⟩ (.int .i64 x3)).setCell ⟨w.heap.size, 4, none⟩ (.int .i64 x4.k)).setCell ⟨w.heap.size, 5, none⟩ (.string ⟨x4.to.toArray⟩)).setCell ⟨w.heap.size, 6, none⟩ (.string ⟨x4.fr.toArray⟩)).setCell ⟨w.heap.size, 7, none⟩ (.string ⟨x4.node.toArray⟩)).setCell ⟨w.heap.size, 8, none⟩ (.string ⟨x4.name.toArray⟩)).setCell ⟨w.heap.size, 9, none⟩ (.string ⟨x4.tx.toArray⟩)).setCell ⟨w.heap.size, 10, none⟩ (.int .i64 x4.st)) := ⟨_, rfl⟩
  have hBW : Blk W w.heap.size 59 #[.int .i64 x0, .int .i64 x1, .int .i64 x2, .int .i64 x3, .int .i64 x4.k, .string ⟨x4.to.toArray⟩, .string ⟨x4.fr.toArray⟩, .string ⟨x4.node.toArray⟩, .string ⟨x4.name.toArray⟩, .string ⟨x4.tx.toArray⟩, .int .i64 x4.st] := by rw [hW, ← HW5.out]; exact (HB5.out.puts_all [.int .i64 x0, .int .i64 x1, .int .i64 x2, .int .i64 x3, .int .i64 x4.k, .string ⟨x4.to.toArray⟩, .string ⟨x4.fr.toArray⟩, .string ⟨x4.node.toArray⟩, .string ⟨x4.name.toArray⟩, .string ⟨x4.tx.toArray⟩, .int .i64 x4.st] rfl)
  have hEW : Eye W be A n c xs p5 := by rw [hW, ← HW5.out]; exact (puts_ind (P := fun wa => Eye wa be A n c xs p5) w.heap.size (fun wa g u h => HSTEP.out wa g u _ h) [.int .i64 x0, .int .i64 x1, .int .i64 x2, .int .i64 x3, .int .i64 x4.k, .string ⟨x4.to.toArray⟩, .string ⟨x4.fr.toArray⟩, .string ⟨x4.node.toArray⟩, .string ⟨x4.name.toArray⟩, .string ⟨x4.tx.toArray⟩, .int .i64 x4.st] 0 _ HE5.out)
  have hTW : Touch (· = be) w W := by rw [hW, ← HW5.out]; exact (HT5.out.puts (b := w.heap.size) (.inl (Nat.le_refl _)) 0 [.int .i64 x0, .int .i64 x1, .int .i64 x2, .int .i64 x3, .int .i64 x4.k, .string ⟨x4.to.toArray⟩, .string ⟨x4.fr.toArray⟩, .string ⟨x4.node.toArray⟩, .string ⟨x4.name.toArray⟩, .string ⟨x4.tx.toArray⟩, .int .i64 x4.st])
  rw [← hW]
  have he0 := hBW.cell 0
  have he1 := hBW.cell 1
  have he2 := hBW.cell 2
  have he3 := hBW.cell 3
  have he4 := hBW.cell 4
  have he5 := hBW.cell 5
  have he6 := hBW.cell 6
  have he7 := hBW.cell 7
  have he8 := hBW.cell 8
  have he9 := hBW.cell 9
  have he10 := hBW.cell 10
  simp only [List.getElem?_toArray, List.getElem?_cons_zero, List.getElem?_cons_succ] at he0 he1 he2 he3 he4 he5 he6 he7 he8 he9 he10
  have hend : EyeEnd (α := Dec.En) enV be A n c xs w (Dec.envelope xs p0) (.returned (.agg #[.int .i64 x0, .int .i64 x1, .int .i64 x2, .int .i64 x3, .int .i64 x4.k, .string ⟨x4.to.toArray⟩, .string ⟨x4.fr.toArray⟩, .string ⟨x4.node.toArray⟩, .string ⟨x4.name.toArray⟩, .string ⟨x4.tx.toArray⟩, .int .i64 x4.st])) W := EyeEnd.good (f := enV) (show Dec.envelope xs p0 = .ok (⟨x0, x1, x2, x3, x4⟩, p5) by unfold Dec.envelope Dec.bind; simp only [HR0.out]; simp only [HR1.out]; simp only [HR2.out]; simp only [HR3.out]; simp only [HR4.out]) hEW hTW
  have HEND := Lib.hid hend
  clear hend hW hBW hEW hTW
  exact bodyPost_ret (v := .agg #[.int .i64 x0, .int .i64 x1, .int .i64 x2, .int .i64 x3, .int .i64 x4.k, .string ⟨x4.to.toArray⟩, .string ⟨x4.fr.toArray⟩, .string ⟨x4.node.toArray⟩, .string ⟨x4.name.toArray⟩, .string ⟨x4.tx.toArray⟩, .int .i64 x4.st]) (by simp [results, Try.results90, go_sem, he0, he1, he2, he3, he4, he5, he6, he7, he8, he9, he10]) rfl HEND.out

set_option maxRecDepth 100000 in
set_option maxHeartbeats 2000000 in
theorem envelope_read (A : Option Addr) (n c : Nat) (xs : List UInt8) (w : World) (hbs : Bs w A n c xs) (hA : ∀ a, A = some a → 0 < n → a.block < w.heap.size) :
    Calls Try.prog 41 #[.slice A n c] w (RecEnd enV (.agg #[.int .i64 0, .int .i64 0, .int .i64 0, .int .i64 0, .int .i64 0, .string ⟨#[]⟩, .string ⟨#[]⟩, .string ⟨#[]⟩, .string ⟨#[]⟩, .string ⟨#[]⟩, .int .i64 0]) w (Dec.whole (Dec.envelope xs 0) n)) := by
  obtain ⟨w0, hw0⟩ : ∃ w0, w0 = w.alloc (.cells #[.int .i64 0, .int .i64 0, .int .i64 0, .int .i64 0, .int .i64 0, .string ⟨#[]⟩, .string ⟨#[]⟩, .string ⟨#[]⟩, .string ⟨#[]⟩, .string ⟨#[]⟩, .int .i64 0] 59) := ⟨_, rfl⟩
  have hT0 : Fresh w w0 := by rw [hw0]; exact (Touch.refl _ w).alloc _
  have hB0 : Blk w0 w.heap.size 59 #[.int .i64 0, .int .i64 0, .int .i64 0, .int .i64 0, .int .i64 0, .string ⟨#[]⟩, .string ⟨#[]⟩, .string ⟨#[]⟩, .string ⟨#[]⟩, .string ⟨#[]⟩, .int .i64 0] := by rw [hw0]; exact Blk.new _ _ _
  have hsz : w.heap.size < w0.heap.size := by rw [hw0]; simp
  have HK := Lib.hid (record_envelope 90 A n c xs (Dec.envelope xs 0) w0 (hbs.fresh hT0) (fun a ha h0 => by have := hA a ha h0; omega) (fun args w => by simp [go_sem]) (fun w1 be _ _ he => envelope1_read be A n c xs 0 w1 he))
  have HB0 := Lib.hid hB0
  have HT0 := Lib.hid hT0
  have HW0 := Lib.hid hw0
  clear hB0 hT0 hw0 hbs hA
  go_enter Try.func41, Try.ntmps41
  go_wp2_with fail
  rw [← HW0.out]
  refine HK.out.mono ?_
  intro e w1 h
  rcases h.cases with ⟨a, hr, rfl, ht⟩ | ⟨x, hr, rfl, ht⟩
  · have hb := HB0.out.touch ht id
    have hc0 := hb.cell 0
    have hf0 := hb.frozen 0
    have hc1 := hb.cell 1
    have hf1 := hb.frozen 1
    have hc2 := hb.cell 2
    have hf2 := hb.frozen 2
    have hc3 := hb.cell 3
    have hf3 := hb.frozen 3
    have hc4 := hb.cell 4
    have hf4 := hb.frozen 4
    have hc5 := hb.cell 5
    have hf5 := hb.frozen 5
    have hc6 := hb.cell 6
    have hf6 := hb.frozen 6
    have hc7 := hb.cell 7
    have hf7 := hb.frozen 7
    have hc8 := hb.cell 8
    have hf8 := hb.frozen 8
    have hc9 := hb.cell 9
    have hf9 := hb.frozen 9
    have hc10 := hb.cell 10
    have hf10 := hb.frozen 10
    simp only [List.getElem?_toArray, List.getElem?_cons_zero, List.getElem?_cons_succ] at hc0 hc1 hc2 hc3 hc4 hc5 hc6 hc7 hc8 hc9 hc10
    have HR := Lib.hid hr
    obtain ⟨W, hW⟩ : ∃ W, W = (((((((((((w1.setCell ⟨w.heap.size, 0, none⟩ (.int .i64 0)).setCell ⟨w.heap.size, 1, none⟩ (.int .i64 0)).setCell ⟨w.heap.size, 2, none⟩ (.int .i64 0)).setCell ⟨w.heap.size, 3, none⟩ (.int .i64 0)).setCell ⟨w.heap.size, 4, none⟩ (.int .i64 0)).setCell ⟨w.heap.size, 5, none⟩ (.string ⟨#[]⟩)).setCell ⟨w.heap.size, 6, none⟩ (.string ⟨#[]⟩)).setCell ⟨w.heap.size, 7, none⟩ (.string ⟨#[]⟩)).setCell ⟨w.heap.size, 8, none⟩ (.string ⟨#[]⟩)).setCell ⟨w.heap.size, 9, none⟩ (.string ⟨#[]⟩)).setCell ⟨w.heap.size, 10, none⟩ (.int .i64 0)) := ⟨_, rfl⟩
    have hBW : Blk W w.heap.size 59 #[.int .i64 0, .int .i64 0, .int .i64 0, .int .i64 0, .int .i64 0, .string ⟨#[]⟩, .string ⟨#[]⟩, .string ⟨#[]⟩, .string ⟨#[]⟩, .string ⟨#[]⟩, .int .i64 0] := by rw [hW]; exact (hb.puts_all [.int .i64 0, .int .i64 0, .int .i64 0, .int .i64 0, .int .i64 0, .string ⟨#[]⟩, .string ⟨#[]⟩, .string ⟨#[]⟩, .string ⟨#[]⟩, .string ⟨#[]⟩, .int .i64 0] rfl)
    have hTW : Fresh w W := by rw [hW]; exact ((HT0.out.trans ht fun _ _ h => h).puts (b := w.heap.size) (.inl (Nat.le_refl _)) 0 [.int .i64 0, .int .i64 0, .int .i64 0, .int .i64 0, .int .i64 0, .string ⟨#[]⟩, .string ⟨#[]⟩, .string ⟨#[]⟩, .string ⟨#[]⟩, .string ⟨#[]⟩, .int .i64 0])
    have HBW := Lib.hid hBW
    have HTW := Lib.hid hTW
    have HW := Lib.hid hW
    clear hr h hb ht hBW hTW hW
    go_wp2_with fail
    rw [← HW.out]
    have he0 := HBW.out.cell 0
    have he1 := HBW.out.cell 1
    have he2 := HBW.out.cell 2
    have he3 := HBW.out.cell 3
    have he4 := HBW.out.cell 4
    have he5 := HBW.out.cell 5
    have he6 := HBW.out.cell 6
    have he7 := HBW.out.cell 7
    have he8 := HBW.out.cell 8
    have he9 := HBW.out.cell 9
    have he10 := HBW.out.cell 10
    simp only [List.getElem?_toArray, List.getElem?_cons_zero, List.getElem?_cons_succ] at he0 he1 he2 he3 he4 he5 he6 he7 he8 he9 he10
    exact bodyPost_ret (v := .tuple #[.agg #[.int .i64 0, .int .i64 0, .int .i64 0, .int .i64 0, .int .i64 0, .string ⟨#[]⟩, .string ⟨#[]⟩, .string ⟨#[]⟩, .string ⟨#[]⟩, .string ⟨#[]⟩, .int .i64 0], .int .i64 a, .int .i64 2]) (by simp [results, Try.results41, go_sem, he0, he1, he2, he3, he4, he5, he6, he7, he8, he9, he10]) rfl (RecEnd.bad HR.out HTW.out)
  · have hb := HB0.out.touch ht id
    have hc0 := hb.cell 0
    have hf0 := hb.frozen 0
    have hc1 := hb.cell 1
    have hf1 := hb.frozen 1
    have hc2 := hb.cell 2
    have hf2 := hb.frozen 2
    have hc3 := hb.cell 3
    have hf3 := hb.frozen 3
    have hc4 := hb.cell 4
    have hf4 := hb.frozen 4
    have hc5 := hb.cell 5
    have hf5 := hb.frozen 5
    have hc6 := hb.cell 6
    have hf6 := hb.frozen 6
    have hc7 := hb.cell 7
    have hf7 := hb.frozen 7
    have hc8 := hb.cell 8
    have hf8 := hb.frozen 8
    have hc9 := hb.cell 9
    have hf9 := hb.frozen 9
    have hc10 := hb.cell 10
    have hf10 := hb.frozen 10
    simp only [List.getElem?_toArray, List.getElem?_cons_zero, List.getElem?_cons_succ] at hc0 hc1 hc2 hc3 hc4 hc5 hc6 hc7 hc8 hc9 hc10
    have HR := Lib.hid hr
    obtain ⟨W, hW⟩ : ∃ W, W = (((((((((((w1.setCell ⟨w.heap.size, 0, none⟩ (.int .i64 x.k)).setCell ⟨w.heap.size, 1, none⟩ (.int .i64 x.f)).setCell ⟨w.heap.size, 2, none⟩ (.int .i64 x.t)).setCell ⟨w.heap.size, 3, none⟩ (.int .i64 x.q)).setCell ⟨w.heap.size, 4, none⟩ (.int .i64 x.m.k)).setCell ⟨w.heap.size, 5, none⟩ (.string ⟨x.m.to.toArray⟩)).setCell ⟨w.heap.size, 6, none⟩ (.string ⟨x.m.fr.toArray⟩)).setCell ⟨w.heap.size, 7, none⟩ (.string ⟨x.m.node.toArray⟩)).setCell ⟨w.heap.size, 8, none⟩ (.string ⟨x.m.name.toArray⟩)).setCell ⟨w.heap.size, 9, none⟩ (.string ⟨x.m.tx.toArray⟩)).setCell ⟨w.heap.size, 10, none⟩ (.int .i64 x.m.st)) := ⟨_, rfl⟩
    have hBW : Blk W w.heap.size 59 #[.int .i64 x.k, .int .i64 x.f, .int .i64 x.t, .int .i64 x.q, .int .i64 x.m.k, .string ⟨x.m.to.toArray⟩, .string ⟨x.m.fr.toArray⟩, .string ⟨x.m.node.toArray⟩, .string ⟨x.m.name.toArray⟩, .string ⟨x.m.tx.toArray⟩, .int .i64 x.m.st] := by rw [hW]; exact (hb.puts_all [.int .i64 x.k, .int .i64 x.f, .int .i64 x.t, .int .i64 x.q, .int .i64 x.m.k, .string ⟨x.m.to.toArray⟩, .string ⟨x.m.fr.toArray⟩, .string ⟨x.m.node.toArray⟩, .string ⟨x.m.name.toArray⟩, .string ⟨x.m.tx.toArray⟩, .int .i64 x.m.st] rfl)
    have hTW : Fresh w W := by rw [hW]; exact ((HT0.out.trans ht fun _ _ h => h).puts (b := w.heap.size) (.inl (Nat.le_refl _)) 0 [.int .i64 x.k, .int .i64 x.f, .int .i64 x.t, .int .i64 x.q, .int .i64 x.m.k, .string ⟨x.m.to.toArray⟩, .string ⟨x.m.fr.toArray⟩, .string ⟨x.m.node.toArray⟩, .string ⟨x.m.name.toArray⟩, .string ⟨x.m.tx.toArray⟩, .int .i64 x.m.st])
    have HBW := Lib.hid hBW
    have HTW := Lib.hid hTW
    have HW := Lib.hid hW
    clear hr h hb ht hBW hTW hW
    unfold enV
    go_wp2_with fail
    rw [← HW.out]
    have he0 := HBW.out.cell 0
    have he1 := HBW.out.cell 1
    have he2 := HBW.out.cell 2
    have he3 := HBW.out.cell 3
    have he4 := HBW.out.cell 4
    have he5 := HBW.out.cell 5
    have he6 := HBW.out.cell 6
    have he7 := HBW.out.cell 7
    have he8 := HBW.out.cell 8
    have he9 := HBW.out.cell 9
    have he10 := HBW.out.cell 10
    simp only [List.getElem?_toArray, List.getElem?_cons_zero, List.getElem?_cons_succ] at he0 he1 he2 he3 he4 he5 he6 he7 he8 he9 he10
    exact bodyPost_ret (v := .tuple #[.agg #[.int .i64 x.k, .int .i64 x.f, .int .i64 x.t, .int .i64 x.q, .int .i64 x.m.k, .string ⟨x.m.to.toArray⟩, .string ⟨x.m.fr.toArray⟩, .string ⟨x.m.node.toArray⟩, .string ⟨x.m.name.toArray⟩, .string ⟨x.m.tx.toArray⟩, .int .i64 x.m.st], .int .i64 0, .int .i64 0]) (by simp [results, Try.results41, go_sem, he0, he1, he2, he3, he4, he5, he6, he7, he8, he9, he10]) rfl (RecEnd.good (f := enV) HR.out HTW.out)

end Go.Proofs.Ytdfhdanfigpbpaa
