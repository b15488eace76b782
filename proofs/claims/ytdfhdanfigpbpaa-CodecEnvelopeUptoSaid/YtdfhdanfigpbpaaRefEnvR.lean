/- The contract of the reference's ReadEnvelope (printed by gen_refr.py). -/
import Derived.Test.YtdfhdanfigpbpaaRdrM
import Derived.Test.YtdfhdanfigpbpaaPuts
namespace Go.Proofs.Ytdfhdanfigpbpaa
open Go.RowKit


set_option maxRecDepth 100000 in
set_option maxHeartbeats 4000000 in
theorem refenvelope_read (A : Option Addr) (n c : Nat) (xs : List UInt8) (w : World) (hbs : Bs w A n c xs) (hA : ∀ a, A = some a → 0 < n → a.block < w.heap.size) (hN : n ≤ 140737488355328) :
    Calls Try.prog 42 #[.slice A n c] w (RecEnd enV (.agg #[.int .i64 0, .int .i64 0, .int .i64 0, .int .i64 0, .int .i64 0, .string ⟨#[]⟩, .string ⟨#[]⟩, .string ⟨#[]⟩, .string ⟨#[]⟩, .string ⟨#[]⟩, .int .i64 0]) w (Dec.whole (Dec.envelope xs 0) n)) := by
  obtain ⟨w0, hw0⟩ : ∃ w0, w0 = ((w.alloc (.cells #[.int .i64 0, .int .i64 0, .int .i64 0, .int .i64 0, .int .i64 0, .string ⟨#[]⟩, .string ⟨#[]⟩, .string ⟨#[]⟩, .string ⟨#[]⟩, .string ⟨#[]⟩, .int .i64 0] 59)).alloc (.cells #[.slice A n c, .int .i64 0, .bool false, .int .i64 0] 103)).alloc (.cells #[.int .i64 0, .int .i64 0, .int .i64 0, .int .i64 0, .int .i64 0, .string ⟨#[]⟩, .string ⟨#[]⟩, .string ⟨#[]⟩, .string ⟨#[]⟩, .string ⟨#[]⟩, .int .i64 0] 59) := ⟨_, rfl⟩
  have hT0 : Fresh w w0 := by rw [hw0]; exact (((Touch.refl _ w).alloc _).alloc _).alloc _
  have hR0 : Blk w0 w.heap.size 59 #[.int .i64 0, .int .i64 0, .int .i64 0, .int .i64 0, .int .i64 0, .string ⟨#[]⟩, .string ⟨#[]⟩, .string ⟨#[]⟩, .string ⟨#[]⟩, .string ⟨#[]⟩, .int .i64 0] := by rw [hw0]; exact ((Blk.new w _ _).alloc _).alloc _
  have hB0 : Blk w0 (w.heap.size + 1 + 1) 59 #[.int .i64 0, .int .i64 0, .int .i64 0, .int .i64 0, .int .i64 0, .string ⟨#[]⟩, .string ⟨#[]⟩, .string ⟨#[]⟩, .string ⟨#[]⟩, .string ⟨#[]⟩, .int .i64 0] := by
    rw [hw0]
    have := Blk.new ((w.alloc (.cells #[.int .i64 0, .int .i64 0, .int .i64 0, .int .i64 0, .int .i64 0, .string ⟨#[]⟩, .string ⟨#[]⟩, .string ⟨#[]⟩, .string ⟨#[]⟩, .string ⟨#[]⟩, .int .i64 0] 59)).alloc (.cells #[.slice A n c, .int .i64 0, .bool false, .int .i64 0] 103)) 59 #[.int .i64 0, .int .i64 0, .int .i64 0, .int .i64 0, .int .i64 0, .string ⟨#[]⟩, .string ⟨#[]⟩, .string ⟨#[]⟩, .string ⟨#[]⟩, .string ⟨#[]⟩, .int .i64 0]
    simp only [World.size_alloc] at this
    exact this
  have hD0 : Blk w0 (w.heap.size + 1) 103 #[.slice A n c, .int .i64 ((0 : Nat) : Int), .bool false, .int .i64 ((0 : Nat) : Int)] := by
    rw [hw0]
    have := (Blk.new (w.alloc (.cells #[.int .i64 0, .int .i64 0, .int .i64 0, .int .i64 0, .int .i64 0, .string ⟨#[]⟩, .string ⟨#[]⟩, .string ⟨#[]⟩, .string ⟨#[]⟩, .string ⟨#[]⟩, .int .i64 0] 59)) 103 #[.slice A n c, .int .i64 0, .bool false, .int .i64 0]).alloc (.cells #[.int .i64 0, .int .i64 0, .int .i64 0, .int .i64 0, .int .i64 0, .string ⟨#[]⟩, .string ⟨#[]⟩, .string ⟨#[]⟩, .string ⟨#[]⟩, .string ⟨#[]⟩, .int .i64 0] 59)
    simp only [World.size_alloc] at this
    exact this
  have HN := Lib.hid (show ∀ a, A = some a → 0 < n → a.block < w.heap.size from hA)
  obtain ⟨st0, hst0⟩ : ∃ s : Except Nat Nat, s = .ok 0 := ⟨_, rfl⟩
  have HS0 := Lib.hid (show RdrSt w0 (w.heap.size + 1) A n c xs st0 from ⟨0, false, 0, ⟨hD0, hbs.fresh hT0, Nat.zero_le _, fun a ha h0 => by have := hA a ha h0; omega, hN⟩, hst0⟩)
  have HST0 := Lib.hid hst0
  have HT0 := Lib.hid hT0
  have HR0 := Lib.hid hR0
  have HB0 := Lib.hid hB0
  have HW0 := Lib.hid hw0
  have hsz0 : w.heap.size + 1 + 1 < w0.heap.size := hB0.lt
  clear hst0 hT0 hR0 hB0 hD0 hw0 hbs hA
  have hstep : ∀ (wa : World) (i : Nat) (u : Value) (st : Except Nat Nat), RdrSt wa (w.heap.size + 1) A n c xs st → RdrSt (wa.setCell ⟨w.heap.size + 1 + 1, i, none⟩ u) (w.heap.size + 1) A n c xs st := by
    rintro wa i u st ⟨p, bad, on, h, e⟩
    refine ⟨p, bad, on, ⟨h.1.far (p := ⟨w.heap.size + 1 + 1, i, none⟩) (by simp) _, h.2.1.keep fun h0 p v hp ⟨a, ha, e⟩ => ?_, h.2.2⟩, e⟩
    have := HN.out a ha h0
    rw [World.cell?_setCell_other _ _ _ _ (by intro h9; rw [← h9] at e; simp at e; omega)]
    exact hp
  have HSTEP := Lib.hid hstep; clear hstep
  go_enter Try.func42, Try.ntmps42
  go_wp2_with fail
  rw [← HW0.out]
  refine (rnumber_any (w.heap.size + 1) A n c xs st0 1 2 w0 HS0.out).mono ?_
  intro e wa0 h
  obtain ⟨x0, st1, rfl, hs, ht, h3⟩ := h.cases
  have hb := HB0.out.touch ht (by omega)
  have hr := HR0.out.touch ht (by omega)
  have hc0 := hb.cell 0
  have hf0 := hb.frozen 0
  simp only [List.getElem?_toArray, List.getElem?_cons_zero] at hc0
  obtain ⟨w1, hw1⟩ : ∃ w', w' = wa0.setCell ⟨w.heap.size + 1 + 1, 0, none⟩ (.int .i64 x0) := ⟨_, rfl⟩
  have HB1 := Lib.hid (show Blk w1 (w.heap.size + 1 + 1) 59 #[.int .i64 x0, .int .i64 0, .int .i64 0, .int .i64 0, .int .i64 0, .string ⟨#[]⟩, .string ⟨#[]⟩, .string ⟨#[]⟩, .string ⟨#[]⟩, .string ⟨#[]⟩, .int .i64 0] by rw [hw1]; exact hb.set_ 0 (.int .i64 x0))
  have HR1 := Lib.hid (show Blk w1 w.heap.size 59 #[.int .i64 0, .int .i64 0, .int .i64 0, .int .i64 0, .int .i64 0, .string ⟨#[]⟩, .string ⟨#[]⟩, .string ⟨#[]⟩, .string ⟨#[]⟩, .string ⟨#[]⟩, .int .i64 0] by rw [hw1]; exact hr.far (p := ⟨w.heap.size + 1 + 1, 0, none⟩) (by simp; omega) _)
  have HS1 := Lib.hid (show RdrSt w1 (w.heap.size + 1) A n c xs st1 by rw [hw1]; exact HSTEP.out _ _ _ _ hs)
  have HT1 := Lib.hid (show Fresh w w1 by rw [hw1]; exact (HT0.out.trans ht fun _ _ h => by omega).setCell (p := ⟨w.heap.size + 1 + 1, 0, none⟩) (.inl (by simp; omega)) _)
  have HW1 := Lib.hid hw1
  have H30 := Lib.hid h3
  clear hw1 hb hr hs ht h3 h
  go_wp2_with fail
  rw [← HW1.out]
  clear hc0 hf0
  refine (rnumber_any (w.heap.size + 1) A n c xs st1 0 4503599627370496 w1 HS1.out).mono ?_
  intro e wa1 h
  obtain ⟨x1, st2, rfl, hs, ht, h3⟩ := h.cases
  have hb := HB1.out.touch ht (by omega)
  have hr := HR1.out.touch ht (by omega)
  have hc1 := hb.cell 1
  have hf1 := hb.frozen 1
  simp only [List.getElem?_toArray, List.getElem?_cons_zero, List.getElem?_cons_succ] at hc1
  obtain ⟨w2, hw2⟩ : ∃ w', w' = wa1.setCell ⟨w.heap.size + 1 + 1, 1, none⟩ (.int .i64 x1) := ⟨_, rfl⟩
  have HB2 := Lib.hid (show Blk w2 (w.heap.size + 1 + 1) 59 #[.int .i64 x0, .int .i64 x1, .int .i64 0, .int .i64 0, .int .i64 0, .string ⟨#[]⟩, .string ⟨#[]⟩, .string ⟨#[]⟩, .string ⟨#[]⟩, .string ⟨#[]⟩, .int .i64 0] by rw [hw2]; exact hb.set_ 1 (.int .i64 x1))
  have HR2 := Lib.hid (show Blk w2 w.heap.size 59 #[.int .i64 0, .int .i64 0, .int .i64 0, .int .i64 0, .int .i64 0, .string ⟨#[]⟩, .string ⟨#[]⟩, .string ⟨#[]⟩, .string ⟨#[]⟩, .string ⟨#[]⟩, .int .i64 0] by rw [hw2]; exact hr.far (p := ⟨w.heap.size + 1 + 1, 1, none⟩) (by simp; omega) _)
  have HS2 := Lib.hid (show RdrSt w2 (w.heap.size + 1) A n c xs st2 by rw [hw2]; exact HSTEP.out _ _ _ _ hs)
  have HT2 := Lib.hid (show Fresh w w2 by rw [hw2]; exact (HT1.out.trans ht fun _ _ h => by omega).setCell (p := ⟨w.heap.size + 1 + 1, 1, none⟩) (.inl (by simp; omega)) _)
  have HW2 := Lib.hid hw2
  have H31 := Lib.hid h3
  clear hw2 hb hr hs ht h3 h
  go_wp2_with fail
  rw [← HW2.out]
  clear hc1 hf1
  refine (rnumber_any (w.heap.size + 1) A n c xs st2 0 4503599627370496 w2 HS2.out).mono ?_
  intro e wa2 h
  obtain ⟨x2, st3, rfl, hs, ht, h3⟩ := h.cases
  have hb := HB2.out.touch ht (by omega)
  have hr := HR2.out.touch ht (by omega)
  have hc2 := hb.cell 2
  have hf2 := hb.frozen 2
  simp only [List.getElem?_toArray, List.getElem?_cons_zero, List.getElem?_cons_succ] at hc2
  obtain ⟨w3, hw3⟩ : ∃ w', w' = wa2.setCell ⟨w.heap.size + 1 + 1, 2, none⟩ (.int .i64 x2) := ⟨_, rfl⟩
  have HB3 := Lib.hid (show Blk w3 (w.heap.size + 1 + 1) 59 #[.int .i64 x0, .int .i64 x1, .int .i64 x2, .int .i64 0, .int .i64 0, .string ⟨#[]⟩, .string ⟨#[]⟩, .string ⟨#[]⟩, .string ⟨#[]⟩, .string ⟨#[]⟩, .int .i64 0] by rw [hw3]; exact hb.set_ 2 (.int .i64 x2))
  have HR3 := Lib.hid (show Blk w3 w.heap.size 59 #[.int .i64 0, .int .i64 0, .int .i64 0, .int .i64 0, .int .i64 0, .string ⟨#[]⟩, .string ⟨#[]⟩, .string ⟨#[]⟩, .string ⟨#[]⟩, .string ⟨#[]⟩, .int .i64 0] by rw [hw3]; exact hr.far (p := ⟨w.heap.size + 1 + 1, 2, none⟩) (by simp; omega) _)
  have HS3 := Lib.hid (show RdrSt w3 (w.heap.size + 1) A n c xs st3 by rw [hw3]; exact HSTEP.out _ _ _ _ hs)
  have HT3 := Lib.hid (show Fresh w w3 by rw [hw3]; exact (HT2.out.trans ht fun _ _ h => by omega).setCell (p := ⟨w.heap.size + 1 + 1, 2, none⟩) (.inl (by simp; omega)) _)
  have HW3 := Lib.hid hw3
  have H32 := Lib.hid h3
  clear hw3 hb hr hs ht h3 h
  go_wp2_with fail
  rw [← HW3.out]
  clear hc2 hf2
  refine (rnumber_any (w.heap.size + 1) A n c xs st3 0 4503599627370496 w3 HS3.out).mono ?_
  intro e wa3 h
  obtain ⟨x3, st4, rfl, hs, ht, h3⟩ := h.cases
  have hb := HB3.out.touch ht (by omega)
  have hr := HR3.out.touch ht (by omega)
  have hc3 := hb.cell 3
  have hf3 := hb.frozen 3
  simp only [List.getElem?_toArray, List.getElem?_cons_zero, List.getElem?_cons_succ] at hc3
  obtain ⟨w4, hw4⟩ : ∃ w', w' = wa3.setCell ⟨w.heap.size + 1 + 1, 3, none⟩ (.int .i64 x3) := ⟨_, rfl⟩
  have HB4 := Lib.hid (show Blk w4 (w.heap.size + 1 + 1) 59 #[.int .i64 x0, .int .i64 x1, .int .i64 x2, .int .i64 x3, .int .i64 0, .string ⟨#[]⟩, .string ⟨#[]⟩, .string ⟨#[]⟩, .string ⟨#[]⟩, .string ⟨#[]⟩, .int .i64 0] by rw [hw4]; exact hb.set_ 3 (.int .i64 x3))
  have HR4 := Lib.hid (show Blk w4 w.heap.size 59 #[.int .i64 0, .int .i64 0, .int .i64 0, .int .i64 0, .int .i64 0, .string ⟨#[]⟩, .string ⟨#[]⟩, .string ⟨#[]⟩, .string ⟨#[]⟩, .string ⟨#[]⟩, .int .i64 0] by rw [hw4]; exact hr.far (p := ⟨w.heap.size + 1 + 1, 3, none⟩) (by simp; omega) _)
  have HS4 := Lib.hid (show RdrSt w4 (w.heap.size + 1) A n c xs st4 by rw [hw4]; exact HSTEP.out _ _ _ _ hs)
  have HT4 := Lib.hid (show Fresh w w4 by rw [hw4]; exact (HT3.out.trans ht fun _ _ h => by omega).setCell (p := ⟨w.heap.size + 1 + 1, 3, none⟩) (.inl (by simp; omega)) _)
  have HW4 := Lib.hid hw4
  have H33 := Lib.hid h3
  clear hw4 hb hr hs ht h3 h
  go_wp2_with fail
  rw [← HW4.out]
  clear hc3 hf3
  refine (rmail_any (w.heap.size + 1) A n c xs st4 w4 HS4.out).mono ?_
  intro e wa4 h
  obtain ⟨x4, st5, rfl, hs, ht, h3⟩ := h
  have hb := HB4.out.touch ht (by omega)
  have hr := HR4.out.touch ht (by omega)
  have hc4_0 := hb.cell 4
  have hf4_0 := hb.frozen 4
  have hc4_1 := hb.cell 5
  have hf4_1 := hb.frozen 5
  have hc4_2 := hb.cell 6
  have hf4_2 := hb.frozen 6
  have hc4_3 := hb.cell 7
  have hf4_3 := hb.frozen 7
  have hc4_4 := hb.cell 8
  have hf4_4 := hb.frozen 8
  have hc4_5 := hb.cell 9
  have hf4_5 := hb.frozen 9
  have hc4_6 := hb.cell 10
  have hf4_6 := hb.frozen 10
  simp only [List.getElem?_toArray, List.getElem?_cons_zero, List.getElem?_cons_succ] at hc4_0 hc4_1 hc4_2 hc4_3 hc4_4 hc4_5 hc4_6
  obtain ⟨w5, hw5⟩ : ∃ w', w' = (((((((wa4.setCell ⟨w.heap.size + 1 + 1, 4, none⟩ (.int .i64 x4.k)).setCell ⟨w.heap.size + 1 + 1, 5, none⟩ (.string ⟨x4.to.toArray⟩)).setCell ⟨w.heap.size + 1 + 1, 6, none⟩ (.string ⟨x4.fr.toArray⟩)).setCell ⟨w.heap.size + 1 + 1, 7, none⟩ (.string ⟨x4.node.toArray⟩)).setCell ⟨w.heap.size + 1 + 1, 8, none⟩ (.string ⟨x4.name.toArray⟩)).setCell ⟨w.heap.size + 1 + 1, 9, none⟩ (.string ⟨x4.tx.toArray⟩)).setCell ⟨w.heap.size + 1 + 1, 10, none⟩ (.int .i64 x4.st)) := ⟨_, rfl⟩
  have HB5 := Lib.hid (show Blk w5 (w.heap.size + 1 + 1) 59 #[.int .i64 x0, .int .i64 x1, .int .i64 x2, .int .i64 x3, .int .i64 x4.k, .string ⟨x4.to.toArray⟩, .string ⟨x4.fr.toArray⟩, .string ⟨x4.node.toArray⟩, .string ⟨x4.name.toArray⟩, .string ⟨x4.tx.toArray⟩, .int .i64 x4.st] by rw [hw5]; exact (Blk.puts_end [.int .i64 x0, .int .i64 x1, .int .i64 x2, .int .i64 x3] [.int .i64 0, .string ⟨#[]⟩, .string ⟨#[]⟩, .string ⟨#[]⟩, .string ⟨#[]⟩, .string ⟨#[]⟩, .int .i64 0] [.int .i64 x4.k, .string ⟨x4.to.toArray⟩, .string ⟨x4.fr.toArray⟩, .string ⟨x4.node.toArray⟩, .string ⟨x4.name.toArray⟩, .string ⟨x4.tx.toArray⟩, .int .i64 x4.st] hb rfl))
  have HR5 := Lib.hid (show Blk w5 w.heap.size 59 #[.int .i64 0, .int .i64 0, .int .i64 0, .int .i64 0, .int .i64 0, .string ⟨#[]⟩, .string ⟨#[]⟩, .string ⟨#[]⟩, .string ⟨#[]⟩, .string ⟨#[]⟩, .int .i64 0] by rw [hw5]; exact (hr.puts_far (by omega) 4 [.int .i64 x4.k, .string ⟨x4.to.toArray⟩, .string ⟨x4.fr.toArray⟩, .string ⟨x4.node.toArray⟩, .string ⟨x4.name.toArray⟩, .string ⟨x4.tx.toArray⟩, .int .i64 x4.st]))
  have HS5 := Lib.hid (show RdrSt w5 (w.heap.size + 1) A n c xs st5 by rw [hw5]; exact (puts_ind (P := fun wa => RdrSt wa (w.heap.size + 1) A n c xs st5) (w.heap.size + 1 + 1) (fun wa g u h => HSTEP.out wa g u _ h) [.int .i64 x4.k, .string ⟨x4.to.toArray⟩, .string ⟨x4.fr.toArray⟩, .string ⟨x4.node.toArray⟩, .string ⟨x4.name.toArray⟩, .string ⟨x4.tx.toArray⟩, .int .i64 x4.st] 4 _ hs))
  have HT5 := Lib.hid (show Fresh w w5 by rw [hw5]; exact ((HT4.out.trans ht fun _ _ h => by omega).puts (b := w.heap.size + 1 + 1) (.inl (by omega)) 4 [.int .i64 x4.k, .string ⟨x4.to.toArray⟩, .string ⟨x4.fr.toArray⟩, .string ⟨x4.node.toArray⟩, .string ⟨x4.name.toArray⟩, .string ⟨x4.tx.toArray⟩, .int .i64 x4.st]))
  have HW5 := Lib.hid hw5
  have H34 := Lib.hid h3
  clear hw5 hb hr hs ht h3
  simp only [mlV]
  go_wp2_with fail
  rw [← HW5.out]
  clear hc4_0 hf4_0 hc4_1 hf4_1 hc4_2 hf4_2 hc4_3 hf4_3 hc4_4 hf4_4 hc4_5 hf4_5 hc4_6 hf4_6
  have hfin : (Dec.whole (Dec.envelope xs 0) n = .ok ⟨x0, x1, x2, x3, x4⟩ ∧ rendV n st5 = .tuple #[.int .i64 0, .int .i64 0]) ∨ (∃ a, Dec.whole (Dec.envelope xs 0) n = .error a ∧ rendV n st5 = .tuple #[.int .i64 a, .int .i64 2]) := by
    have h0 := HST0.out
    subst h0
    rcases step_ok H30.out with ⟨a, hg0, e1⟩ | ⟨q1, hg0, e1⟩
    · subst e1
      have e2 := step_err H31.out
      subst e2
      have e3 := step_err H32.out
      subst e3
      have e4 := step_err H33.out
      subst e4
      have e5 := mail_err H34.out
      subst e5
      exact .inr ⟨a, by unfold Dec.envelope Dec.bind Dec.plain; simp only [hg0]; rfl, rfl⟩
    · subst e1
      rcases step_ok H31.out with ⟨a, hg1, e2⟩ | ⟨q2, hg1, e2⟩
      · subst e2
        have e3 := step_err H32.out
        subst e3
        have e4 := step_err H33.out
        subst e4
        have e5 := mail_err H34.out
        subst e5
        exact .inr ⟨a, by unfold Dec.envelope Dec.bind Dec.plain; simp only [hg0]; simp only [hg1]; rfl, rfl⟩
      · subst e2
        rcases step_ok H32.out with ⟨a, hg2, e3⟩ | ⟨q3, hg2, e3⟩
        · subst e3
          have e4 := step_err H33.out
          subst e4
          have e5 := mail_err H34.out
          subst e5
          exact .inr ⟨a, by unfold Dec.envelope Dec.bind Dec.plain; simp only [hg0]; simp only [hg1]; simp only [hg2]; rfl, rfl⟩
        · subst e3
          rcases step_ok H33.out with ⟨a, hg3, e4⟩ | ⟨q4, hg3, e4⟩
          · subst e4
            have e5 := mail_err H34.out
            subst e5
            exact .inr ⟨a, by unfold Dec.envelope Dec.bind Dec.plain; simp only [hg0]; simp only [hg1]; simp only [hg2]; simp only [hg3]; rfl, rfl⟩
          · subst e4
            rcases mail_ok H34.out with ⟨a, hg4, e5⟩ | ⟨q5, hg4, e5⟩
            · subst e5
              exact .inr ⟨a, by unfold Dec.envelope Dec.bind Dec.plain; simp only [hg0]; simp only [hg1]; simp only [hg2]; simp only [hg3]; simp only [hg4]; rfl, rfl⟩
            · subst e5
              have hsp : Dec.envelope xs 0 = .ok (⟨x0, x1, x2, x3, x4⟩, q5) := by unfold Dec.envelope Dec.bind Dec.plain; simp only [hg0]; simp only [hg1]; simp only [hg2]; simp only [hg3]; simp only [hg4]
              rw [hsp]
              by_cases hq : q5 < n
              · exact .inr ⟨q5, if_pos hq, if_pos hq⟩
              · exact .inl ⟨if_neg hq, if_neg hq⟩
  have HEND := Lib.hid (rend_any (w.heap.size + 1) A n c xs st5 w5 HS5.out)
  refine HEND.out.mono ?_
  rintro e wz ⟨ht, rfl⟩
  have hb := HB5.out.touch ht (by omega)
  have hr := HR5.out.touch ht (by omega)
  have hT := HT5.out.trans ht fun _ _ h => by omega
  have hc0 := hr.cell 0
  have hf0 := hr.frozen 0
  have hd0 := hb.cell 0
  have hc1 := hr.cell 1
  have hf1 := hr.frozen 1
  have hd1 := hb.cell 1
  have hc2 := hr.cell 2
  have hf2 := hr.frozen 2
  have hd2 := hb.cell 2
  have hc3 := hr.cell 3
  have hf3 := hr.frozen 3
  have hd3 := hb.cell 3
  have hc4 := hr.cell 4
  have hf4 := hr.frozen 4
  have hd4 := hb.cell 4
  have hc5 := hr.cell 5
  have hf5 := hr.frozen 5
  have hd5 := hb.cell 5
  have hc6 := hr.cell 6
  have hf6 := hr.frozen 6
  have hd6 := hb.cell 6
  have hc7 := hr.cell 7
  have hf7 := hr.frozen 7
  have hd7 := hb.cell 7
  have hc8 := hr.cell 8
  have hf8 := hr.frozen 8
  have hd8 := hb.cell 8
  have hc9 := hr.cell 9
  have hf9 := hr.frozen 9
  have hd9 := hb.cell 9
  have hc10 := hr.cell 10
  have hf10 := hr.frozen 10
  have hd10 := hb.cell 10
  simp only [List.getElem?_toArray, List.getElem?_cons_zero, List.getElem?_cons_succ] at hc0 hd0 hc1 hd1 hc2 hd2 hc3 hd3 hc4 hd4 hc5 hd5 hc6 hd6 hc7 hd7 hc8 hd8 hc9 hd9 hc10 hd10
  have HRz := Lib.hid hr
  have HTz := Lib.hid hT
  clear hr hb hT ht
  rcases hfin with ⟨hsp, hrv⟩ | ⟨a, hsp, hrv⟩
  · obtain ⟨W, hW⟩ : ∃ W, W = (((((((((((wz.setCell ⟨w.heap.size, 0, none⟩ (.int .i64 x0)).setCell ⟨w.heap.size, 1, none⟩ (.int .i64 x1)).setCell ⟨w.heap.size, 2, none⟩ (.int .i64 x2)).setCell ⟨w.heap.size, 3, none⟩ (.int .i64 x3)).setCell ⟨w.heap.size, 4, none⟩ (.int .i64 x4.k)).setCell ⟨w.heap.size, 5, none⟩ (.string ⟨x4.to.toArray⟩)).setCell ⟨w.heap.size, 6, none⟩ (.string ⟨x4.fr.toArray⟩)).setCell ⟨w.heap.size, 7, none⟩ (.string ⟨x4.node.toArray⟩)).setCell ⟨w.heap.size, 8, none⟩ (.string ⟨x4.name.toArray⟩)).setCell ⟨w.heap.size, 9, none⟩ (.string ⟨x4.tx.toArray⟩)).setCell ⟨w.heap.size, 10, none⟩ (.int .i64 x4.st)) := ⟨_, rfl⟩
    have hBW : Blk W w.heap.size 59 #[.int .i64 x0, .int .i64 x1, .int .i64 x2, .int .i64 x3, .int .i64 x4.k, .string ⟨x4.to.toArray⟩, .string ⟨x4.fr.toArray⟩, .string ⟨x4.node.toArray⟩, .string ⟨x4.name.toArray⟩, .string ⟨x4.tx.toArray⟩, .int .i64 x4.st] := by rw [hW]; exact (HRz.out.puts_all [.int .i64 x0, .int .i64 x1, .int .i64 x2, .int .i64 x3, .int .i64 x4.k, .string ⟨x4.to.toArray⟩, .string ⟨x4.fr.toArray⟩, .string ⟨x4.node.toArray⟩, .string ⟨x4.name.toArray⟩, .string ⟨x4.tx.toArray⟩, .int .i64 x4.st] rfl)
    have hTW : Fresh w W := by rw [hW]; exact (HTz.out.puts (b := w.heap.size) (.inl (Nat.le_refl _)) 0 [.int .i64 x0, .int .i64 x1, .int .i64 x2, .int .i64 x3, .int .i64 x4.k, .string ⟨x4.to.toArray⟩, .string ⟨x4.fr.toArray⟩, .string ⟨x4.node.toArray⟩, .string ⟨x4.name.toArray⟩, .string ⟨x4.tx.toArray⟩, .int .i64 x4.st])
    have HBW := Lib.hid hBW
    have HTW := Lib.hid hTW
    have HW := Lib.hid hW
    have HSP := Lib.hid hsp
    clear hBW hTW hW hsp
    simp only [hrv]
    clear hrv
    go_wp2_with fail
    rw [← HW.out]
    have he0 := HBW.out.cell 0
    have he1 := HBW.out.cell 1
    have he2 := HBW.out.cell 2
    have he3 := HBW.out.cell 3
    have he4 := HBW.out.cell 4
    have he5 := HBW.out.cell 5
    have he6 := HBW.out.cell 6
    have he7 := HBW.out.cell 7
    have he8 := HBW.out.cell 8
    have he9 := HBW.out.cell 9
    have he10 := HBW.out.cell 10
    simp only [List.getElem?_toArray, List.getElem?_cons_zero, List.getElem?_cons_succ] at he0 he1 he2 he3 he4 he5 he6 he7 he8 he9 he10
    exact bodyPost_ret (v := .tuple #[.agg #[.int .i64 x0, .int .i64 x1, .int .i64 x2, .int .i64 x3, .int .i64 x4.k, .string ⟨x4.to.toArray⟩, .string ⟨x4.fr.toArray⟩, .string ⟨x4.node.toArray⟩, .string ⟨x4.name.toArray⟩, .string ⟨x4.tx.toArray⟩, .int .i64 x4.st], .int .i64 0, .int .i64 0]) (by simp [results, Try.results42, go_sem, he0, he1, he2, he3, he4, he5, he6, he7, he8, he9, he10]) rfl (RecEnd.good (f := enV) HSP.out HTW.out)
  · obtain ⟨W, hW⟩ : ∃ W, W = (((((((((((wz.setCell ⟨w.heap.size, 0, none⟩ (.int .i64 0)).setCell ⟨w.heap.size, 1, none⟩ (.int .i64 0)).setCell ⟨w.heap.size, 2, none⟩ (.int .i64 0)).setCell ⟨w.heap.size, 3, none⟩ (.int .i64 0)).setCell ⟨w.heap.size, 4, none⟩ (.int .i64 0)).setCell ⟨w.heap.size, 5, none⟩ (.string ⟨#[]⟩)).setCell ⟨w.heap.size, 6, none⟩ (.string ⟨#[]⟩)).setCell ⟨w.heap.size, 7, none⟩ (.string ⟨#[]⟩)).setCell ⟨w.heap.size, 8, none⟩ (.string ⟨#[]⟩)).setCell ⟨w.heap.size, 9, none⟩ (.string ⟨#[]⟩)).setCell ⟨w.heap.size, 10, none⟩ (.int .i64 0)) := ⟨_, rfl⟩
    have hBW : Blk W w.heap.size 59 #[.int .i64 0, .int .i64 0, .int .i64 0, .int .i64 0, .int .i64 0, .string ⟨#[]⟩, .string ⟨#[]⟩, .string ⟨#[]⟩, .string ⟨#[]⟩, .string ⟨#[]⟩, .int .i64 0] := by rw [hW]; exact (HRz.out.puts_all [.int .i64 0, .int .i64 0, .int .i64 0, .int .i64 0, .int .i64 0, .string ⟨#[]⟩, .string ⟨#[]⟩, .string ⟨#[]⟩, .string ⟨#[]⟩, .string ⟨#[]⟩, .int .i64 0] rfl)
    have hTW : Fresh w W := by rw [hW]; exact (HTz.out.puts (b := w.heap.size) (.inl (Nat.le_refl _)) 0 [.int .i64 0, .int .i64 0, .int .i64 0, .int .i64 0, .int .i64 0, .string ⟨#[]⟩, .string ⟨#[]⟩, .string ⟨#[]⟩, .string ⟨#[]⟩, .string ⟨#[]⟩, .int .i64 0])
    have HBW := Lib.hid hBW
    have HTW := Lib.hid hTW
    have HW := Lib.hid hW
    have HSP := Lib.hid hsp
    clear hBW hTW hW hsp
    simp only [hrv]
    clear hrv
    go_wp2_with fail
    rw [← HW.out]
    have he0 := HBW.out.cell 0
    have he1 := HBW.out.cell 1
    have he2 := HBW.out.cell 2
    have he3 := HBW.out.cell 3
    have he4 := HBW.out.cell 4
    have he5 := HBW.out.cell 5
    have he6 := HBW.out.cell 6
    have he7 := HBW.out.cell 7
    have he8 := HBW.out.cell 8
    have he9 := HBW.out.cell 9
    have he10 := HBW.out.cell 10
    simp only [List.getElem?_toArray, List.getElem?_cons_zero, List.getElem?_cons_succ] at he0 he1 he2 he3 he4 he5 he6 he7 he8 he9 he10
    exact bodyPost_ret (v := .tuple #[.agg #[.int .i64 0, .int .i64 0, .int .i64 0, .int .i64 0, .int .i64 0, .string ⟨#[]⟩, .string ⟨#[]⟩, .string ⟨#[]⟩, .string ⟨#[]⟩, .string ⟨#[]⟩, .int .i64 0], .int .i64 a, .int .i64 2]) (by simp [results, Try.results42, go_sem, he0, he1, he2, he3, he4, he5, he6, he7, he8, he9, he10]) rfl (RecEnd.bad HSP.out HTW.out)

end Go.Proofs.Ytdfhdanfigpbpaa
