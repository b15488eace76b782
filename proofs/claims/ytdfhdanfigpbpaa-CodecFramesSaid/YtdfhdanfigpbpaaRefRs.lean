/- The contracts of the reference's straight readers (printed by gen_refr.py). -/
import Derived.Test.YtdfhdanfigpbpaaRdr2
import Derived.Test.YtdfhdanfigpbpaaReads
namespace Go.Proofs.Ytdfhdanfigpbpaa
open Go.RowKit

theorem step_err {α : Type} {z x : α} {a : Nat} {st' : Except Nat Nat} {g : Nat → Dec.Rd α} (h : (∃ b, (Except.error a : Except Nat Nat) = .error b ∧ x = z ∧ st' = .error b) ∨ (∃ p b, (Except.error a : Except Nat Nat) = .ok p ∧ g p = .error b ∧ x = z ∧ st' = .error b) ∨ (∃ p q, (Except.error a : Except Nat Nat) = .ok p ∧ g p = .ok (x, q) ∧ st' = .ok q)) : st' = .error a := by
  rcases h with ⟨b, e, _, h⟩ | ⟨p, b, e, _⟩ | ⟨p, q, e, _⟩
  · injection e with e; rw [h, e]
  · cases e
  · cases e
theorem step_ok {α : Type} {z x : α} {p : Nat} {st' : Except Nat Nat} {g : Nat → Dec.Rd α} (h : (∃ b, (Except.ok p : Except Nat Nat) = .error b ∧ x = z ∧ st' = .error b) ∨ (∃ p' b, (Except.ok p : Except Nat Nat) = .ok p' ∧ g p' = .error b ∧ x = z ∧ st' = .error b) ∨ (∃ p' q, (Except.ok p : Except Nat Nat) = .ok p' ∧ g p' = .ok (x, q) ∧ st' = .ok q)) : (∃ a, g p = .error a ∧ st' = .error a) ∨ (∃ q, g p = .ok (x, q) ∧ st' = .ok q) := by
  rcases h with ⟨b, e, _⟩ | ⟨p', b, e, hg, _, h⟩ | ⟨p', q, e, hg, h⟩
  · cases e
  · injection e with e; subst e; exact .inl ⟨b, hg, h⟩
  · injection e with e; subst e; exact .inr ⟨q, hg, h⟩

set_option maxRecDepth 100000 in
set_option maxHeartbeats 4000000 in
theorem refevent_read (A : Option Addr) (n c : Nat) (xs : List UInt8) (w : World) (hbs : Bs w A n c xs) (hA : ∀ a, A = some a → 0 < n → a.block < w.heap.size) (hN : n ≤ 140737488355328) :
    Calls Try.prog 20 #[.slice A n c] w (RecEnd evV (.agg #[.int .i64 0, .string ⟨#[]⟩, .string ⟨#[]⟩, .int .i64 0]) w (Dec.whole (Dec.event xs 0) n)) := by
  obtain ⟨w0, hw0⟩ : ∃ w0, w0 = ((w.alloc (.cells #[.int .i64 0, .string ⟨#[]⟩, .string ⟨#[]⟩, .int .i64 0] 23)).alloc (.cells #[.slice A n c, .int .i64 0, .bool false, .int .i64 0] 103)).alloc (.cells #[.int .i64 0, .string ⟨#[]⟩, .string ⟨#[]⟩, .int .i64 0] 23) := ⟨_, rfl⟩
  have hT0 : Fresh w w0 := by rw [hw0]; exact (((Touch.refl _ w).alloc _).alloc _).alloc _
  have hR0 : Blk w0 w.heap.size 23 #[.int .i64 0, .string ⟨#[]⟩, .string ⟨#[]⟩, .int .i64 0] := by rw [hw0]; exact ((Blk.new w _ _).alloc _).alloc _
  have hB0 : Blk w0 (w.heap.size + 1 + 1) 23 #[.int .i64 0, .string ⟨#[]⟩, .string ⟨#[]⟩, .int .i64 0] := by
    rw [hw0]
    have := Blk.new ((w.alloc (.cells #[.int .i64 0, .string ⟨#[]⟩, .string ⟨#[]⟩, .int .i64 0] 23)).alloc (.cells #[.slice A n c, .int .i64 0, .bool false, .int .i64 0] 103)) 23 #[.int .i64 0, .string ⟨#[]⟩, .string ⟨#[]⟩, .int .i64 0]
    simp only [World.size_alloc] at this
    exact this
  have hD0 : Blk w0 (w.heap.size + 1) 103 #[.slice A n c, .int .i64 ((0 : Nat) : Int), .bool false, .int .i64 ((0 : Nat) : Int)] := by
    rw [hw0]
    have := (Blk.new (w.alloc (.cells #[.int .i64 0, .string ⟨#[]⟩, .string ⟨#[]⟩, .int .i64 0] 23)) 103 #[.slice A n c, .int .i64 0, .bool false, .int .i64 0]).alloc (.cells #[.int .i64 0, .string ⟨#[]⟩, .string ⟨#[]⟩, .int .i64 0] 23)
    simp only [World.size_alloc] at this
    exact this
  have HN := Lib.hid (show ∀ a, A = some a → 0 < n → a.block < w.heap.size from hA)
  obtain ⟨st0, hst0⟩ : ∃ s : Except Nat Nat, s = .ok 0 := ⟨_, rfl⟩
  have HS0 := Lib.hid (show RdrSt w0 (w.heap.size + 1) A n c xs st0 from ⟨0, false, 0, ⟨hD0, hbs.fresh hT0, Nat.zero_le _, fun a ha h0 => by have := hA a ha h0; omega, hN⟩, hst0⟩)
  have HST0 := Lib.hid hst0
  have HT0 := Lib.hid hT0
  have HR0 := Lib.hid hR0
  have HB0 := Lib.hid hB0
  have HW0 := Lib.hid hw0
  have hsz0 : w.heap.size + 1 + 1 < w0.heap.size := hB0.lt
  clear hst0 hT0 hR0 hB0 hD0 hw0 hbs hA
  have hstep : ∀ (wa : World) (i : Nat) (u : Value) (st : Except Nat Nat), RdrSt wa (w.heap.size + 1) A n c xs st → RdrSt (wa.setCell ⟨w.heap.size + 1 + 1, i, none⟩ u) (w.heap.size + 1) A n c xs st := by
    rintro wa i u st ⟨p, bad, on, h, e⟩
    refine ⟨p, bad, on, ⟨h.1.far (p := ⟨w.heap.size + 1 + 1, i, none⟩) (by simp) _, h.2.1.keep fun h0 p v hp ⟨a, ha, e⟩ => ?_, h.2.2⟩, e⟩
    have := HN.out a ha h0
    rw [World.cell?_setCell_other _ _ _ _ (by intro h9; rw [← h9] at e; simp at e; omega)]
    exact hp
  have HSTEP := Lib.hid hstep; clear hstep
  go_enter Try.func20, Try.ntmps20
  go_wp2_with fail
  rw [← HW0.out]
  refine (rnumber_any (w.heap.size + 1) A n c xs st0 1 15 w0 HS0.out).mono ?_
  intro e wa0 h
  obtain ⟨x0, st1, rfl, hs, ht, h3⟩ := h.cases
  have hb := HB0.out.touch ht (by omega)
  have hr := HR0.out.touch ht (by omega)
  have hc0 := hb.cell 0
  have hf0 := hb.frozen 0
  simp only [List.getElem?_toArray, List.getElem?_cons_zero] at hc0
  obtain ⟨w1, hw1⟩ : ∃ w', w' = wa0.setCell ⟨w.heap.size + 1 + 1, 0, none⟩ (.int .i64 x0) := ⟨_, rfl⟩
  have HB1 := Lib.hid (show Blk w1 (w.heap.size + 1 + 1) 23 #[.int .i64 x0, .string ⟨#[]⟩, .string ⟨#[]⟩, .int .i64 0] by rw [hw1]; exact hb.set_ 0 (.int .i64 x0))
  have HR1 := Lib.hid (show Blk w1 w.heap.size 23 #[.int .i64 0, .string ⟨#[]⟩, .string ⟨#[]⟩, .int .i64 0] by rw [hw1]; exact hr.far (p := ⟨w.heap.size + 1 + 1, 0, none⟩) (by simp; omega) _)
  have HS1 := Lib.hid (show RdrSt w1 (w.heap.size + 1) A n c xs st1 by rw [hw1]; exact HSTEP.out _ _ _ _ hs)
  have HT1 := Lib.hid (show Fresh w w1 by rw [hw1]; exact (HT0.out.trans ht fun _ _ h => by omega).setCell (p := ⟨w.heap.size + 1 + 1, 0, none⟩) (.inl (by simp; omega)) _)
  have HW1 := Lib.hid hw1
  have H30 := Lib.hid h3
  clear hw1 hb hr hs ht h3 h
  go_wp2_with fail
  rw [← HW1.out]
  clear hc0 hf0
  refine (rtext_any (w.heap.size + 1) A n c xs st1 w1 HS1.out).mono ?_
  intro e wa1 h
  obtain ⟨x1, st2, rfl, hs, ht, h3⟩ := h.cases
  have hb := HB1.out.touch ht (by omega)
  have hr := HR1.out.touch ht (by omega)
  have hc1 := hb.cell 1
  have hf1 := hb.frozen 1
  simp only [List.getElem?_toArray, List.getElem?_cons_zero, List.getElem?_cons_succ] at hc1
  obtain ⟨w2, hw2⟩ : ∃ w', w' = wa1.setCell ⟨w.heap.size + 1 + 1, 1, none⟩ (.string ⟨x1.toArray⟩) := ⟨_, rfl⟩
  have HB2 := Lib.hid (show Blk w2 (w.heap.size + 1 + 1) 23 #[.int .i64 x0, .string ⟨x1.toArray⟩, .string ⟨#[]⟩, .int .i64 0] by rw [hw2]; exact hb.set_ 1 (.string ⟨x1.toArray⟩))
  have HR2 := Lib.hid (show Blk w2 w.heap.size 23 #[.int .i64 0, .string ⟨#[]⟩, .string ⟨#[]⟩, .int .i64 0] by rw [hw2]; exact hr.far (p := ⟨w.heap.size + 1 + 1, 1, none⟩) (by simp; omega) _)
  have HS2 := Lib.hid (show RdrSt w2 (w.heap.size + 1) A n c xs st2 by rw [hw2]; exact HSTEP.out _ _ _ _ hs)
  have HT2 := Lib.hid (show Fresh w w2 by rw [hw2]; exact (HT1.out.trans ht fun _ _ h => by omega).setCell (p := ⟨w.heap.size + 1 + 1, 1, none⟩) (.inl (by simp; omega)) _)
  have HW2 := Lib.hid hw2
  have H31 := Lib.hid h3
  clear hw2 hb hr hs ht h3 h
  go_wp2_with fail
  rw [← HW2.out]
  clear hc1 hf1
  refine (rtext_any (w.heap.size + 1) A n c xs st2 w2 HS2.out).mono ?_
  intro e wa2 h
  obtain ⟨x2, st3, rfl, hs, ht, h3⟩ := h.cases
  have hb := HB2.out.touch ht (by omega)
  have hr := HR2.out.touch ht (by omega)
  have hc2 := hb.cell 2
  have hf2 := hb.frozen 2
  simp only [List.getElem?_toArray, List.getElem?_cons_zero, List.getElem?_cons_succ] at hc2
  obtain ⟨w3, hw3⟩ : ∃ w', w' = wa2.setCell ⟨w.heap.size + 1 + 1, 2, none⟩ (.string ⟨x2.toArray⟩) := ⟨_, rfl⟩
  have HB3 := Lib.hid (show Blk w3 (w.heap.size + 1 + 1) 23 #[.int .i64 x0, .string ⟨x1.toArray⟩, .string ⟨x2.toArray⟩, .int .i64 0] by rw [hw3]; exact hb.set_ 2 (.string ⟨x2.toArray⟩))
  have HR3 := Lib.hid (show Blk w3 w.heap.size 23 #[.int .i64 0, .string ⟨#[]⟩, .string ⟨#[]⟩, .int .i64 0] by rw [hw3]; exact hr.far (p := ⟨w.heap.size + 1 + 1, 2, none⟩) (by simp; omega) _)
  have HS3 := Lib.hid (show RdrSt w3 (w.heap.size + 1) A n c xs st3 by rw [hw3]; exact HSTEP.out _ _ _ _ hs)
  have HT3 := Lib.hid (show Fresh w w3 by rw [hw3]; exact (HT2.out.trans ht fun _ _ h => by omega).setCell (p := ⟨w.heap.size + 1 + 1, 2, none⟩) (.inl (by simp; omega)) _)
  have HW3 := Lib.hid hw3
  have H32 := Lib.hid h3
  clear hw3 hb hr hs ht h3 h
  go_wp2_with fail
  rw [← HW3.out]
  clear hc2 hf2
  refine (rsigned_any (w.heap.size + 1) A n c xs st3 w3 HS3.out).mono ?_
  intro e wa3 h
  obtain ⟨x3, st4, rfl, hs, ht, h3⟩ := h.cases
  have hb := HB3.out.touch ht (by omega)
  have hr := HR3.out.touch ht (by omega)
  have hc3 := hb.cell 3
  have hf3 := hb.frozen 3
  simp only [List.getElem?_toArray, List.getElem?_cons_zero, List.getElem?_cons_succ] at hc3
  obtain ⟨w4, hw4⟩ : ∃ w', w' = wa3.setCell ⟨w.heap.size + 1 + 1, 3, none⟩ (.int .i64 x3) := ⟨_, rfl⟩
  have HB4 := Lib.hid (show Blk w4 (w.heap.size + 1 + 1) 23 #[.int .i64 x0, .string ⟨x1.toArray⟩, .string ⟨x2.toArray⟩, .int .i64 x3] by rw [hw4]; exact hb.set_ 3 (.int .i64 x3))
  have HR4 := Lib.hid (show Blk w4 w.heap.size 23 #[.int .i64 0, .string ⟨#[]⟩, .string ⟨#[]⟩, .int .i64 0] by rw [hw4]; exact hr.far (p := ⟨w.heap.size + 1 + 1, 3, none⟩) (by simp; omega) _)
  have HS4 := Lib.hid (show RdrSt w4 (w.heap.size + 1) A n c xs st4 by rw [hw4]; exact HSTEP.out _ _ _ _ hs)
  have HT4 := Lib.hid (show Fresh w w4 by rw [hw4]; exact (HT3.out.trans ht fun _ _ h => by omega).setCell (p := ⟨w.heap.size + 1 + 1, 3, none⟩) (.inl (by simp; omega)) _)
  have HW4 := Lib.hid hw4
  have H33 := Lib.hid h3
  clear hw4 hb hr hs ht h3 h
  go_wp2_with fail
  rw [← HW4.out]
  clear hc3 hf3
  have hfin : (Dec.whole (Dec.event xs 0) n = .ok ⟨x0, x1, x2, x3⟩ ∧ rendV n st4 = .tuple #[.int .i64 0, .int .i64 0]) ∨ (∃ a, Dec.whole (Dec.event xs 0) n = .error a ∧ rendV n st4 = .tuple #[.int .i64 a, .int .i64 2]) := by
    have h0 := HST0.out
    subst h0
    rcases step_ok H30.out with ⟨a, hg0, e1⟩ | ⟨q1, hg0, e1⟩
    · subst e1
      have e2 := step_err H31.out
      subst e2
      have e3 := step_err H32.out
      subst e3
      have e4 := step_err H33.out
      subst e4
      exact .inr ⟨a, by unfold Dec.event Dec.bind; simp only [hg0]; rfl, rfl⟩
    · subst e1
      rcases step_ok H31.out with ⟨a, hg1, e2⟩ | ⟨q2, hg1, e2⟩
      · subst e2
        have e3 := step_err H32.out
        subst e3
        have e4 := step_err H33.out
        subst e4
        exact .inr ⟨a, by unfold Dec.event Dec.bind; simp only [hg0]; simp only [hg1]; rfl, rfl⟩
      · subst e2
        rcases step_ok H32.out with ⟨a, hg2, e3⟩ | ⟨q3, hg2, e3⟩
        · subst e3
          have e4 := step_err H33.out
          subst e4
          exact .inr ⟨a, by unfold Dec.event Dec.bind; simp only [hg0]; simp only [hg1]; simp only [hg2]; rfl, rfl⟩
        · subst e3
          rcases step_ok H33.out with ⟨a, hg3, e4⟩ | ⟨q4, hg3, e4⟩
          · subst e4
            exact .inr ⟨a, by unfold Dec.event Dec.bind; simp only [hg0]; simp only [hg1]; simp only [hg2]; simp only [hg3]; rfl, rfl⟩
          · subst e4
            have hsp : Dec.event xs 0 = .ok (⟨x0, x1, x2, x3⟩, q4) := by unfold Dec.event Dec.bind; simp only [hg0]; simp only [hg1]; simp only [hg2]; simp only [hg3]
            rw [hsp]
            by_cases hq : q4 < n
            · exact .inr ⟨q4, if_pos hq, if_pos hq⟩
            · exact .inl ⟨if_neg hq, if_neg hq⟩
  have HEND := Lib.hid (rend_any (w.heap.size + 1) A n c xs st4 w4 HS4.out)
  refine HEND.out.mono ?_
  rintro e wz ⟨ht, rfl⟩
  have hb := HB4.out.touch ht (by omega)
  have hr := HR4.out.touch ht (by omega)
  have hT := HT4.out.trans ht fun _ _ h => by omega
  have hc0 := hr.cell 0
  have hf0 := hr.frozen 0
  have hd0 := hb.cell 0
  have hc1 := hr.cell 1
  have hf1 := hr.frozen 1
  have hd1 := hb.cell 1
  have hc2 := hr.cell 2
  have hf2 := hr.frozen 2
  have hd2 := hb.cell 2
  have hc3 := hr.cell 3
  have hf3 := hr.frozen 3
  have hd3 := hb.cell 3
  simp only [List.getElem?_toArray, List.getElem?_cons_zero, List.getElem?_cons_succ] at hc0 hd0 hc1 hd1 hc2 hd2 hc3 hd3
  have HRz := Lib.hid hr
  have HTz := Lib.hid hT
  clear hr hb hT ht
  rcases hfin with ⟨hsp, hrv⟩ | ⟨a, hsp, hrv⟩
  · obtain ⟨W, hW⟩ : ∃ W, W = ((((wz.setCell ⟨w.heap.size, 0, none⟩ (.int .i64 x0)).setCell ⟨w.heap.size, 1, none⟩ (.string ⟨x1.toArray⟩)).setCell ⟨w.heap.size, 2, none⟩ (.string ⟨x2.toArray⟩)).setCell ⟨w.heap.size, 3, none⟩ (.int .i64 x3)) := ⟨_, rfl⟩
    have hBW : Blk W w.heap.size 23 #[.int .i64 x0, .string ⟨x1.toArray⟩, .string ⟨x2.toArray⟩, .int .i64 x3] := by rw [hW]; exact ((((HRz.out.set_ 0 (.int .i64 x0)).set_ 1 (.string ⟨x1.toArray⟩)).set_ 2 (.string ⟨x2.toArray⟩)).set_ 3 (.int .i64 x3))
    have hTW : Fresh w W := by rw [hW]; exact ((((HTz.out.setCell (p := ⟨w.heap.size, 0, none⟩) (.inl (Nat.le_refl _)) (.int .i64 x0)).setCell (p := ⟨w.heap.size, 1, none⟩) (.inl (Nat.le_refl _)) (.string ⟨x1.toArray⟩)).setCell (p := ⟨w.heap.size, 2, none⟩) (.inl (Nat.le_refl _)) (.string ⟨x2.toArray⟩)).setCell (p := ⟨w.heap.size, 3, none⟩) (.inl (Nat.le_refl _)) (.int .i64 x3))
    have HBW := Lib.hid hBW
    have HTW := Lib.hid hTW
    have HW := Lib.hid hW
    have HSP := Lib.hid hsp
    clear hBW hTW hW hsp
    simp only [hrv]
    clear hrv
    go_wp2_with fail
    rw [← HW.out]
    have he0 := HBW.out.cell 0
    have he1 := HBW.out.cell 1
    have he2 := HBW.out.cell 2
    have he3 := HBW.out.cell 3
    simp only [List.getElem?_toArray, List.getElem?_cons_zero, List.getElem?_cons_succ] at he0 he1 he2 he3
    exact bodyPost_ret (v := .tuple #[.agg #[.int .i64 x0, .string ⟨x1.toArray⟩, .string ⟨x2.toArray⟩, .int .i64 x3], .int .i64 0, .int .i64 0]) (by simp [results, Try.results20, go_sem, he0, he1, he2, he3]) rfl (RecEnd.good (f := evV) HSP.out HTW.out)
  · obtain ⟨W, hW⟩ : ∃ W, W = ((((wz.setCell ⟨w.heap.size, 0, none⟩ (.int .i64 0)).setCell ⟨w.heap.size, 1, none⟩ (.string ⟨#[]⟩)).setCell ⟨w.heap.size, 2, none⟩ (.string ⟨#[]⟩)).setCell ⟨w.heap.size, 3, none⟩ (.int .i64 0)) := ⟨_, rfl⟩
    have hBW : Blk W w.heap.size 23 #[.int .i64 0, .string ⟨#[]⟩, .string ⟨#[]⟩, .int .i64 0] := by rw [hW]; exact ((((HRz.out.set_ 0 (.int .i64 0)).set_ 1 (.string ⟨#[]⟩)).set_ 2 (.string ⟨#[]⟩)).set_ 3 (.int .i64 0))
    have hTW : Fresh w W := by rw [hW]; exact ((((HTz.out.setCell (p := ⟨w.heap.size, 0, none⟩) (.inl (Nat.le_refl _)) (.int .i64 0)).setCell (p := ⟨w.heap.size, 1, none⟩) (.inl (Nat.le_refl _)) (.string ⟨#[]⟩)).setCell (p := ⟨w.heap.size, 2, none⟩) (.inl (Nat.le_refl _)) (.string ⟨#[]⟩)).setCell (p := ⟨w.heap.size, 3, none⟩) (.inl (Nat.le_refl _)) (.int .i64 0))
    have HBW := Lib.hid hBW
    have HTW := Lib.hid hTW
    have HW := Lib.hid hW
    have HSP := Lib.hid hsp
    clear hBW hTW hW hsp
    simp only [hrv]
    clear hrv
    go_wp2_with fail
    rw [← HW.out]
    have he0 := HBW.out.cell 0
    have he1 := HBW.out.cell 1
    have he2 := HBW.out.cell 2
    have he3 := HBW.out.cell 3
    simp only [List.getElem?_toArray, List.getElem?_cons_zero, List.getElem?_cons_succ] at he0 he1 he2 he3
    exact bodyPost_ret (v := .tuple #[.agg #[.int .i64 0, .string ⟨#[]⟩, .string ⟨#[]⟩, .int .i64 0], .int .i64 a, .int .i64 2]) (by simp [results, Try.results20, go_sem, he0, he1, he2, he3]) rfl (RecEnd.bad HSP.out HTW.out)

set_option maxRecDepth 100000 in
set_option maxHeartbeats 4000000 in
theorem reflease_read (A : Option Addr) (n c : Nat) (xs : List UInt8) (w : World) (hbs : Bs w A n c xs) (hA : ∀ a, A = some a → 0 < n → a.block < w.heap.size) (hN : n ≤ 140737488355328) :
    Calls Try.prog 31 #[.slice A n c] w (RecEnd leV (.agg #[.int .i64 0, .int .i64 0]) w (Dec.whole (Dec.lease xs 0) n)) := by
  obtain ⟨w0, hw0⟩ : ∃ w0, w0 = ((w.alloc (.cells #[.int .i64 0, .int .i64 0] 42)).alloc (.cells #[.slice A n c, .int .i64 0, .bool false, .int .i64 0] 103)).alloc (.cells #[.int .i64 0, .int .i64 0] 42) := ⟨_, rfl⟩
  have hT0 : Fresh w w0 := by rw [hw0]; exact (((Touch.refl _ w).alloc _).alloc _).alloc _
  have hR0 : Blk w0 w.heap.size 42 #[.int .i64 0, .int .i64 0] := by rw [hw0]; exact ((Blk.new w _ _).alloc _).alloc _
  have hB0 : Blk w0 (w.heap.size + 1 + 1) 42 #[.int .i64 0, .int .i64 0] := by
    rw [hw0]
    have := Blk.new ((w.alloc (.cells #[.int .i64 0, .int .i64 0] 42)).alloc (.cells #[.slice A n c, .int .i64 0, .bool false, .int .i64 0] 103)) 42 #[.int .i64 0, .int .i64 0]
    simp only [World.size_alloc] at this
    exact this
  have hD0 : Blk w0 (w.heap.size + 1) 103 #[.slice A n c, .int .i64 ((0 : Nat) : Int), .bool false, .int .i64 ((0 : Nat) : Int)] := by
    rw [hw0]
    have := (Blk.new (w.alloc (.cells #[.int .i64 0, .int .i64 0] 42)) 103 #[.slice A n c, .int .i64 0, .bool false, .int .i64 0]).alloc (.cells #[.int .i64 0, .int .i64 0] 42)
    simp only [World.size_alloc] at this
    exact this
  have HN := Lib.hid (show ∀ a, A = some a → 0 < n → a.block < w.heap.size from hA)
  obtain ⟨st0, hst0⟩ : ∃ s : Except Nat Nat, s = .ok 0 := ⟨_, rfl⟩
  have HS0 := Lib.hid (show RdrSt w0 (w.heap.size + 1) A n c xs st0 from ⟨0, false, 0, ⟨hD0, hbs.fresh hT0, Nat.zero_le _, fun a ha h0 => by have := hA a ha h0; omega, hN⟩, hst0⟩)
  have HST0 := Lib.hid hst0
  have HT0 := Lib.hid hT0
  have HR0 := Lib.hid hR0
  have HB0 := Lib.hid hB0
  have HW0 := Lib.hid hw0
  have hsz0 : w.heap.size + 1 + 1 < w0.heap.size := hB0.lt
  clear hst0 hT0 hR0 hB0 hD0 hw0 hbs hA
  have hstep : ∀ (wa : World) (i : Nat) (u : Value) (st : Except Nat Nat), RdrSt wa (w.heap.size + 1) A n c xs st → RdrSt (wa.setCell ⟨w.heap.size + 1 + 1, i, none⟩ u) (w.heap.size + 1) A n c xs st := by
    rintro wa i u st ⟨p, bad, on, h, e⟩
    refine ⟨p, bad, on, ⟨h.1.far (p := ⟨w.heap.size + 1 + 1, i, none⟩) (by simp) _, h.2.1.keep fun h0 p v hp ⟨a, ha, e⟩ => ?_, h.2.2⟩, e⟩
    have := HN.out a ha h0
    rw [World.cell?_setCell_other _ _ _ _ (by intro h9; rw [← h9] at e; simp at e; omega)]
    exact hp
  have HSTEP := Lib.hid hstep; clear hstep
  go_enter Try.func31, Try.ntmps31
  go_wp2_with fail
  rw [← HW0.out]
  refine (rsigned_any (w.heap.size + 1) A n c xs st0 w0 HS0.out).mono ?_
  intro e wa0 h
  obtain ⟨x0, st1, rfl, hs, ht, h3⟩ := h.cases
  have hb := HB0.out.touch ht (by omega)
  have hr := HR0.out.touch ht (by omega)
  have hc0 := hb.cell 0
  have hf0 := hb.frozen 0
  simp only [List.getElem?_toArray, List.getElem?_cons_zero] at hc0
  obtain ⟨w1, hw1⟩ : ∃ w', w' = wa0.setCell ⟨w.heap.size + 1 + 1, 0, none⟩ (.int .i64 x0) := ⟨_, rfl⟩
  have HB1 := Lib.hid (show Blk w1 (w.heap.size + 1 + 1) 42 #[.int .i64 x0, .int .i64 0] by rw [hw1]; exact hb.set_ 0 (.int .i64 x0))
  have HR1 := Lib.hid (show Blk w1 w.heap.size 42 #[.int .i64 0, .int .i64 0] by rw [hw1]; exact hr.far (p := ⟨w.heap.size + 1 + 1, 0, none⟩) (by simp; omega) _)
  have HS1 := Lib.hid (show RdrSt w1 (w.heap.size + 1) A n c xs st1 by rw [hw1]; exact HSTEP.out _ _ _ _ hs)
  have HT1 := Lib.hid (show Fresh w w1 by rw [hw1]; exact (HT0.out.trans ht fun _ _ h => by omega).setCell (p := ⟨w.heap.size + 1 + 1, 0, none⟩) (.inl (by simp; omega)) _)
  have HW1 := Lib.hid hw1
  have H30 := Lib.hid h3
  clear hw1 hb hr hs ht h3 h
  go_wp2_with fail
  rw [← HW1.out]
  clear hc0 hf0
  refine (rnumber_any (w.heap.size + 1) A n c xs st1 0 4503599627370496 w1 HS1.out).mono ?_
  intro e wa1 h
  obtain ⟨x1, st2, rfl, hs, ht, h3⟩ := h.cases
  have hb := HB1.out.touch ht (by omega)
  have hr := HR1.out.touch ht (by omega)
  have hc1 := hb.cell 1
  have hf1 := hb.frozen 1
  simp only [List.getElem?_toArray, List.getElem?_cons_zero, List.getElem?_cons_succ] at hc1
  obtain ⟨w2, hw2⟩ : ∃ w', w' = wa1.setCell ⟨w.heap.size + 1 + 1, 1, none⟩ (.int .i64 x1) := ⟨_, rfl⟩
  have HB2 := Lib.hid (show Blk w2 (w.heap.size + 1 + 1) 42 #[.int .i64 x0, .int .i64 x1] by rw [hw2]; exact hb.set_ 1 (.int .i64 x1))
  have HR2 := Lib.hid (show Blk w2 w.heap.size 42 #[.int .i64 0, .int .i64 0] by rw [hw2]; exact hr.far (p := ⟨w.heap.size + 1 + 1, 1, none⟩) (by simp; omega) _)
  have HS2 := Lib.hid (show RdrSt w2 (w.heap.size + 1) A n c xs st2 by rw [hw2]; exact HSTEP.out _ _ _ _ hs)
  have HT2 := Lib.hid (show Fresh w w2 by rw [hw2]; exact (HT1.out.trans ht fun _ _ h => by omega).setCell (p := ⟨w.heap.size + 1 + 1, 1, none⟩) (.inl (by simp; omega)) _)
  have HW2 := Lib.hid hw2
  have H31 := Lib.hid h3
  clear hw2 hb hr hs ht h3 h
  go_wp2_with fail
  rw [← HW2.out]
  clear hc1 hf1
  have hfin : (Dec.whole (Dec.lease xs 0) n = .ok ⟨x0, x1⟩ ∧ rendV n st2 = .tuple #[.int .i64 0, .int .i64 0]) ∨ (∃ a, Dec.whole (Dec.lease xs 0) n = .error a ∧ rendV n st2 = .tuple #[.int .i64 a, .int .i64 2]) := by
    have h0 := HST0.out
    subst h0
    rcases step_ok H30.out with ⟨a, hg0, e1⟩ | ⟨q1, hg0, e1⟩
    · subst e1
      have e2 := step_err H31.out
      subst e2
      exact .inr ⟨a, by unfold Dec.lease Dec.bind Dec.plain; simp only [hg0]; rfl, rfl⟩
    · subst e1
      rcases step_ok H31.out with ⟨a, hg1, e2⟩ | ⟨q2, hg1, e2⟩
      · subst e2
        exact .inr ⟨a, by unfold Dec.lease Dec.bind Dec.plain; simp only [hg0]; simp only [hg1]; rfl, rfl⟩
      · subst e2
        have hsp : Dec.lease xs 0 = .ok (⟨x0, x1⟩, q2) := by unfold Dec.lease Dec.bind Dec.plain; simp only [hg0]; simp only [hg1]
        rw [hsp]
        by_cases hq : q2 < n
        · exact .inr ⟨q2, if_pos hq, if_pos hq⟩
        · exact .inl ⟨if_neg hq, if_neg hq⟩
  have HEND := Lib.hid (rend_any (w.heap.size + 1) A n c xs st2 w2 HS2.out)
  refine HEND.out.mono ?_
  rintro e wz ⟨ht, rfl⟩
  have hb := HB2.out.touch ht (by omega)
  have hr := HR2.out.touch ht (by omega)
  have hT := HT2.out.trans ht fun _ _ h => by omega
  have hc0 := hr.cell 0
  have hf0 := hr.frozen 0
  have hd0 := hb.cell 0
  have hc1 := hr.cell 1
  have hf1 := hr.frozen 1
  have hd1 := hb.cell 1
  simp only [List.getElem?_toArray, List.getElem?_cons_zero, List.getElem?_cons_succ] at hc0 hd0 hc1 hd1
  have HRz := Lib.hid hr
  have HTz := Lib.hid hT
  clear hr hb hT ht
  rcases hfin with ⟨hsp, hrv⟩ | ⟨a, hsp, hrv⟩
  · obtain ⟨W, hW⟩ : ∃ W, W = ((wz.setCell ⟨w.heap.size, 0, none⟩ (.int .i64 x0)).setCell ⟨w.heap.size, 1, none⟩ (.int .i64 x1)) := ⟨_, rfl⟩
    have hBW : Blk W w.heap.size 42 #[.int .i64 x0, .int .i64 x1] := by rw [hW]; exact ((HRz.out.set_ 0 (.int .i64 x0)).set_ 1 (.int .i64 x1))
    have hTW : Fresh w W := by rw [hW]; exact ((HTz.out.setCell (p := ⟨w.heap.size, 0, none⟩) (.inl (Nat.le_refl _)) (.int .i64 x0)).setCell (p := ⟨w.heap.size, 1, none⟩) (.inl (Nat.le_refl _)) (.int .i64 x1))
    have HBW := Lib.hid hBW
    have HTW := Lib.hid hTW
    have HW := Lib.hid hW
    have HSP := Lib.hid hsp
    clear hBW hTW hW hsp
    simp only [hrv]
    clear hrv
    go_wp2_with fail
    rw [← HW.out]
    have he0 := HBW.out.cell 0
    have he1 := HBW.out.cell 1
    simp only [List.getElem?_toArray, List.getElem?_cons_zero, List.getElem?_cons_succ] at he0 he1
    exact bodyPost_ret (v := .tuple #[.agg #[.int .i64 x0, .int .i64 x1], .int .i64 0, .int .i64 0]) (by simp [results, Try.results31, go_sem, he0, he1]) rfl (RecEnd.good (f := leV) HSP.out HTW.out)
  · obtain ⟨W, hW⟩ : ∃ W, W = ((wz.setCell ⟨w.heap.size, 0, none⟩ (.int .i64 0)).setCell ⟨w.heap.size, 1, none⟩ (.int .i64 0)) := ⟨_, rfl⟩
    have hBW : Blk W w.heap.size 42 #[.int .i64 0, .int .i64 0] := by rw [hW]; exact ((HRz.out.set_ 0 (.int .i64 0)).set_ 1 (.int .i64 0))
    have hTW : Fresh w W := by rw [hW]; exact ((HTz.out.setCell (p := ⟨w.heap.size, 0, none⟩) (.inl (Nat.le_refl _)) (.int .i64 0)).setCell (p := ⟨w.heap.size, 1, none⟩) (.inl (Nat.le_refl _)) (.int .i64 0))
    have HBW := Lib.hid hBW
    have HTW := Lib.hid hTW
    have HW := Lib.hid hW
    have HSP := Lib.hid hsp
    clear hBW hTW hW hsp
    simp only [hrv]
    clear hrv
    go_wp2_with fail
    rw [← HW.out]
    have he0 := HBW.out.cell 0
    have he1 := HBW.out.cell 1
    simp only [List.getElem?_toArray, List.getElem?_cons_zero, List.getElem?_cons_succ] at he0 he1
    exact bodyPost_ret (v := .tuple #[.agg #[.int .i64 0, .int .i64 0], .int .i64 a, .int .i64 2]) (by simp [results, Try.results31, go_sem, he0, he1]) rfl (RecEnd.bad HSP.out HTW.out)

end Go.Proofs.Ytdfhdanfigpbpaa
