/- The contract of the reference's Reader.mail (printed by gen_rmail.py). Conditions stand with it. -/
import Derived.Test.YtdfhdanfigpbpaaMlv
import Derived.Test.YtdfhdanfigpbpaaRefRs
namespace Go.Proofs.Ytdfhdanfigpbpaa
open Go.RowKit

def MailFin (xs : List UInt8) (st st' : Except Nat Nat) (m : Dec.Ml) : Prop :=
  match st with
  | .error a => st' = .error a
  | .ok p => match Dec.mail xs p with
    | .error a => st' = .error a
    | .ok (y, q) => m = y ∧ st' = .ok q
theorem MailFin.bad {xs : List UInt8} {p a : Nat} {st' : Except Nat Nat} {m : Dec.Ml} (h : Dec.mail xs p = .error a) (e : st' = .error a) : MailFin xs (.ok p) st' m := by
  unfold MailFin
  simp only [h]
  exact e
theorem MailFin.good {xs : List UInt8} {p q : Nat} {st' : Except Nat Nat} {m : Dec.Ml} (h : Dec.mail xs p = .ok (m, q)) (e : st' = .ok q) : MailFin xs (.ok p) st' m := by
  unfold MailFin
  simp only [h]
  exact ⟨trivial, e⟩
/-- what Reader.mail does: behind a fault the mail is anything -/
def RdrMail (br : Nat) (A : Option Addr) (n c : Nat) (xs : List UInt8) (st : Except Nat Nat) (w : World) (e : Ending) (w' : World) : Prop :=
  ∃ m st', e = .returned (mlV m) ∧ RdrSt w' br A n c xs st' ∧ Touch (· = br) w w' ∧ MailFin xs st st' m

set_option maxRecDepth 100000 in
set_option maxHeartbeats 4000000 in
theorem rmail_any (br : Nat) (A : Option Addr) (n c : Nat) (xs : List UInt8) (st0 : Except Nat Nat) (w : World) (h : RdrSt w br A n c xs st0) :
    Calls Try.prog 92 #[.pointer (some ⟨br, 0, none⟩)] w (RdrMail br A n c xs st0 w) := by
  have hbr : br < w.heap.size := by obtain ⟨p, bad, on, h, _⟩ := h; exact h.1.lt
  obtain ⟨w0, hw0⟩ : ∃ w0, w0 = (w.alloc (.cells #[.int .i64 0, .string ⟨#[]⟩, .string ⟨#[]⟩, .string ⟨#[]⟩, .string ⟨#[]⟩, .string ⟨#[]⟩, .int .i64 0] 57)).alloc (.cells #[.int .i64 0, .string ⟨#[]⟩, .string ⟨#[]⟩, .string ⟨#[]⟩, .string ⟨#[]⟩, .string ⟨#[]⟩, .int .i64 0] 57) := ⟨_, rfl⟩
  have hT0 : Touch (· = br) w w0 := by rw [hw0]; exact ((Touch.refl (· = br) w).alloc _).alloc _
  have hR0 : Blk w0 w.heap.size 57 #[.int .i64 0, .string ⟨#[]⟩, .string ⟨#[]⟩, .string ⟨#[]⟩, .string ⟨#[]⟩, .string ⟨#[]⟩, .int .i64 0] := by rw [hw0]; exact (Blk.new w _ _).alloc _
  have hB0 : Blk w0 (w.heap.size + 1) 57 #[.int .i64 0, .string ⟨#[]⟩, .string ⟨#[]⟩, .string ⟨#[]⟩, .string ⟨#[]⟩, .string ⟨#[]⟩, .int .i64 0] := by
    rw [hw0]
    have := Blk.new (w.alloc (.cells #[.int .i64 0, .string ⟨#[]⟩, .string ⟨#[]⟩, .string ⟨#[]⟩, .string ⟨#[]⟩, .string ⟨#[]⟩, .int .i64 0] 57)) 57 #[.int .i64 0, .string ⟨#[]⟩, .string ⟨#[]⟩, .string ⟨#[]⟩, .string ⟨#[]⟩, .string ⟨#[]⟩, .int .i64 0]
    simpa using this
  have hS0 : RdrSt w0 br A n c xs st0 := by
    obtain ⟨p, bad, on, h, e⟩ := h
    rw [hw0]
    exact ⟨p, bad, on, ⟨(h.1.alloc _).alloc _, (h.2.1.alloc _).alloc _, h.2.2⟩, e⟩
  have hstep : ∀ (wa : World) (g i : Nat) (u : Value) (st : Except Nat Nat), w.heap.size ≤ g → RdrSt wa br A n c xs st → RdrSt (wa.setCell ⟨g, i, none⟩ u) br A n c xs st := by
    rintro wa g i u st hg ⟨p, bad, on, h, e⟩
    refine ⟨p, bad, on, ⟨h.1.far (p := ⟨g, i, none⟩) (by simp; omega) u, h.2.1.touch (S := (· = g)) ((Touch.refl (· = g) wa).setCell (p := ⟨g, i, none⟩) (.inr rfl) u) (fun a ha h0 e => ?_), h.2.2⟩, e⟩
    have := h.2.2.2.1 a ha h0
    omega
  have HT0 := Lib.hid hT0; have HR0 := Lib.hid hR0; have HB0 := Lib.hid hB0; have HW0 := Lib.hid hw0; have HS0 := Lib.hid hS0; have HSTEP := Lib.hid hstep
  clear hT0 hR0 hB0 hw0 hS0 hstep h
  go_enter Try.func92, Try.ntmps92
  go_wp2_with fail
  rw [← HW0.out]
  refine (rnumber_any br A n c xs st0 0 4 w0 HS0.out).mono ?_
  intro e wa0 h
  obtain ⟨x0, st1, rfl, hs, ht, h3⟩ := h.cases
  have hb := HB0.out.touch ht (by omega)
  have hr := HR0.out.touch ht (by omega)
  have hc0 := hb.cell 0
  have hf0 := hb.frozen 0
  simp only [List.getElem?_toArray, List.getElem?_cons_zero] at hc0
  obtain ⟨w1, hw1⟩ : ∃ w', w' = wa0.setCell ⟨w.heap.size + 1, 0, none⟩ (.int .i64 x0) := ⟨_, rfl⟩
  have HB1 := Lib.hid (show Blk w1 (w.heap.size + 1) 57 #[.int .i64 x0, .string ⟨#[]⟩, .string ⟨#[]⟩, .string ⟨#[]⟩, .string ⟨#[]⟩, .string ⟨#[]⟩, .int .i64 0] by rw [hw1]; exact hb.set_ 0 (.int .i64 x0))
  have HR1 := Lib.hid (show Blk w1 w.heap.size 57 #[.int .i64 0, .string ⟨#[]⟩, .string ⟨#[]⟩, .string ⟨#[]⟩, .string ⟨#[]⟩, .string ⟨#[]⟩, .int .i64 0] by rw [hw1]; exact hr.far (p := ⟨w.heap.size + 1, 0, none⟩) (by simp) _)
  have HS1 := Lib.hid (show RdrSt w1 br A n c xs st1 by rw [hw1]; exact HSTEP.out _ _ _ _ _ (by omega) hs)
  have HT1 := Lib.hid (show Touch (· = br) w w1 by rw [hw1]; exact (HT0.out.trans ht fun _ _ h => h).setCell (p := ⟨w.heap.size + 1, 0, none⟩) (.inl (by simp)) _)
  have HW1 := Lib.hid hw1
  have H30 := Lib.hid h3
  clear hw1 hb hr hs ht h3 h
  by_cases hk : x0 = 0
  · subst hk
    have HFIN : Hid (MailFin xs st0 st1 ⟨0, [], [], [], [], [], 0⟩) := Lib.hid (by
      cases st0 with
      | error a => exact step_err H30.out
      | ok p =>
        rcases step_ok H30.out with ⟨a, hg0, e1⟩ | ⟨q0, hg0, e1⟩
        · exact MailFin.bad (by unfold Dec.mail Dec.bind; simp only [hg0]) e1
        · exact MailFin.good (by unfold Dec.mail Dec.bind; simp only [hg0, if_true]) e1)
    have hbx := HB1.out
    have hrx := HR1.out
    have g0 := hbx.cell 0
    have k0 := hrx.cell 0
    have l0 := hrx.frozen 0
    have g1 := hbx.cell 1
    have k1 := hrx.cell 1
    have l1 := hrx.frozen 1
    have g2 := hbx.cell 2
    have k2 := hrx.cell 2
    have l2 := hrx.frozen 2
    have g3 := hbx.cell 3
    have k3 := hrx.cell 3
    have l3 := hrx.frozen 3
    have g4 := hbx.cell 4
    have k4 := hrx.cell 4
    have l4 := hrx.frozen 4
    have g5 := hbx.cell 5
    have k5 := hrx.cell 5
    have l5 := hrx.frozen 5
    have g6 := hbx.cell 6
    have k6 := hrx.cell 6
    have l6 := hrx.frozen 6
    simp only [List.getElem?_toArray, List.getElem?_cons_zero, List.getElem?_cons_succ] at g0 k0 g1 k1 g2 k2 g3 k3 g4 k4 g5 k5 g6 k6
    obtain ⟨W, hW⟩ : ∃ W, W = (((((((w1.setCell ⟨w.heap.size, 0, none⟩ (.int .i64 0)).setCell ⟨w.heap.size, 1, none⟩ (.string ⟨#[]⟩)).setCell ⟨w.heap.size, 2, none⟩ (.string ⟨#[]⟩)).setCell ⟨w.heap.size, 3, none⟩ (.string ⟨#[]⟩)).setCell ⟨w.heap.size, 4, none⟩ (.string ⟨#[]⟩)).setCell ⟨w.heap.size, 5, none⟩ (.string ⟨#[]⟩)).setCell ⟨w.heap.size, 6, none⟩ (.int .i64 0)) := ⟨_, rfl⟩
    have HBW := Lib.hid (show Blk W w.heap.size 57 #[.int .i64 0, .string ⟨#[]⟩, .string ⟨#[]⟩, .string ⟨#[]⟩, .string ⟨#[]⟩, .string ⟨#[]⟩, .int .i64 0] by rw [hW]; exact (((((((HR1.out.set_ 0 (.int .i64 0)).set_ 1 (.string ⟨#[]⟩)).set_ 2 (.string ⟨#[]⟩)).set_ 3 (.string ⟨#[]⟩)).set_ 4 (.string ⟨#[]⟩)).set_ 5 (.string ⟨#[]⟩)).set_ 6 (.int .i64 0)))
    have HTW := Lib.hid (show Touch (· = br) w W by rw [hW]; exact (((((((HT1.out.setCell (p := ⟨w.heap.size, 0, none⟩) (.inl (Nat.le_refl _)) (.int .i64 0)).setCell (p := ⟨w.heap.size, 1, none⟩) (.inl (Nat.le_refl _)) (.string ⟨#[]⟩)).setCell (p := ⟨w.heap.size, 2, none⟩) (.inl (Nat.le_refl _)) (.string ⟨#[]⟩)).setCell (p := ⟨w.heap.size, 3, none⟩) (.inl (Nat.le_refl _)) (.string ⟨#[]⟩)).setCell (p := ⟨w.heap.size, 4, none⟩) (.inl (Nat.le_refl _)) (.string ⟨#[]⟩)).setCell (p := ⟨w.heap.size, 5, none⟩) (.inl (Nat.le_refl _)) (.string ⟨#[]⟩)).setCell (p := ⟨w.heap.size, 6, none⟩) (.inl (Nat.le_refl _)) (.int .i64 0)))
    have HSW := Lib.hid (show RdrSt W br A n c xs st1 by rw [hW]; exact (HSTEP.out _ _ _ _ _ (Nat.le_refl _) (HSTEP.out _ _ _ _ _ (Nat.le_refl _) (HSTEP.out _ _ _ _ _ (Nat.le_refl _) (HSTEP.out _ _ _ _ _ (Nat.le_refl _) (HSTEP.out _ _ _ _ _ (Nat.le_refl _) (HSTEP.out _ _ _ _ _ (Nat.le_refl _) (HSTEP.out _ _ _ _ _ (Nat.le_refl _) HS1.out))))))))
    rw [HW1.out] at hW g0 k0 l0 g1 k1 l1 g2 k2 l2 g3 k3 l3 g4 k4 l4 g5 k5 l5 g6 k6 l6
    have HW := Lib.hid hW
    clear hbx hrx hW
    go_wp2_with fail
    rw [← HW.out]
    have e0 := HBW.out.cell 0
    have e1 := HBW.out.cell 1
    have e2 := HBW.out.cell 2
    have e3 := HBW.out.cell 3
    have e4 := HBW.out.cell 4
    have e5 := HBW.out.cell 5
    have e6 := HBW.out.cell 6
    simp only [List.getElem?_toArray, List.getElem?_cons_zero, List.getElem?_cons_succ] at e0 e1 e2 e3 e4 e5 e6
    refine bodyPost_ret (v := mlV ⟨0, [], [], [], [], [], 0⟩) (by simp [mlV, results, Try.results92, go_sem, e0, e1, e2, e3, e4, e5, e6]) rfl ⟨_, _, rfl, HSW.out, HTW.out, HFIN.out⟩
  · have hkI : (x0 == 0) = false := by simp; exact hk
    go_wp2_with fail
    rw [← HW1.out]
    clear hc0 hf0
    clear hkI
    refine (rtext_any br A n c xs st1 w1 HS1.out).mono ?_
    intro e wa1 h
    obtain ⟨x1, st2, rfl, hs, ht, h3⟩ := h.cases
    have hb := HB1.out.touch ht (by omega)
    have hr := HR1.out.touch ht (by omega)
    have hc1 := hb.cell 1
    have hf1 := hb.frozen 1
    simp only [List.getElem?_toArray, List.getElem?_cons_zero, List.getElem?_cons_succ] at hc1
    obtain ⟨w2, hw2⟩ : ∃ w', w' = wa1.setCell ⟨w.heap.size + 1, 1, none⟩ (.string ⟨x1.toArray⟩) := ⟨_, rfl⟩
    have HB2 := Lib.hid (show Blk w2 (w.heap.size + 1) 57 #[.int .i64 x0, .string ⟨x1.toArray⟩, .string ⟨#[]⟩, .string ⟨#[]⟩, .string ⟨#[]⟩, .string ⟨#[]⟩, .int .i64 0] by rw [hw2]; exact hb.set_ 1 (.string ⟨x1.toArray⟩))
    have HR2 := Lib.hid (show Blk w2 w.heap.size 57 #[.int .i64 0, .string ⟨#[]⟩, .string ⟨#[]⟩, .string ⟨#[]⟩, .string ⟨#[]⟩, .string ⟨#[]⟩, .int .i64 0] by rw [hw2]; exact hr.far (p := ⟨w.heap.size + 1, 1, none⟩) (by simp) _)
    have HS2 := Lib.hid (show RdrSt w2 br A n c xs st2 by rw [hw2]; exact HSTEP.out _ _ _ _ _ (by omega) hs)
    have HT2 := Lib.hid (show Touch (· = br) w w2 by rw [hw2]; exact (HT1.out.trans ht fun _ _ h => h).setCell (p := ⟨w.heap.size + 1, 1, none⟩) (.inl (by simp)) _)
    have HW2 := Lib.hid hw2
    have H31 := Lib.hid h3
    clear hw2 hb hr hs ht h3 h
    go_wp2_with fail
    rw [← HW2.out]
    clear hc1 hf1
    refine (rtext_any br A n c xs st2 w2 HS2.out).mono ?_
    intro e wa2 h
    obtain ⟨x2, st3, rfl, hs, ht, h3⟩ := h.cases
    have hb := HB2.out.touch ht (by omega)
    have hr := HR2.out.touch ht (by omega)
    have hc2 := hb.cell 2
    have hf2 := hb.frozen 2
    simp only [List.getElem?_toArray, List.getElem?_cons_zero, List.getElem?_cons_succ] at hc2
    obtain ⟨w3, hw3⟩ : ∃ w', w' = wa2.setCell ⟨w.heap.size + 1, 2, none⟩ (.string ⟨x2.toArray⟩) := ⟨_, rfl⟩
    have HB3 := Lib.hid (show Blk w3 (w.heap.size + 1) 57 #[.int .i64 x0, .string ⟨x1.toArray⟩, .string ⟨x2.toArray⟩, .string ⟨#[]⟩, .string ⟨#[]⟩, .string ⟨#[]⟩, .int .i64 0] by rw [hw3]; exact hb.set_ 2 (.string ⟨x2.toArray⟩))
    have HR3 := Lib.hid (show Blk w3 w.heap.size 57 #[.int .i64 0, .string ⟨#[]⟩, .string ⟨#[]⟩, .string ⟨#[]⟩, .string ⟨#[]⟩, .string ⟨#[]⟩, .int .i64 0] by rw [hw3]; exact hr.far (p := ⟨w.heap.size + 1, 2, none⟩) (by simp) _)
    have HS3 := Lib.hid (show RdrSt w3 br A n c xs st3 by rw [hw3]; exact HSTEP.out _ _ _ _ _ (by omega) hs)
    have HT3 := Lib.hid (show Touch (· = br) w w3 by rw [hw3]; exact (HT2.out.trans ht fun _ _ h => h).setCell (p := ⟨w.heap.size + 1, 2, none⟩) (.inl (by simp)) _)
    have HW3 := Lib.hid hw3
    have H32 := Lib.hid h3
    clear hw3 hb hr hs ht h3 h
    go_wp2_with fail
    rw [← HW3.out]
    clear hc2 hf2
    refine (rtext_any br A n c xs st3 w3 HS3.out).mono ?_
    intro e wa3 h
    obtain ⟨x3, st4, rfl, hs, ht, h3⟩ := h.cases
    have hb := HB3.out.touch ht (by omega)
    have hr := HR3.out.touch ht (by omega)
    have hc3 := hb.cell 3
    have hf3 := hb.frozen 3
    simp only [List.getElem?_toArray, List.getElem?_cons_zero, List.getElem?_cons_succ] at hc3
    obtain ⟨w4, hw4⟩ : ∃ w', w' = wa3.setCell ⟨w.heap.size + 1, 3, none⟩ (.string ⟨x3.toArray⟩) := ⟨_, rfl⟩
    have HB4 := Lib.hid (show Blk w4 (w.heap.size + 1) 57 #[.int .i64 x0, .string ⟨x1.toArray⟩, .string ⟨x2.toArray⟩, .string ⟨x3.toArray⟩, .string ⟨#[]⟩, .string ⟨#[]⟩, .int .i64 0] by rw [hw4]; exact hb.set_ 3 (.string ⟨x3.toArray⟩))
    have HR4 := Lib.hid (show Blk w4 w.heap.size 57 #[.int .i64 0, .string ⟨#[]⟩, .string ⟨#[]⟩, .string ⟨#[]⟩, .string ⟨#[]⟩, .string ⟨#[]⟩, .int .i64 0] by rw [hw4]; exact hr.far (p := ⟨w.heap.size + 1, 3, none⟩) (by simp) _)
    have HS4 := Lib.hid (show RdrSt w4 br A n c xs st4 by rw [hw4]; exact HSTEP.out _ _ _ _ _ (by omega) hs)
    have HT4 := Lib.hid (show Touch (· = br) w w4 by rw [hw4]; exact (HT3.out.trans ht fun _ _ h => h).setCell (p := ⟨w.heap.size + 1, 3, none⟩) (.inl (by simp)) _)
    have HW4 := Lib.hid hw4
    have H33 := Lib.hid h3
    clear hw4 hb hr hs ht h3 h
    go_wp2_with fail
    rw [← HW4.out]
    clear hc3 hf3
    refine (rtext_any br A n c xs st4 w4 HS4.out).mono ?_
    intro e wa4 h
    obtain ⟨x4, st5, rfl, hs, ht, h3⟩ := h.cases
    have hb := HB4.out.touch ht (by omega)
    have hr := HR4.out.touch ht (by omega)
    have hc4 := hb.cell 4
    have hf4 := hb.frozen 4
    simp only [List.getElem?_toArray, List.getElem?_cons_zero, List.getElem?_cons_succ] at hc4
    obtain ⟨w5, hw5⟩ : ∃ w', w' = wa4.setCell ⟨w.heap.size + 1, 4, none⟩ (.string ⟨x4.toArray⟩) := ⟨_, rfl⟩
    have HB5 := Lib.hid (show Blk w5 (w.heap.size + 1) 57 #[.int .i64 x0, .string ⟨x1.toArray⟩, .string ⟨x2.toArray⟩, .string ⟨x3.toArray⟩, .string ⟨x4.toArray⟩, .string ⟨#[]⟩, .int .i64 0] by rw [hw5]; exact hb.set_ 4 (.string ⟨x4.toArray⟩))
    have HR5 := Lib.hid (show Blk w5 w.heap.size 57 #[.int .i64 0, .string ⟨#[]⟩, .string ⟨#[]⟩, .string ⟨#[]⟩, .string ⟨#[]⟩, .string ⟨#[]⟩, .int .i64 0] by rw [hw5]; exact hr.far (p := ⟨w.heap.size + 1, 4, none⟩) (by simp) _)
    have HS5 := Lib.hid (show RdrSt w5 br A n c xs st5 by rw [hw5]; exact HSTEP.out _ _ _ _ _ (by omega) hs)
    have HT5 := Lib.hid (show Touch (· = br) w w5 by rw [hw5]; exact (HT4.out.trans ht fun _ _ h => h).setCell (p := ⟨w.heap.size + 1, 4, none⟩) (.inl (by simp)) _)
    have HW5 := Lib.hid hw5
    have H34 := Lib.hid h3
    clear hw5 hb hr hs ht h3 h
    go_wp2_with fail
    rw [← HW5.out]
    clear hc4 hf4
    refine (rtext_any br A n c xs st5 w5 HS5.out).mono ?_
    intro e wa5 h
    obtain ⟨x5, st6, rfl, hs, ht, h3⟩ := h.cases
    have hb := HB5.out.touch ht (by omega)
    have hr := HR5.out.touch ht (by omega)
    have hc5 := hb.cell 5
    have hf5 := hb.frozen 5
    simp only [List.getElem?_toArray, List.getElem?_cons_zero, List.getElem?_cons_succ] at hc5
    obtain ⟨w6, hw6⟩ : ∃ w', w' = wa5.setCell ⟨w.heap.size + 1, 5, none⟩ (.string ⟨x5.toArray⟩) := ⟨_, rfl⟩
    have HB6 := Lib.hid (show Blk w6 (w.heap.size + 1) 57 #[.int .i64 x0, .string ⟨x1.toArray⟩, .string ⟨x2.toArray⟩, .string ⟨x3.toArray⟩, .string ⟨x4.toArray⟩, .string ⟨x5.toArray⟩, .int .i64 0] by rw [hw6]; exact hb.set_ 5 (.string ⟨x5.toArray⟩))
    have HR6 := Lib.hid (show Blk w6 w.heap.size 57 #[.int .i64 0, .string ⟨#[]⟩, .string ⟨#[]⟩, .string ⟨#[]⟩, .string ⟨#[]⟩, .string ⟨#[]⟩, .int .i64 0] by rw [hw6]; exact hr.far (p := ⟨w.heap.size + 1, 5, none⟩) (by simp) _)
    have HS6 := Lib.hid (show RdrSt w6 br A n c xs st6 by rw [hw6]; exact HSTEP.out _ _ _ _ _ (by omega) hs)
    have HT6 := Lib.hid (show Touch (· = br) w w6 by rw [hw6]; exact (HT5.out.trans ht fun _ _ h => h).setCell (p := ⟨w.heap.size + 1, 5, none⟩) (.inl (by simp)) _)
    have HW6 := Lib.hid hw6
    have H35 := Lib.hid h3
    clear hw6 hb hr hs ht h3 h
    go_wp2_with fail
    rw [← HW6.out]
    clear hc5 hf5
    refine (rnumber_any br A n c xs st6 0 4 w6 HS6.out).mono ?_
    intro e wa6 h
    obtain ⟨x6, st7, rfl, hs, ht, h3⟩ := h.cases
    have hb := HB6.out.touch ht (by omega)
    have hr := HR6.out.touch ht (by omega)
    have hc6 := hb.cell 6
    have hf6 := hb.frozen 6
    simp only [List.getElem?_toArray, List.getElem?_cons_zero, List.getElem?_cons_succ] at hc6
    obtain ⟨w7, hw7⟩ : ∃ w', w' = wa6.setCell ⟨w.heap.size + 1, 6, none⟩ (.int .i64 x6) := ⟨_, rfl⟩
    have HB7 := Lib.hid (show Blk w7 (w.heap.size + 1) 57 #[.int .i64 x0, .string ⟨x1.toArray⟩, .string ⟨x2.toArray⟩, .string ⟨x3.toArray⟩, .string ⟨x4.toArray⟩, .string ⟨x5.toArray⟩, .int .i64 x6] by rw [hw7]; exact hb.set_ 6 (.int .i64 x6))
    have HR7 := Lib.hid (show Blk w7 w.heap.size 57 #[.int .i64 0, .string ⟨#[]⟩, .string ⟨#[]⟩, .string ⟨#[]⟩, .string ⟨#[]⟩, .string ⟨#[]⟩, .int .i64 0] by rw [hw7]; exact hr.far (p := ⟨w.heap.size + 1, 6, none⟩) (by simp) _)
    have HS7 := Lib.hid (show RdrSt w7 br A n c xs st7 by rw [hw7]; exact HSTEP.out _ _ _ _ _ (by omega) hs)
    have HT7 := Lib.hid (show Touch (· = br) w w7 by rw [hw7]; exact (HT6.out.trans ht fun _ _ h => h).setCell (p := ⟨w.heap.size + 1, 6, none⟩) (.inl (by simp)) _)
    have HW7 := Lib.hid hw7
    have H36 := Lib.hid h3
    clear hw7 hb hr hs ht h3 h
    have HFIN : Hid (MailFin xs st0 st7 ⟨x0, x1, x2, x3, x4, x5, x6⟩) := Lib.hid (by
      cases st0 with
      | error a =>
        have e1 := step_err H30.out
        subst e1
        have e2 := step_err H31.out
        subst e2
        have e3 := step_err H32.out
        subst e3
        have e4 := step_err H33.out
        subst e4
        have e5 := step_err H34.out
        subst e5
        have e6 := step_err H35.out
        subst e6
        have e7 := step_err H36.out
        subst e7
        rfl
      | ok p =>
        rcases step_ok H30.out with ⟨a, hg0, e1⟩ | ⟨q0, hg0, e1⟩
        · subst e1
          have e2 := step_err H31.out
          subst e2
          have e3 := step_err H32.out
          subst e3
          have e4 := step_err H33.out
          subst e4
          have e5 := step_err H34.out
          subst e5
          have e6 := step_err H35.out
          subst e6
          have e7 := step_err H36.out
          subst e7
          exact MailFin.bad (by unfold Dec.mail Dec.bind; simp only [hg0]) rfl
        · subst e1
          rcases step_ok H31.out with ⟨a, hg1, e2⟩ | ⟨q1, hg1, e2⟩
          · subst e2
            have e3 := step_err H32.out
            subst e3
            have e4 := step_err H33.out
            subst e4
            have e5 := step_err H34.out
            subst e5
            have e6 := step_err H35.out
            subst e6
            have e7 := step_err H36.out
            subst e7
            exact MailFin.bad (by unfold Dec.mail Dec.bind; simp only [hg0, if_neg hk, hg1]) rfl
          · subst e2
            rcases step_ok H32.out with ⟨a, hg2, e3⟩ | ⟨q2, hg2, e3⟩
            · subst e3
              have e4 := step_err H33.out
              subst e4
              have e5 := step_err H34.out
              subst e5
              have e6 := step_err H35.out
              subst e6
              have e7 := step_err H36.out
              subst e7
              exact MailFin.bad (by unfold Dec.mail Dec.bind; simp only [hg0, if_neg hk, hg1, hg2]) rfl
            · subst e3
              rcases step_ok H33.out with ⟨a, hg3, e4⟩ | ⟨q3, hg3, e4⟩
              · subst e4
                have e5 := step_err H34.out
                subst e5
                have e6 := step_err H35.out
                subst e6
                have e7 := step_err H36.out
                subst e7
                exact MailFin.bad (by unfold Dec.mail Dec.bind; simp only [hg0, if_neg hk, hg1, hg2, hg3]) rfl
              · subst e4
                rcases step_ok H34.out with ⟨a, hg4, e5⟩ | ⟨q4, hg4, e5⟩
                · subst e5
                  have e6 := step_err H35.out
                  subst e6
                  have e7 := step_err H36.out
                  subst e7
                  exact MailFin.bad (by unfold Dec.mail Dec.bind; simp only [hg0, if_neg hk, hg1, hg2, hg3, hg4]) rfl
                · subst e5
                  rcases step_ok H35.out with ⟨a, hg5, e6⟩ | ⟨q5, hg5, e6⟩
                  · subst e6
                    have e7 := step_err H36.out
                    subst e7
                    exact MailFin.bad (by unfold Dec.mail Dec.bind; simp only [hg0, if_neg hk, hg1, hg2, hg3, hg4, hg5]) rfl
                  · subst e6
                    rcases step_ok H36.out with ⟨a, hg6, e7⟩ | ⟨q6, hg6, e7⟩
                    · subst e7
                      exact MailFin.bad (by unfold Dec.mail Dec.bind; simp only [hg0, if_neg hk, hg1, hg2, hg3, hg4, hg5, hg6]) rfl
                    · subst e7
                      exact MailFin.good (by unfold Dec.mail Dec.bind; simp only [hg0, if_neg hk, hg1, hg2, hg3, hg4, hg5, hg6]) rfl)
    have hbx := HB7.out
    have hrx := HR7.out
    have g0 := hbx.cell 0
    have k0 := hrx.cell 0
    have l0 := hrx.frozen 0
    have g1 := hbx.cell 1
    have k1 := hrx.cell 1
    have l1 := hrx.frozen 1
    have g2 := hbx.cell 2
    have k2 := hrx.cell 2
    have l2 := hrx.frozen 2
    have g3 := hbx.cell 3
    have k3 := hrx.cell 3
    have l3 := hrx.frozen 3
    have g4 := hbx.cell 4
    have k4 := hrx.cell 4
    have l4 := hrx.frozen 4
    have g5 := hbx.cell 5
    have k5 := hrx.cell 5
    have l5 := hrx.frozen 5
    have g6 := hbx.cell 6
    have k6 := hrx.cell 6
    have l6 := hrx.frozen 6
    simp only [List.getElem?_toArray, List.getElem?_cons_zero, List.getElem?_cons_succ] at g0 k0 g1 k1 g2 k2 g3 k3 g4 k4 g5 k5 g6 k6
    obtain ⟨W, hW⟩ : ∃ W, W = (((((((w7.setCell ⟨w.heap.size, 0, none⟩ (.int .i64 x0)).setCell ⟨w.heap.size, 1, none⟩ (.string ⟨x1.toArray⟩)).setCell ⟨w.heap.size, 2, none⟩ (.string ⟨x2.toArray⟩)).setCell ⟨w.heap.size, 3, none⟩ (.string ⟨x3.toArray⟩)).setCell ⟨w.heap.size, 4, none⟩ (.string ⟨x4.toArray⟩)).setCell ⟨w.heap.size, 5, none⟩ (.string ⟨x5.toArray⟩)).setCell ⟨w.heap.size, 6, none⟩ (.int .i64 x6)) := ⟨_, rfl⟩
    have HBW := Lib.hid (show Blk W w.heap.size 57 #[.int .i64 x0, .string ⟨x1.toArray⟩, .string ⟨x2.toArray⟩, .string ⟨x3.toArray⟩, .string ⟨x4.toArray⟩, .string ⟨x5.toArray⟩, .int .i64 x6] by rw [hW]; exact (((((((HR7.out.set_ 0 (.int .i64 x0)).set_ 1 (.string ⟨x1.toArray⟩)).set_ 2 (.string ⟨x2.toArray⟩)).set_ 3 (.string ⟨x3.toArray⟩)).set_ 4 (.string ⟨x4.toArray⟩)).set_ 5 (.string ⟨x5.toArray⟩)).set_ 6 (.int .i64 x6)))
    have HTW := Lib.hid (show Touch (· = br) w W by rw [hW]; exact (((((((HT7.out.setCell (p := ⟨w.heap.size, 0, none⟩) (.inl (Nat.le_refl _)) (.int .i64 x0)).setCell (p := ⟨w.heap.size, 1, none⟩) (.inl (Nat.le_refl _)) (.string ⟨x1.toArray⟩)).setCell (p := ⟨w.heap.size, 2, none⟩) (.inl (Nat.le_refl _)) (.string ⟨x2.toArray⟩)).setCell (p := ⟨w.heap.size, 3, none⟩) (.inl (Nat.le_refl _)) (.string ⟨x3.toArray⟩)).setCell (p := ⟨w.heap.size, 4, none⟩) (.inl (Nat.le_refl _)) (.string ⟨x4.toArray⟩)).setCell (p := ⟨w.heap.size, 5, none⟩) (.inl (Nat.le_refl _)) (.string ⟨x5.toArray⟩)).setCell (p := ⟨w.heap.size, 6, none⟩) (.inl (Nat.le_refl _)) (.int .i64 x6)))
    have HSW := Lib.hid (show RdrSt W br A n c xs st7 by rw [hW]; exact (HSTEP.out _ _ _ _ _ (Nat.le_refl _) (HSTEP.out _ _ _ _ _ (Nat.le_refl _) (HSTEP.out _ _ _ _ _ (Nat.le_refl _) (HSTEP.out _ _ _ _ _ (Nat.le_refl _) (HSTEP.out _ _ _ _ _ (Nat.le_refl _) (HSTEP.out _ _ _ _ _ (Nat.le_refl _) (HSTEP.out _ _ _ _ _ (Nat.le_refl _) HS7.out))))))))
    rw [HW7.out] at hW g0 k0 l0 g1 k1 l1 g2 k2 l2 g3 k3 l3 g4 k4 l4 g5 k5 l5 g6 k6 l6
    have HW := Lib.hid hW
    clear hbx hrx hW
    go_wp2_with fail
    rw [← HW.out]
    have e0 := HBW.out.cell 0
    have e1 := HBW.out.cell 1
    have e2 := HBW.out.cell 2
    have e3 := HBW.out.cell 3
    have e4 := HBW.out.cell 4
    have e5 := HBW.out.cell 5
    have e6 := HBW.out.cell 6
    simp only [List.getElem?_toArray, List.getElem?_cons_zero, List.getElem?_cons_succ] at e0 e1 e2 e3 e4 e5 e6
    refine bodyPost_ret (v := mlV ⟨x0, x1, x2, x3, x4, x5, x6⟩) (by simp [mlV, results, Try.results92, go_sem, e0, e1, e2, e3, e4, e5, e6]) rfl ⟨_, _, rfl, HSW.out, HTW.out, HFIN.out⟩
theorem mail_err {xs : List UInt8} {a : Nat} {st' : Except Nat Nat} {m : Dec.Ml} (h : MailFin xs (.error a) st' m) : st' = .error a := h
theorem mail_ok {xs : List UInt8} {p : Nat} {st' : Except Nat Nat} {m : Dec.Ml} (h : MailFin xs (.ok p) st' m) : (∃ a, Dec.mail xs p = .error a ∧ st' = .error a) ∨ (∃ q, Dec.mail xs p = .ok (m, q) ∧ st' = .ok q) := by
  unfold MailFin at h
  cases hm : Dec.mail xs p with
  | error a =>
    simp only [hm] at h
    exact .inl ⟨a, rfl, h⟩
  | ok yq =>
    obtain ⟨y, q⟩ := yq
    simp only [hm] at h
    obtain ⟨rfl, h⟩ := h
    exact .inr ⟨q, rfl, h⟩
end Go.Proofs.Ytdfhdanfigpbpaa
