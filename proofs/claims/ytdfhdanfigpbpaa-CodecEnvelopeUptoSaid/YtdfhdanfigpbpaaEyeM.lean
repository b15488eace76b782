/- The contract of the codec's eye.mail (printed by gen_email.py). Conditions stand with it. -/
import Derived.Test.YtdfhdanfigpbpaaMlv
import Derived.Test.YtdfhdanfigpbpaaEye2
import Derived.LoopN
namespace Go.Proofs.Ytdfhdanfigpbpaa
open Go.RowKit

set_option maxRecDepth 100000 in
set_option maxHeartbeats 4000000 in
theorem email_any (be : Nat) (A : Option Addr) (n c : Nat) (xs : List UInt8) (p0 : Nat) (w : World) (he : Eye w be A n c xs p0) :
    Calls Try.prog 91 #[.pointer (some ⟨be, 0, none⟩)] w (EyeEnd (α := Dec.Ml) mlV be A n c xs w (Dec.mail xs p0)) := by
  obtain ⟨w0, hw0⟩ : ∃ w0, w0 = w.alloc (.cells #[.int .i64 0, .string ⟨#[]⟩, .string ⟨#[]⟩, .string ⟨#[]⟩, .string ⟨#[]⟩, .string ⟨#[]⟩, .int .i64 0] 57) := ⟨_, rfl⟩
  have hT0 : Fresh w w0 := by rw [hw0]; exact (Touch.refl _ w).alloc _
  have hB0 : Blk w0 w.heap.size 57 #[.int .i64 0, .string ⟨#[]⟩, .string ⟨#[]⟩, .string ⟨#[]⟩, .string ⟨#[]⟩, .string ⟨#[]⟩, .int .i64 0] := by rw [hw0]; exact Blk.new _ _ _
  have hlt := he.1.lt
  have HE0 := Lib.hid (show Eye w0 be A n c xs p0 from ⟨he.1.touch hT0 id, he.2.1.fresh hT0, he.2.2.1, he.2.2.2⟩)
  have HB0 := Lib.hid hB0
  have HT0 := Lib.hid (show Touch (· = be) w w0 from hT0.mono fun _ _ h => h.elim)
  have HW0 := Lib.hid hw0
  have HN := Lib.hid he.2.2.2
  clear hB0 hT0 hw0 he
  have hstep : ∀ (wa : World) (i : Nat) (u : Value) (q : Nat), Eye wa be A n c xs q → Eye (wa.setCell ⟨w.heap.size, i, none⟩ u) be A n c xs q := by
    intro wa i u q h
    refine ⟨h.1.far (p := ⟨w.heap.size, i, none⟩) (by simp; omega) _, h.2.1.keep fun h0 p v hp ⟨a, ha, e⟩ => ?_, h.2.2.1, h.2.2.2⟩
    have := HN.out a ha h0
    rw [World.cell?_setCell_other _ _ _ _ (by intro h9; rw [← h9] at e; simp at e; omega)]
    exact hp
  have HSTEP := Lib.hid hstep; clear hstep
  go_enter Try.func91, Try.ntmps91
  go_wp2_with fail
  rw [← HW0.out]
  refine (enumber_any be A n c xs p0 0 4 w0 HE0.out).mono ?_
  intro e wa0 h
  rcases h.cases with ⟨a, hr, rfl, ht⟩ | ⟨x0, p1, hr, rfl, he, ht⟩
  · exact ⟨rfl, EyeEnd.bad (show Dec.mail xs p0 = .error a by unfold Dec.mail Dec.bind; simp only [hr]) (HT0.out.trans ht fun _ _ h => h)⟩
  have hb := HB0.out.touch ht (by omega)
  have hc0 := hb.cell 0
  have hf0 := hb.frozen 0
  simp only [List.getElem?_toArray, List.getElem?_cons_zero] at hc0
  have HR0 := Lib.hid hr
  obtain ⟨w1, hw1⟩ : ∃ w', w' = wa0.setCell ⟨w.heap.size, 0, none⟩ (.int .i64 x0) := ⟨_, rfl⟩
  have HB1 := Lib.hid (show Blk w1 w.heap.size 57 #[.int .i64 x0, .string ⟨#[]⟩, .string ⟨#[]⟩, .string ⟨#[]⟩, .string ⟨#[]⟩, .string ⟨#[]⟩, .int .i64 0] by rw [hw1]; exact hb.set_ 0 (.int .i64 x0))
  have HE1 := Lib.hid (show Eye w1 be A n c xs p1 by rw [hw1]; exact HSTEP.out _ _ _ _ he)
  have HT1 := Lib.hid (show Touch (· = be) w w1 by rw [hw1]; exact (HT0.out.trans ht fun _ _ h => h).setCell (p := ⟨w.heap.size, 0, none⟩) (.inl (Nat.le_refl _)) _)
  have HW1 := Lib.hid hw1
  clear hw1 hb hr h he ht
  by_cases hk : x0 = 0
  · subst hk
    have hbx := HB1.out
    have g0 := hbx.cell 0
    have l0 := hbx.frozen 0
    have g1 := hbx.cell 1
    have l1 := hbx.frozen 1
    have g2 := hbx.cell 2
    have l2 := hbx.frozen 2
    have g3 := hbx.cell 3
    have l3 := hbx.frozen 3
    have g4 := hbx.cell 4
    have l4 := hbx.frozen 4
    have g5 := hbx.cell 5
    have l5 := hbx.frozen 5
    have g6 := hbx.cell 6
    have l6 := hbx.frozen 6
    simp only [List.getElem?_toArray, List.getElem?_cons_zero, List.getElem?_cons_succ] at g0 g1 g2 g3 g4 g5 g6
    obtain ⟨W, hW⟩ : ∃ W, W = (((((((w1.setCell ⟨w.heap.size, 0, none⟩ (.int .i64 0)).setCell ⟨w.heap.size, 1, none⟩ (.string ⟨#[]⟩)).setCell ⟨w.heap.size, 2, none⟩ (.string ⟨#[]⟩)).setCell ⟨w.heap.size, 3, none⟩ (.string ⟨#[]⟩)).setCell ⟨w.heap.size, 4, none⟩ (.string ⟨#[]⟩)).setCell ⟨w.heap.size, 5, none⟩ (.string ⟨#[]⟩)).setCell ⟨w.heap.size, 6, none⟩ (.int .i64 0)) := ⟨_, rfl⟩
    have HBW := Lib.hid (show Blk W w.heap.size 57 #[.int .i64 0, .string ⟨#[]⟩, .string ⟨#[]⟩, .string ⟨#[]⟩, .string ⟨#[]⟩, .string ⟨#[]⟩, .int .i64 0] by rw [hW]; exact (((((((HB1.out.set_ 0 (.int .i64 0)).set_ 1 (.string ⟨#[]⟩)).set_ 2 (.string ⟨#[]⟩)).set_ 3 (.string ⟨#[]⟩)).set_ 4 (.string ⟨#[]⟩)).set_ 5 (.string ⟨#[]⟩)).set_ 6 (.int .i64 0)))
    have HEW := Lib.hid (show Eye W be A n c xs p1 by rw [hW]; exact (HSTEP.out _ _ _ _ (HSTEP.out _ _ _ _ (HSTEP.out _ _ _ _ (HSTEP.out _ _ _ _ (HSTEP.out _ _ _ _ (HSTEP.out _ _ _ _ (HSTEP.out _ _ _ _ HE1.out))))))))
    have HTW := Lib.hid (show Touch (· = be) w W by rw [hW]; exact (((((((HT1.out.setCell (p := ⟨w.heap.size, 0, none⟩) (.inl (Nat.le_refl _)) (.int .i64 0)).setCell (p := ⟨w.heap.size, 1, none⟩) (.inl (Nat.le_refl _)) (.string ⟨#[]⟩)).setCell (p := ⟨w.heap.size, 2, none⟩) (.inl (Nat.le_refl _)) (.string ⟨#[]⟩)).setCell (p := ⟨w.heap.size, 3, none⟩) (.inl (Nat.le_refl _)) (.string ⟨#[]⟩)).setCell (p := ⟨w.heap.size, 4, none⟩) (.inl (Nat.le_refl _)) (.string ⟨#[]⟩)).setCell (p := ⟨w.heap.size, 5, none⟩) (.inl (Nat.le_refl _)) (.string ⟨#[]⟩)).setCell (p := ⟨w.heap.size, 6, none⟩) (.inl (Nat.le_refl _)) (.int .i64 0)))
    rw [HW1.out] at hW g0 l0 g1 l1 g2 l2 g3 l3 g4 l4 g5 l5 g6 l6
    have HW := Lib.hid hW
    clear hbx hW
    go_wp2_with fail
    rw [← HW.out]
    have e0 := HBW.out.cell 0
    have e1 := HBW.out.cell 1
    have e2 := HBW.out.cell 2
    have e3 := HBW.out.cell 3
    have e4 := HBW.out.cell 4
    have e5 := HBW.out.cell 5
    have e6 := HBW.out.cell 6
    simp only [List.getElem?_toArray, List.getElem?_cons_zero, List.getElem?_cons_succ] at e0 e1 e2 e3 e4 e5 e6
    refine bodyPost_ret (v := mlV ⟨0, [], [], [], [], [], 0⟩) (by simp [mlV, results, Try.results91, go_sem, e0, e1, e2, e3, e4, e5, e6]) rfl (EyeEnd.good (f := mlV) (show Dec.mail xs p0 = .ok (⟨0, [], [], [], [], [], 0⟩, p1) by unfold Dec.mail Dec.bind; simp only [HR0.out, if_true]) HEW.out HTW.out)
  · have hkI : (x0 == 0) = false := by simp; exact hk
    obtain ⟨S0, hS0⟩ : ∃ S0, S0 = w1.alloc (.cells #[.pointer (some ⟨w.heap.size, 1, none⟩), .pointer (some ⟨w.heap.size, 2, none⟩), .pointer (some ⟨w.heap.size, 3, none⟩), .pointer (some ⟨w.heap.size, 4, none⟩), .pointer (some ⟨w.heap.size, 5, none⟩)] 131) := ⟨_, rfl⟩
    obtain ⟨sb, hsb⟩ : ∃ sb, sb = wa0.heap.size := ⟨_, rfl⟩
    have hsb1 : w1.heap.size = sb := by rw [HW1.out, hsb]; simp
    have hbe1 := HE1.out.1.lt
    have hm1 := HB1.out.lt
    have HL1 := Lib.hid (show Blk S0 sb 131 #[.pointer (some ⟨w.heap.size, 1, none⟩), .pointer (some ⟨w.heap.size, 2, none⟩), .pointer (some ⟨w.heap.size, 3, none⟩), .pointer (some ⟨w.heap.size, 4, none⟩), .pointer (some ⟨w.heap.size, 5, none⟩)] by rw [hS0, ← hsb1]; exact Blk.new _ _ _)
    have HBS := Lib.hid (show Blk S0 w.heap.size 57 #[.int .i64 x0, .string ⟨#[]⟩, .string ⟨#[]⟩, .string ⟨#[]⟩, .string ⟨#[]⟩, .string ⟨#[]⟩, .int .i64 0] by rw [hS0]; exact HB1.out.alloc _)
    have HES := Lib.hid (show Eye S0 be A n c xs p1 by rw [hS0]; exact ⟨HE1.out.1.alloc _, HE1.out.2.1.alloc _, HE1.out.2.2.1, HE1.out.2.2.2⟩)
    have HTS := Lib.hid (show Touch (· = be) w S0 by rw [hS0]; exact HT1.out.alloc _)
    have hne1 : sb ≠ be := by omega
    have hne2 : sb ≠ w.heap.size := by omega
    have HSB := Lib.hid hsb
    rw [HW1.out] at hS0
    have HS0 := Lib.hid hS0
    clear hS0 hsb
    go_wp2_with fail
    rw [← HS0.out, ← HSB.out]
    clear hc0 hf0 hkI
    refine wp_loop_rounds 6 ?_
    rw [rounds_succ]
    have hlc := HL1.out.cell 0
    simp only [List.getElem?_toArray, List.getElem?_cons_zero] at hlc
    go_wp2_with fail
    clear hlc
    refine (etext_any be A n c xs p1 S0 HES.out).mono ?_
    intro e wa1 h
    rcases h.cases with ⟨a, hr, rfl, ht⟩ | ⟨x1, p2, hr, rfl, he, ht⟩
    · exact ⟨rfl, EyeEnd.bad (show Dec.mail xs p0 = .error a by unfold Dec.mail Dec.bind; simp only [HR0.out, if_neg hk]; simp only [hr]) (HTS.out.trans ht fun _ _ h => h)⟩
    have hb := HBS.out.touch ht (by omega)
    have hl := HL1.out.touch ht (by omega)
    have hc := hb.cell 1
    have hf := hb.frozen 1
    simp only [List.getElem?_toArray, List.getElem?_cons_zero, List.getElem?_cons_succ] at hc
    have HR1 := Lib.hid hr
    obtain ⟨w2, hw2⟩ : ∃ w', w' = wa1.setCell ⟨w.heap.size, 1, none⟩ (.string ⟨x1.toArray⟩) := ⟨_, rfl⟩
    have HB2 := Lib.hid (show Blk w2 w.heap.size 57 #[.int .i64 x0, .string ⟨x1.toArray⟩, .string ⟨#[]⟩, .string ⟨#[]⟩, .string ⟨#[]⟩, .string ⟨#[]⟩, .int .i64 0] by rw [hw2]; exact hb.set_ 1 (.string ⟨x1.toArray⟩))
    have HE2 := Lib.hid (show Eye w2 be A n c xs p2 by rw [hw2]; exact HSTEP.out _ _ _ _ he)
    have HT2 := Lib.hid (show Touch (· = be) w w2 by rw [hw2]; exact (HTS.out.trans ht fun _ _ h => h).setCell (p := ⟨w.heap.size, 1, none⟩) (.inl (Nat.le_refl _)) _)
    have HL2 := Lib.hid (show Blk w2 sb 131 #[.pointer (some ⟨w.heap.size, 1, none⟩), .pointer (some ⟨w.heap.size, 2, none⟩), .pointer (some ⟨w.heap.size, 3, none⟩), .pointer (some ⟨w.heap.size, 4, none⟩), .pointer (some ⟨w.heap.size, 5, none⟩)] by rw [hw2]; exact hl.far (p := ⟨w.heap.size, 1, none⟩) (by simp; omega) _)
    have HW2 := Lib.hid hw2
    clear hw2 hb hl hr h he ht
    go_wp2_with fail
    rw [← HW2.out]
    clear hc hf
    rw [rounds_succ]
    have hlc := HL2.out.cell 1
    simp only [List.getElem?_toArray, List.getElem?_cons_zero, List.getElem?_cons_succ] at hlc
    go_wp2_with fail
    clear hlc
    refine (etext_any be A n c xs p2 w2 HE2.out).mono ?_
    intro e wa2 h
    rcases h.cases with ⟨a, hr, rfl, ht⟩ | ⟨x2, p3, hr, rfl, he, ht⟩
    · exact ⟨rfl, EyeEnd.bad (show Dec.mail xs p0 = .error a by unfold Dec.mail Dec.bind; simp only [HR0.out, if_neg hk]; simp only [HR1.out]; simp only [hr]) (HT2.out.trans ht fun _ _ h => h)⟩
    have hb := HB2.out.touch ht (by omega)
    have hl := HL2.out.touch ht (by omega)
    have hc := hb.cell 2
    have hf := hb.frozen 2
    simp only [List.getElem?_toArray, List.getElem?_cons_zero, List.getElem?_cons_succ] at hc
    have HR2 := Lib.hid hr
    obtain ⟨w3, hw3⟩ : ∃ w', w' = wa2.setCell ⟨w.heap.size, 2, none⟩ (.string ⟨x2.toArray⟩) := ⟨_, rfl⟩
    have HB3 := Lib.hid (show Blk w3 w.heap.size 57 #[.int .i64 x0, .string ⟨x1.toArray⟩, .string ⟨x2.toArray⟩, .string ⟨#[]⟩, .string ⟨#[]⟩, .string ⟨#[]⟩, .int .i64 0] by rw [hw3]; exact hb.set_ 2 (.string ⟨x2.toArray⟩))
    have HE3 := Lib.hid (show Eye w3 be A n c xs p3 by rw [hw3]; exact HSTEP.out _ _ _ _ he)
    have HT3 := Lib.hid (show Touch (· = be) w w3 by rw [hw3]; exact (HT2.out.trans ht fun _ _ h => h).setCell (p := ⟨w.heap.size, 2, none⟩) (.inl (Nat.le_refl _)) _)
    have HL3 := Lib.hid (show Blk w3 sb 131 #[.pointer (some ⟨w.heap.size, 1, none⟩), .pointer (some ⟨w.heap.size, 2, none⟩), .pointer (some ⟨w.heap.size, 3, none⟩), .pointer (some ⟨w.heap.size, 4, none⟩), .pointer (some ⟨w.heap.size, 5, none⟩)] by rw [hw3]; exact hl.far (p := ⟨w.heap.size, 2, none⟩) (by simp; omega) _)
    have HW3 := Lib.hid hw3
    clear hw3 hb hl hr h he ht
    go_wp2_with fail
    rw [← HW3.out]
    clear hc hf
    rw [rounds_succ]
    have hlc := HL3.out.cell 2
    simp only [List.getElem?_toArray, List.getElem?_cons_zero, List.getElem?_cons_succ] at hlc
    go_wp2_with fail
    clear hlc
    refine (etext_any be A n c xs p3 w3 HE3.out).mono ?_
    intro e wa3 h
    rcases h.cases with ⟨a, hr, rfl, ht⟩ | ⟨x3, p4, hr, rfl, he, ht⟩
    · exact ⟨rfl, EyeEnd.bad (show Dec.mail xs p0 = .error a by unfold Dec.mail Dec.bind; simp only [HR0.out, if_neg hk]; simp only [HR1.out]; simp only [HR2.out]; simp only [hr]) (HT3.out.trans ht fun _ _ h => h)⟩
    have hb := HB3.out.touch ht (by omega)
    have hl := HL3.out.touch ht (by omega)
    have hc := hb.cell 3
    have hf := hb.frozen 3
    simp only [List.getElem?_toArray, List.getElem?_cons_zero, List.getElem?_cons_succ] at hc
    have HR3 := Lib.hid hr
    obtain ⟨w4, hw4⟩ : ∃ w', w' = wa3.setCell ⟨w.heap.size, 3, none⟩ (.string ⟨x3.toArray⟩) := ⟨_, rfl⟩
    have HB4 := Lib.hid (show Blk w4 w.heap.size 57 #[.int .i64 x0, .string ⟨x1.toArray⟩, .string ⟨x2.toArray⟩, .string ⟨x3.toArray⟩, .string ⟨#[]⟩, .string ⟨#[]⟩, .int .i64 0] by rw [hw4]; exact hb.set_ 3 (.string ⟨x3.toArray⟩))
    have HE4 := Lib.hid (show Eye w4 be A n c xs p4 by rw [hw4]; exact HSTEP.out _ _ _ _ he)
    have HT4 := Lib.hid (show Touch (· = be) w w4 by rw [hw4]; exact (HT3.out.trans ht fun _ _ h => h).setCell (p := ⟨w.heap.size, 3, none⟩) (.inl (Nat.le_refl _)) _)
    have HL4 := Lib.hid (show Blk w4 sb 131 #[.pointer (some ⟨w.heap.size, 1, none⟩), .pointer (some ⟨w.heap.size, 2, none⟩), .pointer (some ⟨w.heap.size, 3, none⟩), .pointer (some ⟨w.heap.size, 4, none⟩), .pointer (some ⟨w.heap.size, 5, none⟩)] by rw [hw4]; exact hl.far (p := ⟨w.heap.size, 3, none⟩) (by simp; omega) _)
    have HW4 := Lib.hid hw4
    clear hw4 hb hl hr h he ht
    go_wp2_with fail
    rw [← HW4.out]
    clear hc hf
    rw [rounds_succ]
    have hlc := HL4.out.cell 3
    simp only [List.getElem?_toArray, List.getElem?_cons_zero, List.getElem?_cons_succ] at hlc
    go_wp2_with fail
    clear hlc
    refine (etext_any be A n c xs p4 w4 HE4.out).mono ?_
    intro e wa4 h
    rcases h.cases with ⟨a, hr, rfl, ht⟩ | ⟨x4, p5, hr, rfl, he, ht⟩
    · exact ⟨rfl, EyeEnd.bad (show Dec.mail xs p0 = .error a by unfold Dec.mail Dec.bind; simp only [HR0.out, if_neg hk]; simp only [HR1.out]; simp only [HR2.out]; simp only [HR3.out]; simp only [hr]) (HT4.out.trans ht fun _ _ h => h)⟩
    have hb := HB4.out.touch ht (by omega)
    have hl := HL4.out.touch ht (by omega)
    have hc := hb.cell 4
    have hf := hb.frozen 4
    simp only [List.getElem?_toArray, List.getElem?_cons_zero, List.getElem?_cons_succ] at hc
    have HR4 := Lib.hid hr
    obtain ⟨w5, hw5⟩ : ∃ w', w' = wa4.setCell ⟨w.heap.size, 4, none⟩ (.string ⟨x4.toArray⟩) := ⟨_, rfl⟩
    have HB5 := Lib.hid (show Blk w5 w.heap.size 57 #[.int .i64 x0, .string ⟨x1.toArray⟩, .string ⟨x2.toArray⟩, .string ⟨x3.toArray⟩, .string ⟨x4.toArray⟩, .string ⟨#[]⟩, .int .i64 0] by rw [hw5]; exact hb.set_ 4 (.string ⟨x4.toArray⟩))
    have HE5 := Lib.hid (show Eye w5 be A n c xs p5 by rw [hw5]; exact HSTEP.out _ _ _ _ he)
    have HT5 := Lib.hid (show Touch (· = be) w w5 by rw [hw5]; exact (HT4.out.trans ht fun _ _ h => h).setCell (p := ⟨w.heap.size, 4, none⟩) (.inl (Nat.le_refl _)) _)
    have HL5 := Lib.hid (show Blk w5 sb 131 #[.pointer (some ⟨w.heap.size, 1, none⟩), .pointer (some ⟨w.heap.size, 2, none⟩), .pointer (some ⟨w.heap.size, 3, none⟩), .pointer (some ⟨w.heap.size, 4, none⟩), .pointer (some ⟨w.heap.size, 5, none⟩)] by rw [hw5]; exact hl.far (p := ⟨w.heap.size, 4, none⟩) (by simp; omega) _)
    have HW5 := Lib.hid hw5
    clear hw5 hb hl hr h he ht
    go_wp2_with fail
    rw [← HW5.out]
    clear hc hf
    rw [rounds_succ]
    have hlc := HL5.out.cell 4
    simp only [List.getElem?_toArray, List.getElem?_cons_zero, List.getElem?_cons_succ] at hlc
    go_wp2_with fail
    clear hlc
    refine (etext_any be A n c xs p5 w5 HE5.out).mono ?_
    intro e wa5 h
    rcases h.cases with ⟨a, hr, rfl, ht⟩ | ⟨x5, p6, hr, rfl, he, ht⟩
    · exact ⟨rfl, EyeEnd.bad (show Dec.mail xs p0 = .error a by unfold Dec.mail Dec.bind; simp only [HR0.out, if_neg hk]; simp only [HR1.out]; simp only [HR2.out]; simp only [HR3.out]; simp only [HR4.out]; simp only [hr]) (HT5.out.trans ht fun _ _ h => h)⟩
    have hb := HB5.out.touch ht (by omega)
    have hl := HL5.out.touch ht (by omega)
    have hc := hb.cell 5
    have hf := hb.frozen 5
    simp only [List.getElem?_toArray, List.getElem?_cons_zero, List.getElem?_cons_succ] at hc
    have HR5 := Lib.hid hr
    obtain ⟨w6, hw6⟩ : ∃ w', w' = wa5.setCell ⟨w.heap.size, 5, none⟩ (.string ⟨x5.toArray⟩) := ⟨_, rfl⟩
    have HB6 := Lib.hid (show Blk w6 w.heap.size 57 #[.int .i64 x0, .string ⟨x1.toArray⟩, .string ⟨x2.toArray⟩, .string ⟨x3.toArray⟩, .string ⟨x4.toArray⟩, .string ⟨x5.toArray⟩, .int .i64 0] by rw [hw6]; exact hb.set_ 5 (.string ⟨x5.toArray⟩))
    have HE6 := Lib.hid (show Eye w6 be A n c xs p6 by rw [hw6]; exact HSTEP.out _ _ _ _ he)
    have HT6 := Lib.hid (show Touch (· = be) w w6 by rw [hw6]; exact (HT5.out.trans ht fun _ _ h => h).setCell (p := ⟨w.heap.size, 5, none⟩) (.inl (Nat.le_refl _)) _)
    have HL6 := Lib.hid (show Blk w6 sb 131 #[.pointer (some ⟨w.heap.size, 1, none⟩), .pointer (some ⟨w.heap.size, 2, none⟩), .pointer (some ⟨w.heap.size, 3, none⟩), .pointer (some ⟨w.heap.size, 4, none⟩), .pointer (some ⟨w.heap.size, 5, none⟩)] by rw [hw6]; exact hl.far (p := ⟨w.heap.size, 5, none⟩) (by simp; omega) _)
    have HW6 := Lib.hid hw6
    clear hw6 hb hl hr h he ht
    go_wp2_with fail
    rw [← HW6.out]
    clear hc hf
    rw [rounds_succ]
    go_wp2_with fail
    refine (enumber_any be A n c xs p6 0 4 w6 HE6.out).mono ?_
    intro e wa6 h
    rcases h.cases with ⟨a, hr, rfl, ht⟩ | ⟨x6, p7, hr, rfl, he, ht⟩
    · exact ⟨rfl, EyeEnd.bad (show Dec.mail xs p0 = .error a by unfold Dec.mail Dec.bind; simp only [HR0.out, if_neg hk]; simp only [HR1.out]; simp only [HR2.out]; simp only [HR3.out]; simp only [HR4.out]; simp only [HR5.out]; simp only [hr]) (HT6.out.trans ht fun _ _ h => h)⟩
    have hb := HB6.out.touch ht (by omega)
    have hc := hb.cell 6
    have hf := hb.frozen 6
    simp only [List.getElem?_toArray, List.getElem?_cons_zero, List.getElem?_cons_succ] at hc
    have HR6 := Lib.hid hr
    obtain ⟨w7, hw7⟩ : ∃ w', w' = wa6.setCell ⟨w.heap.size, 6, none⟩ (.int .i64 x6) := ⟨_, rfl⟩
    have HB7 := Lib.hid (show Blk w7 w.heap.size 57 #[.int .i64 x0, .string ⟨x1.toArray⟩, .string ⟨x2.toArray⟩, .string ⟨x3.toArray⟩, .string ⟨x4.toArray⟩, .string ⟨x5.toArray⟩, .int .i64 x6] by rw [hw7]; exact hb.set_ 6 (.int .i64 x6))
    have HE7 := Lib.hid (show Eye w7 be A n c xs p7 by rw [hw7]; exact HSTEP.out _ _ _ _ he)
    have HT7 := Lib.hid (show Touch (· = be) w w7 by rw [hw7]; exact (HT6.out.trans ht fun _ _ h => h).setCell (p := ⟨w.heap.size, 6, none⟩) (.inl (Nat.le_refl _)) _)
    have HW7 := Lib.hid hw7
    clear hw7 hb hr h he ht
    have hbx := HB7.out
    have g0 := hbx.cell 0
    have l0 := hbx.frozen 0
    have g1 := hbx.cell 1
    have l1 := hbx.frozen 1
    have g2 := hbx.cell 2
    have l2 := hbx.frozen 2
    have g3 := hbx.cell 3
    have l3 := hbx.frozen 3
    have g4 := hbx.cell 4
    have l4 := hbx.frozen 4
    have g5 := hbx.cell 5
    have l5 := hbx.frozen 5
    have g6 := hbx.cell 6
    have l6 := hbx.frozen 6
    simp only [List.getElem?_toArray, List.getElem?_cons_zero, List.getElem?_cons_succ] at g0 g1 g2 g3 g4 g5 g6
    obtain ⟨W, hW⟩ : ∃ W, W = (((((((w7.setCell ⟨w.heap.size, 0, none⟩ (.int .i64 x0)).setCell ⟨w.heap.size, 1, none⟩ (.string ⟨x1.toArray⟩)).setCell ⟨w.heap.size, 2, none⟩ (.string ⟨x2.toArray⟩)).setCell ⟨w.heap.size, 3, none⟩ (.string ⟨x3.toArray⟩)).setCell ⟨w.heap.size, 4, none⟩ (.string ⟨x4.toArray⟩)).setCell ⟨w.heap.size, 5, none⟩ (.string ⟨x5.toArray⟩)).setCell ⟨w.heap.size, 6, none⟩ (.int .i64 x6)) := ⟨_, rfl⟩
    have HBW := Lib.hid (show Blk W w.heap.size 57 #[.int .i64 x0, .string ⟨x1.toArray⟩, .string ⟨x2.toArray⟩, .string ⟨x3.toArray⟩, .string ⟨x4.toArray⟩, .string ⟨x5.toArray⟩, .int .i64 x6] by rw [hW]; exact (((((((HB7.out.set_ 0 (.int .i64 x0)).set_ 1 (.string ⟨x1.toArray⟩)).set_ 2 (.string ⟨x2.toArray⟩)).set_ 3 (.string ⟨x3.toArray⟩)).set_ 4 (.string ⟨x4.toArray⟩)).set_ 5 (.string ⟨x5.toArray⟩)).set_ 6 (.int .i64 x6)))
    have HEW := Lib.hid (show Eye W be A n c xs p7 by rw [hW]; exact (HSTEP.out _ _ _ _ (HSTEP.out _ _ _ _ (HSTEP.out _ _ _ _ (HSTEP.out _ _ _ _ (HSTEP.out _ _ _ _ (HSTEP.out _ _ _ _ (HSTEP.out _ _ _ _ HE7.out))))))))
    have HTW := Lib.hid (show Touch (· = be) w W by rw [hW]; exact (((((((HT7.out.setCell (p := ⟨w.heap.size, 0, none⟩) (.inl (Nat.le_refl _)) (.int .i64 x0)).setCell (p := ⟨w.heap.size, 1, none⟩) (.inl (Nat.le_refl _)) (.string ⟨x1.toArray⟩)).setCell (p := ⟨w.heap.size, 2, none⟩) (.inl (Nat.le_refl _)) (.string ⟨x2.toArray⟩)).setCell (p := ⟨w.heap.size, 3, none⟩) (.inl (Nat.le_refl _)) (.string ⟨x3.toArray⟩)).setCell (p := ⟨w.heap.size, 4, none⟩) (.inl (Nat.le_refl _)) (.string ⟨x4.toArray⟩)).setCell (p := ⟨w.heap.size, 5, none⟩) (.inl (Nat.le_refl _)) (.string ⟨x5.toArray⟩)).setCell (p := ⟨w.heap.size, 6, none⟩) (.inl (Nat.le_refl _)) (.int .i64 x6)))
    rw [HW7.out] at hW g0 l0 g1 l1 g2 l2 g3 l3 g4 l4 g5 l5 g6 l6
    have HW := Lib.hid hW
    clear hbx hW
    go_wp2_with fail
    rw [← HW.out]
    have e0 := HBW.out.cell 0
    have e1 := HBW.out.cell 1
    have e2 := HBW.out.cell 2
    have e3 := HBW.out.cell 3
    have e4 := HBW.out.cell 4
    have e5 := HBW.out.cell 5
    have e6 := HBW.out.cell 6
    simp only [List.getElem?_toArray, List.getElem?_cons_zero, List.getElem?_cons_succ] at e0 e1 e2 e3 e4 e5 e6
    refine bodyPost_ret (v := mlV ⟨x0, x1, x2, x3, x4, x5, x6⟩) (by simp [mlV, results, Try.results91, go_sem, e0, e1, e2, e3, e4, e5, e6]) rfl (EyeEnd.good (f := mlV) (show Dec.mail xs p0 = .ok (⟨x0, x1, x2, x3, x4, x5, x6⟩, p7) by unfold Dec.mail Dec.bind; simp only [HR0.out, if_neg hk]; simp only [HR1.out]; simp only [HR2.out]; simp only [HR3.out]; simp only [HR4.out]; simp only [HR5.out]; simp only [HR6.out]) HEW.out HTW.out)
end Go.Proofs.Ytdfhdanfigpbpaa
