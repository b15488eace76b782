/- The contract of the reference's ReadState (printed by gen_starr.py). Conditions stand with it. -/
import Derived.Test.YtdfhdanfigpbpaaStaRd
import Derived.Test.YtdfhdanfigpbpaaOpsRr
namespace Go.Proofs.Ytdfhdanfigpbpaa
open Go.RowKit

/-- how far the reference's reading of so many is -/
def ManySt {α : Type} (f : List UInt8 → Nat → Dec.Rd α) (xs : List UInt8) (N k : Nat) (lst : List α) (st0 st : Except Nat Nat) : Prop :=
  match st0 with
  | .error a => st = .error a
  | .ok p0 => match st with
    | .ok p => k ≤ p ∧ p ≤ xs.length ∧ Dec.many f xs N p0 = Dec.pre lst (Dec.many f xs (N - k) p)
    | .error a => Dec.many f xs N p0 = .error a
theorem ManySt.bad {α : Type} {f : List UInt8 → Nat → Dec.Rd α} {xs : List UInt8} {N k p a : Nat} {lst lst' : List α} {st0 : Except Nat Nat} (h : ManySt f xs N k lst st0 (.ok p)) (hk : k < N) (ho : f xs p = .error a) : ManySt f xs N (k + 1) lst' st0 (.error a) := by
  cases st0 with
  | error b => have h : (Except.ok p : Except Nat Nat) = .error b := h; cases h
  | ok p0 =>
    obtain ⟨_, _, h⟩ := h
    show Dec.many f xs N p0 = .error a
    rw [h, show N - k = (N - (k + 1)) + 1 by omega]
    exact Dec.pre_bad ho
theorem ManySt.good {α : Type} {f : List UInt8 → Nat → Dec.Rd α} {xs : List UInt8} {N k p q : Nat} {lst : List α} {o : α} {st0 : Except Nat Nat} (hf : p ≤ xs.length → p < q ∧ q ≤ xs.length) (h : ManySt f xs N k lst st0 (.ok p)) (hk : k < N) (ho : f xs p = .ok (o, q)) : ManySt f xs N (k + 1) (lst ++ [o]) st0 (.ok q) := by
  cases st0 with
  | error b => have h : (Except.ok p : Except Nat Nat) = .error b := h; cases h
  | ok p0 =>
    obtain ⟨h1, h2, h⟩ := h
    have h3 := hf h2
    refine ⟨by omega, h3.2, ?_⟩
    rw [h, show N - k = (N - (k + 1)) + 1 by omega]
    exact Dec.pre_step ho
theorem ManySt.le {α : Type} {f : List UInt8 → Nat → Dec.Rd α} {xs : List UInt8} {N k p : Nat} {lst : List α} {st0 : Except Nat Nat} (h : ManySt f xs N k lst st0 (.ok p)) : k ≤ p := by
  cases st0 with
  | error b => have h : (Except.ok p : Except Nat Nat) = .error b := h; cases h
  | ok p0 => exact h.1
theorem ManySt.start {α : Type} {f : List UInt8 → Nat → Dec.Rd α} {xs : List UInt8} {N : Nat} {st0 : Except Nat Nat} (h : ∀ p, st0 = .ok p → p ≤ xs.length) : ManySt f xs N 0 [] st0 st0 := by
  cases st0 with
  | error a => rfl
  | ok p => exact ⟨Nat.zero_le _, h p rfl, (Dec.pre_nil _).symm⟩
theorem ManySt.done {α : Type} {f : List UInt8 → Nat → Dec.Rd α} {xs : List UInt8} {N k : Nat} {lst : List α} {st0 st : Except Nat Nat} (h : ManySt f xs N k lst st0 st) (hk : ∀ p, st = .ok p → N ≤ k) : Stp st0 (Dec.many f xs N) lst st := by
  cases st0 with
  | error a => exact h
  | ok p0 =>
    cases st with
    | error a => exact .inl ⟨a, h, rfl⟩
    | ok p =>
      obtain ⟨_, _, h⟩ := h
      have := hk p rfl
      rw [show N - k = 0 by omega, Dec.pre_done] at h
      exact .inr ⟨p, h, rfl⟩

set_option maxRecDepth 100000 in
set_option maxHeartbeats 16000000 in
theorem refsta_read (A : Option Addr) (n c : Nat) (xs : List UInt8) (w : World) (hbs : Bs w A n c xs) (hA : ∀ a, A = some a → 0 < n → a.block < w.heap.size) (hn : n ≤ 4000000000000) :
    Calls Try.prog 47 #[.slice A n c] w (StaEnd w (Dec.whole (Dec.state xs 0) n)) := by
  have hxl : xs.length = n := hbs.1
  obtain ⟨w0, hw0⟩ : ∃ w0, w0 = ((w.alloc (.cells #[.string ⟨#[]⟩, .string ⟨#[]⟩, .string ⟨#[]⟩, .string ⟨#[]⟩, .int .i64 0, .string ⟨#[]⟩, .slice none 0 0, .slice none 0 0, .int .i64 0] 67)).alloc (.cells #[.slice A n c, .int .i64 0, .bool false, .int .i64 0] 103)).alloc (.cells #[.string ⟨#[]⟩, .string ⟨#[]⟩, .string ⟨#[]⟩, .string ⟨#[]⟩, .int .i64 0, .string ⟨#[]⟩, .slice none 0 0, .slice none 0 0, .int .i64 0] 67) := ⟨_, rfl⟩
  have hT0 : Fresh w w0 := by rw [hw0]; exact (((Touch.refl _ w).alloc _).alloc _).alloc _
  have hR0 : Blk w0 w.heap.size 67 #[.string ⟨#[]⟩, .string ⟨#[]⟩, .string ⟨#[]⟩, .string ⟨#[]⟩, .int .i64 0, .string ⟨#[]⟩, .slice none 0 0, .slice none 0 0, .int .i64 0] := by rw [hw0]; exact ((Blk.new w _ _).alloc _).alloc _
  have hB0 : Blk w0 (w.heap.size + 1 + 1) 67 #[.string ⟨#[]⟩, .string ⟨#[]⟩, .string ⟨#[]⟩, .string ⟨#[]⟩, .int .i64 0, .string ⟨#[]⟩, .slice none 0 0, .slice none 0 0, .int .i64 0] := by
    rw [hw0]
    have := Blk.new ((w.alloc (.cells #[.string ⟨#[]⟩, .string ⟨#[]⟩, .string ⟨#[]⟩, .string ⟨#[]⟩, .int .i64 0, .string ⟨#[]⟩, .slice none 0 0, .slice none 0 0, .int .i64 0] 67)).alloc (.cells #[.slice A n c, .int .i64 0, .bool false, .int .i64 0] 103)) 67 #[.string ⟨#[]⟩, .string ⟨#[]⟩, .string ⟨#[]⟩, .string ⟨#[]⟩, .int .i64 0, .string ⟨#[]⟩, .slice none 0 0, .slice none 0 0, .int .i64 0]
    simp only [World.size_alloc] at this
    exact this
  have hD0 : Blk w0 (w.heap.size + 1) 103 #[.slice A n c, .int .i64 ((0 : Nat) : Int), .bool false, .int .i64 ((0 : Nat) : Int)] := by
    rw [hw0]
    have := (Blk.new (w.alloc (.cells #[.string ⟨#[]⟩, .string ⟨#[]⟩, .string ⟨#[]⟩, .string ⟨#[]⟩, .int .i64 0, .string ⟨#[]⟩, .slice none 0 0, .slice none 0 0, .int .i64 0] 67)) 103 #[.slice A n c, .int .i64 0, .bool false, .int .i64 0]).alloc (.cells #[.string ⟨#[]⟩, .string ⟨#[]⟩, .string ⟨#[]⟩, .string ⟨#[]⟩, .int .i64 0, .string ⟨#[]⟩, .slice none 0 0, .slice none 0 0, .int .i64 0] 67)
    simp only [World.size_alloc] at this
    exact this
  have HN := Lib.hid hA
  obtain ⟨st0, hst0⟩ : ∃ s : Except Nat Nat, s = .ok 0 := ⟨_, rfl⟩
  have HS0 := Lib.hid (show RdrSt w0 (w.heap.size + 1) A n c xs st0 from ⟨0, false, 0, ⟨hD0, hbs.fresh hT0, Nat.zero_le _, fun a ha h0 => by have := hA a ha h0; omega, by omega⟩, hst0⟩)
  have HST0 := Lib.hid hst0
  have HT0 := Lib.hid hT0
  have HR0 := Lib.hid hR0
  have HB0 := Lib.hid hB0
  have HW0 := Lib.hid hw0
  have hsz0 : w.heap.size + 1 + 1 < w0.heap.size := hB0.lt
  clear hst0 hT0 hR0 hB0 hD0 hw0 hbs hA
  have hstep : ∀ (wa : World) (g i : Nat) (u : Value) (st : Except Nat Nat), w.heap.size + 1 + 1 ≤ g → RdrSt wa (w.heap.size + 1) A n c xs st → RdrSt (wa.setCell ⟨g, i, none⟩ u) (w.heap.size + 1) A n c xs st := by
    rintro wa g i u st hg ⟨p, bad, on, h, e⟩
    refine ⟨p, bad, on, ⟨h.1.far (p := ⟨g, i, none⟩) (by simp; omega) _, h.2.1.keep fun h0 p v hp ⟨a, ha, e⟩ => ?_, h.2.2⟩, e⟩
    have := HN.out a ha h0
    rw [World.cell?_setCell_other _ _ _ _ (by intro h9; rw [← h9] at e; simp at e; omega)]
    exact hp
  have HSTEP := Lib.hid hstep; clear hstep
  go_enter Try.func47, Try.ntmps47
  go_wp2_with fail
  rw [← HW0.out]
  refine (rtext_any (w.heap.size + 1) A n c xs st0 w0 HS0.out).mono ?_
  intro e wa0 h
  obtain ⟨x0, st1, rfl, hs, ht, h3⟩ := h.cases
  have hb := HB0.out.touch ht (by omega)
  have hr := HR0.out.touch ht (by omega)
  have hc := hb.cell 0
  have hf := hb.frozen 0
  simp only [List.getElem?_toArray, List.getElem?_cons_zero] at hc
  obtain ⟨w1, hw1⟩ : ∃ w', w' = wa0.setCell ⟨(w.heap.size + 1 + 1), 0, none⟩ (.string ⟨x0.toArray⟩) := ⟨_, rfl⟩
  have HB1 := Lib.hid (show Blk w1 (w.heap.size + 1 + 1) 67 #[.string ⟨x0.toArray⟩, .string ⟨#[]⟩, .string ⟨#[]⟩, .string ⟨#[]⟩, .int .i64 0, .string ⟨#[]⟩, .slice none 0 0, .slice none 0 0, .int .i64 0] by rw [hw1]; exact hb.set_ 0 (.string ⟨x0.toArray⟩))
  have HR1 := Lib.hid (show Blk w1 w.heap.size 67 #[.string ⟨#[]⟩, .string ⟨#[]⟩, .string ⟨#[]⟩, .string ⟨#[]⟩, .int .i64 0, .string ⟨#[]⟩, .slice none 0 0, .slice none 0 0, .int .i64 0] by rw [hw1]; exact hr.far (p := ⟨(w.heap.size + 1 + 1), 0, none⟩) (by simp; omega) _)
  have HS1 := Lib.hid (show RdrSt w1 (w.heap.size + 1) A n c xs st1 by rw [hw1]; exact HSTEP.out _ _ _ _ _ (Nat.le_refl _) hs)
  have HT1 := Lib.hid (show Fresh w w1 by rw [hw1]; exact (HT0.out.trans ht fun _ _ h => by omega).setCell (p := ⟨(w.heap.size + 1 + 1), 0, none⟩) (.inl (by simp; omega)) _)
  have HW1 := Lib.hid hw1
  have H30 := Lib.hid (Stp.of h3)
  clear hw1 hb hr hs ht h3 h
  go_wp2_with fail
  rw [← HW1.out]
  clear hc hf
  refine (rtext_any (w.heap.size + 1) A n c xs st1 w1 HS1.out).mono ?_
  intro e wa1 h
  obtain ⟨x1, st2, rfl, hs, ht, h3⟩ := h.cases
  have hb := HB1.out.touch ht (by omega)
  have hr := HR1.out.touch ht (by omega)
  have hc := hb.cell 1
  have hf := hb.frozen 1
  simp only [List.getElem?_toArray, List.getElem?_cons_zero, List.getElem?_cons_succ] at hc
  obtain ⟨w2, hw2⟩ : ∃ w', w' = wa1.setCell ⟨(w.heap.size + 1 + 1), 1, none⟩ (.string ⟨x1.toArray⟩) := ⟨_, rfl⟩
  have HB2 := Lib.hid (show Blk w2 (w.heap.size + 1 + 1) 67 #[.string ⟨x0.toArray⟩, .string ⟨x1.toArray⟩, .string ⟨#[]⟩, .string ⟨#[]⟩, .int .i64 0, .string ⟨#[]⟩, .slice none 0 0, .slice none 0 0, .int .i64 0] by rw [hw2]; exact hb.set_ 1 (.string ⟨x1.toArray⟩))
  have HR2 := Lib.hid (show Blk w2 w.heap.size 67 #[.string ⟨#[]⟩, .string ⟨#[]⟩, .string ⟨#[]⟩, .string ⟨#[]⟩, .int .i64 0, .string ⟨#[]⟩, .slice none 0 0, .slice none 0 0, .int .i64 0] by rw [hw2]; exact hr.far (p := ⟨(w.heap.size + 1 + 1), 1, none⟩) (by simp; omega) _)
  have HS2 := Lib.hid (show RdrSt w2 (w.heap.size + 1) A n c xs st2 by rw [hw2]; exact HSTEP.out _ _ _ _ _ (Nat.le_refl _) hs)
  have HT2 := Lib.hid (show Fresh w w2 by rw [hw2]; exact (HT1.out.trans ht fun _ _ h => by omega).setCell (p := ⟨(w.heap.size + 1 + 1), 1, none⟩) (.inl (by simp; omega)) _)
  have HW2 := Lib.hid hw2
  have H31 := Lib.hid (Stp.of h3)
  clear hw2 hb hr hs ht h3 h
  go_wp2_with fail
  rw [← HW2.out]
  clear hc hf
  refine (rtext_any (w.heap.size + 1) A n c xs st2 w2 HS2.out).mono ?_
  intro e wa2 h
  obtain ⟨x2, st3, rfl, hs, ht, h3⟩ := h.cases
  have hb := HB2.out.touch ht (by omega)
  have hr := HR2.out.touch ht (by omega)
  have hc := hb.cell 2
  have hf := hb.frozen 2
  simp only [List.getElem?_toArray, List.getElem?_cons_zero, List.getElem?_cons_succ] at hc
  obtain ⟨w3, hw3⟩ : ∃ w', w' = wa2.setCell ⟨(w.heap.size + 1 + 1), 2, none⟩ (.string ⟨x2.toArray⟩) := ⟨_, rfl⟩
  have HB3 := Lib.hid (show Blk w3 (w.heap.size + 1 + 1) 67 #[.string ⟨x0.toArray⟩, .string ⟨x1.toArray⟩, .string ⟨x2.toArray⟩, .string ⟨#[]⟩, .int .i64 0, .string ⟨#[]⟩, .slice none 0 0, .slice none 0 0, .int .i64 0] by rw [hw3]; exact hb.set_ 2 (.string ⟨x2.toArray⟩))
  have HR3 := Lib.hid (show Blk w3 w.heap.size 67 #[.string ⟨#[]⟩, .string ⟨#[]⟩, .string ⟨#[]⟩, .string ⟨#[]⟩, .int .i64 0, .string ⟨#[]⟩, .slice none 0 0, .slice none 0 0, .int .i64 0] by rw [hw3]; exact hr.far (p := ⟨(w.heap.size + 1 + 1), 2, none⟩) (by simp; omega) _)
  have HS3 := Lib.hid (show RdrSt w3 (w.heap.size + 1) A n c xs st3 by rw [hw3]; exact HSTEP.out _ _ _ _ _ (Nat.le_refl _) hs)
  have HT3 := Lib.hid (show Fresh w w3 by rw [hw3]; exact (HT2.out.trans ht fun _ _ h => by omega).setCell (p := ⟨(w.heap.size + 1 + 1), 2, none⟩) (.inl (by simp; omega)) _)
  have HW3 := Lib.hid hw3
  have H32 := Lib.hid (Stp.of h3)
  clear hw3 hb hr hs ht h3 h
  go_wp2_with fail
  rw [← HW3.out]
  clear hc hf
  refine (rtext_any (w.heap.size + 1) A n c xs st3 w3 HS3.out).mono ?_
  intro e wa3 h
  obtain ⟨x3, st4, rfl, hs, ht, h3⟩ := h.cases
  have hb := HB3.out.touch ht (by omega)
  have hr := HR3.out.touch ht (by omega)
  have hc := hb.cell 3
  have hf := hb.frozen 3
  simp only [List.getElem?_toArray, List.getElem?_cons_zero, List.getElem?_cons_succ] at hc
  obtain ⟨w4, hw4⟩ : ∃ w', w' = wa3.setCell ⟨(w.heap.size + 1 + 1), 3, none⟩ (.string ⟨x3.toArray⟩) := ⟨_, rfl⟩
  have HB4 := Lib.hid (show Blk w4 (w.heap.size + 1 + 1) 67 #[.string ⟨x0.toArray⟩, .string ⟨x1.toArray⟩, .string ⟨x2.toArray⟩, .string ⟨x3.toArray⟩, .int .i64 0, .string ⟨#[]⟩, .slice none 0 0, .slice none 0 0, .int .i64 0] by rw [hw4]; exact hb.set_ 3 (.string ⟨x3.toArray⟩))
  have HR4 := Lib.hid (show Blk w4 w.heap.size 67 #[.string ⟨#[]⟩, .string ⟨#[]⟩, .string ⟨#[]⟩, .string ⟨#[]⟩, .int .i64 0, .string ⟨#[]⟩, .slice none 0 0, .slice none 0 0, .int .i64 0] by rw [hw4]; exact hr.far (p := ⟨(w.heap.size + 1 + 1), 3, none⟩) (by simp; omega) _)
  have HS4 := Lib.hid (show RdrSt w4 (w.heap.size + 1) A n c xs st4 by rw [hw4]; exact HSTEP.out _ _ _ _ _ (Nat.le_refl _) hs)
  have HT4 := Lib.hid (show Fresh w w4 by rw [hw4]; exact (HT3.out.trans ht fun _ _ h => by omega).setCell (p := ⟨(w.heap.size + 1 + 1), 3, none⟩) (.inl (by simp; omega)) _)
  have HW4 := Lib.hid hw4
  have H33 := Lib.hid (Stp.of h3)
  clear hw4 hb hr hs ht h3 h
  go_wp2_with fail
  rw [← HW4.out]
  clear hc hf
  refine (rnumber_any (w.heap.size + 1) A n c xs st4 0 4 w4 HS4.out).mono ?_
  intro e wa4 h
  obtain ⟨x4, st5, rfl, hs, ht, h3⟩ := h.cases
  have hb := HB4.out.touch ht (by omega)
  have hr := HR4.out.touch ht (by omega)
  have hc := hb.cell 4
  have hf := hb.frozen 4
  simp only [List.getElem?_toArray, List.getElem?_cons_zero, List.getElem?_cons_succ] at hc
  obtain ⟨w5, hw5⟩ : ∃ w', w' = wa4.setCell ⟨(w.heap.size + 1 + 1), 4, none⟩ (.int .i64 x4) := ⟨_, rfl⟩
  have HB5 := Lib.hid (show Blk w5 (w.heap.size + 1 + 1) 67 #[.string ⟨x0.toArray⟩, .string ⟨x1.toArray⟩, .string ⟨x2.toArray⟩, .string ⟨x3.toArray⟩, .int .i64 x4, .string ⟨#[]⟩, .slice none 0 0, .slice none 0 0, .int .i64 0] by rw [hw5]; exact hb.set_ 4 (.int .i64 x4))
  have HR5 := Lib.hid (show Blk w5 w.heap.size 67 #[.string ⟨#[]⟩, .string ⟨#[]⟩, .string ⟨#[]⟩, .string ⟨#[]⟩, .int .i64 0, .string ⟨#[]⟩, .slice none 0 0, .slice none 0 0, .int .i64 0] by rw [hw5]; exact hr.far (p := ⟨(w.heap.size + 1 + 1), 4, none⟩) (by simp; omega) _)
  have HS5 := Lib.hid (show RdrSt w5 (w.heap.size + 1) A n c xs st5 by rw [hw5]; exact HSTEP.out _ _ _ _ _ (Nat.le_refl _) hs)
  have HT5 := Lib.hid (show Fresh w w5 by rw [hw5]; exact (HT4.out.trans ht fun _ _ h => by omega).setCell (p := ⟨(w.heap.size + 1 + 1), 4, none⟩) (.inl (by simp; omega)) _)
  have HW5 := Lib.hid hw5
  have H34 := Lib.hid (Stp.of h3)
  clear hw5 hb hr hs ht h3 h
  go_wp2_with fail
  rw [← HW5.out]
  clear hc hf
  refine (rtext_any (w.heap.size + 1) A n c xs st5 w5 HS5.out).mono ?_
  intro e wa5 h
  obtain ⟨x5, st6, rfl, hs, ht, h3⟩ := h.cases
  have hb := HB5.out.touch ht (by omega)
  have hr := HR5.out.touch ht (by omega)
  have hc := hb.cell 5
  have hf := hb.frozen 5
  simp only [List.getElem?_toArray, List.getElem?_cons_zero, List.getElem?_cons_succ] at hc
  obtain ⟨w6, hw6⟩ : ∃ w', w' = wa5.setCell ⟨(w.heap.size + 1 + 1), 5, none⟩ (.string ⟨x5.toArray⟩) := ⟨_, rfl⟩
  have HB6 := Lib.hid (show Blk w6 (w.heap.size + 1 + 1) 67 #[.string ⟨x0.toArray⟩, .string ⟨x1.toArray⟩, .string ⟨x2.toArray⟩, .string ⟨x3.toArray⟩, .int .i64 x4, .string ⟨x5.toArray⟩, .slice none 0 0, .slice none 0 0, .int .i64 0] by rw [hw6]; exact hb.set_ 5 (.string ⟨x5.toArray⟩))
  have HR6 := Lib.hid (show Blk w6 w.heap.size 67 #[.string ⟨#[]⟩, .string ⟨#[]⟩, .string ⟨#[]⟩, .string ⟨#[]⟩, .int .i64 0, .string ⟨#[]⟩, .slice none 0 0, .slice none 0 0, .int .i64 0] by rw [hw6]; exact hr.far (p := ⟨(w.heap.size + 1 + 1), 5, none⟩) (by simp; omega) _)
  have HS6 := Lib.hid (show RdrSt w6 (w.heap.size + 1) A n c xs st6 by rw [hw6]; exact HSTEP.out _ _ _ _ _ (Nat.le_refl _) hs)
  have HT6 := Lib.hid (show Fresh w w6 by rw [hw6]; exact (HT5.out.trans ht fun _ _ h => by omega).setCell (p := ⟨(w.heap.size + 1 + 1), 5, none⟩) (.inl (by simp; omega)) _)
  have HW6 := Lib.hid hw6
  have H35 := Lib.hid (Stp.of h3)
  clear hw6 hb hr hs ht h3 h
  go_wp2_with fail
  rw [← HW6.out]
  clear hc hf
  refine (rnumber_any (w.heap.size + 1) A n c xs st6 0 4503599627370496 w6 HS6.out).mono ?_
  intro e w7 h
  obtain ⟨x6, st7, rfl, hs, ht, h3⟩ := h.cases
  have HB7 := Lib.hid (HB6.out.touch ht (by omega))
  have HR7 := Lib.hid (HR6.out.touch ht (by omega))
  have HS7 := Lib.hid hs
  have HT7 := Lib.hid (show Fresh w w7 from HT6.out.trans ht fun _ _ h => by omega)
  have hN : 0 ≤ x6 ∧ x6 ≤ 4503599627370496 ∧ ∀ p, st7 = .ok p → p ≤ xs.length := by
    rcases h3 with ⟨b, e1, hz, e2⟩ | ⟨p', b, e1, hg', hz, e2⟩ | ⟨p', q, e1, hg', e2⟩
    · subst hz; exact ⟨by omega, by omega, fun p e => by rw [e2] at e; cases e⟩
    · subst hz; exact ⟨by omega, by omega, fun p e => by rw [e2] at e; cases e⟩
    · have h9 := Dec.number_ok hg'
      exact ⟨h9.2.2.2.2.2, h9.2.2.2.2.1, fun p e => by rw [e2] at e; injection e with e; rw [← e]; exact h9.2.2.1⟩
  have H36 := Lib.hid (Stp.of h3)
  have hN0 := hN.1
  have hN1 := hN.2.1
  have HNP := Lib.hid hN.2.2
  clear hs ht h3 hN h
  go_wp2_with fail
  go_loopw [8] (fun i wr => ∃ k : Nat, (k : Int) ≤ x6 ∧ i = .int .i64 k ∧ ∃ (lst : List Dec.Nd) (st : Except Nat Nat) (nv : Value), lst.length = k ∧ Blk wr (w.heap.size + 1 + 1) 67 #[.string ⟨x0.toArray⟩, .string ⟨x1.toArray⟩, .string ⟨x2.toArray⟩, .string ⟨x3.toArray⟩, .int .i64 x4, .string ⟨x5.toArray⟩, nv, .slice none 0 0, .int .i64 0] ∧ VRow wr 127 3 nv k (ndsV lst) ∧ (∀ j, nv.ownBlock = some j → w.heap.size ≤ j) ∧
      ManySt Dec.nod xs x6.toNat k lst st7 st ∧ RdrSt wr (w.heap.size + 1) A n c xs st ∧ Fresh w wr ∧ Blk wr w.heap.size 67 #[.string ⟨#[]⟩, .string ⟨#[]⟩, .string ⟨#[]⟩, .string ⟨#[]⟩, .int .i64 0, .string ⟨#[]⟩, .slice none 0 0, .slice none 0 0, .int .i64 0]) (fun i _ => x6.toNat - (intOf i).toNat)
  case atStart => exact ⟨0, by omega, rfl, [], st7, .slice none 0 0, rfl, HB7.out, VRow.nil_ _ _ _, fun j h => own_none h, ManySt.start HNP.out, HS7.out, HT7.out, HR7.out⟩
  case round =>
    obtain ⟨k, hk, rfl, lst, st, nv, hlk, hbm, hvr, hown, hsp, ⟨p, bad, on, hd, hst⟩, ht, hrz⟩ := hrel
    have hcb := hd.1.cell 2
    simp only [List.getElem?_toArray, List.getElem?_cons_zero, List.getElem?_cons_succ] at hcb
    have HVR := Lib.hid hvr; clear hvr
    have HBM := Lib.hid hbm; clear hbm
    have HOWN := Lib.hid hown; clear hown
    have HSP := Lib.hid hsp; clear hsp
    have HD := Lib.hid hd; clear hd
    have HT := Lib.hid ht; clear ht
    have HRZ := Lib.hid hrz; clear hrz
    have HSR := Lib.hid (show RdrSt wr (w.heap.size + 1) A n c xs st from ⟨p, bad, on, HD.out, hst⟩)
    by_cases hgo : (k : Int) < x6 ∧ bad = false
    · obtain ⟨hlt, rfl⟩ := hgo
      simp only [Bool.false_eq_true, if_false] at hst
      subst hst
      have hkp := HSP.out.le
      have hpn := HD.out.2.2.1
      have hltn : k < x6.toNat := by omega
      obtain ⟨ob, hob⟩ : ∃ ob, ob = wr.heap.size := ⟨_, rfl⟩
      obtain ⟨u0, hu0⟩ : ∃ x, x = wr.alloc (.cells #[.int .i64 0, .int .i64 0, .string ⟨#[]⟩] 127) := ⟨_, rfl⟩
      have HO0 := Lib.hid (show Blk u0 ob 127 #[.int .i64 0, .int .i64 0, .string ⟨#[]⟩] by rw [hu0, hob]; exact Blk.new _ _ _)
      have HY0 := Lib.hid (show RdrSt u0 (w.heap.size + 1) A n c xs (.ok p) by rw [hu0]; exact ⟨p, false, on, ⟨HD.out.1.alloc _, HD.out.2.1.alloc _, HD.out.2.2⟩, rfl⟩)
      have HX0 := Lib.hid (show Touch (· = (w.heap.size + 1)) wr u0 by rw [hu0]; exact (Touch.refl _ wr).alloc _)
      have hbel := HD.out.1.lt
      have hmbl := HBM.out.lt
      have hww : w.heap.size ≤ wr.heap.size := HT.out.size
      have hobw : wr.heap.size ≤ ob := by omega
      have hobe : ob ≠ (w.heap.size + 1) := by omega
      have HNB : Hid (∀ j, nv.ownBlock = some j → ¬ (j = (w.heap.size + 1))) := Lib.hid (fun j hj e => HVR.out.ne_blk HD.out.1 (by decide) (by rw [hj, e]))
      have HNM : Hid (nv.ownBlock ≠ some (w.heap.size + 1 + 1)) := Lib.hid (HVR.out.ne_blk HBM.out (by decide))
      have HNR : Hid (nv.ownBlock ≠ some w.heap.size) := Lib.hid (HVR.out.ne_blk HRZ.out (by decide))
      have HOB := Lib.hid hob
      have HZ0 := Lib.hid hu0
      clear hu0 hob
      go_wp2_with fail
      rw [← HZ0.out, ← HOB.out]
      refine (rnumber_any (w.heap.size + 1) A n c xs (.ok p) 0 4 u0 HY0.out).mono ?_
      intro e u0a h
      obtain ⟨z0, t1, rfl, hs, ht, h3⟩ := h.cases
      have HV0 := Lib.hid (Stp.of h3)
      have hbo := HO0.out.touch ht hobe
      have hc := hbo.cell 0
      have hf := hbo.frozen 0
      simp only [List.getElem?_toArray, List.getElem?_cons_zero] at hc
      obtain ⟨u1, hu⟩ : ∃ x, x = u0a.setCell ⟨ob, 0, none⟩ (.int .i64 z0) := ⟨_, rfl⟩
      have HO1 := Lib.hid (show Blk u1 ob 127 #[.int .i64 z0, .int .i64 0, .string ⟨#[]⟩] by rw [hu]; exact hbo.set_ 0 (.int .i64 z0))
      have HY1 := Lib.hid (show RdrSt u1 (w.heap.size + 1) A n c xs t1 by rw [hu]; exact HSTEP.out _ _ _ _ _ (by omega) hs)
      have HX1 := Lib.hid (show Touch (· = (w.heap.size + 1)) wr u1 by rw [hu]; exact (HX0.out.trans ht fun _ _ h => h).setCell (p := ⟨ob, 0, none⟩) (.inl hobw) _)
      have HZ1 := Lib.hid hu
      clear hs h3 h ht hbo hu
      go_wp2_with fail
      rw [← HZ1.out]
      clear hc hf
      refine (rnumber_any (w.heap.size + 1) A n c xs t1 0 4503599627370496 u1 HY1.out).mono ?_
      intro e u1a h
      obtain ⟨z1, t2, rfl, hs, ht, h3⟩ := h.cases
      have HV1 := Lib.hid (Stp.of h3)
      have hbo := HO1.out.touch ht hobe
      have hc := hbo.cell 1
      have hf := hbo.frozen 1
      simp only [List.getElem?_toArray, List.getElem?_cons_zero, List.getElem?_cons_succ] at hc
      obtain ⟨u2, hu⟩ : ∃ x, x = u1a.setCell ⟨ob, 1, none⟩ (.int .i64 z1) := ⟨_, rfl⟩
      have HO2 := Lib.hid (show Blk u2 ob 127 #[.int .i64 z0, .int .i64 z1, .string ⟨#[]⟩] by rw [hu]; exact hbo.set_ 1 (.int .i64 z1))
      have HY2 := Lib.hid (show RdrSt u2 (w.heap.size + 1) A n c xs t2 by rw [hu]; exact HSTEP.out _ _ _ _ _ (by omega) hs)
      have HX2 := Lib.hid (show Touch (· = (w.heap.size + 1)) wr u2 by rw [hu]; exact (HX1.out.trans ht fun _ _ h => h).setCell (p := ⟨ob, 1, none⟩) (.inl hobw) _)
      have HZ2 := Lib.hid hu
      clear hs h3 h ht hbo hu
      go_wp2_with fail
      rw [← HZ2.out]
      clear hc hf
      refine (rtext_any (w.heap.size + 1) A n c xs t2 u2 HY2.out).mono ?_
      intro e u2a h
      obtain ⟨z2, t3, rfl, hs, ht, h3⟩ := h.cases
      have HV2 := Lib.hid (Stp.of h3)
      have hbo := HO2.out.touch ht hobe
      have hc := hbo.cell 2
      have hf := hbo.frozen 2
      simp only [List.getElem?_toArray, List.getElem?_cons_zero, List.getElem?_cons_succ] at hc
      obtain ⟨u3, hu⟩ : ∃ x, x = u2a.setCell ⟨ob, 2, none⟩ (.string ⟨z2.toArray⟩) := ⟨_, rfl⟩
      have HO3 := Lib.hid (show Blk u3 ob 127 #[.int .i64 z0, .int .i64 z1, .string ⟨z2.toArray⟩] by rw [hu]; exact hbo.set_ 2 (.string ⟨z2.toArray⟩))
      have HY3 := Lib.hid (show RdrSt u3 (w.heap.size + 1) A n c xs t3 by rw [hu]; exact HSTEP.out _ _ _ _ _ (by omega) hs)
      have HX3 := Lib.hid (show Touch (· = (w.heap.size + 1)) wr u3 by rw [hu]; exact (HX2.out.trans ht fun _ _ h => h).setCell (p := ⟨ob, 2, none⟩) (.inl hobw) _)
      have HZ3 := Lib.hid hu
      clear hs h3 h ht hbo hu
      obtain ⟨ii, hi, hz, hi3, hi40⟩ := info_parts Try.infoNd
      have hd0 := HO3.out.cell 0
      have hd1 := HO3.out.cell 1
      have hd2 := HO3.out.cell 2
      have hmc := (HBM.out.touch HX3.out (by omega)).cell 6
      have hmf := (HBM.out.touch HX3.out (by omega)).frozen 6
      simp only [List.getElem?_toArray, List.getElem?_cons_zero, List.getElem?_cons_succ] at hd0 hd1 hd2 hmc
      rw [HZ3.out] at hd0 hd1 hd2 hmc hmf
      have HVR2 := Lib.hid (show VRow ((u2a.setCell ⟨ob, 2, none⟩ (.string ⟨z2.toArray⟩)).alloc (.cells #[.int .i64 z0, .int .i64 z1, .string ⟨z2.toArray⟩] 127)) 127 3 nv k (ndsV lst) from by
        rw [← HZ3.out]
        exact (HVR.out.touch HX3.out (fun j hj => HNB.out j hj)).alloc _)
      have HNC : Hid (∀ j u, [.int .i64 z0, .int .i64 z1, .string ⟨z2.toArray⟩][j]? = some u → ((u2a.setCell ⟨ob, 2, none⟩ (.string ⟨z2.toArray⟩)).alloc (.cells #[.int .i64 z0, .int .i64 z1, .string ⟨z2.toArray⟩] 127)).cell? ((⟨u2a.heap.size, 0, none⟩ : Addr).add j) = some u) := Lib.hid (by
        have h := new_cells (u2a.setCell ⟨ob, 2, none⟩ (.string ⟨z2.toArray⟩)) 127 [.int .i64 z0, .int .i64 z1, .string ⟨z2.toArray⟩]
        rw [show (u2a.setCell ⟨ob, 2, none⟩ (.string ⟨z2.toArray⟩)).heap.size = u2a.heap.size from by simp] at h
        exact h)
      have HSP2 : Hid (ManySt Dec.nod xs x6.toNat (k + 1) (lst ++ [⟨z0, z1, z2⟩]) st7 t3) := Lib.hid (by
        rcases HV0.out.ok with ⟨a, hg0, e0⟩ | ⟨q0, hg0, e0⟩
        · subst e0
          have e1 := HV1.out.err
          subst e1
          have e2 := HV2.out.err
          subst e2
          exact HSP.out.bad hltn (by unfold Dec.nod Dec.bind Dec.plain; simp only [hg0])
        · subst e0
          rcases HV1.out.ok with ⟨a, hg1, e1⟩ | ⟨q1, hg1, e1⟩
          · subst e1
            have e2 := HV2.out.err
            subst e2
            exact HSP.out.bad hltn (by unfold Dec.nod Dec.bind Dec.plain; simp only [hg0]; simp only [hg1])
          · subst e1
            rcases HV2.out.ok with ⟨a, hg2, e2⟩ | ⟨q2, hg2, e2⟩
            · subst e2
              exact HSP.out.bad hltn (by unfold Dec.nod Dec.bind Dec.plain; simp only [hg0]; simp only [hg1]; simp only [hg2])
            · subst e2
              have hok : Dec.nod xs p = .ok (⟨z0, z1, z2⟩, q2) := by unfold Dec.nod Dec.bind Dec.plain; simp only [hg0]; simp only [hg1]; simp only [hg2]
              exact HSP.out.good (nod_go hok) hltn hok)
      have hsz : w.heap.size ≤ u2a.heap.size := by have h := (HT.out.trans HX3.out fun _ _ h => by omega).size; rw [HZ3.out] at h; simpa using h
      have HBM2 := Lib.hid (show Blk ((u2a.setCell ⟨ob, 2, none⟩ (.string ⟨z2.toArray⟩)).alloc (.cells #[.int .i64 z0, .int .i64 z1, .string ⟨z2.toArray⟩] 127)) (w.heap.size + 1 + 1) 67 #[.string ⟨x0.toArray⟩, .string ⟨x1.toArray⟩, .string ⟨x2.toArray⟩, .string ⟨x3.toArray⟩, .int .i64 x4, .string ⟨x5.toArray⟩, nv, .slice none 0 0, .int .i64 0] by rw [← HZ3.out]; exact (HBM.out.touch HX3.out (by omega)).alloc _)
      have HRZ2 := Lib.hid (show Blk ((u2a.setCell ⟨ob, 2, none⟩ (.string ⟨z2.toArray⟩)).alloc (.cells #[.int .i64 z0, .int .i64 z1, .string ⟨z2.toArray⟩] 127)) w.heap.size 67 #[.string ⟨#[]⟩, .string ⟨#[]⟩, .string ⟨#[]⟩, .string ⟨#[]⟩, .int .i64 0, .string ⟨#[]⟩, .slice none 0 0, .slice none 0 0, .int .i64 0] by rw [← HZ3.out]; exact (HRZ.out.touch HX3.out (by omega)).alloc _)
      go_wp2_with (at_builtin; (refine wpList_append_lies _ rfl _ _ 64 rfl 0 127 ii (.agg #[.int .i64 0, .int .i64 0, .string ⟨#[]⟩]) 3 32 Try.underlying64 hi hz hi3 hi40 rfl (by decide) nv k (ndsV lst) rfl HVR2.out ⟨u2a.heap.size, 0, none⟩ 1 1 [.int .i64 z0, .int .i64 z1, .string ⟨z2.toArray⟩] rfl rfl HNC.out (by intro u hu; simp only [List.mem_cons, List.not_mem_nil, or_false] at hu; rcases hu with rfl | rfl | rfl <;> rfl) (by omega) (by unfold maxLen; omega) (by omega) (Nat.zero_le _) _ rfl ?_); intro g9 c9 w9 hr9 hg9 ho9 hl9; have hbm9 := HBM2.out.grown hg9 (fun e => HNM.out e.symm); have hmf9 := hbm9.frozen 6; have hmc9 := hbm9.cell 6; simp only [List.getElem?_toArray, List.getElem?_cons_zero, List.getElem?_cons_succ] at hmc9)
      obtain ⟨W, hW⟩ : ∃ W, W = w9.setCell ⟨(w.heap.size + 1 + 1), 6, none⟩ (.slice (some ⟨g9, 0, none⟩) (k + 1) c9) := ⟨_, rfl⟩
      have hbm9 := HBM2.out.grown hg9 (fun e => HNM.out e.symm)
      have hrz9 := HRZ2.out.grown hg9 (fun e => HNR.out e.symm)
      have hg9m : g9 ≠ (w.heap.size + 1 + 1) := by
        intro e
        have h9 : VRow w9 127 3 (.slice (some ⟨g9, 0, none⟩) (k + 1) c9) (k + 1) (ndsV lst ++ [.int .i64 z0, .int .i64 z1, .string ⟨z2.toArray⟩]) := hr9
        exact h9.ne_blk hbm9 (by decide) (by rw [e]; rfl)
      have HBW := Lib.hid (show Blk W (w.heap.size + 1 + 1) 67 #[.string ⟨x0.toArray⟩, .string ⟨x1.toArray⟩, .string ⟨x2.toArray⟩, .string ⟨x3.toArray⟩, .int .i64 x4, .string ⟨x5.toArray⟩, .slice (some ⟨g9, 0, none⟩) (k + 1) c9, .slice none 0 0, .int .i64 0] by rw [hW]; exact hbm9.set_ 6 (.slice (some ⟨g9, 0, none⟩) (k + 1) c9))
      have HRW := Lib.hid (show Blk W w.heap.size 67 #[.string ⟨#[]⟩, .string ⟨#[]⟩, .string ⟨#[]⟩, .string ⟨#[]⟩, .int .i64 0, .string ⟨#[]⟩, .slice none 0 0, .slice none 0 0, .int .i64 0] by rw [hW]; exact hrz9.far (p := ⟨(w.heap.size + 1 + 1), 6, none⟩) (by simp; omega) _)
      have HR9 := Lib.hid (show VRow W 127 3 (.slice (some ⟨g9, 0, none⟩) (k + 1) c9) (k + 1) (ndsV (lst ++ [⟨z0, z1, z2⟩])) from by
        rw [ndsV_snoc, hW]
        have h9 : VRow w9 127 3 (.slice (some ⟨g9, 0, none⟩) (k + 1) c9) (k + 1) (ndsV lst ++ [.int .i64 z0, .int .i64 z1, .string ⟨z2.toArray⟩]) := hr9
        exact h9.touch ((Touch.refl (· = (w.heap.size + 1 + 1)) w9).setCell (p := ⟨(w.heap.size + 1 + 1), 6, none⟩) (.inr rfl) _) (fun j hj => by simp [Value.ownBlock] at hj; omega))
      have hend9 : RdrSt W (w.heap.size + 1) A n c xs t3 ∧ Fresh w W := by
        rw [← HZ3.out] at hg9
        have h1 : Fresh w (u3.alloc (.cells #[.int .i64 z0, .int .i64 z1, .string ⟨z2.toArray⟩] 127)) := (HT.out.trans HX3.out fun _ _ h => by omega).alloc _
        obtain ⟨p', bad', on', hd, hst⟩ := HY3.out
        rw [hW]
        refine ⟨HSTEP.out _ _ _ _ _ (Nat.le_refl _) ⟨p', bad', on', ⟨(hd.1.alloc _).grown hg9 (fun e => HNB.out _ e.symm rfl), ?_, hd.2.2⟩, hst⟩, (h1.grown hg9 (fun j hj => .inl (HOWN.out j hj))).setCell (p := ⟨(w.heap.size + 1 + 1), 6, none⟩) (.inl (by simp; omega)) _⟩
        refine (hd.2.1.alloc (.cells #[.int .i64 z0, .int .i64 z1, .string ⟨z2.toArray⟩] 127)).keep fun h0 p v hp ⟨a, ha, e⟩ => ?_
        have h6 : a.block < w.heap.size := HN.out a ha h0
        refine (World.cell?_of_block (hg9.block p.block ?_ ?_)).trans hp
        · rw [e]
          exact Nat.lt_of_lt_of_le h6 h1.size
        · intro e5
          rw [e] at e5
          have := HOWN.out _ e5.symm
          omega
      have hown9 : ∀ j, (Value.slice (some ⟨g9, 0, none⟩) (k + 1) c9).ownBlock = some j → w.heap.size ≤ j := by
        intro j hj
        have hj' : g9 = j := by simpa [Value.ownBlock] using hj
        subst hj'
        rcases ho9 with h | h
        · exact HOWN.out _ h
        · rw [h]; simp; omega
      have HEND9 := Lib.hid hend9
      have HOWN9 := Lib.hid hown9
      rw [← hW]
      clear hend9 hown9 hr9 hg9 ho9 hl9 hW hbm9 hrz9
      go_roundw
      case rel => exact ⟨k + 1, by omega, by go_num, lst ++ [⟨z0, z1, z2⟩], t3, _, by simp [hlk], HBW.out, HR9.out, HOWN9.out, HSP2.out, HEND9.out.1, HEND9.out.2, HRW.out⟩
      case measure => simp [intOf] <;> omega
    · have hkd : ∀ q, st = .ok q → x6.toNat ≤ k := by
        intro q hq
        have hb : bad = false := by
          cases bad
          · rfl
          · rw [hq] at hst; simp at hst
        have : ¬ (k : Int) < x6 := fun h => hgo ⟨h, hb⟩
        omega
      have H37 := Lib.hid (HSP.out.done hkd)
      have hcond : (decide ((k : Int) < x6) && !bad) = false := by
        cases bad
        · have : ¬ (k : Int) < x6 := fun h => hgo ⟨h, rfl⟩
          simp; omega
        · simp
      clear hkd hgo
      obtain ⟨A8, c8, rfl, _⟩ := HVR.out.form
      obtain ⟨st8, hs9⟩ : ∃ x, x = st := ⟨_, rfl⟩
      obtain ⟨l8, hl⟩ : ∃ x, x = lst := ⟨_, rfl⟩
      obtain ⟨w8, hw⟩ : ∃ x, x = wr := ⟨_, rfl⟩
      have HB8 := HBM
      have HR8 := HRZ
      have HS8 := HSR
      have HT8 := HT
      have HVA0 := HVR
      have HOA0 := HOWN
      clear HVR HOWN HSP HBM HD HT HRZ HSR hst
      subst hlk hs9 hl hw
      by_cases hkN : ((l8.length : Nat) : Int) < x6
      · have hbt : bad = true := by simpa [hkN] using hcond
        subst hbt
        go_wp2_with fail
        refine (rnumber_any (w.heap.size + 1) A n c xs st8 0 4503599627370496 w8 HS8.out).mono ?_
        intro e w9 h
        obtain ⟨x8, st9, rfl, hs, ht, h3⟩ := h.cases
        have HB9 := Lib.hid (HB8.out.touch ht (by omega))
        have HR9 := Lib.hid (HR8.out.touch ht (by omega))
        have HS9 := Lib.hid hs
        have HT9 := Lib.hid (show Fresh w w9 from HT8.out.trans ht fun _ _ h => by omega)
        have hN : 0 ≤ x8 ∧ x8 ≤ 4503599627370496 ∧ ∀ p, st9 = .ok p → p ≤ xs.length := by
          rcases h3 with ⟨b, e1, hz, e2⟩ | ⟨p', b, e1, hg', hz, e2⟩ | ⟨p', q, e1, hg', e2⟩
          · subst hz; exact ⟨by omega, by omega, fun p e => by rw [e2] at e; cases e⟩
          · subst hz; exact ⟨by omega, by omega, fun p e => by rw [e2] at e; cases e⟩
          · have h9 := Dec.number_ok hg'
            exact ⟨h9.2.2.2.2.2, h9.2.2.2.2.1, fun p e => by rw [e2] at e; injection e with e; rw [← e]; exact h9.2.2.1⟩
        have H38 := Lib.hid (Stp.of h3)
        have hN0 := hN.1
        have hN1 := hN.2.1
        have HNP := Lib.hid hN.2.2
        have HVA0 := Lib.hid (HVA0.out.touch ht (fun j hj e => HVA0.out.ne_blk (HS8.out.choose_spec.choose_spec.choose_spec.1.1) (by decide) (by rw [hj, e])))
        clear hs ht h3 hN h
        go_wp2_with fail
        go_loopw [10] (fun i wr => ∃ k : Nat, (k : Int) ≤ x8 ∧ i = .int .i64 k ∧ ∃ (lst : List Dec.Sg) (st : Except Nat Nat) (nv : Value), lst.length = k ∧ Blk wr (w.heap.size + 1 + 1) 67 #[.string ⟨x0.toArray⟩, .string ⟨x1.toArray⟩, .string ⟨x2.toArray⟩, .string ⟨x3.toArray⟩, .int .i64 x4, .string ⟨x5.toArray⟩, .slice A8 l8.length c8, nv, .int .i64 0] ∧ VRow wr 129 2 nv k (sgsV lst) ∧ (∀ j, nv.ownBlock = some j → w.heap.size ≤ j) ∧
            ManySt Dec.sig xs x8.toNat k lst st9 st ∧ RdrSt wr (w.heap.size + 1) A n c xs st ∧ Fresh w wr ∧ Blk wr w.heap.size 67 #[.string ⟨#[]⟩, .string ⟨#[]⟩, .string ⟨#[]⟩, .string ⟨#[]⟩, .int .i64 0, .string ⟨#[]⟩, .slice none 0 0, .slice none 0 0, .int .i64 0] ∧ VRow wr 127 3 (.slice A8 l8.length c8) l8.length (ndsV l8)) (fun i _ => x8.toNat - (intOf i).toNat)
        case atStart => exact ⟨0, by omega, rfl, [], st9, .slice none 0 0, rfl, HB9.out, VRow.nil_ _ _ _, fun j h => own_none h, ManySt.start HNP.out, HS9.out, HT9.out, HR9.out, HVA0.out⟩
        case round =>
          obtain ⟨k, hk, rfl, lst, st, nv, hlk, hbm, hvr, hown, hsp, ⟨p, bad, on, hd, hst⟩, ht, hrz, hva0⟩ := hrel
          have hcb := hd.1.cell 2
          simp only [List.getElem?_toArray, List.getElem?_cons_zero, List.getElem?_cons_succ] at hcb
          have HVR := Lib.hid hvr; clear hvr
          have HBM := Lib.hid hbm; clear hbm
          have HOWN := Lib.hid hown; clear hown
          have HSP := Lib.hid hsp; clear hsp
          have HD := Lib.hid hd; clear hd
          have HT := Lib.hid ht; clear ht
          have HRZ := Lib.hid hrz; clear hrz
          have HVB0 := Lib.hid hva0; clear hva0
          have HSR := Lib.hid (show RdrSt wr (w.heap.size + 1) A n c xs st from ⟨p, bad, on, HD.out, hst⟩)
          by_cases hgo : (k : Int) < x8 ∧ bad = false
          · obtain ⟨hlt, rfl⟩ := hgo
            simp only [Bool.false_eq_true, if_false] at hst
            subst hst
            have hkp := HSP.out.le
            have hpn := HD.out.2.2.1
            have hltn : k < x8.toNat := by omega
            obtain ⟨ob, hob⟩ : ∃ ob, ob = wr.heap.size := ⟨_, rfl⟩
            obtain ⟨u0, hu0⟩ : ∃ x, x = wr.alloc (.cells #[.string ⟨#[]⟩, .string ⟨#[]⟩] 129) := ⟨_, rfl⟩
            have HO0 := Lib.hid (show Blk u0 ob 129 #[.string ⟨#[]⟩, .string ⟨#[]⟩] by rw [hu0, hob]; exact Blk.new _ _ _)
            have HY0 := Lib.hid (show RdrSt u0 (w.heap.size + 1) A n c xs (.ok p) by rw [hu0]; exact ⟨p, false, on, ⟨HD.out.1.alloc _, HD.out.2.1.alloc _, HD.out.2.2⟩, rfl⟩)
            have HX0 := Lib.hid (show Touch (· = (w.heap.size + 1)) wr u0 by rw [hu0]; exact (Touch.refl _ wr).alloc _)
            have hbel := HD.out.1.lt
            have hmbl := HBM.out.lt
            have hww : w.heap.size ≤ wr.heap.size := HT.out.size
            have hobw : wr.heap.size ≤ ob := by omega
            have hobe : ob ≠ (w.heap.size + 1) := by omega
            have HNB : Hid (∀ j, nv.ownBlock = some j → ¬ (j = (w.heap.size + 1))) := Lib.hid (fun j hj e => HVR.out.ne_blk HD.out.1 (by decide) (by rw [hj, e]))
            have HNM : Hid (nv.ownBlock ≠ some (w.heap.size + 1 + 1)) := Lib.hid (HVR.out.ne_blk HBM.out (by decide))
            have HNR : Hid (nv.ownBlock ≠ some w.heap.size) := Lib.hid (HVR.out.ne_blk HRZ.out (by decide))
            have HVN0 := Lib.hid (HVB0.out.ne_row HVR.out (by decide))
            have HOB := Lib.hid hob
            have HZ0 := Lib.hid hu0
            clear hu0 hob
            go_wp2_with fail
            rw [← HZ0.out, ← HOB.out]
            refine (rtext_any (w.heap.size + 1) A n c xs (.ok p) u0 HY0.out).mono ?_
            intro e u0a h
            obtain ⟨z0, t1, rfl, hs, ht, h3⟩ := h.cases
            have HV0 := Lib.hid (Stp.of h3)
            have hbo := HO0.out.touch ht hobe
            have hc := hbo.cell 0
            have hf := hbo.frozen 0
            simp only [List.getElem?_toArray, List.getElem?_cons_zero] at hc
            obtain ⟨u1, hu⟩ : ∃ x, x = u0a.setCell ⟨ob, 0, none⟩ (.string ⟨z0.toArray⟩) := ⟨_, rfl⟩
            have HO1 := Lib.hid (show Blk u1 ob 129 #[.string ⟨z0.toArray⟩, .string ⟨#[]⟩] by rw [hu]; exact hbo.set_ 0 (.string ⟨z0.toArray⟩))
            have HY1 := Lib.hid (show RdrSt u1 (w.heap.size + 1) A n c xs t1 by rw [hu]; exact HSTEP.out _ _ _ _ _ (by omega) hs)
            have HX1 := Lib.hid (show Touch (· = (w.heap.size + 1)) wr u1 by rw [hu]; exact (HX0.out.trans ht fun _ _ h => h).setCell (p := ⟨ob, 0, none⟩) (.inl hobw) _)
            have HZ1 := Lib.hid hu
            clear hs h3 h ht hbo hu
            go_wp2_with fail
            rw [← HZ1.out]
            clear hc hf
            refine (rtext_any (w.heap.size + 1) A n c xs t1 u1 HY1.out).mono ?_
            intro e u1a h
            obtain ⟨z1, t2, rfl, hs, ht, h3⟩ := h.cases
            have HV1 := Lib.hid (Stp.of h3)
            have hbo := HO1.out.touch ht hobe
            have hc := hbo.cell 1
            have hf := hbo.frozen 1
            simp only [List.getElem?_toArray, List.getElem?_cons_zero, List.getElem?_cons_succ] at hc
            obtain ⟨u2, hu⟩ : ∃ x, x = u1a.setCell ⟨ob, 1, none⟩ (.string ⟨z1.toArray⟩) := ⟨_, rfl⟩
            have HO2 := Lib.hid (show Blk u2 ob 129 #[.string ⟨z0.toArray⟩, .string ⟨z1.toArray⟩] by rw [hu]; exact hbo.set_ 1 (.string ⟨z1.toArray⟩))
            have HY2 := Lib.hid (show RdrSt u2 (w.heap.size + 1) A n c xs t2 by rw [hu]; exact HSTEP.out _ _ _ _ _ (by omega) hs)
            have HX2 := Lib.hid (show Touch (· = (w.heap.size + 1)) wr u2 by rw [hu]; exact (HX1.out.trans ht fun _ _ h => h).setCell (p := ⟨ob, 1, none⟩) (.inl hobw) _)
            have HZ2 := Lib.hid hu
            clear hs h3 h ht hbo hu
            obtain ⟨ii, hi, hz, hi3, hi40⟩ := info_parts Try.infoSg
            have hd0 := HO2.out.cell 0
            have hd1 := HO2.out.cell 1
            have hmc := (HBM.out.touch HX2.out (by omega)).cell 7
            have hmf := (HBM.out.touch HX2.out (by omega)).frozen 7
            simp only [List.getElem?_toArray, List.getElem?_cons_zero, List.getElem?_cons_succ] at hd0 hd1 hmc
            rw [HZ2.out] at hd0 hd1 hmc hmf
            have HVR2 := Lib.hid (show VRow ((u1a.setCell ⟨ob, 1, none⟩ (.string ⟨z1.toArray⟩)).alloc (.cells #[.string ⟨z0.toArray⟩, .string ⟨z1.toArray⟩] 129)) 129 2 nv k (sgsV lst) from by
              rw [← HZ2.out]
              exact (HVR.out.touch HX2.out (fun j hj => HNB.out j hj)).alloc _)
            have HNC : Hid (∀ j u, [.string ⟨z0.toArray⟩, .string ⟨z1.toArray⟩][j]? = some u → ((u1a.setCell ⟨ob, 1, none⟩ (.string ⟨z1.toArray⟩)).alloc (.cells #[.string ⟨z0.toArray⟩, .string ⟨z1.toArray⟩] 129)).cell? ((⟨u1a.heap.size, 0, none⟩ : Addr).add j) = some u) := Lib.hid (by
              have h := new_cells (u1a.setCell ⟨ob, 1, none⟩ (.string ⟨z1.toArray⟩)) 129 [.string ⟨z0.toArray⟩, .string ⟨z1.toArray⟩]
              rw [show (u1a.setCell ⟨ob, 1, none⟩ (.string ⟨z1.toArray⟩)).heap.size = u1a.heap.size from by simp] at h
              exact h)
            have HSP2 : Hid (ManySt Dec.sig xs x8.toNat (k + 1) (lst ++ [⟨z0, z1⟩]) st9 t2) := Lib.hid (by
              rcases HV0.out.ok with ⟨a, hg0, e0⟩ | ⟨q0, hg0, e0⟩
              · subst e0
                have e1 := HV1.out.err
                subst e1
                exact HSP.out.bad hltn (by unfold Dec.sig Dec.bind; simp only [hg0])
              · subst e0
                rcases HV1.out.ok with ⟨a, hg1, e1⟩ | ⟨q1, hg1, e1⟩
                · subst e1
                  exact HSP.out.bad hltn (by unfold Dec.sig Dec.bind; simp only [hg0]; simp only [hg1])
                · subst e1
                  have hok : Dec.sig xs p = .ok (⟨z0, z1⟩, q1) := by unfold Dec.sig Dec.bind; simp only [hg0]; simp only [hg1]
                  exact HSP.out.good (sig_go hok) hltn hok)
            have hsz : w.heap.size ≤ u1a.heap.size := by have h := (HT.out.trans HX2.out fun _ _ h => by omega).size; rw [HZ2.out] at h; simpa using h
            have HBM2 := Lib.hid (show Blk ((u1a.setCell ⟨ob, 1, none⟩ (.string ⟨z1.toArray⟩)).alloc (.cells #[.string ⟨z0.toArray⟩, .string ⟨z1.toArray⟩] 129)) (w.heap.size + 1 + 1) 67 #[.string ⟨x0.toArray⟩, .string ⟨x1.toArray⟩, .string ⟨x2.toArray⟩, .string ⟨x3.toArray⟩, .int .i64 x4, .string ⟨x5.toArray⟩, .slice A8 l8.length c8, nv, .int .i64 0] by rw [← HZ2.out]; exact (HBM.out.touch HX2.out (by omega)).alloc _)
            have HRZ2 := Lib.hid (show Blk ((u1a.setCell ⟨ob, 1, none⟩ (.string ⟨z1.toArray⟩)).alloc (.cells #[.string ⟨z0.toArray⟩, .string ⟨z1.toArray⟩] 129)) w.heap.size 67 #[.string ⟨#[]⟩, .string ⟨#[]⟩, .string ⟨#[]⟩, .string ⟨#[]⟩, .int .i64 0, .string ⟨#[]⟩, .slice none 0 0, .slice none 0 0, .int .i64 0] by rw [← HZ2.out]; exact (HRZ.out.touch HX2.out (by omega)).alloc _)
            go_wp2_with (at_builtin; (refine wpList_append_lies _ rfl _ _ 65 rfl 0 129 ii (.agg #[.string ⟨#[]⟩, .string ⟨#[]⟩]) 2 32 Try.underlying65 hi hz hi3 hi40 rfl (by decide) nv k (sgsV lst) rfl HVR2.out ⟨u1a.heap.size, 0, none⟩ 1 1 [.string ⟨z0.toArray⟩, .string ⟨z1.toArray⟩] rfl rfl HNC.out (by intro u hu; simp only [List.mem_cons, List.not_mem_nil, or_false] at hu; rcases hu with rfl | rfl <;> rfl) (by omega) (by unfold maxLen; omega) (by omega) (Nat.zero_le _) _ rfl ?_); intro g9 c9 w9 hr9 hg9 ho9 hl9; have hbm9 := HBM2.out.grown hg9 (fun e => HNM.out e.symm); have hmf9 := hbm9.frozen 7; have hmc9 := hbm9.cell 7; simp only [List.getElem?_toArray, List.getElem?_cons_zero, List.getElem?_cons_succ] at hmc9)
            obtain ⟨W, hW⟩ : ∃ W, W = w9.setCell ⟨(w.heap.size + 1 + 1), 7, none⟩ (.slice (some ⟨g9, 0, none⟩) (k + 1) c9) := ⟨_, rfl⟩
            have hbm9 := HBM2.out.grown hg9 (fun e => HNM.out e.symm)
            have hrz9 := HRZ2.out.grown hg9 (fun e => HNR.out e.symm)
            have hg9m : g9 ≠ (w.heap.size + 1 + 1) := by
              intro e
              have h9 : VRow w9 129 2 (.slice (some ⟨g9, 0, none⟩) (k + 1) c9) (k + 1) (sgsV lst ++ [.string ⟨z0.toArray⟩, .string ⟨z1.toArray⟩]) := hr9
              exact h9.ne_blk hbm9 (by decide) (by rw [e]; rfl)
            have HBW := Lib.hid (show Blk W (w.heap.size + 1 + 1) 67 #[.string ⟨x0.toArray⟩, .string ⟨x1.toArray⟩, .string ⟨x2.toArray⟩, .string ⟨x3.toArray⟩, .int .i64 x4, .string ⟨x5.toArray⟩, .slice A8 l8.length c8, .slice (some ⟨g9, 0, none⟩) (k + 1) c9, .int .i64 0] by rw [hW]; exact hbm9.set_ 7 (.slice (some ⟨g9, 0, none⟩) (k + 1) c9))
            have HRW := Lib.hid (show Blk W w.heap.size 67 #[.string ⟨#[]⟩, .string ⟨#[]⟩, .string ⟨#[]⟩, .string ⟨#[]⟩, .int .i64 0, .string ⟨#[]⟩, .slice none 0 0, .slice none 0 0, .int .i64 0] by rw [hW]; exact hrz9.far (p := ⟨(w.heap.size + 1 + 1), 7, none⟩) (by simp; omega) _)
            have HR9 := Lib.hid (show VRow W 129 2 (.slice (some ⟨g9, 0, none⟩) (k + 1) c9) (k + 1) (sgsV (lst ++ [⟨z0, z1⟩])) from by
              rw [sgsV_snoc, hW]
              have h9 : VRow w9 129 2 (.slice (some ⟨g9, 0, none⟩) (k + 1) c9) (k + 1) (sgsV lst ++ [.string ⟨z0.toArray⟩, .string ⟨z1.toArray⟩]) := hr9
              exact h9.touch ((Touch.refl (· = (w.heap.size + 1 + 1)) w9).setCell (p := ⟨(w.heap.size + 1 + 1), 7, none⟩) (.inr rfl) _) (fun j hj => by simp [Value.ownBlock] at hj; omega))
            have hend9 : RdrSt W (w.heap.size + 1) A n c xs t2 ∧ Fresh w W := by
              rw [← HZ2.out] at hg9
              have h1 : Fresh w (u2.alloc (.cells #[.string ⟨z0.toArray⟩, .string ⟨z1.toArray⟩] 129)) := (HT.out.trans HX2.out fun _ _ h => by omega).alloc _
              obtain ⟨p', bad', on', hd, hst⟩ := HY2.out
              rw [hW]
              refine ⟨HSTEP.out _ _ _ _ _ (Nat.le_refl _) ⟨p', bad', on', ⟨(hd.1.alloc _).grown hg9 (fun e => HNB.out _ e.symm rfl), ?_, hd.2.2⟩, hst⟩, (h1.grown hg9 (fun j hj => .inl (HOWN.out j hj))).setCell (p := ⟨(w.heap.size + 1 + 1), 7, none⟩) (.inl (by simp; omega)) _⟩
              refine (hd.2.1.alloc (.cells #[.string ⟨z0.toArray⟩, .string ⟨z1.toArray⟩] 129)).keep fun h0 p v hp ⟨a, ha, e⟩ => ?_
              have h6 : a.block < w.heap.size := HN.out a ha h0
              refine (World.cell?_of_block (hg9.block p.block ?_ ?_)).trans hp
              · rw [e]
                exact Nat.lt_of_lt_of_le h6 h1.size
              · intro e5
                rw [e] at e5
                have := HOWN.out _ e5.symm
                omega
            have hown9 : ∀ j, (Value.slice (some ⟨g9, 0, none⟩) (k + 1) c9).ownBlock = some j → w.heap.size ≤ j := by
              intro j hj
              have hj' : g9 = j := by simpa [Value.ownBlock] using hj
              subst hj'
              rcases ho9 with h | h
              · exact HOWN.out _ h
              · rw [h]; simp; omega
            have HEND9 := Lib.hid hend9
            have HOWN9 := Lib.hid hown9
            have HVC0 := Lib.hid (show VRow W 127 3 (.slice A8 l8.length c8) l8.length (ndsV l8) by
              rw [hW]
              refine VRow.touch (S := (· = (w.heap.size + 1 + 1))) ?_ ((Touch.refl (· = (w.heap.size + 1 + 1)) w9).setCell (p := ⟨(w.heap.size + 1 + 1), 7, none⟩) (.inr rfl) _) (fun j hj e => (HVB0.out.ne_blk HBM.out (by decide)) (by rw [hj, e]))
              have h9 := (HVB0.out.touch HX2.out (fun j hj e => (HVB0.out.ne_blk HD.out.1 (by decide)) (by rw [hj, e]))).alloc (.cells #[.string ⟨z0.toArray⟩, .string ⟨z1.toArray⟩] 129)
              rw [HZ2.out] at h9
              exact World.ownsRow.kept h9 hg9 HVN0.out)
            rw [← hW]
            clear hend9 hown9 hr9 hg9 ho9 hl9 hW hbm9 hrz9
            go_roundw
            case rel => exact ⟨k + 1, by omega, by go_num, lst ++ [⟨z0, z1⟩], t2, _, by simp [hlk], HBW.out, HR9.out, HOWN9.out, HSP2.out, HEND9.out.1, HEND9.out.2, HRW.out, HVC0.out⟩
            case measure => simp [intOf] <;> omega
          · have hkd : ∀ q, st = .ok q → x8.toNat ≤ k := by
              intro q hq
              have hb : bad = false := by
                cases bad
                · rfl
                · rw [hq] at hst; simp at hst
              have : ¬ (k : Int) < x8 := fun h => hgo ⟨h, hb⟩
              omega
            have H39 := Lib.hid (HSP.out.done hkd)
            have hcond : (decide ((k : Int) < x8) && !bad) = false := by
              cases bad
              · have : ¬ (k : Int) < x8 := fun h => hgo ⟨h, rfl⟩
                simp; omega
              · simp
            clear hkd hgo
            obtain ⟨A10, c10, rfl, _⟩ := HVR.out.form
            obtain ⟨st10, hs9⟩ : ∃ x, x = st := ⟨_, rfl⟩
            obtain ⟨l10, hl⟩ : ∃ x, x = lst := ⟨_, rfl⟩
            obtain ⟨w10, hw⟩ : ∃ x, x = wr := ⟨_, rfl⟩
            have HB10 := HBM
            have HR10 := HRZ
            have HS10 := HSR
            have HT10 := HT
            have HVA1 := HVR
            have HOA1 := HOWN
            have HVA0 := HVB0
            clear HVR HOWN HSP HBM HD HT HRZ HSR hst HVB0
            subst hlk hs9 hl hw
            by_cases hkN : ((l10.length : Nat) : Int) < x8
            · have hbt : bad = true := by simpa [hkN] using hcond
              subst hbt
              go_wp2_with fail
              have hn0 := HVA0.out
              have HNA0 : Hid (∀ j, (Value.slice A8 l8.length c8).ownBlock = some j → ¬ (j = (w.heap.size + 1) ∨ j = (w.heap.size + 1 + 1) ∨ j = w.heap.size)) := Lib.hid (by
                rintro j hj (h | h | h)
                · exact hn0.ne_blk HS10.out.choose_spec.choose_spec.choose_spec.1.1 (by decide) (by rw [hj, h])
                · exact hn0.ne_blk HB10.out (by decide) (by rw [hj, h])
                · exact hn0.ne_blk HR10.out (by decide) (by rw [hj, h]))
              clear hn0
              have hn1 := HVA1.out
              have HNA1 : Hid (∀ j, (Value.slice A10 l10.length c10).ownBlock = some j → ¬ (j = (w.heap.size + 1) ∨ j = (w.heap.size + 1 + 1) ∨ j = w.heap.size)) := Lib.hid (by
                rintro j hj (h | h | h)
                · exact hn1.ne_blk HS10.out.choose_spec.choose_spec.choose_spec.1.1 (by decide) (by rw [hj, h])
                · exact hn1.ne_blk HB10.out (by decide) (by rw [hj, h])
                · exact hn1.ne_blk HR10.out (by decide) (by rw [hj, h]))
              clear hn1
              refine (rnumber_any (w.heap.size + 1) A n c xs st10 0 4503599627370496 w10 HS10.out).mono ?_
              intro e wa10 h
              obtain ⟨x10, st11, rfl, hs, ht, h3⟩ := h.cases
              have hb := HB10.out.touch ht (by omega)
              have hr := HR10.out.touch ht (by omega)
              have hc := hb.cell 8
              have hf := hb.frozen 8
              simp only [List.getElem?_toArray, List.getElem?_cons_zero, List.getElem?_cons_succ] at hc
              obtain ⟨w11, hw11⟩ : ∃ w', w' = wa10.setCell ⟨(w.heap.size + 1 + 1), 8, none⟩ (.int .i64 x10) := ⟨_, rfl⟩
              have HB11 := Lib.hid (show Blk w11 (w.heap.size + 1 + 1) 67 #[.string ⟨x0.toArray⟩, .string ⟨x1.toArray⟩, .string ⟨x2.toArray⟩, .string ⟨x3.toArray⟩, .int .i64 x4, .string ⟨x5.toArray⟩, .slice A8 l8.length c8, .slice A10 l10.length c10, .int .i64 x10] by rw [hw11]; exact hb.set_ 8 (.int .i64 x10))
              have HR11 := Lib.hid (show Blk w11 w.heap.size 67 #[.string ⟨#[]⟩, .string ⟨#[]⟩, .string ⟨#[]⟩, .string ⟨#[]⟩, .int .i64 0, .string ⟨#[]⟩, .slice none 0 0, .slice none 0 0, .int .i64 0] by rw [hw11]; exact hr.far (p := ⟨(w.heap.size + 1 + 1), 8, none⟩) (by simp; omega) _)
              have HS11 := Lib.hid (show RdrSt w11 (w.heap.size + 1) A n c xs st11 by rw [hw11]; exact HSTEP.out _ _ _ _ _ (Nat.le_refl _) hs)
              have HT11 := Lib.hid (show Fresh w w11 by rw [hw11]; exact (HT10.out.trans ht fun _ _ h => by omega).setCell (p := ⟨(w.heap.size + 1 + 1), 8, none⟩) (.inl (by simp; omega)) _)
              have HW11 := Lib.hid hw11
              have H310 := Lib.hid (Stp.of h3)
              have HTS := Lib.hid (show Touch (fun k => k = (w.heap.size + 1) ∨ k = (w.heap.size + 1 + 1) ∨ k = w.heap.size) w10 w11 by rw [hw11]; exact (ht.mono fun _ _ h => .inl h).setCell (p := ⟨(w.heap.size + 1 + 1), 8, none⟩) (.inr (.inr (.inl rfl))) _)
              clear hw11 hb hr hs ht h3 h
              go_wp2_with fail
              rw [← HW11.out]
              clear hc hf
              have hfin : (Dec.whole (Dec.state xs 0) n = .ok ⟨x0, x1, x2, x3, x4, x5, l8, l10, x10⟩ ∧ rendV n st11 = .tuple #[.int .i64 0, .int .i64 0]) ∨ (∃ a, Dec.whole (Dec.state xs 0) n = .error a ∧ rendV n st11 = .tuple #[.int .i64 a, .int .i64 2]) := by
                have h0 := HST0.out
                subst h0
                rcases H30.out.ok with ⟨a, hg0, e1⟩ | ⟨q1, hg0, e1⟩
                · subst e1
                  have e2 := H31.out.err
                  subst e2
                  have e3 := H32.out.err
                  subst e3
                  have e4 := H33.out.err
                  subst e4
                  have e5 := H34.out.err
                  subst e5
                  have e6 := H35.out.err
                  subst e6
                  have e7 := H36.out.err
                  subst e7
                  have e8 := H37.out.err
                  subst e8
                  have e9 := H38.out.err
                  subst e9
                  have e10 := H39.out.err
                  subst e10
                  have e11 := H310.out.err
                  subst e11
                  exact .inr ⟨a, by unfold Dec.state Dec.bind; simp only [hg0]; rfl, rfl⟩
                · subst e1
                  rcases H31.out.ok with ⟨a, hg1, e2⟩ | ⟨q2, hg1, e2⟩
                  · subst e2
                    have e3 := H32.out.err
                    subst e3
                    have e4 := H33.out.err
                    subst e4
                    have e5 := H34.out.err
                    subst e5
                    have e6 := H35.out.err
                    subst e6
                    have e7 := H36.out.err
                    subst e7
                    have e8 := H37.out.err
                    subst e8
                    have e9 := H38.out.err
                    subst e9
                    have e10 := H39.out.err
                    subst e10
                    have e11 := H310.out.err
                    subst e11
                    exact .inr ⟨a, by unfold Dec.state Dec.bind; simp only [hg0]; simp only [hg1]; rfl, rfl⟩
                  · subst e2
                    rcases H32.out.ok with ⟨a, hg2, e3⟩ | ⟨q3, hg2, e3⟩
                    · subst e3
                      have e4 := H33.out.err
                      subst e4
                      have e5 := H34.out.err
                      subst e5
                      have e6 := H35.out.err
                      subst e6
                      have e7 := H36.out.err
                      subst e7
                      have e8 := H37.out.err
                      subst e8
                      have e9 := H38.out.err
                      subst e9
                      have e10 := H39.out.err
                      subst e10
                      have e11 := H310.out.err
                      subst e11
                      exact .inr ⟨a, by unfold Dec.state Dec.bind; simp only [hg0]; simp only [hg1]; simp only [hg2]; rfl, rfl⟩
                    · subst e3
                      rcases H33.out.ok with ⟨a, hg3, e4⟩ | ⟨q4, hg3, e4⟩
                      · subst e4
                        have e5 := H34.out.err
                        subst e5
                        have e6 := H35.out.err
                        subst e6
                        have e7 := H36.out.err
                        subst e7
                        have e8 := H37.out.err
                        subst e8
                        have e9 := H38.out.err
                        subst e9
                        have e10 := H39.out.err
                        subst e10
                        have e11 := H310.out.err
                        subst e11
                        exact .inr ⟨a, by unfold Dec.state Dec.bind; simp only [hg0]; simp only [hg1]; simp only [hg2]; simp only [hg3]; rfl, rfl⟩
                      · subst e4
                        rcases H34.out.ok with ⟨a, hg4, e5⟩ | ⟨q5, hg4, e5⟩
                        · subst e5
                          have e6 := H35.out.err
                          subst e6
                          have e7 := H36.out.err
                          subst e7
                          have e8 := H37.out.err
                          subst e8
                          have e9 := H38.out.err
                          subst e9
                          have e10 := H39.out.err
                          subst e10
                          have e11 := H310.out.err
                          subst e11
                          exact .inr ⟨a, by unfold Dec.state Dec.bind; simp only [hg0]; simp only [hg1]; simp only [hg2]; simp only [hg3]; simp only [hg4]; rfl, rfl⟩
                        · subst e5
                          rcases H35.out.ok with ⟨a, hg5, e6⟩ | ⟨q6, hg5, e6⟩
                          · subst e6
                            have e7 := H36.out.err
                            subst e7
                            have e8 := H37.out.err
                            subst e8
                            have e9 := H38.out.err
                            subst e9
                            have e10 := H39.out.err
                            subst e10
                            have e11 := H310.out.err
                            subst e11
                            exact .inr ⟨a, by unfold Dec.state Dec.bind; simp only [hg0]; simp only [hg1]; simp only [hg2]; simp only [hg3]; simp only [hg4]; simp only [hg5]; rfl, rfl⟩
                          · subst e6
                            rcases H36.out.ok with ⟨a, hg6, e7⟩ | ⟨q7, hg6, e7⟩
                            · subst e7
                              replace hg6 : Dec.plain xs _ = _ := hg6
                              have e8 := H37.out.err
                              subst e8
                              have e9 := H38.out.err
                              subst e9
                              have e10 := H39.out.err
                              subst e10
                              have e11 := H310.out.err
                              subst e11
                              exact .inr ⟨a, by unfold Dec.state Dec.bind; simp only [hg0]; simp only [hg1]; simp only [hg2]; simp only [hg3]; simp only [hg4]; simp only [hg5]; simp only [hg6]; rfl, rfl⟩
                            · subst e7
                              replace hg6 : Dec.plain xs _ = _ := hg6
                              rcases H37.out.ok with ⟨a, hg7, e8⟩ | ⟨q8, hg7, e8⟩
                              · subst e8
                                have e9 := H38.out.err
                                subst e9
                                have e10 := H39.out.err
                                subst e10
                                have e11 := H310.out.err
                                subst e11
                                exact .inr ⟨a, by unfold Dec.state Dec.bind; simp only [hg0]; simp only [hg1]; simp only [hg2]; simp only [hg3]; simp only [hg4]; simp only [hg5]; simp only [hg6]; simp only [hg7]; rfl, rfl⟩
                              · subst e8
                                rcases H38.out.ok with ⟨a, hg8, e9⟩ | ⟨q9, hg8, e9⟩
                                · subst e9
                                  replace hg8 : Dec.plain xs _ = _ := hg8
                                  have e10 := H39.out.err
                                  subst e10
                                  have e11 := H310.out.err
                                  subst e11
                                  exact .inr ⟨a, by unfold Dec.state Dec.bind; simp only [hg0]; simp only [hg1]; simp only [hg2]; simp only [hg3]; simp only [hg4]; simp only [hg5]; simp only [hg6]; simp only [hg7]; simp only [hg8]; rfl, rfl⟩
                                · subst e9
                                  replace hg8 : Dec.plain xs _ = _ := hg8
                                  rcases H39.out.ok with ⟨a, hg9, e10⟩ | ⟨q10, hg9, e10⟩
                                  · subst e10
                                    have e11 := H310.out.err
                                    subst e11
                                    exact .inr ⟨a, by unfold Dec.state Dec.bind; simp only [hg0]; simp only [hg1]; simp only [hg2]; simp only [hg3]; simp only [hg4]; simp only [hg5]; simp only [hg6]; simp only [hg7]; simp only [hg8]; simp only [hg9]; rfl, rfl⟩
                                  · subst e10
                                    rcases H310.out.ok with ⟨a, hg10, e11⟩ | ⟨q11, hg10, e11⟩
                                    · subst e11
                                      replace hg10 : Dec.plain xs _ = _ := hg10
                                      exact .inr ⟨a, by unfold Dec.state Dec.bind; simp only [hg0]; simp only [hg1]; simp only [hg2]; simp only [hg3]; simp only [hg4]; simp only [hg5]; simp only [hg6]; simp only [hg7]; simp only [hg8]; simp only [hg9]; simp only [hg10]; rfl, rfl⟩
                                    · subst e11
                                      replace hg10 : Dec.plain xs _ = _ := hg10
                                      have hsp : Dec.state xs 0 = .ok (⟨x0, x1, x2, x3, x4, x5, l8, l10, x10⟩, q11) := by unfold Dec.state Dec.bind; simp only [hg0]; simp only [hg1]; simp only [hg2]; simp only [hg3]; simp only [hg4]; simp only [hg5]; simp only [hg6]; simp only [hg7]; simp only [hg8]; simp only [hg9]; simp only [hg10]
                                      rw [hsp]
                                      by_cases hq : q11 < n
                                      · exact .inr ⟨q11, if_pos hq, if_pos hq⟩
                                      · exact .inl ⟨if_neg hq, if_neg hq⟩
              have HFIN := Lib.hid hfin
              clear hfin
              have HEND := Lib.hid (rend_any (w.heap.size + 1) A n c xs st11 w11 HS11.out)
              refine HEND.out.mono ?_
              rintro e wz ⟨ht, rfl⟩
              have hb := HB11.out.touch ht (by omega)
              have hr := HR11.out.touch ht (by omega)
              have HTZ := Lib.hid (show Fresh w wz from HT11.out.trans ht fun _ _ h => by omega)
              have HTS2 := Lib.hid (show Touch (fun k => k = (w.heap.size + 1) ∨ k = (w.heap.size + 1 + 1) ∨ k = w.heap.size) w10 wz from HTS.out.trans ht fun _ _ h => .inl h)
              have hc0 := hr.cell 0
              have hf0 := hr.frozen 0
              have hd0 := hb.cell 0
              have hc1 := hr.cell 1
              have hf1 := hr.frozen 1
              have hd1 := hb.cell 1
              have hc2 := hr.cell 2
              have hf2 := hr.frozen 2
              have hd2 := hb.cell 2
              have hc3 := hr.cell 3
              have hf3 := hr.frozen 3
              have hd3 := hb.cell 3
              have hc4 := hr.cell 4
              have hf4 := hr.frozen 4
              have hd4 := hb.cell 4
              have hc5 := hr.cell 5
              have hf5 := hr.frozen 5
              have hd5 := hb.cell 5
              have hc6 := hr.cell 6
              have hf6 := hr.frozen 6
              have hd6 := hb.cell 6
              have hc7 := hr.cell 7
              have hf7 := hr.frozen 7
              have hd7 := hb.cell 7
              have hc8 := hr.cell 8
              have hf8 := hr.frozen 8
              have hd8 := hb.cell 8
              simp only [List.getElem?_toArray, List.getElem?_cons_zero, List.getElem?_cons_succ] at hc0 hd0 hc1 hd1 hc2 hd2 hc3 hd3 hc4 hd4 hc5 hd5 hc6 hd6 hc7 hd7 hc8 hd8
              have HRz := Lib.hid hr
              clear hr hb ht
              rcases HFIN.out with ⟨hsp, hrv⟩ | ⟨a, hsp, hrv⟩
              · obtain ⟨W, hW⟩ : ∃ W, W = (((((((((wz.setCell ⟨w.heap.size, 0, none⟩ (.string ⟨x0.toArray⟩)).setCell ⟨w.heap.size, 1, none⟩ (.string ⟨x1.toArray⟩)).setCell ⟨w.heap.size, 2, none⟩ (.string ⟨x2.toArray⟩)).setCell ⟨w.heap.size, 3, none⟩ (.string ⟨x3.toArray⟩)).setCell ⟨w.heap.size, 4, none⟩ (.int .i64 x4)).setCell ⟨w.heap.size, 5, none⟩ (.string ⟨x5.toArray⟩)).setCell ⟨w.heap.size, 6, none⟩ (.slice A8 l8.length c8)).setCell ⟨w.heap.size, 7, none⟩ (.slice A10 l10.length c10)).setCell ⟨w.heap.size, 8, none⟩ (.int .i64 x10)) := ⟨_, rfl⟩
                have HBW := Lib.hid (show Blk W w.heap.size 67 #[.string ⟨x0.toArray⟩, .string ⟨x1.toArray⟩, .string ⟨x2.toArray⟩, .string ⟨x3.toArray⟩, .int .i64 x4, .string ⟨x5.toArray⟩, .slice A8 l8.length c8, .slice A10 l10.length c10, .int .i64 x10] by rw [hW]; exact HRz.out.puts_all [.string ⟨x0.toArray⟩, .string ⟨x1.toArray⟩, .string ⟨x2.toArray⟩, .string ⟨x3.toArray⟩, .int .i64 x4, .string ⟨x5.toArray⟩, .slice A8 l8.length c8, .slice A10 l10.length c10, .int .i64 x10] rfl)
                have HTW := Lib.hid (show Fresh w W by rw [hW]; exact HTZ.out.puts (b := w.heap.size) (.inl (Nat.le_refl _)) 0 [.string ⟨x0.toArray⟩, .string ⟨x1.toArray⟩, .string ⟨x2.toArray⟩, .string ⟨x3.toArray⟩, .int .i64 x4, .string ⟨x5.toArray⟩, .slice A8 l8.length c8, .slice A10 l10.length c10, .int .i64 x10])
                have HTS3 := Lib.hid (show Touch (fun k => k = (w.heap.size + 1) ∨ k = (w.heap.size + 1 + 1) ∨ k = w.heap.size) w10 W by rw [hW]; exact HTS2.out.puts (b := w.heap.size) (.inr (.inr (.inr rfl))) 0 [.string ⟨x0.toArray⟩, .string ⟨x1.toArray⟩, .string ⟨x2.toArray⟩, .string ⟨x3.toArray⟩, .int .i64 x4, .string ⟨x5.toArray⟩, .slice A8 l8.length c8, .slice A10 l10.length c10, .int .i64 x10])
                have HW := Lib.hid hW
                have HSP := Lib.hid hsp
                clear hW hsp
                simp only [hrv]
                clear hrv
                go_wp2_with fail
                rw [← HW.out]
                have e0 := HBW.out.cell 0
                have e1 := HBW.out.cell 1
                have e2 := HBW.out.cell 2
                have e3 := HBW.out.cell 3
                have e4 := HBW.out.cell 4
                have e5 := HBW.out.cell 5
                have e6 := HBW.out.cell 6
                have e7 := HBW.out.cell 7
                have e8 := HBW.out.cell 8
                simp only [List.getElem?_toArray, List.getElem?_cons_zero, List.getElem?_cons_succ] at e0 e1 e2 e3 e4 e5 e6 e7 e8
                exact bodyPost_ret (v := .tuple #[.agg #[.string ⟨x0.toArray⟩, .string ⟨x1.toArray⟩, .string ⟨x2.toArray⟩, .string ⟨x3.toArray⟩, .int .i64 x4, .string ⟨x5.toArray⟩, .slice A8 l8.length c8, .slice A10 l10.length c10, .int .i64 x10], .int .i64 0, .int .i64 0]) (by simp [results, Try.results47, go_sem, e0, e1, e2, e3, e4, e5, e6, e7, e8]) rfl (StaEnd.good HSP.out ⟨HVA0.out.touch HTS3.out (fun k hk => HNA0.out k hk), HVA1.out.touch HTS3.out (fun k hk => HNA1.out k hk), HOA0.out, HOA1.out⟩ HTW.out)
              · obtain ⟨W, hW⟩ : ∃ W, W = (((((((((wz.setCell ⟨w.heap.size, 0, none⟩ (.string ⟨#[]⟩)).setCell ⟨w.heap.size, 1, none⟩ (.string ⟨#[]⟩)).setCell ⟨w.heap.size, 2, none⟩ (.string ⟨#[]⟩)).setCell ⟨w.heap.size, 3, none⟩ (.string ⟨#[]⟩)).setCell ⟨w.heap.size, 4, none⟩ (.int .i64 0)).setCell ⟨w.heap.size, 5, none⟩ (.string ⟨#[]⟩)).setCell ⟨w.heap.size, 6, none⟩ (.slice none 0 0)).setCell ⟨w.heap.size, 7, none⟩ (.slice none 0 0)).setCell ⟨w.heap.size, 8, none⟩ (.int .i64 0)) := ⟨_, rfl⟩
                have HBW := Lib.hid (show Blk W w.heap.size 67 #[.string ⟨#[]⟩, .string ⟨#[]⟩, .string ⟨#[]⟩, .string ⟨#[]⟩, .int .i64 0, .string ⟨#[]⟩, .slice none 0 0, .slice none 0 0, .int .i64 0] by rw [hW]; exact HRz.out.puts_all [.string ⟨#[]⟩, .string ⟨#[]⟩, .string ⟨#[]⟩, .string ⟨#[]⟩, .int .i64 0, .string ⟨#[]⟩, .slice none 0 0, .slice none 0 0, .int .i64 0] rfl)
                have HTW := Lib.hid (show Fresh w W by rw [hW]; exact HTZ.out.puts (b := w.heap.size) (.inl (Nat.le_refl _)) 0 [.string ⟨#[]⟩, .string ⟨#[]⟩, .string ⟨#[]⟩, .string ⟨#[]⟩, .int .i64 0, .string ⟨#[]⟩, .slice none 0 0, .slice none 0 0, .int .i64 0])
                have HTS3 := Lib.hid (show Touch (fun k => k = (w.heap.size + 1) ∨ k = (w.heap.size + 1 + 1) ∨ k = w.heap.size) w10 W by rw [hW]; exact HTS2.out.puts (b := w.heap.size) (.inr (.inr (.inr rfl))) 0 [.string ⟨#[]⟩, .string ⟨#[]⟩, .string ⟨#[]⟩, .string ⟨#[]⟩, .int .i64 0, .string ⟨#[]⟩, .slice none 0 0, .slice none 0 0, .int .i64 0])
                have HW := Lib.hid hW
                have HSP := Lib.hid hsp
                clear hW hsp
                simp only [hrv]
                clear hrv
                go_wp2_with fail
                rw [← HW.out]
                have e0 := HBW.out.cell 0
                have e1 := HBW.out.cell 1
                have e2 := HBW.out.cell 2
                have e3 := HBW.out.cell 3
                have e4 := HBW.out.cell 4
                have e5 := HBW.out.cell 5
                have e6 := HBW.out.cell 6
                have e7 := HBW.out.cell 7
                have e8 := HBW.out.cell 8
                simp only [List.getElem?_toArray, List.getElem?_cons_zero, List.getElem?_cons_succ] at e0 e1 e2 e3 e4 e5 e6 e7 e8
                exact bodyPost_ret (v := .tuple #[.agg #[.string ⟨#[]⟩, .string ⟨#[]⟩, .string ⟨#[]⟩, .string ⟨#[]⟩, .int .i64 0, .string ⟨#[]⟩, .slice none 0 0, .slice none 0 0, .int .i64 0], .int .i64 a, .int .i64 2]) (by simp [results, Try.results47, go_sem, e0, e1, e2, e3, e4, e5, e6, e7, e8]) rfl (StaEnd.bad HSP.out HTW.out)
            · go_wp2_with fail
              have hn0 := HVA0.out
              have HNA0 : Hid (∀ j, (Value.slice A8 l8.length c8).ownBlock = some j → ¬ (j = (w.heap.size + 1) ∨ j = (w.heap.size + 1 + 1) ∨ j = w.heap.size)) := Lib.hid (by
                rintro j hj (h | h | h)
                · exact hn0.ne_blk HS10.out.choose_spec.choose_spec.choose_spec.1.1 (by decide) (by rw [hj, h])
                · exact hn0.ne_blk HB10.out (by decide) (by rw [hj, h])
                · exact hn0.ne_blk HR10.out (by decide) (by rw [hj, h]))
              clear hn0
              have hn1 := HVA1.out
              have HNA1 : Hid (∀ j, (Value.slice A10 l10.length c10).ownBlock = some j → ¬ (j = (w.heap.size + 1) ∨ j = (w.heap.size + 1 + 1) ∨ j = w.heap.size)) := Lib.hid (by
                rintro j hj (h | h | h)
                · exact hn1.ne_blk HS10.out.choose_spec.choose_spec.choose_spec.1.1 (by decide) (by rw [hj, h])
                · exact hn1.ne_blk HB10.out (by decide) (by rw [hj, h])
                · exact hn1.ne_blk HR10.out (by decide) (by rw [hj, h]))
              clear hn1
              refine (rnumber_any (w.heap.size + 1) A n c xs st10 0 4503599627370496 w10 HS10.out).mono ?_
              intro e wa10 h
              obtain ⟨x10, st11, rfl, hs, ht, h3⟩ := h.cases
              have hb := HB10.out.touch ht (by omega)
              have hr := HR10.out.touch ht (by omega)
              have hc := hb.cell 8
              have hf := hb.frozen 8
              simp only [List.getElem?_toArray, List.getElem?_cons_zero, List.getElem?_cons_succ] at hc
              obtain ⟨w11, hw11⟩ : ∃ w', w' = wa10.setCell ⟨(w.heap.size + 1 + 1), 8, none⟩ (.int .i64 x10) := ⟨_, rfl⟩
              have HB11 := Lib.hid (show Blk w11 (w.heap.size + 1 + 1) 67 #[.string ⟨x0.toArray⟩, .string ⟨x1.toArray⟩, .string ⟨x2.toArray⟩, .string ⟨x3.toArray⟩, .int .i64 x4, .string ⟨x5.toArray⟩, .slice A8 l8.length c8, .slice A10 l10.length c10, .int .i64 x10] by rw [hw11]; exact hb.set_ 8 (.int .i64 x10))
              have HR11 := Lib.hid (show Blk w11 w.heap.size 67 #[.string ⟨#[]⟩, .string ⟨#[]⟩, .string ⟨#[]⟩, .string ⟨#[]⟩, .int .i64 0, .string ⟨#[]⟩, .slice none 0 0, .slice none 0 0, .int .i64 0] by rw [hw11]; exact hr.far (p := ⟨(w.heap.size + 1 + 1), 8, none⟩) (by simp; omega) _)
              have HS11 := Lib.hid (show RdrSt w11 (w.heap.size + 1) A n c xs st11 by rw [hw11]; exact HSTEP.out _ _ _ _ _ (Nat.le_refl _) hs)
              have HT11 := Lib.hid (show Fresh w w11 by rw [hw11]; exact (HT10.out.trans ht fun _ _ h => by omega).setCell (p := ⟨(w.heap.size + 1 + 1), 8, none⟩) (.inl (by simp; omega)) _)
              have HW11 := Lib.hid hw11
              have H310 := Lib.hid (Stp.of h3)
              have HTS := Lib.hid (show Touch (fun k => k = (w.heap.size + 1) ∨ k = (w.heap.size + 1 + 1) ∨ k = w.heap.size) w10 w11 by rw [hw11]; exact (ht.mono fun _ _ h => .inl h).setCell (p := ⟨(w.heap.size + 1 + 1), 8, none⟩) (.inr (.inr (.inl rfl))) _)
              clear hw11 hb hr hs ht h3 h
              go_wp2_with fail
              rw [← HW11.out]
              clear hc hf
              have hfin : (Dec.whole (Dec.state xs 0) n = .ok ⟨x0, x1, x2, x3, x4, x5, l8, l10, x10⟩ ∧ rendV n st11 = .tuple #[.int .i64 0, .int .i64 0]) ∨ (∃ a, Dec.whole (Dec.state xs 0) n = .error a ∧ rendV n st11 = .tuple #[.int .i64 a, .int .i64 2]) := by
                have h0 := HST0.out
                subst h0
                rcases H30.out.ok with ⟨a, hg0, e1⟩ | ⟨q1, hg0, e1⟩
                · subst e1
                  have e2 := H31.out.err
                  subst e2
                  have e3 := H32.out.err
                  subst e3
                  have e4 := H33.out.err
                  subst e4
                  have e5 := H34.out.err
                  subst e5
                  have e6 := H35.out.err
                  subst e6
                  have e7 := H36.out.err
                  subst e7
                  have e8 := H37.out.err
                  subst e8
                  have e9 := H38.out.err
                  subst e9
                  have e10 := H39.out.err
                  subst e10
                  have e11 := H310.out.err
                  subst e11
                  exact .inr ⟨a, by unfold Dec.state Dec.bind; simp only [hg0]; rfl, rfl⟩
                · subst e1
                  rcases H31.out.ok with ⟨a, hg1, e2⟩ | ⟨q2, hg1, e2⟩
                  · subst e2
                    have e3 := H32.out.err
                    subst e3
                    have e4 := H33.out.err
                    subst e4
                    have e5 := H34.out.err
                    subst e5
                    have e6 := H35.out.err
                    subst e6
                    have e7 := H36.out.err
                    subst e7
                    have e8 := H37.out.err
                    subst e8
                    have e9 := H38.out.err
                    subst e9
                    have e10 := H39.out.err
                    subst e10
                    have e11 := H310.out.err
                    subst e11
                    exact .inr ⟨a, by unfold Dec.state Dec.bind; simp only [hg0]; simp only [hg1]; rfl, rfl⟩
                  · subst e2
                    rcases H32.out.ok with ⟨a, hg2, e3⟩ | ⟨q3, hg2, e3⟩
                    · subst e3
                      have e4 := H33.out.err
                      subst e4
                      have e5 := H34.out.err
                      subst e5
                      have e6 := H35.out.err
                      subst e6
                      have e7 := H36.out.err
                      subst e7
                      have e8 := H37.out.err
                      subst e8
                      have e9 := H38.out.err
                      subst e9
                      have e10 := H39.out.err
                      subst e10
                      have e11 := H310.out.err
                      subst e11
                      exact .inr ⟨a, by unfold Dec.state Dec.bind; simp only [hg0]; simp only [hg1]; simp only [hg2]; rfl, rfl⟩
                    · subst e3
                      rcases H33.out.ok with ⟨a, hg3, e4⟩ | ⟨q4, hg3, e4⟩
                      · subst e4
                        have e5 := H34.out.err
                        subst e5
                        have e6 := H35.out.err
                        subst e6
                        have e7 := H36.out.err
                        subst e7
                        have e8 := H37.out.err
                        subst e8
                        have e9 := H38.out.err
                        subst e9
                        have e10 := H39.out.err
                        subst e10
                        have e11 := H310.out.err
                        subst e11
                        exact .inr ⟨a, by unfold Dec.state Dec.bind; simp only [hg0]; simp only [hg1]; simp only [hg2]; simp only [hg3]; rfl, rfl⟩
                      · subst e4
                        rcases H34.out.ok with ⟨a, hg4, e5⟩ | ⟨q5, hg4, e5⟩
                        · subst e5
                          have e6 := H35.out.err
                          subst e6
                          have e7 := H36.out.err
                          subst e7
                          have e8 := H37.out.err
                          subst e8
                          have e9 := H38.out.err
                          subst e9
                          have e10 := H39.out.err
                          subst e10
                          have e11 := H310.out.err
                          subst e11
                          exact .inr ⟨a, by unfold Dec.state Dec.bind; simp only [hg0]; simp only [hg1]; simp only [hg2]; simp only [hg3]; simp only [hg4]; rfl, rfl⟩
                        · subst e5
                          rcases H35.out.ok with ⟨a, hg5, e6⟩ | ⟨q6, hg5, e6⟩
                          · subst e6
                            have e7 := H36.out.err
                            subst e7
                            have e8 := H37.out.err
                            subst e8
                            have e9 := H38.out.err
                            subst e9
                            have e10 := H39.out.err
                            subst e10
                            have e11 := H310.out.err
                            subst e11
                            exact .inr ⟨a, by unfold Dec.state Dec.bind; simp only [hg0]; simp only [hg1]; simp only [hg2]; simp only [hg3]; simp only [hg4]; simp only [hg5]; rfl, rfl⟩
                          · subst e6
                            rcases H36.out.ok with ⟨a, hg6, e7⟩ | ⟨q7, hg6, e7⟩
                            · subst e7
                              replace hg6 : Dec.plain xs _ = _ := hg6
                              have e8 := H37.out.err
                              subst e8
                              have e9 := H38.out.err
                              subst e9
                              have e10 := H39.out.err
                              subst e10
                              have e11 := H310.out.err
                              subst e11
                              exact .inr ⟨a, by unfold Dec.state Dec.bind; simp only [hg0]; simp only [hg1]; simp only [hg2]; simp only [hg3]; simp only [hg4]; simp only [hg5]; simp only [hg6]; rfl, rfl⟩
                            · subst e7
                              replace hg6 : Dec.plain xs _ = _ := hg6
                              rcases H37.out.ok with ⟨a, hg7, e8⟩ | ⟨q8, hg7, e8⟩
                              · subst e8
                                have e9 := H38.out.err
                                subst e9
                                have e10 := H39.out.err
                                subst e10
                                have e11 := H310.out.err
                                subst e11
                                exact .inr ⟨a, by unfold Dec.state Dec.bind; simp only [hg0]; simp only [hg1]; simp only [hg2]; simp only [hg3]; simp only [hg4]; simp only [hg5]; simp only [hg6]; simp only [hg7]; rfl, rfl⟩
                              · subst e8
                                rcases H38.out.ok with ⟨a, hg8, e9⟩ | ⟨q9, hg8, e9⟩
                                · subst e9
                                  replace hg8 : Dec.plain xs _ = _ := hg8
                                  have e10 := H39.out.err
                                  subst e10
                                  have e11 := H310.out.err
                                  subst e11
                                  exact .inr ⟨a, by unfold Dec.state Dec.bind; simp only [hg0]; simp only [hg1]; simp only [hg2]; simp only [hg3]; simp only [hg4]; simp only [hg5]; simp only [hg6]; simp only [hg7]; simp only [hg8]; rfl, rfl⟩
                                · subst e9
                                  replace hg8 : Dec.plain xs _ = _ := hg8
                                  rcases H39.out.ok with ⟨a, hg9, e10⟩ | ⟨q10, hg9, e10⟩
                                  · subst e10
                                    have e11 := H310.out.err
                                    subst e11
                                    exact .inr ⟨a, by unfold Dec.state Dec.bind; simp only [hg0]; simp only [hg1]; simp only [hg2]; simp only [hg3]; simp only [hg4]; simp only [hg5]; simp only [hg6]; simp only [hg7]; simp only [hg8]; simp only [hg9]; rfl, rfl⟩
                                  · subst e10
                                    rcases H310.out.ok with ⟨a, hg10, e11⟩ | ⟨q11, hg10, e11⟩
                                    · subst e11
                                      replace hg10 : Dec.plain xs _ = _ := hg10
                                      exact .inr ⟨a, by unfold Dec.state Dec.bind; simp only [hg0]; simp only [hg1]; simp only [hg2]; simp only [hg3]; simp only [hg4]; simp only [hg5]; simp only [hg6]; simp only [hg7]; simp only [hg8]; simp only [hg9]; simp only [hg10]; rfl, rfl⟩
                                    · subst e11
                                      replace hg10 : Dec.plain xs _ = _ := hg10
                                      have hsp : Dec.state xs 0 = .ok (⟨x0, x1, x2, x3, x4, x5, l8, l10, x10⟩, q11) := by unfold Dec.state Dec.bind; simp only [hg0]; simp only [hg1]; simp only [hg2]; simp only [hg3]; simp only [hg4]; simp only [hg5]; simp only [hg6]; simp only [hg7]; simp only [hg8]; simp only [hg9]; simp only [hg10]
                                      rw [hsp]
                                      by_cases hq : q11 < n
                                      · exact .inr ⟨q11, if_pos hq, if_pos hq⟩
                                      · exact .inl ⟨if_neg hq, if_neg hq⟩
              have HFIN := Lib.hid hfin
              clear hfin
              have HEND := Lib.hid (rend_any (w.heap.size + 1) A n c xs st11 w11 HS11.out)
              refine HEND.out.mono ?_
              rintro e wz ⟨ht, rfl⟩
              have hb := HB11.out.touch ht (by omega)
              have hr := HR11.out.touch ht (by omega)
              have HTZ := Lib.hid (show Fresh w wz from HT11.out.trans ht fun _ _ h => by omega)
              have HTS2 := Lib.hid (show Touch (fun k => k = (w.heap.size + 1) ∨ k = (w.heap.size + 1 + 1) ∨ k = w.heap.size) w10 wz from HTS.out.trans ht fun _ _ h => .inl h)
              have hc0 := hr.cell 0
              have hf0 := hr.frozen 0
              have hd0 := hb.cell 0
              have hc1 := hr.cell 1
              have hf1 := hr.frozen 1
              have hd1 := hb.cell 1
              have hc2 := hr.cell 2
              have hf2 := hr.frozen 2
              have hd2 := hb.cell 2
              have hc3 := hr.cell 3
              have hf3 := hr.frozen 3
              have hd3 := hb.cell 3
              have hc4 := hr.cell 4
              have hf4 := hr.frozen 4
              have hd4 := hb.cell 4
              have hc5 := hr.cell 5
              have hf5 := hr.frozen 5
              have hd5 := hb.cell 5
              have hc6 := hr.cell 6
              have hf6 := hr.frozen 6
              have hd6 := hb.cell 6
              have hc7 := hr.cell 7
              have hf7 := hr.frozen 7
              have hd7 := hb.cell 7
              have hc8 := hr.cell 8
              have hf8 := hr.frozen 8
              have hd8 := hb.cell 8
              simp only [List.getElem?_toArray, List.getElem?_cons_zero, List.getElem?_cons_succ] at hc0 hd0 hc1 hd1 hc2 hd2 hc3 hd3 hc4 hd4 hc5 hd5 hc6 hd6 hc7 hd7 hc8 hd8
              have HRz := Lib.hid hr
              clear hr hb ht
              rcases HFIN.out with ⟨hsp, hrv⟩ | ⟨a, hsp, hrv⟩
              · obtain ⟨W, hW⟩ : ∃ W, W = (((((((((wz.setCell ⟨w.heap.size, 0, none⟩ (.string ⟨x0.toArray⟩)).setCell ⟨w.heap.size, 1, none⟩ (.string ⟨x1.toArray⟩)).setCell ⟨w.heap.size, 2, none⟩ (.string ⟨x2.toArray⟩)).setCell ⟨w.heap.size, 3, none⟩ (.string ⟨x3.toArray⟩)).setCell ⟨w.heap.size, 4, none⟩ (.int .i64 x4)).setCell ⟨w.heap.size, 5, none⟩ (.string ⟨x5.toArray⟩)).setCell ⟨w.heap.size, 6, none⟩ (.slice A8 l8.length c8)).setCell ⟨w.heap.size, 7, none⟩ (.slice A10 l10.length c10)).setCell ⟨w.heap.size, 8, none⟩ (.int .i64 x10)) := ⟨_, rfl⟩
                have HBW := Lib.hid (show Blk W w.heap.size 67 #[.string ⟨x0.toArray⟩, .string ⟨x1.toArray⟩, .string ⟨x2.toArray⟩, .string ⟨x3.toArray⟩, .int .i64 x4, .string ⟨x5.toArray⟩, .slice A8 l8.length c8, .slice A10 l10.length c10, .int .i64 x10] by rw [hW]; exact HRz.out.puts_all [.string ⟨x0.toArray⟩, .string ⟨x1.toArray⟩, .string ⟨x2.toArray⟩, .string ⟨x3.toArray⟩, .int .i64 x4, .string ⟨x5.toArray⟩, .slice A8 l8.length c8, .slice A10 l10.length c10, .int .i64 x10] rfl)
                have HTW := Lib.hid (show Fresh w W by rw [hW]; exact HTZ.out.puts (b := w.heap.size) (.inl (Nat.le_refl _)) 0 [.string ⟨x0.toArray⟩, .string ⟨x1.toArray⟩, .string ⟨x2.toArray⟩, .string ⟨x3.toArray⟩, .int .i64 x4, .string ⟨x5.toArray⟩, .slice A8 l8.length c8, .slice A10 l10.length c10, .int .i64 x10])
                have HTS3 := Lib.hid (show Touch (fun k => k = (w.heap.size + 1) ∨ k = (w.heap.size + 1 + 1) ∨ k = w.heap.size) w10 W by rw [hW]; exact HTS2.out.puts (b := w.heap.size) (.inr (.inr (.inr rfl))) 0 [.string ⟨x0.toArray⟩, .string ⟨x1.toArray⟩, .string ⟨x2.toArray⟩, .string ⟨x3.toArray⟩, .int .i64 x4, .string ⟨x5.toArray⟩, .slice A8 l8.length c8, .slice A10 l10.length c10, .int .i64 x10])
                have HW := Lib.hid hW
                have HSP := Lib.hid hsp
                clear hW hsp
                simp only [hrv]
                clear hrv
                go_wp2_with fail
                rw [← HW.out]
                have e0 := HBW.out.cell 0
                have e1 := HBW.out.cell 1
                have e2 := HBW.out.cell 2
                have e3 := HBW.out.cell 3
                have e4 := HBW.out.cell 4
                have e5 := HBW.out.cell 5
                have e6 := HBW.out.cell 6
                have e7 := HBW.out.cell 7
                have e8 := HBW.out.cell 8
                simp only [List.getElem?_toArray, List.getElem?_cons_zero, List.getElem?_cons_succ] at e0 e1 e2 e3 e4 e5 e6 e7 e8
                exact bodyPost_ret (v := .tuple #[.agg #[.string ⟨x0.toArray⟩, .string ⟨x1.toArray⟩, .string ⟨x2.toArray⟩, .string ⟨x3.toArray⟩, .int .i64 x4, .string ⟨x5.toArray⟩, .slice A8 l8.length c8, .slice A10 l10.length c10, .int .i64 x10], .int .i64 0, .int .i64 0]) (by simp [results, Try.results47, go_sem, e0, e1, e2, e3, e4, e5, e6, e7, e8]) rfl (StaEnd.good HSP.out ⟨HVA0.out.touch HTS3.out (fun k hk => HNA0.out k hk), HVA1.out.touch HTS3.out (fun k hk => HNA1.out k hk), HOA0.out, HOA1.out⟩ HTW.out)
              · obtain ⟨W, hW⟩ : ∃ W, W = (((((((((wz.setCell ⟨w.heap.size, 0, none⟩ (.string ⟨#[]⟩)).setCell ⟨w.heap.size, 1, none⟩ (.string ⟨#[]⟩)).setCell ⟨w.heap.size, 2, none⟩ (.string ⟨#[]⟩)).setCell ⟨w.heap.size, 3, none⟩ (.string ⟨#[]⟩)).setCell ⟨w.heap.size, 4, none⟩ (.int .i64 0)).setCell ⟨w.heap.size, 5, none⟩ (.string ⟨#[]⟩)).setCell ⟨w.heap.size, 6, none⟩ (.slice none 0 0)).setCell ⟨w.heap.size, 7, none⟩ (.slice none 0 0)).setCell ⟨w.heap.size, 8, none⟩ (.int .i64 0)) := ⟨_, rfl⟩
                have HBW := Lib.hid (show Blk W w.heap.size 67 #[.string ⟨#[]⟩, .string ⟨#[]⟩, .string ⟨#[]⟩, .string ⟨#[]⟩, .int .i64 0, .string ⟨#[]⟩, .slice none 0 0, .slice none 0 0, .int .i64 0] by rw [hW]; exact HRz.out.puts_all [.string ⟨#[]⟩, .string ⟨#[]⟩, .string ⟨#[]⟩, .string ⟨#[]⟩, .int .i64 0, .string ⟨#[]⟩, .slice none 0 0, .slice none 0 0, .int .i64 0] rfl)
                have HTW := Lib.hid (show Fresh w W by rw [hW]; exact HTZ.out.puts (b := w.heap.size) (.inl (Nat.le_refl _)) 0 [.string ⟨#[]⟩, .string ⟨#[]⟩, .string ⟨#[]⟩, .string ⟨#[]⟩, .int .i64 0, .string ⟨#[]⟩, .slice none 0 0, .slice none 0 0, .int .i64 0])
                have HTS3 := Lib.hid (show Touch (fun k => k = (w.heap.size + 1) ∨ k = (w.heap.size + 1 + 1) ∨ k = w.heap.size) w10 W by rw [hW]; exact HTS2.out.puts (b := w.heap.size) (.inr (.inr (.inr rfl))) 0 [.string ⟨#[]⟩, .string ⟨#[]⟩, .string ⟨#[]⟩, .string ⟨#[]⟩, .int .i64 0, .string ⟨#[]⟩, .slice none 0 0, .slice none 0 0, .int .i64 0])
                have HW := Lib.hid hW
                have HSP := Lib.hid hsp
                clear hW hsp
                simp only [hrv]
                clear hrv
                go_wp2_with fail
                rw [← HW.out]
                have e0 := HBW.out.cell 0
                have e1 := HBW.out.cell 1
                have e2 := HBW.out.cell 2
                have e3 := HBW.out.cell 3
                have e4 := HBW.out.cell 4
                have e5 := HBW.out.cell 5
                have e6 := HBW.out.cell 6
                have e7 := HBW.out.cell 7
                have e8 := HBW.out.cell 8
                simp only [List.getElem?_toArray, List.getElem?_cons_zero, List.getElem?_cons_succ] at e0 e1 e2 e3 e4 e5 e6 e7 e8
                exact bodyPost_ret (v := .tuple #[.agg #[.string ⟨#[]⟩, .string ⟨#[]⟩, .string ⟨#[]⟩, .string ⟨#[]⟩, .int .i64 0, .string ⟨#[]⟩, .slice none 0 0, .slice none 0 0, .int .i64 0], .int .i64 a, .int .i64 2]) (by simp [results, Try.results47, go_sem, e0, e1, e2, e3, e4, e5, e6, e7, e8]) rfl (StaEnd.bad HSP.out HTW.out)
      · go_wp2_with fail
        refine (rnumber_any (w.heap.size + 1) A n c xs st8 0 4503599627370496 w8 HS8.out).mono ?_
        intro e w9 h
        obtain ⟨x8, st9, rfl, hs, ht, h3⟩ := h.cases
        have HB9 := Lib.hid (HB8.out.touch ht (by omega))
        have HR9 := Lib.hid (HR8.out.touch ht (by omega))
        have HS9 := Lib.hid hs
        have HT9 := Lib.hid (show Fresh w w9 from HT8.out.trans ht fun _ _ h => by omega)
        have hN : 0 ≤ x8 ∧ x8 ≤ 4503599627370496 ∧ ∀ p, st9 = .ok p → p ≤ xs.length := by
          rcases h3 with ⟨b, e1, hz, e2⟩ | ⟨p', b, e1, hg', hz, e2⟩ | ⟨p', q, e1, hg', e2⟩
          · subst hz; exact ⟨by omega, by omega, fun p e => by rw [e2] at e; cases e⟩
          · subst hz; exact ⟨by omega, by omega, fun p e => by rw [e2] at e; cases e⟩
          · have h9 := Dec.number_ok hg'
            exact ⟨h9.2.2.2.2.2, h9.2.2.2.2.1, fun p e => by rw [e2] at e; injection e with e; rw [← e]; exact h9.2.2.1⟩
        have H38 := Lib.hid (Stp.of h3)
        have hN0 := hN.1
        have hN1 := hN.2.1
        have HNP := Lib.hid hN.2.2
        have HVA0 := Lib.hid (HVA0.out.touch ht (fun j hj e => HVA0.out.ne_blk (HS8.out.choose_spec.choose_spec.choose_spec.1.1) (by decide) (by rw [hj, e])))
        clear hs ht h3 hN h
        go_wp2_with fail
        go_loopw [10] (fun i wr => ∃ k : Nat, (k : Int) ≤ x8 ∧ i = .int .i64 k ∧ ∃ (lst : List Dec.Sg) (st : Except Nat Nat) (nv : Value), lst.length = k ∧ Blk wr (w.heap.size + 1 + 1) 67 #[.string ⟨x0.toArray⟩, .string ⟨x1.toArray⟩, .string ⟨x2.toArray⟩, .string ⟨x3.toArray⟩, .int .i64 x4, .string ⟨x5.toArray⟩, .slice A8 l8.length c8, nv, .int .i64 0] ∧ VRow wr 129 2 nv k (sgsV lst) ∧ (∀ j, nv.ownBlock = some j → w.heap.size ≤ j) ∧
            ManySt Dec.sig xs x8.toNat k lst st9 st ∧ RdrSt wr (w.heap.size + 1) A n c xs st ∧ Fresh w wr ∧ Blk wr w.heap.size 67 #[.string ⟨#[]⟩, .string ⟨#[]⟩, .string ⟨#[]⟩, .string ⟨#[]⟩, .int .i64 0, .string ⟨#[]⟩, .slice none 0 0, .slice none 0 0, .int .i64 0] ∧ VRow wr 127 3 (.slice A8 l8.length c8) l8.length (ndsV l8)) (fun i _ => x8.toNat - (intOf i).toNat)
        case atStart => exact ⟨0, by omega, rfl, [], st9, .slice none 0 0, rfl, HB9.out, VRow.nil_ _ _ _, fun j h => own_none h, ManySt.start HNP.out, HS9.out, HT9.out, HR9.out, HVA0.out⟩
        case round =>
          obtain ⟨k, hk, rfl, lst, st, nv, hlk, hbm, hvr, hown, hsp, ⟨p, bad, on, hd, hst⟩, ht, hrz, hva0⟩ := hrel
          have hcb := hd.1.cell 2
          simp only [List.getElem?_toArray, List.getElem?_cons_zero, List.getElem?_cons_succ] at hcb
          have HVR := Lib.hid hvr; clear hvr
          have HBM := Lib.hid hbm; clear hbm
          have HOWN := Lib.hid hown; clear hown
          have HSP := Lib.hid hsp; clear hsp
          have HD := Lib.hid hd; clear hd
          have HT := Lib.hid ht; clear ht
          have HRZ := Lib.hid hrz; clear hrz
          have HVB0 := Lib.hid hva0; clear hva0
          have HSR := Lib.hid (show RdrSt wr (w.heap.size + 1) A n c xs st from ⟨p, bad, on, HD.out, hst⟩)
          by_cases hgo : (k : Int) < x8 ∧ bad = false
          · obtain ⟨hlt, rfl⟩ := hgo
            simp only [Bool.false_eq_true, if_false] at hst
            subst hst
            have hkp := HSP.out.le
            have hpn := HD.out.2.2.1
            have hltn : k < x8.toNat := by omega
            obtain ⟨ob, hob⟩ : ∃ ob, ob = wr.heap.size := ⟨_, rfl⟩
            obtain ⟨u0, hu0⟩ : ∃ x, x = wr.alloc (.cells #[.string ⟨#[]⟩, .string ⟨#[]⟩] 129) := ⟨_, rfl⟩
            have HO0 := Lib.hid (show Blk u0 ob 129 #[.string ⟨#[]⟩, .string ⟨#[]⟩] by rw [hu0, hob]; exact Blk.new _ _ _)
            have HY0 := Lib.hid (show RdrSt u0 (w.heap.size + 1) A n c xs (.ok p) by rw [hu0]; exact ⟨p, false, on, ⟨HD.out.1.alloc _, HD.out.2.1.alloc _, HD.out.2.2⟩, rfl⟩)
            have HX0 := Lib.hid (show Touch (· = (w.heap.size + 1)) wr u0 by rw [hu0]; exact (Touch.refl _ wr).alloc _)
            have hbel := HD.out.1.lt
            have hmbl := HBM.out.lt
            have hww : w.heap.size ≤ wr.heap.size := HT.out.size
            have hobw : wr.heap.size ≤ ob := by omega
            have hobe : ob ≠ (w.heap.size + 1) := by omega
            have HNB : Hid (∀ j, nv.ownBlock = some j → ¬ (j = (w.heap.size + 1))) := Lib.hid (fun j hj e => HVR.out.ne_blk HD.out.1 (by decide) (by rw [hj, e]))
            have HNM : Hid (nv.ownBlock ≠ some (w.heap.size + 1 + 1)) := Lib.hid (HVR.out.ne_blk HBM.out (by decide))
            have HNR : Hid (nv.ownBlock ≠ some w.heap.size) := Lib.hid (HVR.out.ne_blk HRZ.out (by decide))
            have HVN0 := Lib.hid (HVB0.out.ne_row HVR.out (by decide))
            have HOB := Lib.hid hob
            have HZ0 := Lib.hid hu0
            clear hu0 hob
            go_wp2_with fail
            rw [← HZ0.out, ← HOB.out]
            refine (rtext_any (w.heap.size + 1) A n c xs (.ok p) u0 HY0.out).mono ?_
            intro e u0a h
            obtain ⟨z0, t1, rfl, hs, ht, h3⟩ := h.cases
            have HV0 := Lib.hid (Stp.of h3)
            have hbo := HO0.out.touch ht hobe
            have hc := hbo.cell 0
            have hf := hbo.frozen 0
            simp only [List.getElem?_toArray, List.getElem?_cons_zero] at hc
            obtain ⟨u1, hu⟩ : ∃ x, x = u0a.setCell ⟨ob, 0, none⟩ (.string ⟨z0.toArray⟩) := ⟨_, rfl⟩
            have HO1 := Lib.hid (show Blk u1 ob 129 #[.string ⟨z0.toArray⟩, .string ⟨#[]⟩] by rw [hu]; exact hbo.set_ 0 (.string ⟨z0.toArray⟩))
            have HY1 := Lib.hid (show RdrSt u1 (w.heap.size + 1) A n c xs t1 by rw [hu]; exact HSTEP.out _ _ _ _ _ (by omega) hs)
            have HX1 := Lib.hid (show Touch (· = (w.heap.size + 1)) wr u1 by rw [hu]; exact (HX0.out.trans ht fun _ _ h => h).setCell (p := ⟨ob, 0, none⟩) (.inl hobw) _)
            have HZ1 := Lib.hid hu
            clear hs h3 h ht hbo hu
            go_wp2_with fail
            rw [← HZ1.out]
            clear hc hf
            refine (rtext_any (w.heap.size + 1) A n c xs t1 u1 HY1.out).mono ?_
            intro e u1a h
            obtain ⟨z1, t2, rfl, hs, ht, h3⟩ := h.cases
            have HV1 := Lib.hid (Stp.of h3)
            have hbo := HO1.out.touch ht hobe
            have hc := hbo.cell 1
            have hf := hbo.frozen 1
            simp only [List.getElem?_toArray, List.getElem?_cons_zero, List.getElem?_cons_succ] at hc
            obtain ⟨u2, hu⟩ : ∃ x, x = u1a.setCell ⟨ob, 1, none⟩ (.string ⟨z1.toArray⟩) := ⟨_, rfl⟩
            have HO2 := Lib.hid (show Blk u2 ob 129 #[.string ⟨z0.toArray⟩, .string ⟨z1.toArray⟩] by rw [hu]; exact hbo.set_ 1 (.string ⟨z1.toArray⟩))
            have HY2 := Lib.hid (show RdrSt u2 (w.heap.size + 1) A n c xs t2 by rw [hu]; exact HSTEP.out _ _ _ _ _ (by omega) hs)
            have HX2 := Lib.hid (show Touch (· = (w.heap.size + 1)) wr u2 by rw [hu]; exact (HX1.out.trans ht fun _ _ h => h).setCell (p := ⟨ob, 1, none⟩) (.inl hobw) _)
            have HZ2 := Lib.hid hu
            clear hs h3 h ht hbo hu
            obtain ⟨ii, hi, hz, hi3, hi40⟩ := info_parts Try.infoSg
            have hd0 := HO2.out.cell 0
            have hd1 := HO2.out.cell 1
            have hmc := (HBM.out.touch HX2.out (by omega)).cell 7
            have hmf := (HBM.out.touch HX2.out (by omega)).frozen 7
            simp only [List.getElem?_toArray, List.getElem?_cons_zero, List.getElem?_cons_succ] at hd0 hd1 hmc
            rw [HZ2.out] at hd0 hd1 hmc hmf
            have HVR2 := Lib.hid (show VRow ((u1a.setCell ⟨ob, 1, none⟩ (.string ⟨z1.toArray⟩)).alloc (.cells #[.string ⟨z0.toArray⟩, .string ⟨z1.toArray⟩] 129)) 129 2 nv k (sgsV lst) from by
              rw [← HZ2.out]
              exact (HVR.out.touch HX2.out (fun j hj => HNB.out j hj)).alloc _)
            have HNC : Hid (∀ j u, [.string ⟨z0.toArray⟩, .string ⟨z1.toArray⟩][j]? = some u → ((u1a.setCell ⟨ob, 1, none⟩ (.string ⟨z1.toArray⟩)).alloc (.cells #[.string ⟨z0.toArray⟩, .string ⟨z1.toArray⟩] 129)).cell? ((⟨u1a.heap.size, 0, none⟩ : Addr).add j) = some u) := Lib.hid (by
              have h := new_cells (u1a.setCell ⟨ob, 1, none⟩ (.string ⟨z1.toArray⟩)) 129 [.string ⟨z0.toArray⟩, .string ⟨z1.toArray⟩]
              rw [show (u1a.setCell ⟨ob, 1, none⟩ (.string ⟨z1.toArray⟩)).heap.size = u1a.heap.size from by simp] at h
              exact h)
            have HSP2 : Hid (ManySt Dec.sig xs x8.toNat (k + 1) (lst ++ [⟨z0, z1⟩]) st9 t2) := Lib.hid (by
              rcases HV0.out.ok with ⟨a, hg0, e0⟩ | ⟨q0, hg0, e0⟩
              · subst e0
                have e1 := HV1.out.err
                subst e1
                exact HSP.out.bad hltn (by unfold Dec.sig Dec.bind; simp only [hg0])
              · subst e0
                rcases HV1.out.ok with ⟨a, hg1, e1⟩ | ⟨q1, hg1, e1⟩
                · subst e1
                  exact HSP.out.bad hltn (by unfold Dec.sig Dec.bind; simp only [hg0]; simp only [hg1])
                · subst e1
                  have hok : Dec.sig xs p = .ok (⟨z0, z1⟩, q1) := by unfold Dec.sig Dec.bind; simp only [hg0]; simp only [hg1]
                  exact HSP.out.good (sig_go hok) hltn hok)
            have hsz : w.heap.size ≤ u1a.heap.size := by have h := (HT.out.trans HX2.out fun _ _ h => by omega).size; rw [HZ2.out] at h; simpa using h
            have HBM2 := Lib.hid (show Blk ((u1a.setCell ⟨ob, 1, none⟩ (.string ⟨z1.toArray⟩)).alloc (.cells #[.string ⟨z0.toArray⟩, .string ⟨z1.toArray⟩] 129)) (w.heap.size + 1 + 1) 67 #[.string ⟨x0.toArray⟩, .string ⟨x1.toArray⟩, .string ⟨x2.toArray⟩, .string ⟨x3.toArray⟩, .int .i64 x4, .string ⟨x5.toArray⟩, .slice A8 l8.length c8, nv, .int .i64 0] by rw [← HZ2.out]; exact (HBM.out.touch HX2.out (by omega)).alloc _)
            have HRZ2 := Lib.hid (show Blk ((u1a.setCell ⟨ob, 1, none⟩ (.string ⟨z1.toArray⟩)).alloc (.cells #[.string ⟨z0.toArray⟩, .string ⟨z1.toArray⟩] 129)) w.heap.size 67 #[.string ⟨#[]⟩, .string ⟨#[]⟩, .string ⟨#[]⟩, .string ⟨#[]⟩, .int .i64 0, .string ⟨#[]⟩, .slice none 0 0, .slice none 0 0, .int .i64 0] by rw [← HZ2.out]; exact (HRZ.out.touch HX2.out (by omega)).alloc _)
            go_wp2_with (at_builtin; (refine wpList_append_lies _ rfl _ _ 65 rfl 0 129 ii (.agg #[.string ⟨#[]⟩, .string ⟨#[]⟩]) 2 32 Try.underlying65 hi hz hi3 hi40 rfl (by decide) nv k (sgsV lst) rfl HVR2.out ⟨u1a.heap.size, 0, none⟩ 1 1 [.string ⟨z0.toArray⟩, .string ⟨z1.toArray⟩] rfl rfl HNC.out (by intro u hu; simp only [List.mem_cons, List.not_mem_nil, or_false] at hu; rcases hu with rfl | rfl <;> rfl) (by omega) (by unfold maxLen; omega) (by omega) (Nat.zero_le _) _ rfl ?_); intro g9 c9 w9 hr9 hg9 ho9 hl9; have hbm9 := HBM2.out.grown hg9 (fun e => HNM.out e.symm); have hmf9 := hbm9.frozen 7; have hmc9 := hbm9.cell 7; simp only [List.getElem?_toArray, List.getElem?_cons_zero, List.getElem?_cons_succ] at hmc9)
            obtain ⟨W, hW⟩ : ∃ W, W = w9.setCell ⟨(w.heap.size + 1 + 1), 7, none⟩ (.slice (some ⟨g9, 0, none⟩) (k + 1) c9) := ⟨_, rfl⟩
            have hbm9 := HBM2.out.grown hg9 (fun e => HNM.out e.symm)
            have hrz9 := HRZ2.out.grown hg9 (fun e => HNR.out e.symm)
            have hg9m : g9 ≠ (w.heap.size + 1 + 1) := by
              intro e
              have h9 : VRow w9 129 2 (.slice (some ⟨g9, 0, none⟩) (k + 1) c9) (k + 1) (sgsV lst ++ [.string ⟨z0.toArray⟩, .string ⟨z1.toArray⟩]) := hr9
              exact h9.ne_blk hbm9 (by decide) (by rw [e]; rfl)
            have HBW := Lib.hid (show Blk W (w.heap.size + 1 + 1) 67 #[.string ⟨x0.toArray⟩, .string ⟨x1.toArray⟩, .string ⟨x2.toArray⟩, .string ⟨x3.toArray⟩, .int .i64 x4, .string ⟨x5.toArray⟩, .slice A8 l8.length c8, .slice (some ⟨g9, 0, none⟩) (k + 1) c9, .int .i64 0] by rw [hW]; exact hbm9.set_ 7 (.slice (some ⟨g9, 0, none⟩) (k + 1) c9))
            have HRW := Lib.hid (show Blk W w.heap.size 67 #[.string ⟨#[]⟩, .string ⟨#[]⟩, .string ⟨#[]⟩, .string ⟨#[]⟩, .int .i64 0, .string ⟨#[]⟩, .slice none 0 0, .slice none 0 0, .int .i64 0] by rw [hW]; exact hrz9.far (p := ⟨(w.heap.size + 1 + 1), 7, none⟩) (by simp; omega) _)
            have HR9 := Lib.hid (show VRow W 129 2 (.slice (some ⟨g9, 0, none⟩) (k + 1) c9) (k + 1) (sgsV (lst ++ [⟨z0, z1⟩])) from by
              rw [sgsV_snoc, hW]
              have h9 : VRow w9 129 2 (.slice (some ⟨g9, 0, none⟩) (k + 1) c9) (k + 1) (sgsV lst ++ [.string ⟨z0.toArray⟩, .string ⟨z1.toArray⟩]) := hr9
              exact h9.touch ((Touch.refl (· = (w.heap.size + 1 + 1)) w9).setCell (p := ⟨(w.heap.size + 1 + 1), 7, none⟩) (.inr rfl) _) (fun j hj => by simp [Value.ownBlock] at hj; omega))
            have hend9 : RdrSt W (w.heap.size + 1) A n c xs t2 ∧ Fresh w W := by
              rw [← HZ2.out] at hg9
              have h1 : Fresh w (u2.alloc (.cells #[.string ⟨z0.toArray⟩, .string ⟨z1.toArray⟩] 129)) := (HT.out.trans HX2.out fun _ _ h => by omega).alloc _
              obtain ⟨p', bad', on', hd, hst⟩ := HY2.out
              rw [hW]
              refine ⟨HSTEP.out _ _ _ _ _ (Nat.le_refl _) ⟨p', bad', on', ⟨(hd.1.alloc _).grown hg9 (fun e => HNB.out _ e.symm rfl), ?_, hd.2.2⟩, hst⟩, (h1.grown hg9 (fun j hj => .inl (HOWN.out j hj))).setCell (p := ⟨(w.heap.size + 1 + 1), 7, none⟩) (.inl (by simp; omega)) _⟩
              refine (hd.2.1.alloc (.cells #[.string ⟨z0.toArray⟩, .string ⟨z1.toArray⟩] 129)).keep fun h0 p v hp ⟨a, ha, e⟩ => ?_
              have h6 : a.block < w.heap.size := HN.out a ha h0
              refine (World.cell?_of_block (hg9.block p.block ?_ ?_)).trans hp
              · rw [e]
                exact Nat.lt_of_lt_of_le h6 h1.size
              · intro e5
                rw [e] at e5
                have := HOWN.out _ e5.symm
                omega
            have hown9 : ∀ j, (Value.slice (some ⟨g9, 0, none⟩) (k + 1) c9).ownBlock = some j → w.heap.size ≤ j := by
              intro j hj
              have hj' : g9 = j := by simpa [Value.ownBlock] using hj
              subst hj'
              rcases ho9 with h | h
              · exact HOWN.out _ h
              · rw [h]; simp; omega
            have HEND9 := Lib.hid hend9
            have HOWN9 := Lib.hid hown9
            have HVC0 := Lib.hid (show VRow W 127 3 (.slice A8 l8.length c8) l8.length (ndsV l8) by
              rw [hW]
              refine VRow.touch (S := (· = (w.heap.size + 1 + 1))) ?_ ((Touch.refl (· = (w.heap.size + 1 + 1)) w9).setCell (p := ⟨(w.heap.size + 1 + 1), 7, none⟩) (.inr rfl) _) (fun j hj e => (HVB0.out.ne_blk HBM.out (by decide)) (by rw [hj, e]))
              have h9 := (HVB0.out.touch HX2.out (fun j hj e => (HVB0.out.ne_blk HD.out.1 (by decide)) (by rw [hj, e]))).alloc (.cells #[.string ⟨z0.toArray⟩, .string ⟨z1.toArray⟩] 129)
              rw [HZ2.out] at h9
              exact World.ownsRow.kept h9 hg9 HVN0.out)
            rw [← hW]
            clear hend9 hown9 hr9 hg9 ho9 hl9 hW hbm9 hrz9
            go_roundw
            case rel => exact ⟨k + 1, by omega, by go_num, lst ++ [⟨z0, z1⟩], t2, _, by simp [hlk], HBW.out, HR9.out, HOWN9.out, HSP2.out, HEND9.out.1, HEND9.out.2, HRW.out, HVC0.out⟩
            case measure => simp [intOf] <;> omega
          · have hkd : ∀ q, st = .ok q → x8.toNat ≤ k := by
              intro q hq
              have hb : bad = false := by
                cases bad
                · rfl
                · rw [hq] at hst; simp at hst
              have : ¬ (k : Int) < x8 := fun h => hgo ⟨h, hb⟩
              omega
            have H39 := Lib.hid (HSP.out.done hkd)
            have hcond : (decide ((k : Int) < x8) && !bad) = false := by
              cases bad
              · have : ¬ (k : Int) < x8 := fun h => hgo ⟨h, rfl⟩
                simp; omega
              · simp
            clear hkd hgo
            obtain ⟨A10, c10, rfl, _⟩ := HVR.out.form
            obtain ⟨st10, hs9⟩ : ∃ x, x = st := ⟨_, rfl⟩
            obtain ⟨l10, hl⟩ : ∃ x, x = lst := ⟨_, rfl⟩
            obtain ⟨w10, hw⟩ : ∃ x, x = wr := ⟨_, rfl⟩
            have HB10 := HBM
            have HR10 := HRZ
            have HS10 := HSR
            have HT10 := HT
            have HVA1 := HVR
            have HOA1 := HOWN
            have HVA0 := HVB0
            clear HVR HOWN HSP HBM HD HT HRZ HSR hst HVB0
            subst hlk hs9 hl hw
            by_cases hkN : ((l10.length : Nat) : Int) < x8
            · have hbt : bad = true := by simpa [hkN] using hcond
              subst hbt
              go_wp2_with fail
              have hn0 := HVA0.out
              have HNA0 : Hid (∀ j, (Value.slice A8 l8.length c8).ownBlock = some j → ¬ (j = (w.heap.size + 1) ∨ j = (w.heap.size + 1 + 1) ∨ j = w.heap.size)) := Lib.hid (by
                rintro j hj (h | h | h)
                · exact hn0.ne_blk HS10.out.choose_spec.choose_spec.choose_spec.1.1 (by decide) (by rw [hj, h])
                · exact hn0.ne_blk HB10.out (by decide) (by rw [hj, h])
                · exact hn0.ne_blk HR10.out (by decide) (by rw [hj, h]))
              clear hn0
              have hn1 := HVA1.out
              have HNA1 : Hid (∀ j, (Value.slice A10 l10.length c10).ownBlock = some j → ¬ (j = (w.heap.size + 1) ∨ j = (w.heap.size + 1 + 1) ∨ j = w.heap.size)) := Lib.hid (by
                rintro j hj (h | h | h)
                · exact hn1.ne_blk HS10.out.choose_spec.choose_spec.choose_spec.1.1 (by decide) (by rw [hj, h])
                · exact hn1.ne_blk HB10.out (by decide) (by rw [hj, h])
                · exact hn1.ne_blk HR10.out (by decide) (by rw [hj, h]))
              clear hn1
              refine (rnumber_any (w.heap.size + 1) A n c xs st10 0 4503599627370496 w10 HS10.out).mono ?_
              intro e wa10 h
              obtain ⟨x10, st11, rfl, hs, ht, h3⟩ := h.cases
              have hb := HB10.out.touch ht (by omega)
              have hr := HR10.out.touch ht (by omega)
              have hc := hb.cell 8
              have hf := hb.frozen 8
              simp only [List.getElem?_toArray, List.getElem?_cons_zero, List.getElem?_cons_succ] at hc
              obtain ⟨w11, hw11⟩ : ∃ w', w' = wa10.setCell ⟨(w.heap.size + 1 + 1), 8, none⟩ (.int .i64 x10) := ⟨_, rfl⟩
              have HB11 := Lib.hid (show Blk w11 (w.heap.size + 1 + 1) 67 #[.string ⟨x0.toArray⟩, .string ⟨x1.toArray⟩, .string ⟨x2.toArray⟩, .string ⟨x3.toArray⟩, .int .i64 x4, .string ⟨x5.toArray⟩, .slice A8 l8.length c8, .slice A10 l10.length c10, .int .i64 x10] by rw [hw11]; exact hb.set_ 8 (.int .i64 x10))
              have HR11 := Lib.hid (show Blk w11 w.heap.size 67 #[.string ⟨#[]⟩, .string ⟨#[]⟩, .string ⟨#[]⟩, .string ⟨#[]⟩, .int .i64 0, .string ⟨#[]⟩, .slice none 0 0, .slice none 0 0, .int .i64 0] by rw [hw11]; exact hr.far (p := ⟨(w.heap.size + 1 + 1), 8, none⟩) (by simp; omega) _)
              have HS11 := Lib.hid (show RdrSt w11 (w.heap.size + 1) A n c xs st11 by rw [hw11]; exact HSTEP.out _ _ _ _ _ (Nat.le_refl _) hs)
              have HT11 := Lib.hid (show Fresh w w11 by rw [hw11]; exact (HT10.out.trans ht fun _ _ h => by omega).setCell (p := ⟨(w.heap.size + 1 + 1), 8, none⟩) (.inl (by simp; omega)) _)
              have HW11 := Lib.hid hw11
              have H310 := Lib.hid (Stp.of h3)
              have HTS := Lib.hid (show Touch (fun k => k = (w.heap.size + 1) ∨ k = (w.heap.size + 1 + 1) ∨ k = w.heap.size) w10 w11 by rw [hw11]; exact (ht.mono fun _ _ h => .inl h).setCell (p := ⟨(w.heap.size + 1 + 1), 8, none⟩) (.inr (.inr (.inl rfl))) _)
              clear hw11 hb hr hs ht h3 h
              go_wp2_with fail
              rw [← HW11.out]
              clear hc hf
              have hfin : (Dec.whole (Dec.state xs 0) n = .ok ⟨x0, x1, x2, x3, x4, x5, l8, l10, x10⟩ ∧ rendV n st11 = .tuple #[.int .i64 0, .int .i64 0]) ∨ (∃ a, Dec.whole (Dec.state xs 0) n = .error a ∧ rendV n st11 = .tuple #[.int .i64 a, .int .i64 2]) := by
                have h0 := HST0.out
                subst h0
                rcases H30.out.ok with ⟨a, hg0, e1⟩ | ⟨q1, hg0, e1⟩
                · subst e1
                  have e2 := H31.out.err
                  subst e2
                  have e3 := H32.out.err
                  subst e3
                  have e4 := H33.out.err
                  subst e4
                  have e5 := H34.out.err
                  subst e5
                  have e6 := H35.out.err
                  subst e6
                  have e7 := H36.out.err
                  subst e7
                  have e8 := H37.out.err
                  subst e8
                  have e9 := H38.out.err
                  subst e9
                  have e10 := H39.out.err
                  subst e10
                  have e11 := H310.out.err
                  subst e11
                  exact .inr ⟨a, by unfold Dec.state Dec.bind; simp only [hg0]; rfl, rfl⟩
                · subst e1
                  rcases H31.out.ok with ⟨a, hg1, e2⟩ | ⟨q2, hg1, e2⟩
                  · subst e2
                    have e3 := H32.out.err
                    subst e3
                    have e4 := H33.out.err
                    subst e4
                    have e5 := H34.out.err
                    subst e5
                    have e6 := H35.out.err
                    subst e6
                    have e7 := H36.out.err
                    subst e7
                    have e8 := H37.out.err
                    subst e8
                    have e9 := H38.out.err
                    subst e9
                    have e10 := H39.out.err
                    subst e10
                    have e11 := H310.out.err
                    subst e11
                    exact .inr ⟨a, by unfold Dec.state Dec.bind; simp only [hg0]; simp only [hg1]; rfl, rfl⟩
                  · subst e2
                    rcases H32.out.ok with ⟨a, hg2, e3⟩ | ⟨q3, hg2, e3⟩
                    · subst e3
                      have e4 := H33.out.err
                      subst e4
                      have e5 := H34.out.err
                      subst e5
                      have e6 := H35.out.err
                      subst e6
                      have e7 := H36.out.err
                      subst e7
                      have e8 := H37.out.err
                      subst e8
                      have e9 := H38.out.err
                      subst e9
                      have e10 := H39.out.err
                      subst e10
                      have e11 := H310.out.err
                      subst e11
                      exact .inr ⟨a, by unfold Dec.state Dec.bind; simp only [hg0]; simp only [hg1]; simp only [hg2]; rfl, rfl⟩
                    · subst e3
                      rcases H33.out.ok with ⟨a, hg3, e4⟩ | ⟨q4, hg3, e4⟩
                      · subst e4
                        have e5 := H34.out.err
                        subst e5
                        have e6 := H35.out.err
                        subst e6
                        have e7 := H36.out.err
                        subst e7
                        have e8 := H37.out.err
                        subst e8
                        have e9 := H38.out.err
                        subst e9
                        have e10 := H39.out.err
                        subst e10
                        have e11 := H310.out.err
                        subst e11
                        exact .inr ⟨a, by unfold Dec.state Dec.bind; simp only [hg0]; simp only [hg1]; simp only [hg2]; simp only [hg3]; rfl, rfl⟩
                      · subst e4
                        rcases H34.out.ok with ⟨a, hg4, e5⟩ | ⟨q5, hg4, e5⟩
                        · subst e5
                          have e6 := H35.out.err
                          subst e6
                          have e7 := H36.out.err
                          subst e7
                          have e8 := H37.out.err
                          subst e8
                          have e9 := H38.out.err
                          subst e9
                          have e10 := H39.out.err
                          subst e10
                          have e11 := H310.out.err
                          subst e11
                          exact .inr ⟨a, by unfold Dec.state Dec.bind; simp only [hg0]; simp only [hg1]; simp only [hg2]; simp only [hg3]; simp only [hg4]; rfl, rfl⟩
                        · subst e5
                          rcases H35.out.ok with ⟨a, hg5, e6⟩ | ⟨q6, hg5, e6⟩
                          · subst e6
                            have e7 := H36.out.err
                            subst e7
                            have e8 := H37.out.err
                            subst e8
                            have e9 := H38.out.err
                            subst e9
                            have e10 := H39.out.err
                            subst e10
                            have e11 := H310.out.err
                            subst e11
                            exact .inr ⟨a, by unfold Dec.state Dec.bind; simp only [hg0]; simp only [hg1]; simp only [hg2]; simp only [hg3]; simp only [hg4]; simp only [hg5]; rfl, rfl⟩
                          · subst e6
                            rcases H36.out.ok with ⟨a, hg6, e7⟩ | ⟨q7, hg6, e7⟩
                            · subst e7
                              replace hg6 : Dec.plain xs _ = _ := hg6
                              have e8 := H37.out.err
                              subst e8
                              have e9 := H38.out.err
                              subst e9
                              have e10 := H39.out.err
                              subst e10
                              have e11 := H310.out.err
                              subst e11
                              exact .inr ⟨a, by unfold Dec.state Dec.bind; simp only [hg0]; simp only [hg1]; simp only [hg2]; simp only [hg3]; simp only [hg4]; simp only [hg5]; simp only [hg6]; rfl, rfl⟩
                            · subst e7
                              replace hg6 : Dec.plain xs _ = _ := hg6
                              rcases H37.out.ok with ⟨a, hg7, e8⟩ | ⟨q8, hg7, e8⟩
                              · subst e8
                                have e9 := H38.out.err
                                subst e9
                                have e10 := H39.out.err
                                subst e10
                                have e11 := H310.out.err
                                subst e11
                                exact .inr ⟨a, by unfold Dec.state Dec.bind; simp only [hg0]; simp only [hg1]; simp only [hg2]; simp only [hg3]; simp only [hg4]; simp only [hg5]; simp only [hg6]; simp only [hg7]; rfl, rfl⟩
                              · subst e8
                                rcases H38.out.ok with ⟨a, hg8, e9⟩ | ⟨q9, hg8, e9⟩
                                · subst e9
                                  replace hg8 : Dec.plain xs _ = _ := hg8
                                  have e10 := H39.out.err
                                  subst e10
                                  have e11 := H310.out.err
                                  subst e11
                                  exact .inr ⟨a, by unfold Dec.state Dec.bind; simp only [hg0]; simp only [hg1]; simp only [hg2]; simp only [hg3]; simp only [hg4]; simp only [hg5]; simp only [hg6]; simp only [hg7]; simp only [hg8]; rfl, rfl⟩
                                · subst e9
                                  replace hg8 : Dec.plain xs _ = _ := hg8
                                  rcases H39.out.ok with ⟨a, hg9, e10⟩ | ⟨q10, hg9, e10⟩
                                  · subst e10
                                    have e11 := H310.out.err
                                    subst e11
                                    exact .inr ⟨a, by unfold Dec.state Dec.bind; simp only [hg0]; simp only [hg1]; simp only [hg2]; simp only [hg3]; simp only [hg4]; simp only [hg5]; simp only [hg6]; simp only [hg7]; simp only [hg8]; simp only [hg9]; rfl, rfl⟩
                                  · subst e10
                                    rcases H310.out.ok with ⟨a, hg10, e11⟩ | ⟨q11, hg10, e11⟩
                                    · subst e11
                                      replace hg10 : Dec.plain xs _ = _ := hg10
                                      exact .inr ⟨a, by unfold Dec.state Dec.bind; simp only [hg0]; simp only [hg1]; simp only [hg2]; simp only [hg3]; simp only [hg4]; simp only [hg5]; simp only [hg6]; simp only [hg7]; simp only [hg8]; simp only [hg9]; simp only [hg10]; rfl, rfl⟩
                                    · subst e11
                                      replace hg10 : Dec.plain xs _ = _ := hg10
                                      have hsp : Dec.state xs 0 = .ok (⟨x0, x1, x2, x3, x4, x5, l8, l10, x10⟩, q11) := by unfold Dec.state Dec.bind; simp only [hg0]; simp only [hg1]; simp only [hg2]; simp only [hg3]; simp only [hg4]; simp only [hg5]; simp only [hg6]; simp only [hg7]; simp only [hg8]; simp only [hg9]; simp only [hg10]
                                      rw [hsp]
                                      by_cases hq : q11 < n
                                      · exact .inr ⟨q11, if_pos hq, if_pos hq⟩
                                      · exact .inl ⟨if_neg hq, if_neg hq⟩
              have HFIN := Lib.hid hfin
              clear hfin
              have HEND := Lib.hid (rend_any (w.heap.size + 1) A n c xs st11 w11 HS11.out)
              refine HEND.out.mono ?_
              rintro e wz ⟨ht, rfl⟩
              have hb := HB11.out.touch ht (by omega)
              have hr := HR11.out.touch ht (by omega)
              have HTZ := Lib.hid (show Fresh w wz from HT11.out.trans ht fun _ _ h => by omega)
              have HTS2 := Lib.hid (show Touch (fun k => k = (w.heap.size + 1) ∨ k = (w.heap.size + 1 + 1) ∨ k = w.heap.size) w10 wz from HTS.out.trans ht fun _ _ h => .inl h)
              have hc0 := hr.cell 0
              have hf0 := hr.frozen 0
              have hd0 := hb.cell 0
              have hc1 := hr.cell 1
              have hf1 := hr.frozen 1
              have hd1 := hb.cell 1
              have hc2 := hr.cell 2
              have hf2 := hr.frozen 2
              have hd2 := hb.cell 2
              have hc3 := hr.cell 3
              have hf3 := hr.frozen 3
              have hd3 := hb.cell 3
              have hc4 := hr.cell 4
              have hf4 := hr.frozen 4
              have hd4 := hb.cell 4
              have hc5 := hr.cell 5
              have hf5 := hr.frozen 5
              have hd5 := hb.cell 5
              have hc6 := hr.cell 6
              have hf6 := hr.frozen 6
              have hd6 := hb.cell 6
              have hc7 := hr.cell 7
              have hf7 := hr.frozen 7
              have hd7 := hb.cell 7
              have hc8 := hr.cell 8
              have hf8 := hr.frozen 8
              have hd8 := hb.cell 8
              simp only [List.getElem?_toArray, List.getElem?_cons_zero, List.getElem?_cons_succ] at hc0 hd0 hc1 hd1 hc2 hd2 hc3 hd3 hc4 hd4 hc5 hd5 hc6 hd6 hc7 hd7 hc8 hd8
              have HRz := Lib.hid hr
              clear hr hb ht
              rcases HFIN.out with ⟨hsp, hrv⟩ | ⟨a, hsp, hrv⟩
              · obtain ⟨W, hW⟩ : ∃ W, W = (((((((((wz.setCell ⟨w.heap.size, 0, none⟩ (.string ⟨x0.toArray⟩)).setCell ⟨w.heap.size, 1, none⟩ (.string ⟨x1.toArray⟩)).setCell ⟨w.heap.size, 2, none⟩ (.string ⟨x2.toArray⟩)).setCell ⟨w.heap.size, 3, none⟩ (.string ⟨x3.toArray⟩)).setCell ⟨w.heap.size, 4, none⟩ (.int .i64 x4)).setCell ⟨w.heap.size, 5, none⟩ (.string ⟨x5.toArray⟩)).setCell ⟨w.heap.size, 6, none⟩ (.slice A8 l8.length c8)).setCell ⟨w.heap.size, 7, none⟩ (.slice A10 l10.length c10)).setCell ⟨w.heap.size, 8, none⟩ (.int .i64 x10)) := ⟨_, rfl⟩
                have HBW := Lib.hid (show Blk W w.heap.size 67 #[.string ⟨x0.toArray⟩, .string ⟨x1.toArray⟩, .string ⟨x2.toArray⟩, .string ⟨x3.toArray⟩, .int .i64 x4, .string ⟨x5.toArray⟩, .slice A8 l8.length c8, .slice A10 l10.length c10, .int .i64 x10] by rw [hW]; exact HRz.out.puts_all [.string ⟨x0.toArray⟩, .string ⟨x1.toArray⟩, .string ⟨x2.toArray⟩, .string ⟨x3.toArray⟩, .int .i64 x4, .string ⟨x5.toArray⟩, .slice A8 l8.length c8, .slice A10 l10.length c10, .int .i64 x10] rfl)
                have HTW := Lib.hid (show Fresh w W by rw [hW]; exact HTZ.out.puts (b := w.heap.size) (.inl (Nat.le_refl _)) 0 [.string ⟨x0.toArray⟩, .string ⟨x1.toArray⟩, .string ⟨x2.toArray⟩, .string ⟨x3.toArray⟩, .int .i64 x4, .string ⟨x5.toArray⟩, .slice A8 l8.length c8, .slice A10 l10.length c10, .int .i64 x10])
                have HTS3 := Lib.hid (show Touch (fun k => k = (w.heap.size + 1) ∨ k = (w.heap.size + 1 + 1) ∨ k = w.heap.size) w10 W by rw [hW]; exact HTS2.out.puts (b := w.heap.size) (.inr (.inr (.inr rfl))) 0 [.string ⟨x0.toArray⟩, .string ⟨x1.toArray⟩, .string ⟨x2.toArray⟩, .string ⟨x3.toArray⟩, .int .i64 x4, .string ⟨x5.toArray⟩, .slice A8 l8.length c8, .slice A10 l10.length c10, .int .i64 x10])
                have HW := Lib.hid hW
                have HSP := Lib.hid hsp
                clear hW hsp
                simp only [hrv]
                clear hrv
                go_wp2_with fail
                rw [← HW.out]
                have e0 := HBW.out.cell 0
                have e1 := HBW.out.cell 1
                have e2 := HBW.out.cell 2
                have e3 := HBW.out.cell 3
                have e4 := HBW.out.cell 4
                have e5 := HBW.out.cell 5
                have e6 := HBW.out.cell 6
                have e7 := HBW.out.cell 7
                have e8 := HBW.out.cell 8
                simp only [List.getElem?_toArray, List.getElem?_cons_zero, List.getElem?_cons_succ] at e0 e1 e2 e3 e4 e5 e6 e7 e8
                exact bodyPost_ret (v := .tuple #[.agg #[.string ⟨x0.toArray⟩, .string ⟨x1.toArray⟩, .string ⟨x2.toArray⟩, .string ⟨x3.toArray⟩, .int .i64 x4, .string ⟨x5.toArray⟩, .slice A8 l8.length c8, .slice A10 l10.length c10, .int .i64 x10], .int .i64 0, .int .i64 0]) (by simp [results, Try.results47, go_sem, e0, e1, e2, e3, e4, e5, e6, e7, e8]) rfl (StaEnd.good HSP.out ⟨HVA0.out.touch HTS3.out (fun k hk => HNA0.out k hk), HVA1.out.touch HTS3.out (fun k hk => HNA1.out k hk), HOA0.out, HOA1.out⟩ HTW.out)
              · obtain ⟨W, hW⟩ : ∃ W, W = (((((((((wz.setCell ⟨w.heap.size, 0, none⟩ (.string ⟨#[]⟩)).setCell ⟨w.heap.size, 1, none⟩ (.string ⟨#[]⟩)).setCell ⟨w.heap.size, 2, none⟩ (.string ⟨#[]⟩)).setCell ⟨w.heap.size, 3, none⟩ (.string ⟨#[]⟩)).setCell ⟨w.heap.size, 4, none⟩ (.int .i64 0)).setCell ⟨w.heap.size, 5, none⟩ (.string ⟨#[]⟩)).setCell ⟨w.heap.size, 6, none⟩ (.slice none 0 0)).setCell ⟨w.heap.size, 7, none⟩ (.slice none 0 0)).setCell ⟨w.heap.size, 8, none⟩ (.int .i64 0)) := ⟨_, rfl⟩
                have HBW := Lib.hid (show Blk W w.heap.size 67 #[.string ⟨#[]⟩, .string ⟨#[]⟩, .string ⟨#[]⟩, .string ⟨#[]⟩, .int .i64 0, .string ⟨#[]⟩, .slice none 0 0, .slice none 0 0, .int .i64 0] by rw [hW]; exact HRz.out.puts_all [.string ⟨#[]⟩, .string ⟨#[]⟩, .string ⟨#[]⟩, .string ⟨#[]⟩, .int .i64 0, .string ⟨#[]⟩, .slice none 0 0, .slice none 0 0, .int .i64 0] rfl)
                have HTW := Lib.hid (show Fresh w W by rw [hW]; exact HTZ.out.puts (b := w.heap.size) (.inl (Nat.le_refl _)) 0 [.string ⟨#[]⟩, .string ⟨#[]⟩, .string ⟨#[]⟩, .string ⟨#[]⟩, .int .i64 0, .string ⟨#[]⟩, .slice none 0 0, .slice none 0 0, .int .i64 0])
                have HTS3 := Lib.hid (show Touch (fun k => k = (w.heap.size + 1) ∨ k = (w.heap.size + 1 + 1) ∨ k = w.heap.size) w10 W by rw [hW]; exact HTS2.out.puts (b := w.heap.size) (.inr (.inr (.inr rfl))) 0 [.string ⟨#[]⟩, .string ⟨#[]⟩, .string ⟨#[]⟩, .string ⟨#[]⟩, .int .i64 0, .string ⟨#[]⟩, .slice none 0 0, .slice none 0 0, .int .i64 0])
                have HW := Lib.hid hW
                have HSP := Lib.hid hsp
                clear hW hsp
                simp only [hrv]
                clear hrv
                go_wp2_with fail
                rw [← HW.out]
                have e0 := HBW.out.cell 0
                have e1 := HBW.out.cell 1
                have e2 := HBW.out.cell 2
                have e3 := HBW.out.cell 3
                have e4 := HBW.out.cell 4
                have e5 := HBW.out.cell 5
                have e6 := HBW.out.cell 6
                have e7 := HBW.out.cell 7
                have e8 := HBW.out.cell 8
                simp only [List.getElem?_toArray, List.getElem?_cons_zero, List.getElem?_cons_succ] at e0 e1 e2 e3 e4 e5 e6 e7 e8
                exact bodyPost_ret (v := .tuple #[.agg #[.string ⟨#[]⟩, .string ⟨#[]⟩, .string ⟨#[]⟩, .string ⟨#[]⟩, .int .i64 0, .string ⟨#[]⟩, .slice none 0 0, .slice none 0 0, .int .i64 0], .int .i64 a, .int .i64 2]) (by simp [results, Try.results47, go_sem, e0, e1, e2, e3, e4, e5, e6, e7, e8]) rfl (StaEnd.bad HSP.out HTW.out)
            · go_wp2_with fail
              have hn0 := HVA0.out
              have HNA0 : Hid (∀ j, (Value.slice A8 l8.length c8).ownBlock = some j → ¬ (j = (w.heap.size + 1) ∨ j = (w.heap.size + 1 + 1) ∨ j = w.heap.size)) := Lib.hid (by
                rintro j hj (h | h | h)
                · exact hn0.ne_blk HS10.out.choose_spec.choose_spec.choose_spec.1.1 (by decide) (by rw [hj, h])
                · exact hn0.ne_blk HB10.out (by decide) (by rw [hj, h])
                · exact hn0.ne_blk HR10.out (by decide) (by rw [hj, h]))
              clear hn0
              have hn1 := HVA1.out
              have HNA1 : Hid (∀ j, (Value.slice A10 l10.length c10).ownBlock = some j → ¬ (j = (w.heap.size + 1) ∨ j = (w.heap.size + 1 + 1) ∨ j = w.heap.size)) := Lib.hid (by
                rintro j hj (h | h | h)
                · exact hn1.ne_blk HS10.out.choose_spec.choose_spec.choose_spec.1.1 (by decide) (by rw [hj, h])
                · exact hn1.ne_blk HB10.out (by decide) (by rw [hj, h])
                · exact hn1.ne_blk HR10.out (by decide) (by rw [hj, h]))
              clear hn1
              refine (rnumber_any (w.heap.size + 1) A n c xs st10 0 4503599627370496 w10 HS10.out).mono ?_
              intro e wa10 h
              obtain ⟨x10, st11, rfl, hs, ht, h3⟩ := h.cases
              have hb := HB10.out.touch ht (by omega)
              have hr := HR10.out.touch ht (by omega)
              have hc := hb.cell 8
              have hf := hb.frozen 8
              simp only [List.getElem?_toArray, List.getElem?_cons_zero, List.getElem?_cons_succ] at hc
              obtain ⟨w11, hw11⟩ : ∃ w', w' = wa10.setCell ⟨(w.heap.size + 1 + 1), 8, none⟩ (.int .i64 x10) := ⟨_, rfl⟩
              have HB11 := Lib.hid (show Blk w11 (w.heap.size + 1 + 1) 67 #[.string ⟨x0.toArray⟩, .string ⟨x1.toArray⟩, .string ⟨x2.toArray⟩, .string ⟨x3.toArray⟩, .int .i64 x4, .string ⟨x5.toArray⟩, .slice A8 l8.length c8, .slice A10 l10.length c10, .int .i64 x10] by rw [hw11]; exact hb.set_ 8 (.int .i64 x10))
              have HR11 := Lib.hid (show Blk w11 w.heap.size 67 #[.string ⟨#[]⟩, .string ⟨#[]⟩, .string ⟨#[]⟩, .string ⟨#[]⟩, .int .i64 0, .string ⟨#[]⟩, .slice none 0 0, .slice none 0 0, .int .i64 0] by rw [hw11]; exact hr.far (p := ⟨(w.heap.size + 1 + 1), 8, none⟩) (by simp; omega) _)
              have HS11 := Lib.hid (show RdrSt w11 (w.heap.size + 1) A n c xs st11 by rw [hw11]; exact HSTEP.out _ _ _ _ _ (Nat.le_refl _) hs)
              have HT11 := Lib.hid (show Fresh w w11 by rw [hw11]; exact (HT10.out.trans ht fun _ _ h => by omega).setCell (p := ⟨(w.heap.size + 1 + 1), 8, none⟩) (.inl (by simp; omega)) _)
              have HW11 := Lib.hid hw11
              have H310 := Lib.hid (Stp.of h3)
              have HTS := Lib.hid (show Touch (fun k => k = (w.heap.size + 1) ∨ k = (w.heap.size + 1 + 1) ∨ k = w.heap.size) w10 w11 by rw [hw11]; exact (ht.mono fun _ _ h => .inl h).setCell (p := ⟨(w.heap.size + 1 + 1), 8, none⟩) (.inr (.inr (.inl rfl))) _)
              clear hw11 hb hr hs ht h3 h
              go_wp2_with fail
              rw [← HW11.out]
              clear hc hf
              have hfin : (Dec.whole (Dec.state xs 0) n = .ok ⟨x0, x1, x2, x3, x4, x5, l8, l10, x10⟩ ∧ rendV n st11 = .tuple #[.int .i64 0, .int .i64 0]) ∨ (∃ a, Dec.whole (Dec.state xs 0) n = .error a ∧ rendV n st11 = .tuple #[.int .i64 a, .int .i64 2]) := by
                have h0 := HST0.out
                subst h0
                rcases H30.out.ok with ⟨a, hg0, e1⟩ | ⟨q1, hg0, e1⟩
                · subst e1
                  have e2 := H31.out.err
                  subst e2
                  have e3 := H32.out.err
                  subst e3
                  have e4 := H33.out.err
                  subst e4
                  have e5 := H34.out.err
                  subst e5
                  have e6 := H35.out.err
                  subst e6
                  have e7 := H36.out.err
                  subst e7
                  have e8 := H37.out.err
                  subst e8
                  have e9 := H38.out.err
                  subst e9
                  have e10 := H39.out.err
                  subst e10
                  have e11 := H310.out.err
                  subst e11
                  exact .inr ⟨a, by unfold Dec.state Dec.bind; simp only [hg0]; rfl, rfl⟩
                · subst e1
                  rcases H31.out.ok with ⟨a, hg1, e2⟩ | ⟨q2, hg1, e2⟩
                  · subst e2
                    have e3 := H32.out.err
                    subst e3
                    have e4 := H33.out.err
                    subst e4
                    have e5 := H34.out.err
                    subst e5
                    have e6 := H35.out.err
                    subst e6
                    have e7 := H36.out.err
                    subst e7
                    have e8 := H37.out.err
                    subst e8
                    have e9 := H38.out.err
                    subst e9
                    have e10 := H39.out.err
                    subst e10
                    have e11 := H310.out.err
                    subst e11
                    exact .inr ⟨a, by unfold Dec.state Dec.bind; simp only [hg0]; simp only [hg1]; rfl, rfl⟩
                  · subst e2
                    rcases H32.out.ok with ⟨a, hg2, e3⟩ | ⟨q3, hg2, e3⟩
                    · subst e3
                      have e4 := H33.out.err
                      subst e4
                      have e5 := H34.out.err
                      subst e5
                      have e6 := H35.out.err
                      subst e6
                      have e7 := H36.out.err
                      subst e7
                      have e8 := H37.out.err
                      subst e8
                      have e9 := H38.out.err
                      subst e9
                      have e10 := H39.out.err
                      subst e10
                      have e11 := H310.out.err
                      subst e11
                      exact .inr ⟨a, by unfold Dec.state Dec.bind; simp only [hg0]; simp only [hg1]; simp only [hg2]; rfl, rfl⟩
                    · subst e3
                      rcases H33.out.ok with ⟨a, hg3, e4⟩ | ⟨q4, hg3, e4⟩
                      · subst e4
                        have e5 := H34.out.err
                        subst e5
                        have e6 := H35.out.err
                        subst e6
                        have e7 := H36.out.err
                        subst e7
                        have e8 := H37.out.err
                        subst e8
                        have e9 := H38.out.err
                        subst e9
                        have e10 := H39.out.err
                        subst e10
                        have e11 := H310.out.err
                        subst e11
                        exact .inr ⟨a, by unfold Dec.state Dec.bind; simp only [hg0]; simp only [hg1]; simp only [hg2]; simp only [hg3]; rfl, rfl⟩
                      · subst e4
                        rcases H34.out.ok with ⟨a, hg4, e5⟩ | ⟨q5, hg4, e5⟩
                        · subst e5
                          have e6 := H35.out.err
                          subst e6
                          have e7 := H36.out.err
                          subst e7
                          have e8 := H37.out.err
                          subst e8
                          have e9 := H38.out.err
                          subst e9
                          have e10 := H39.out.err
                          subst e10
                          have e11 := H310.out.err
                          subst e11
                          exact .inr ⟨a, by unfold Dec.state Dec.bind; simp only [hg0]; simp only [hg1]; simp only [hg2]; simp only [hg3]; simp only [hg4]; rfl, rfl⟩
                        · subst e5
                          rcases H35.out.ok with ⟨a, hg5, e6⟩ | ⟨q6, hg5, e6⟩
                          · subst e6
                            have e7 := H36.out.err
                            subst e7
                            have e8 := H37.out.err
                            subst e8
                            have e9 := H38.out.err
                            subst e9
                            have e10 := H39.out.err
                            subst e10
                            have e11 := H310.out.err
                            subst e11
                            exact .inr ⟨a, by unfold Dec.state Dec.bind; simp only [hg0]; simp only [hg1]; simp only [hg2]; simp only [hg3]; simp only [hg4]; simp only [hg5]; rfl, rfl⟩
                          · subst e6
                            rcases H36.out.ok with ⟨a, hg6, e7⟩ | ⟨q7, hg6, e7⟩
                            · subst e7
                              replace hg6 : Dec.plain xs _ = _ := hg6
                              have e8 := H37.out.err
                              subst e8
                              have e9 := H38.out.err
                              subst e9
                              have e10 := H39.out.err
                              subst e10
                              have e11 := H310.out.err
                              subst e11
                              exact .inr ⟨a, by unfold Dec.state Dec.bind; simp only [hg0]; simp only [hg1]; simp only [hg2]; simp only [hg3]; simp only [hg4]; simp only [hg5]; simp only [hg6]; rfl, rfl⟩
                            · subst e7
                              replace hg6 : Dec.plain xs _ = _ := hg6
                              rcases H37.out.ok with ⟨a, hg7, e8⟩ | ⟨q8, hg7, e8⟩
                              · subst e8
                                have e9 := H38.out.err
                                subst e9
                                have e10 := H39.out.err
                                subst e10
                                have e11 := H310.out.err
                                subst e11
                                exact .inr ⟨a, by unfold Dec.state Dec.bind; simp only [hg0]; simp only [hg1]; simp only [hg2]; simp only [hg3]; simp only [hg4]; simp only [hg5]; simp only [hg6]; simp only [hg7]; rfl, rfl⟩
                              · subst e8
                                rcases H38.out.ok with ⟨a, hg8, e9⟩ | ⟨q9, hg8, e9⟩
                                · subst e9
                                  replace hg8 : Dec.plain xs _ = _ := hg8
                                  have e10 := H39.out.err
                                  subst e10
                                  have e11 := H310.out.err
                                  subst e11
                                  exact .inr ⟨a, by unfold Dec.state Dec.bind; simp only [hg0]; simp only [hg1]; simp only [hg2]; simp only [hg3]; simp only [hg4]; simp only [hg5]; simp only [hg6]; simp only [hg7]; simp only [hg8]; rfl, rfl⟩
                                · subst e9
                                  replace hg8 : Dec.plain xs _ = _ := hg8
                                  rcases H39.out.ok with ⟨a, hg9, e10⟩ | ⟨q10, hg9, e10⟩
                                  · subst e10
                                    have e11 := H310.out.err
                                    subst e11
                                    exact .inr ⟨a, by unfold Dec.state Dec.bind; simp only [hg0]; simp only [hg1]; simp only [hg2]; simp only [hg3]; simp only [hg4]; simp only [hg5]; simp only [hg6]; simp only [hg7]; simp only [hg8]; simp only [hg9]; rfl, rfl⟩
                                  · subst e10
                                    rcases H310.out.ok with ⟨a, hg10, e11⟩ | ⟨q11, hg10, e11⟩
                                    · subst e11
                                      replace hg10 : Dec.plain xs _ = _ := hg10
                                      exact .inr ⟨a, by unfold Dec.state Dec.bind; simp only [hg0]; simp only [hg1]; simp only [hg2]; simp only [hg3]; simp only [hg4]; simp only [hg5]; simp only [hg6]; simp only [hg7]; simp only [hg8]; simp only [hg9]; simp only [hg10]; rfl, rfl⟩
                                    · subst e11
                                      replace hg10 : Dec.plain xs _ = _ := hg10
                                      have hsp : Dec.state xs 0 = .ok (⟨x0, x1, x2, x3, x4, x5, l8, l10, x10⟩, q11) := by unfold Dec.state Dec.bind; simp only [hg0]; simp only [hg1]; simp only [hg2]; simp only [hg3]; simp only [hg4]; simp only [hg5]; simp only [hg6]; simp only [hg7]; simp only [hg8]; simp only [hg9]; simp only [hg10]
                                      rw [hsp]
                                      by_cases hq : q11 < n
                                      · exact .inr ⟨q11, if_pos hq, if_pos hq⟩
                                      · exact .inl ⟨if_neg hq, if_neg hq⟩
              have HFIN := Lib.hid hfin
              clear hfin
              have HEND := Lib.hid (rend_any (w.heap.size + 1) A n c xs st11 w11 HS11.out)
              refine HEND.out.mono ?_
              rintro e wz ⟨ht, rfl⟩
              have hb := HB11.out.touch ht (by omega)
              have hr := HR11.out.touch ht (by omega)
              have HTZ := Lib.hid (show Fresh w wz from HT11.out.trans ht fun _ _ h => by omega)
              have HTS2 := Lib.hid (show Touch (fun k => k = (w.heap.size + 1) ∨ k = (w.heap.size + 1 + 1) ∨ k = w.heap.size) w10 wz from HTS.out.trans ht fun _ _ h => .inl h)
              have hc0 := hr.cell 0
              have hf0 := hr.frozen 0
              have hd0 := hb.cell 0
              have hc1 := hr.cell 1
              have hf1 := hr.frozen 1
              have hd1 := hb.cell 1
              have hc2 := hr.cell 2
              have hf2 := hr.frozen 2
              have hd2 := hb.cell 2
              have hc3 := hr.cell 3
              have hf3 := hr.frozen 3
              have hd3 := hb.cell 3
              have hc4 := hr.cell 4
              have hf4 := hr.frozen 4
              have hd4 := hb.cell 4
              have hc5 := hr.cell 5
              have hf5 := hr.frozen 5
              have hd5 := hb.cell 5
              have hc6 := hr.cell 6
              have hf6 := hr.frozen 6
              have hd6 := hb.cell 6
              have hc7 := hr.cell 7
              have hf7 := hr.frozen 7
              have hd7 := hb.cell 7
              have hc8 := hr.cell 8
              have hf8 := hr.frozen 8
              have hd8 := hb.cell 8
              simp only [List.getElem?_toArray, List.getElem?_cons_zero, List.getElem?_cons_succ] at hc0 hd0 hc1 hd1 hc2 hd2 hc3 hd3 hc4 hd4 hc5 hd5 hc6 hd6 hc7 hd7 hc8 hd8
              have HRz := Lib.hid hr
              clear hr hb ht
              rcases HFIN.out with ⟨hsp, hrv⟩ | ⟨a, hsp, hrv⟩
              · obtain ⟨W, hW⟩ : ∃ W, W = (((((((((wz.setCell ⟨w.heap.size, 0, none⟩ (.string ⟨x0.toArray⟩)).setCell ⟨w.heap.size, 1, none⟩ (.string ⟨x1.toArray⟩)).setCell ⟨w.heap.size, 2, none⟩ (.string ⟨x2.toArray⟩)).setCell ⟨w.heap.size, 3, none⟩ (.string ⟨x3.toArray⟩)).setCell ⟨w.heap.size, 4, none⟩ (.int .i64 x4)).setCell ⟨w.heap.size, 5, none⟩ (.string ⟨x5.toArray⟩)).setCell ⟨w.heap.size, 6, none⟩ (.slice A8 l8.length c8)).setCell ⟨w.heap.size, 7, none⟩ (.slice A10 l10.length c10)).setCell ⟨w.heap.size, 8, none⟩ (.int .i64 x10)) := ⟨_, rfl⟩
                have HBW := Lib.hid (show Blk W w.heap.size 67 #[.string ⟨x0.toArray⟩, .string ⟨x1.toArray⟩, .string ⟨x2.toArray⟩, .string ⟨x3.toArray⟩, .int .i64 x4, .string ⟨x5.toArray⟩, .slice A8 l8.length c8, .slice A10 l10.length c10, .int .i64 x10] by rw [hW]; exact HRz.out.puts_all [.string ⟨x0.toArray⟩, .string ⟨x1.toArray⟩, .string ⟨x2.toArray⟩, .string ⟨x3.toArray⟩, .int .i64 x4, .string ⟨x5.toArray⟩, .slice A8 l8.length c8, .slice A10 l10.length c10, .int .i64 x10] rfl)
                have HTW := Lib.hid (show Fresh w W by rw [hW]; exact HTZ.out.puts (b := w.heap.size) (.inl (Nat.le_refl _)) 0 [.string ⟨x0.toArray⟩, .string ⟨x1.toArray⟩, .string ⟨x2.toArray⟩, .string ⟨x3.toArray⟩, .int .i64 x4, .string ⟨x5.toArray⟩, .slice A8 l8.length c8, .slice A10 l10.length c10, .int .i64 x10])
                have HTS3 := Lib.hid (show Touch (fun k => k = (w.heap.size + 1) ∨ k = (w.heap.size + 1 + 1) ∨ k = w.heap.size) w10 W by rw [hW]; exact HTS2.out.puts (b := w.heap.size) (.inr (.inr (.inr rfl))) 0 [.string ⟨x0.toArray⟩, .string ⟨x1.toArray⟩, .string ⟨x2.toArray⟩, .string ⟨x3.toArray⟩, .int .i64 x4, .string ⟨x5.toArray⟩, .slice A8 l8.length c8, .slice A10 l10.length c10, .int .i64 x10])
                have HW := Lib.hid hW
                have HSP := Lib.hid hsp
                clear hW hsp
                simp only [hrv]
                clear hrv
                go_wp2_with fail
                rw [← HW.out]
                have e0 := HBW.out.cell 0
                have e1 := HBW.out.cell 1
                have e2 := HBW.out.cell 2
                have e3 := HBW.out.cell 3
                have e4 := HBW.out.cell 4
                have e5 := HBW.out.cell 5
                have e6 := HBW.out.cell 6
                have e7 := HBW.out.cell 7
                have e8 := HBW.out.cell 8
                simp only [List.getElem?_toArray, List.getElem?_cons_zero, List.getElem?_cons_succ] at e0 e1 e2 e3 e4 e5 e6 e7 e8
                exact bodyPost_ret (v := .tuple #[.agg #[.string ⟨x0.toArray⟩, .string ⟨x1.toArray⟩, .string ⟨x2.toArray⟩, .string ⟨x3.toArray⟩, .int .i64 x4, .string ⟨x5.toArray⟩, .slice A8 l8.length c8, .slice A10 l10.length c10, .int .i64 x10], .int .i64 0, .int .i64 0]) (by simp [results, Try.results47, go_sem, e0, e1, e2, e3, e4, e5, e6, e7, e8]) rfl (StaEnd.good HSP.out ⟨HVA0.out.touch HTS3.out (fun k hk => HNA0.out k hk), HVA1.out.touch HTS3.out (fun k hk => HNA1.out k hk), HOA0.out, HOA1.out⟩ HTW.out)
              · obtain ⟨W, hW⟩ : ∃ W, W = (((((((((wz.setCell ⟨w.heap.size, 0, none⟩ (.string ⟨#[]⟩)).setCell ⟨w.heap.size, 1, none⟩ (.string ⟨#[]⟩)).setCell ⟨w.heap.size, 2, none⟩ (.string ⟨#[]⟩)).setCell ⟨w.heap.size, 3, none⟩ (.string ⟨#[]⟩)).setCell ⟨w.heap.size, 4, none⟩ (.int .i64 0)).setCell ⟨w.heap.size, 5, none⟩ (.string ⟨#[]⟩)).setCell ⟨w.heap.size, 6, none⟩ (.slice none 0 0)).setCell ⟨w.heap.size, 7, none⟩ (.slice none 0 0)).setCell ⟨w.heap.size, 8, none⟩ (.int .i64 0)) := ⟨_, rfl⟩
                have HBW := Lib.hid (show Blk W w.heap.size 67 #[.string ⟨#[]⟩, .string ⟨#[]⟩, .string ⟨#[]⟩, .string ⟨#[]⟩, .int .i64 0, .string ⟨#[]⟩, .slice none 0 0, .slice none 0 0, .int .i64 0] by rw [hW]; exact HRz.out.puts_all [.string ⟨#[]⟩, .string ⟨#[]⟩, .string ⟨#[]⟩, .string ⟨#[]⟩, .int .i64 0, .string ⟨#[]⟩, .slice none 0 0, .slice none 0 0, .int .i64 0] rfl)
                have HTW := Lib.hid (show Fresh w W by rw [hW]; exact HTZ.out.puts (b := w.heap.size) (.inl (Nat.le_refl _)) 0 [.string ⟨#[]⟩, .string ⟨#[]⟩, .string ⟨#[]⟩, .string ⟨#[]⟩, .int .i64 0, .string ⟨#[]⟩, .slice none 0 0, .slice none 0 0, .int .i64 0])
                have HTS3 := Lib.hid (show Touch (fun k => k = (w.heap.size + 1) ∨ k = (w.heap.size + 1 + 1) ∨ k = w.heap.size) w10 W by rw [hW]; exact HTS2.out.puts (b := w.heap.size) (.inr (.inr (.inr rfl))) 0 [.string ⟨#[]⟩, .string ⟨#[]⟩, .string ⟨#[]⟩, .string ⟨#[]⟩, .int .i64 0, .string ⟨#[]⟩, .slice none 0 0, .slice none 0 0, .int .i64 0])
                have HW := Lib.hid hW
                have HSP := Lib.hid hsp
                clear hW hsp
                simp only [hrv]
                clear hrv
                go_wp2_with fail
                rw [← HW.out]
                have e0 := HBW.out.cell 0
                have e1 := HBW.out.cell 1
                have e2 := HBW.out.cell 2
                have e3 := HBW.out.cell 3
                have e4 := HBW.out.cell 4
                have e5 := HBW.out.cell 5
                have e6 := HBW.out.cell 6
                have e7 := HBW.out.cell 7
                have e8 := HBW.out.cell 8
                simp only [List.getElem?_toArray, List.getElem?_cons_zero, List.getElem?_cons_succ] at e0 e1 e2 e3 e4 e5 e6 e7 e8
                exact bodyPost_ret (v := .tuple #[.agg #[.string ⟨#[]⟩, .string ⟨#[]⟩, .string ⟨#[]⟩, .string ⟨#[]⟩, .int .i64 0, .string ⟨#[]⟩, .slice none 0 0, .slice none 0 0, .int .i64 0], .int .i64 a, .int .i64 2]) (by simp [results, Try.results47, go_sem, e0, e1, e2, e3, e4, e5, e6, e7, e8]) rfl (StaEnd.bad HSP.out HTW.out)
end Go.Proofs.Ytdfhdanfigpbpaa
