/- The walk of the law WorldClock: it answers true. Conditions stand with it. -/
import Derived.Test.YthmjnlkdoepmjaaWakes
namespace Go.Proofs.Ythmjnlkdoepmjaa
open Go.RowKit

set_option maxRecDepth 20000 in
theorem now_any (w : World) (bc : Nat) (n : Int) (h : Blk w bc 96 #[.int .i64 n]) : Calls Try.prog 23 #[.pointer (some ⟨bc, 0, none⟩)] w fun e w' => w = w' ∧ e = .returned (.int .i64 n) := by
  have hc : w.cell? ⟨bc, 0, none⟩ = some (.int .i64 n) := h.cell 0
  clear h
  go_enter Try.func23, Try.ntmps23
  go_wp2_with fail
  go_ret
  exact ⟨rfl, rfl⟩
set_option maxRecDepth 20000 in
theorem tick_no (w : World) (bc : Nat) (now n : Int) (h : Blk w bc 96 #[.int .i64 now]) (h0 : 0 ≤ now) (h1 : now ≤ 1125899906842624) (hn1 : -9223372036854775808 ≤ n) (hn2 : n ≤ 9223372036854775807) (hno : n < 1 ∨ 1125899906842624 - now < n) :
    Calls Try.prog 24 #[.pointer (some ⟨bc, 0, none⟩), .int .i64 n] w fun e w' => w = w' ∧ e = .returned (.bool false) := by
  have hc : w.cell? ⟨bc, 0, none⟩ = some (.int .i64 now) := h.cell 0
  clear h
  by_cases h2 : n < 1
  · clear hno
    go_enter Try.func24, Try.ntmps24
    go_wp2_with fail
    go_ret
    exact ⟨rfl, rfl⟩
  · have hd : decide (n < 1) = false := by simpa using h2
    have h3 : 1125899906842624 - now < n := hno.resolve_left h2
    clear hno
    go_enter Try.func24, Try.ntmps24
    go_wp2_with fail
    go_ret
    exact ⟨rfl, rfl⟩
set_option maxRecDepth 20000 in
theorem tick_yes (w : World) (bc : Nat) (now n : Int) (h : Blk w bc 96 #[.int .i64 now]) (h0 : 0 ≤ now) (h1 : now ≤ 1125899906842624) (hn1 : 1 ≤ n) (hn2 : n ≤ 1125899906842624 - now) :
    Calls Try.prog 24 #[.pointer (some ⟨bc, 0, none⟩), .int .i64 n] w fun e w' => e = .returned (.bool true) ∧ Touch (fun k => k = bc) w w' ∧ Blk w' bc 96 #[.int .i64 (now + n)] := by
  have hc : w.cell? ⟨bc, 0, none⟩ = some (.int .i64 now) := h.cell 0
  have hq := h.frozen 0
  have H := Lib.hid h
  have hd : decide (n < 1) = false := by simp; omega
  clear h
  go_enter Try.func24, Try.ntmps24
  go_wp2_with fail
  go_ret
  exact ⟨rfl, (Touch.refl (fun k => k = bc) w).setCell (p := ⟨bc, 0, none⟩) (.inr rfl) _, H.out.set_ 0 _⟩

set_option maxRecDepth 20000 in
theorem newClock_any (w : World) : Calls Try.prog 22 #[] w fun e w' => e = .returned (.pointer (some ⟨w.heap.size, 0, none⟩)) ∧ Fresh w w' ∧ Blk w' w.heap.size 96 #[.int .i64 0] := by
  go_enter Try.func22, Try.ntmps22
  go_wp2_with fail
  go_ret
  exact ⟨rfl, (Touch.refl _ w).alloc _, Blk.new _ _ _⟩
theorem IsInts.at_ {w : World} {A : Option Addr} {n c : Nat} {xs : List Int} (h : IsInts w A n c xs) {j : Nat} (hj : j < n) : ∃ b o, A = some ⟨b, o, none⟩ ∧ w.cell? ⟨b, o + j, none⟩ = some (.int .i64 (xs[j]'(by rw [h.1]; exact hj))) := by
  obtain ⟨b, o, e, hc⟩ := h.2.2.2 (by omega)
  exact ⟨b, o, e, hc j _ (List.getElem?_eq_getElem _)⟩

set_option maxRecDepth 20000 in
set_option maxHeartbeats 4000000 in
theorem law_clock (A : Option Addr) (n c : Nat) (xs : List Int) (w : World) (h : IsInts w A n c xs) (hx : ∀ x ∈ xs, -9223372036854775808 ≤ x ∧ x ≤ 9223372036854775807) (hA : ∀ a, A = some a → 0 < n → a.block < w.heap.size) :
    Calls Try.prog 5 #[.slice A n c] w fun e w' => e = .returned (.bool true) ∧ Fresh w w' := by
  have hcm := h.2.2.1
  have hnc := h.2.1
  unfold maxLen at hcm
  have H := Lib.hid h; have HX := Lib.hid hx; have HA := Lib.hid hA
  clear h hx hA
  go_enter Try.func5, Try.ntmps5
  go_wp2_with fail
  refine (newClock_any w).mono ?_
  rintro e w1 ⟨rfl, hf1, hb1⟩
  have HF1 := Lib.hid hf1; have HB1 := Lib.hid hb1
  clear hf1 hb1
  go_wp2_with fail
  refine (now_any w1 w.heap.size 0 HB1.out).mono ?_
  rintro e w2 ⟨rfl, rfl⟩
  go_wp2_with fail
  go_loopw [4, 5] (fun now i wr => ∃ k : Nat, ∃ nw : Int, i = .int .i64 k ∧ now = .int .i64 nw ∧ 0 ≤ nw ∧ nw ≤ 1125899906842624 ∧ k ≤ n ∧ Blk wr w.heap.size 96 #[.int .i64 nw] ∧ Fresh w wr) (fun _ i _ => n - (intOf i).toNat)
  case atStart => exact ⟨0, 0, rfl, rfl, by omega, by omega, by omega, HB1.out, HF1.out⟩
  case round =>
    obtain ⟨k, nw, rfl, rfl, hw0, hw1, hkn, hb, hf⟩ := hrel
    have HB := Lib.hid hb; have HF := Lib.hid hf
    clear hb hf
    by_cases hin : k < n ∧ k < 100
    · obtain ⟨hk, hk100⟩ := hin
      obtain ⟨b, o, hAe, hcell⟩ := (H.out.touch HF.out (fun _ _ _ => id)).at_ hk
      have hxr := HX.out _ (List.getElem_mem (show k < xs.length by have := H.out.1; omega))
      generalize xs[k]'(by have := H.out.1; omega) = x at hcell hxr
      subst hAe
      have hbne : b ≠ w.heap.size := fun e => by have := HA.out _ rfl (by omega); rw [← e] at this; exact Nat.lt_irrefl _ this
      by_cases hok : 1 ≤ x ∧ x ≤ 1125899906842624 - nw
      · obtain ⟨h1, h2⟩ := hok
        have h1d : decide (1 ≤ x) = true := by simpa using h1
        go_wp2_with fail
        refine (tick_yes wr w.heap.size nw x HB.out hw0 hw1 h1 h2).mono ?_
        rintro e w3 ⟨rfl, ht3, hb3⟩
        have hcell3 := ht3.cell hcell hbne
        have HB3 := Lib.hid hb3
        have HF3 := Lib.hid (HF.out.trans ht3 (fun i hi e => by omega))
        clear ht3 hb3
        go_wp2_with fail
        refine (now_any w3 w.heap.size (nw + x) HB3.out).mono ?_
        rintro e w4 ⟨rfl, rfl⟩
        go_wp2_with fail
        go_roundw
        case rel => exact ⟨k + 1, nw + x, by simp, rfl, by omega, by omega, by omega, HB3.out, HF3.out⟩
        case measure => simp [intOf] <;> omega
      · have hno : x < 1 ∨ 1125899906842624 - nw < x := by omega
        by_cases h1 : 1 ≤ x
        · have h2 : ¬ x ≤ 1125899906842624 - nw := fun h => hok ⟨h1, h⟩
          have h2d : decide (x ≤ 1125899906842624 - nw) = false := by simpa using h2
          clear hok
          go_wp2_with fail
          refine (tick_no wr w.heap.size nw x HB.out hw0 hw1 (by omega) (by omega) hno).mono ?_
          rintro e w3 ⟨rfl, rfl⟩
          go_wp2_with fail
          refine (now_any wr w.heap.size nw HB.out).mono ?_
          rintro e w4 ⟨rfl, rfl⟩
          go_wp2_with fail
          go_roundw
          case rel => exact ⟨k + 1, nw, by simp, rfl, by omega, by omega, by omega, HB.out, HF.out⟩
          case measure => simp [intOf] <;> omega
        · have h1d : decide (1 ≤ x) = false := by simpa using h1
          clear hok
          go_wp2_with fail
          refine (tick_no wr w.heap.size nw x HB.out hw0 hw1 (by omega) (by omega) hno).mono ?_
          rintro e w3 ⟨rfl, rfl⟩
          go_wp2_with fail
          refine (now_any wr w.heap.size nw HB.out).mono ?_
          rintro e w4 ⟨rfl, rfl⟩
          go_wp2_with fail
          go_roundw
          case rel => exact ⟨k + 1, nw, by simp, rfl, by omega, by omega, by omega, HB.out, HF.out⟩
          case measure => simp [intOf] <;> omega
    · by_cases hk : k < n
      · have hk100 : ¬ k < 100 := fun h => hin ⟨hk, h⟩
        have hd : decide ((k : Int) < 100) = false := by simp; omega
        clear hin
        go_wp2_with fail
        refine (wakes_any wr).mono ?_
        rintro e w3 ⟨rfl, hf3⟩
        have HF3 := Lib.hid (HF.out.trans hf3 (fun _ _ h => h))
        clear hf3
        go_wp2_with fail
        go_ret
        exact ⟨rfl, HF3.out⟩
      · clear hin
        go_wp2_with fail
        refine (wakes_any wr).mono ?_
        rintro e w3 ⟨rfl, hf3⟩
        have HF3 := Lib.hid (HF.out.trans hf3 (fun _ _ h => h))
        clear hf3
        go_wp2_with fail
        go_ret
        exact ⟨rfl, HF3.out⟩
end Go.Proofs.Ythmjnlkdoepmjaa
