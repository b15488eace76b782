/- The contracts of the reference's four, Frame and Unframe. Conditions stand with each. -/
import Derived.Test.YtdfhdanfigpbpaaUnf
namespace Go.Proofs.Ytdfhdanfigpbpaa
open Go.RowKit

set_option maxRecDepth 20000 in
theorem reffour_any (n : Nat) (w : World) (h : n < 4294967296) :
    Calls Try.prog 100 #[.int .u32 n] w fun e w' => Fresh w w' ∧ w'.heap.size = w.heap.size + 1 ∧ e = .returned (.slice (some ⟨w.heap.size, 0, none⟩) 4 4) ∧ Row w' (.slice (some ⟨w.heap.size, 0, none⟩) 4 4) (Enc.four n) := by
  go_enter Try.func100, Try.ntmps100
  go_wp2_with fail
  go_ret
  exact ⟨(Touch.refl _ w).alloc _, by simp, rfl, Row.lit (Enc.four n) #[.int .u8 ((n : Int) / 16777216), .int .u8 ((n : Int) / 65536 % 256), .int .u8 ((n : Int) / 256 % 256), .int .u8 ((n : Int) % 256)] (four_cells n h) (by rw [Enc.four_length]; omega)⟩

set_option maxRecDepth 20000 in
set_option maxHeartbeats 1000000 in
theorem refframe_any (A : Option Addr) (n c : Nat) (xs : List UInt8) (w : World) (h : Bs w A n c xs) (hb : n ≤ 1000000000) :
    Calls Try.prog 50 #[.slice A n c] w fun e w' => Fresh w w' ∧ ∃ B cap, e = .returned (.slice B (n + 8) cap) ∧ Row w' (.slice B (n + 8) cap) (Enc.frame xs) := by
  have hsl := Enc.sum_lt xs
  have hxl := h.1
  have hcv : IntKind.u32.wrap (n : Int) = (n : Int) := IntWalk.u32_in _ (by omega)
  have H4 := Lib.hid (reffour_any n w (by omega))
  have HSUM := Lib.hid (fun (w' : World) (hf : Fresh w w') => refsum_any A n c xs w' (h.fresh hf))
  have H4s := Lib.hid (fun w' => reffour_any (Enc.sum xs) w' hsl)
  have HB := Lib.hid h
  obtain ⟨s, hs⟩ : ∃ s, s = Enc.sum xs := ⟨_, rfl⟩
  rw [← hs] at hsl HSUM H4s
  have HS := Lib.hid hs.symm
  clear hs
  clear h
  go_enter Try.func50, Try.ntmps50
  go_wp2_with fail
  refine H4.out.mono ?_
  rintro e w1 ⟨hf1, hs1, rfl, hr1⟩
  have HF1 := Lib.hid hf1; have HR1 := Lib.hid hr1
  clear hf1 hs1 hr1
  go_wp2_with fail
  refine (HSUM.out w1 HF1.out).mono ?_
  rintro e w2 ⟨rfl, rfl⟩
  go_wp2_with fail
  refine (H4s.out w2).mono ?_
  rintro e w3 ⟨hf3, _, rfl, hr3⟩
  have HR3 := Lib.hid hr3
  have HR13 := Lib.hid (HR1.out.touch hf3 (fun _ _ => id))
  have HF3 := Lib.hid (HF1.out.trans hf3 (fun _ _ h => h))
  have HL4 := Lib.hid (show ∀ (a b : Nat), (Enc.four a).length + (Enc.four b).length = 8 from fun a b => by rw [Enc.four_length, Enc.four_length])
  have HL5 := Lib.hid (show (Enc.four n ++ Enc.four s).length + xs.length = n + 8 by rw [List.length_append, HL4.out, hxl]; omega)
  have HFR := Lib.hid (show Enc.frame xs = Enc.four n ++ Enc.four s ++ xs by simp [Enc.frame, HS.out, hxl])
  have hsz := HF1.out.size
  clear hf3 hr3 hxl
  go_wp2_with (first
    | (at_builtin; (refine wpList_row_bs _ rfl _ _ 24 rfl Try.info5 Try.underlying24 (.slice B4 8 c4) (Enc.four n ++ Enc.four s) rfl HR4.out A n c xs rfl HB4.out (by rw [HL5.out]; omega) ?_); intro B5 c5 w5 hr5 hg5 ho5; rw [HL5.out] at hr5 ⊢; have HR5 := Lib.hid hr5; have HF5 := Lib.hid (HF4.out.grown hg5 (fun j hj => .inl (HN4.out j hj))); clear hr5 hg5 ho5)
    | (at_builtin; (refine wpList_row_bs _ rfl _ _ 24 rfl Try.info5 Try.underlying24 (.slice (some ⟨w.heap.size, 0, none⟩) 4 4) (Enc.four n) rfl HR13.out (some ⟨w2.heap.size, 0, none⟩) 4 4 (Enc.four s) rfl HR3.out.bs (by rw [HL4.out]; omega) ?_); intro B4 c4 w4 hr4 hg4 ho4; rw [HL4.out] at hr4 ho4 ⊢; have HR4 := Lib.hid hr4; have HF4 := Lib.hid (HF3.out.grown hg4 (fun j hj => by simp only [Value.ownBlock, Option.some.injEq] at hj; exact .inl (by omega))); have HB4 := Lib.hid (HB.out.fresh HF4.out); have HN4 := Lib.hid (show ∀ j, (Value.slice B4 8 c4).ownBlock = some j → w.heap.size ≤ j from fun j hj => by rcases ho4 with h | h <;> rw [h] at hj <;> simp only [Value.ownBlock, Option.some.injEq] at hj <;> (have := HF3.out.size; omega)); clear hr4 hg4 ho4))
  go_ret
  exact ⟨HF5.out, B5, c5, rfl, by rw [HFR.out]; exact HR5.out⟩
end Go.Proofs.Ytdfhdanfigpbpaa
