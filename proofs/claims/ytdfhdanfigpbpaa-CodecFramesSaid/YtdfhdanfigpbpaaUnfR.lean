/- The contract of the codec's Unframe, its payload in a row of its own. Conditions stand with it. -/
import Derived.Test.YtdfhdanfigpbpaaUnf
namespace Go.Proofs.Ytdfhdanfigpbpaa
open Go.RowKit

/-- what the codec's Unframe leaves -/
def CUnf (w : World) (xs : List UInt8) (e : Ending) (w' : World) : Prop := Fresh w w' ∧ match Enc.unframe xs with
  | none => e = .returned (.tuple #[.slice none 0 0, .int .i64 0, .int .i64 2])
  | some (q, k) => ∃ B c, e = .returned (.tuple #[.slice B q.length c, .int .i64 (k : Nat), .int .i64 0]) ∧ Row w' (.slice B q.length c) q ∧ ∀ a, B = some a → w.heap.size ≤ a.block
theorem CUnf.bad {w w' : World} {xs : List UInt8} (h : Enc.unframe xs = none) (hf : Fresh w w') : CUnf w xs (.returned (.tuple #[.slice none 0 0, .int .i64 0, .int .i64 2])) w' := ⟨hf, by rw [h]⟩
theorem CUnf.good {w w' : World} {xs p : List UInt8} {k u c' : Nat} {B : Option Addr} (h : Enc.unframe xs = some (p, k)) (hu : p.length = u) (hf : Fresh w w') (hb : Row w' (.slice B u c') p) (hn : ∀ a, B = some a → w.heap.size ≤ a.block) :
    CUnf w xs (.returned (.tuple #[.slice B u c', .int .i64 (k : Int), .int .i64 0])) w' := by
  subst hu
  exact ⟨hf, by rw [h]; exact ⟨B, c', rfl, hb, hn⟩⟩

set_option maxRecDepth 20000 in
set_option maxHeartbeats 4000000 in
theorem unframe_row (A : Option Addr) (n c : Nat) (xs : List UInt8) (w : World) (h : Bs w A n c xs) (hb : n ≤ 1000000000) :
    Calls Try.prog 49 #[.slice A n c] w (CUnf w xs) := by
  have hnc := h.2.1
  have hcm := h.2.2.1
  unfold maxLen at hcm
  have hxl := h.1
  by_cases h8 : n < 8
  · have h8I : (n : Int) < 8 := by omega
    have HU := Lib.hid (show Enc.unframe xs = none by unfold Enc.unframe; rw [if_pos (by omega)])
    clear h
    go_enter Try.func49, Try.ntmps49
    go_wp2_with fail
    refine bodyPost_ret (v := .tuple #[.slice none 0 0, .int .i64 0, .int .i64 2]) ?_ rfl (CUnf.bad HU.out (Touch.refl (fun _ => False) w))
    simp [results, Try.results49, go_sem]
  · have h8I : ¬ (n : Int) < 8 := by omega
    obtain ⟨b, o, rfl⟩ := h.at_ (by omega)
    have hul := Enc.unfour_lt xs
    have hdef : Enc.unframe xs = if 1048576 < Enc.unfour xs ∨ n - 8 < Enc.unfour xs then none
        else if Enc.sum ((xs.drop 8).take (Enc.unfour xs)) = Enc.unfour (xs.drop 4) then some ((xs.drop 8).take (Enc.unfour xs), 8 + Enc.unfour xs) else none := by
      unfold Enc.unframe
      rw [if_neg (by omega), hxl]
    have HC := Lib.hid (unfour_any _ n c xs w h (by omega))
    generalize Enc.unfour xs = u at hdef hul HC
    have HD := Lib.hid hdef
    have H := Lib.hid h
    clear h hdef
    go_enter Try.func49, Try.ntmps49
    go_wp2_with fail
    refine HC.out.mono ?_
    rintro e W1 ⟨⟨k0, hW1⟩, rfl⟩
    have HF := Lib.hid (show Fresh w W1 by rw [hW1]; exact (Touch.refl _ w).drewN k0)
    have HB := Lib.hid (H.out.fresh HF.out)
    clear hW1 HC
    have hcv : IntKind.i64.wrap (u : Int) = (u : Int) := IntWalk.i64_in _ (by omega)
    have hsub : IntKind.i64.wrap ((n : Int) - 8) = (n : Int) - 8 := IntWalk.i64_in _ (by omega)
    by_cases hb1 : 1048576 < u
    · have HD1 := Lib.hid (HD.out.trans (if_pos (.inl hb1)))
      have hb1I : (1048576 : Int) < (u : Int) := by omega
      go_wp2_with fail
      refine bodyPost_ret (v := .tuple #[.slice none 0 0, .int .i64 0, .int .i64 2]) ?_ rfl (CUnf.bad HD1.out HF.out)
      simp [results, Try.results49, go_sem]
    have hb1I : decide ((1048576 : Int) < (u : Int)) = false := by simp; omega
    by_cases hb2 : n - 8 < u
    · have HD1 := Lib.hid (HD.out.trans (if_pos (.inr hb2)))
      have hb2I : (n : Int) - 8 < (u : Int) := by omega
      go_wp2_with fail
      refine bodyPost_ret (v := .tuple #[.slice none 0 0, .int .i64 0, .int .i64 2]) ?_ rfl (CUnf.bad HD1.out HF.out)
      simp [results, Try.results49, go_sem]
    have hb2I : ¬ (n : Int) - 8 < (u : Int) := by omega
    have HD1 := Lib.hid (HD.out.trans (if_neg (by omega)))
    have hadd : IntKind.i64.wrap (8 + (u : Int)) = 8 + (u : Int) := IntWalk.i64_in _ (by omega)
    have h4 : Bs W1 (some ⟨b, o + 4, none⟩) (n - 4) (c - 4) (xs.drop 4) := HB.out.drop_ (by omega)
    have hpl : ((xs.drop 8).take u).length = u := by rw [List.length_take, List.length_drop]; omega
    obtain ⟨A8, hA8, h8b⟩ : ∃ A8, A8 = (if c = 8 then some ⟨b, o, none⟩ else some ⟨b, o + 8, none⟩ : Option Addr) ∧ Bs W1 A8 u (c - 8) ((xs.drop 8).take u) := by
      refine ⟨_, rfl, ?_⟩
      by_cases hc8 : c = 8
      · rw [if_pos hc8]
        exact ⟨hpl, by omega, by unfold maxLen; omega, fun h => by omega⟩
      · rw [if_neg hc8]
        exact (HB.out.drop_ (k := 8) (by omega)).take (by omega)
    have HSUM := Lib.hid (fun r => sum_any A8 u (c - 8) _ (W1.drewN r) (h8b.drewN r))
    have HUNF := Lib.hid (fun r => unfour_any _ (n - 4) (c - 4) _ (W1.drewN r) (h4.drewN r) (by omega))
    have HCL := Lib.hid (fun r => clone_any A8 u (c - 8) _ (W1.drewN r) (h8b.drewN r) (by omega))
    generalize Enc.sum ((xs.drop 8).take u) = s at HSUM HD1
    generalize Enc.unfour (xs.drop 4) = v at HUNF HD1
    generalize (xs.drop 8).take u = p at HCL HD1 hpl
    have htn : (8 + (u : Int)).toNat = 8 + u := by omega
    have hun : (8 + (u : Int)) ≤ (c : Int) := by omega
    have h4n : (4 : Int) ≤ (n : Int) := by omega
    have h88 : (8 : Int) ≤ 8 + (u : Int) := by omega
    have HS1 : ∀ r, Calls Try.prog 23 #[.slice A8 u (c - 8)] (W1.drewN r) fun e w' => e = .returned (.int .u32 (s : Nat)) ∧ w' = W1.drewN r := fun r => (HSUM.out r).mono fun e w' ⟨h1, h2⟩ => ⟨h2, h1⟩
    have HS2 : ∀ r, Calls Try.prog 98 #[.slice (some ⟨b, o + 4, none⟩) (n - 4) (c - 4)] (W1.drewN r) fun e w' => e = .returned (.int .u32 (v : Nat)) ∧ ∃ m, w' = (W1.drewN r).drewN m := fun r => (HUNF.out r).mono fun e w' ⟨⟨k, h1⟩, h2⟩ => ⟨h2, k, h1⟩
    have HT1 := Lib.hid HS1
    have HT2 := Lib.hid HS2
    have HA8 := Lib.hid hA8
    clear HS1 HS2 h8b h4 hA8 HSUM HUNF hb1 hul
    by_cases hc8 : c = 8
    · subst hc8
      obtain rfl : A8 = some ⟨b, o, none⟩ := by rw [HA8.out, if_pos rfl]
      obtain rfl : u = 0 := by omega
      obtain rfl : n = 8 := by omega
      by_cases hsv : s = v
      · have hne : ((s : Int) != (v : Int)) = false := by simp [hsv]
        have HD2 := Lib.hid (HD1.out.trans (if_pos hsv))
        go_wp2_with fail
        go_quiet ((first | (go_at_call 23; exact Calls.quiet_of_same (HT1.out _)) | (go_at_call 98; exact Calls.quiet_of (HT2.out _))))
        go_wp2_with fail
        refine (HCL.out _).mono ?_
        rintro e w9 ⟨hf9, B, c9, rfl, hr9, hn9⟩
        have HB9 := Lib.hid hr9
        have HN9 := Lib.hid (show ∀ a, B = some a → w.heap.size ≤ a.block from fun a ha => Nat.le_trans (HF.out.drewN nq).size (hn9 a ha))
        have HF9 := Lib.hid (((HF.out.drewN nq)).trans hf9 (fun _ _ h => h))
        clear hf9 hr9 hn9
        go_wp2_with fail
        refine bodyPost_ret (v := .tuple #[.slice B 0 c9, .int .i64 8, .int .i64 0]) ?_ rfl (CUnf.good (k := 8) HD2.out hpl HF9.out HB9.out HN9.out)
        simp [results, Try.results49, go_sem]
      · have hne : ((s : Int) != (v : Int)) = true := by simp; omega
        have HD2 := Lib.hid (HD1.out.trans (if_neg hsv))
        go_wp2_with fail
        go_quiet ((first | (go_at_call 23; exact Calls.quiet_of_same (HT1.out _)) | (go_at_call 98; exact Calls.quiet_of (HT2.out _))))
        go_wp2_with fail
        refine bodyPost_ret (v := .tuple #[.slice none 0 0, .int .i64 0, .int .i64 2]) ?_ rfl (CUnf.bad HD2.out (HF.out.drewN nq))
        simp [results, Try.results49, go_sem]
    · obtain rfl : A8 = some ⟨b, o + 8, none⟩ := by rw [HA8.out, if_neg hc8]
      have hc4 : ¬ c = 4 := by omega
      by_cases hsv : s = v
      · have hne : ((s : Int) != (v : Int)) = false := by simp [hsv]
        have HD2 := Lib.hid (HD1.out.trans (if_pos hsv))
        go_wp2_with fail
        go_quiet ((first | (go_at_call 23; exact Calls.quiet_of_same (HT1.out _)) | (go_at_call 98; exact Calls.quiet_of (HT2.out _))))
        go_wp2_with fail
        refine (HCL.out _).mono ?_
        rintro e w9 ⟨hf9, B, c9, rfl, hr9, hn9⟩
        have HB9 := Lib.hid hr9
        have HN9 := Lib.hid (show ∀ a, B = some a → w.heap.size ≤ a.block from fun a ha => Nat.le_trans (HF.out.drewN nq).size (hn9 a ha))
        have HF9 := Lib.hid (((HF.out.drewN nq)).trans hf9 (fun _ _ h => h))
        clear hf9 hr9 hn9
        go_wp2_with fail
        refine bodyPost_ret (v := .tuple #[.slice B u c9, .int .i64 ((8 + u : Nat) : Int), .int .i64 0]) ?_ rfl (CUnf.good HD2.out hpl HF9.out HB9.out HN9.out)
        simp [results, Try.results49, go_sem]
      · have hne : ((s : Int) != (v : Int)) = true := by simp; omega
        have HD2 := Lib.hid (HD1.out.trans (if_neg hsv))
        go_wp2_with fail
        go_quiet ((first | (go_at_call 23; exact Calls.quiet_of_same (HT1.out _)) | (go_at_call 98; exact Calls.quiet_of (HT2.out _))))
        go_wp2_with fail
        refine bodyPost_ret (v := .tuple #[.slice none 0 0, .int .i64 0, .int .i64 2]) ?_ rfl (CUnf.bad HD2.out (HF.out.drewN nq))
        simp [results, Try.results49, go_sem]
end Go.Proofs.Ytdfhdanfigpbpaa
