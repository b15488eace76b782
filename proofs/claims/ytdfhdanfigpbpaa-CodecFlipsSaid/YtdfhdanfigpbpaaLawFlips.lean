/- The walk of the law CodecFlips: it answers true. Conditions stand with it. -/
import Derived.Test.YtdfhdanfigpbpaaFlip
import Derived.Test.YtdfhdanfigpbpaaBounds
import Derived.Laws.BitsAllLaws
namespace Go.Proofs.Ytdfhdanfigpbpaa
open Go.RowKit

set_option maxRecDepth 20000 in
set_option maxHeartbeats 8000000 in
theorem law_flips (A : Option Addr) (n c : Nat) (xs0 : List UInt8) (at_ : Int) (by_ : UInt8) (w : World) (h : Bs w A n c xs0) :
    Calls Try.prog 11 #[.slice A n c, .int .i64 at_, .int .u8 (by_.toNat : Int)] w fun e w' => e = .returned (.bool true) ∧ Fresh w w' := by
  have hm := h.2.2.1
  have hnc := h.2.1
  unfold maxLen at hm
  by_cases hbig : 300 < n
  · have hbI : (300 : Int) < (n : Int) := by omega
    have hcI : (300 : Int) ≤ (c : Int) := by omega
    have hb := h.take (k := 300) (by omega)
    generalize xs0.take 300 = xs at hb
    have hl : xs.length = 300 := hb.1
    have hval : Value.slice A 300 c = Value.slice A xs.length c := by rw [hl]
    rw [← hl] at hb
    have HB := Lib.hid hb
    have hxs : xs.length ≤ 300 := by omega
    clear h hb
    go_enter Try.func11, Try.ntmps11
    go_wp2_with fail
    clear hval hl hbI hcI hbig hnc hm
    refine (frame_any A xs.length c xs w HB.out (by omega)).mono ?_
    rintro e w1 ⟨hf1, g, cap, rfl, hg1, hb1⟩
    have hcap : xs.length + 8 ≤ cap := by have := hb1.2.2.1; rwa [Enc.frame_length] at this
    have hwi : ∀ v, Calls Try.prog 25 #[.int .i64 at_, .int .i64 ((xs.length : Int) + 8)] v fun e w' => w' = v ∧ e = .returned (.int .i64 (at_ % ((xs.length : Int) + 8))) := fun v => within_any at_ _ v (by omega) (by omega)
    have he0 := Int.emod_nonneg at_ (show (xs.length : Int) + 8 ≠ 0 by omega)
    have he1 := Int.emod_lt_of_pos at_ (show (0 : Int) < (xs.length : Int) + 8 by omega)
    obtain ⟨k, hk⟩ : ∃ k : Nat, at_ % ((xs.length : Int) + 8) = k := ⟨(at_ % ((xs.length : Int) + 8)).toNat, by omega⟩
    rw [hk] at hwi he1
    clear he0 hk
    have hkl : k < xs.length + 8 := by omega
    have hgw : IntKind.i64.wrap ((xs.length : Int) + 8) = (xs.length : Int) + 8 := IntWalk.i64_in _ (by omega)
    have hkf : k < (Enc.frame xs).length := by rw [Enc.frame_length]; exact hkl
    obtain ⟨x, hx⟩ : ∃ x, (Enc.frame xs)[k]? = some x := ⟨_, List.getElem?_eq_getElem hkf⟩
    have hc1 : w1.cell? ⟨g, k, none⟩ = some (.int .u8 (x.toNat : Int)) := hb1.1 k x hx
    have hfz : w1.frozen? ⟨g, k, none⟩ = false := hb1.2.1 k hkf
    have hxr := x.toNat_lt
    have hyr := by_.toNat_lt
    have hxor : bits .xor .u8 (x.toNat : Int) (by_.toNat : Int) = ((x ^^^ by_).toNat : Int) := by rw [u8_xor_nat _ _ (by omega) (by omega), UInt8.toNat_xor]
    have hb2 := hb1.set_ hkf (x ^^^ by_)
    rw [UInt8.toNat_xor] at hb2
    obtain ⟨W, hW⟩ : ∃ W, W = w1.setCell ⟨g, k, none⟩ (.int .u8 ((x.toNat ^^^ by_.toNat : Nat) : Int)) := ⟨_, rfl⟩
    rw [← hW] at hb2
    have hfW : Fresh w W := by rw [hW]; exact hf1.setCell (.inl hg1) _
    have hbW := hb2.bs
    rw [List.length_set, Enc.frame_length] at hbW
    have hz : by_ = 0 ∨ (by_ ≠ 0 ∧ ((by_.toNat : Int) == 0) = false) := by
      by_cases e : by_ = 0
      · exact .inl e
      · exact .inr ⟨e, by simp; exact fun h => e (UInt8.toNat_inj.1 h)⟩
    have HWI := Lib.hid hwi; have HW := Lib.hid hW; have HFW := Lib.hid hfW; have HBW := Lib.hid hbW; have HX := Lib.hid hx; have HZ := Lib.hid hz
    have HUF := Lib.hid (unframe_any _ _ cap _ W hbW (by omega))
    clear hwi hW hfW hbW hb2 hb1 hx hz hf1 hyr hxr hkf
    go_wp2_with fail
    refine (HWI.out _).mono ?_
    rintro e wx ⟨rfl, rfl⟩
    clear HWI
    have hkI : (k : Int) < (xs.length : Int) + 8 := by omega
    go_wp2_with fail
    rw [← HW.out]
    refine HUF.out.mono ?_
    rintro e w3 ⟨hf3, hu⟩
    have HF3 := Lib.hid (HFW.out.trans hf3 (fun _ _ h => h))
    have HA3 := Lib.hid (HB.out.fresh HF3.out)
    clear hf3 hc1 hfz hxor HUF HW HBW
    rcases HZ.out with rfl | ⟨hnz, hbz⟩
    · have hxx : (Enc.frame xs).set k (x ^^^ 0) = Enc.frame xs := by
        rw [UInt8.xor_zero]
        obtain ⟨hk', e⟩ := List.getElem?_eq_some_iff.1 HX.out
        rw [← e, List.set_getElem_self]
      rw [hxx, Enc.unframe_frame (by omega)] at hu
      obtain ⟨B, c', rfl, hB⟩ := hu
      have hcvA : ∀ j, (convert 24 9 (.slice A xs.length c)).run Try.prog (w3.drewN j) = .ok (.string ⟨xs.toArray⟩) (w3.drewN j) := fun j =>
        run_convert_Bs (P := Try.prog) 24 9 Try.underlying24 Try.underlying5 Try.underlying9 (HA3.out.drewN j)
      have hcvB : ∀ j, (convert 24 9 (.slice B xs.length c')).run Try.prog (w3.drewN j) = .ok (.string ⟨xs.toArray⟩) (w3.drewN j) := fun j =>
        run_convert_Bs (P := Try.prog) 24 9 Try.underlying24 Try.underlying5 Try.underlying9 (hB.drewN j)
      have h88 : ((8 + xs.length : Nat) : Int) = (xs.length : Int) + 8 := by omega
      have h89 : (8 + (xs.length : Int)) = (xs.length : Int) + 8 := by omega
      have h90 : (((8 + (xs.length : Int)) == (xs.length : Int) + 8)) = true := by simp; omega
      have hcA0 := hcvA 0
      have hcB0 := hcvB 0
      simp only [World.drewN_zero] at hcA0 hcB0
      clear hcvA hcvB hxx hB
      go_wp2_with fail
      refine (wakes_any _).mono ?_
      rintro e w4 ⟨rfl, hf4⟩
      have HF4 := Lib.hid hf4
      clear hf4
      go_wp2_with fail
      go_ret
      exact ⟨rfl, HF3.out.trans HF4.out (fun _ _ h => h)⟩
    · have hne : (Enc.frame xs)[k]? ≠ some (x ^^^ by_) := by
        rw [HX.out]
        intro e
        injection e with e
        have e2 : x ^^^ (x ^^^ by_) = 0 := by rw [← e]; exact UInt8.xor_self
        rw [← UInt8.xor_assoc, UInt8.xor_self, UInt8.zero_xor] at e2
        exact hnz e2
      by_cases h4 : 4 ≤ k
      · have h4I : ¬ (k : Int) < 4 := by omega
        rw [Enc.unframe_flip (by omega) h4 hkl hne] at hu
        cases hu
        clear hne
        go_wp2_with fail
        refine (wakes_any _).mono ?_
        rintro e w4 ⟨rfl, hf4⟩
        have HF4 := Lib.hid hf4
        clear hf4
        go_wp2_with fail
        go_ret
        exact ⟨rfl, HF3.out.trans HF4.out (fun _ _ h => h)⟩
      · have h4I : (k : Int) < 4 := by omega
        clear hne
        cases hun : Enc.unframe ((Enc.frame xs).set k (x ^^^ by_)) with
        | none =>
          rw [hun] at hu
          cases hu
          clear hun
          go_wp2_with fail
          refine (wakes_any _).mono ?_
          rintro e w4 ⟨rfl, hf4⟩
          have HF4 := Lib.hid hf4
          clear hf4
          go_wp2_with fail
          go_ret
          exact ⟨rfl, HF3.out.trans HF4.out (fun _ _ h => h)⟩
        | some q =>
          obtain ⟨p, kk⟩ := q
          rw [hun] at hu
          obtain ⟨B, c', rfl, hB⟩ := hu
          clear hun hB
          go_wp2_with fail
          refine (wakes_any _).mono ?_
          rintro e w4 ⟨rfl, hf4⟩
          have HF4 := Lib.hid hf4
          clear hf4
          go_wp2_with fail
          go_ret
          exact ⟨rfl, HF3.out.trans HF4.out (fun _ _ h => h)⟩
  · have hbI : ¬ (300 : Int) < (n : Int) := by omega
    obtain ⟨xs, rfl⟩ : ∃ xs, xs = xs0 := ⟨_, rfl⟩
    obtain rfl : n = xs.length := h.1.symm
    have HB := Lib.hid h
    have hxs : xs.length ≤ 300 := by omega
    clear h
    go_enter Try.func11, Try.ntmps11
    go_wp2_with fail
    clear hbI hbig hnc hm
    refine (frame_any A xs.length c xs w HB.out (by omega)).mono ?_
    rintro e w1 ⟨hf1, g, cap, rfl, hg1, hb1⟩
    have hcap : xs.length + 8 ≤ cap := by have := hb1.2.2.1; rwa [Enc.frame_length] at this
    have hwi : ∀ v, Calls Try.prog 25 #[.int .i64 at_, .int .i64 ((xs.length : Int) + 8)] v fun e w' => w' = v ∧ e = .returned (.int .i64 (at_ % ((xs.length : Int) + 8))) := fun v => within_any at_ _ v (by omega) (by omega)
    have he0 := Int.emod_nonneg at_ (show (xs.length : Int) + 8 ≠ 0 by omega)
    have he1 := Int.emod_lt_of_pos at_ (show (0 : Int) < (xs.length : Int) + 8 by omega)
    obtain ⟨k, hk⟩ : ∃ k : Nat, at_ % ((xs.length : Int) + 8) = k := ⟨(at_ % ((xs.length : Int) + 8)).toNat, by omega⟩
    rw [hk] at hwi he1
    clear he0 hk
    have hkl : k < xs.length + 8 := by omega
    have hgw : IntKind.i64.wrap ((xs.length : Int) + 8) = (xs.length : Int) + 8 := IntWalk.i64_in _ (by omega)
    have hkf : k < (Enc.frame xs).length := by rw [Enc.frame_length]; exact hkl
    obtain ⟨x, hx⟩ : ∃ x, (Enc.frame xs)[k]? = some x := ⟨_, List.getElem?_eq_getElem hkf⟩
    have hc1 : w1.cell? ⟨g, k, none⟩ = some (.int .u8 (x.toNat : Int)) := hb1.1 k x hx
    have hfz : w1.frozen? ⟨g, k, none⟩ = false := hb1.2.1 k hkf
    have hxr := x.toNat_lt
    have hyr := by_.toNat_lt
    have hxor : bits .xor .u8 (x.toNat : Int) (by_.toNat : Int) = ((x ^^^ by_).toNat : Int) := by rw [u8_xor_nat _ _ (by omega) (by omega), UInt8.toNat_xor]
    have hb2 := hb1.set_ hkf (x ^^^ by_)
    rw [UInt8.toNat_xor] at hb2
    obtain ⟨W, hW⟩ : ∃ W, W = w1.setCell ⟨g, k, none⟩ (.int .u8 ((x.toNat ^^^ by_.toNat : Nat) : Int)) := ⟨_, rfl⟩
    rw [← hW] at hb2
    have hfW : Fresh w W := by rw [hW]; exact hf1.setCell (.inl hg1) _
    have hbW := hb2.bs
    rw [List.length_set, Enc.frame_length] at hbW
    have hz : by_ = 0 ∨ (by_ ≠ 0 ∧ ((by_.toNat : Int) == 0) = false) := by
      by_cases e : by_ = 0
      · exact .inl e
      · exact .inr ⟨e, by simp; exact fun h => e (UInt8.toNat_inj.1 h)⟩
    have HWI := Lib.hid hwi; have HW := Lib.hid hW; have HFW := Lib.hid hfW; have HBW := Lib.hid hbW; have HX := Lib.hid hx; have HZ := Lib.hid hz
    have HUF := Lib.hid (unframe_any _ _ cap _ W hbW (by omega))
    clear hwi hW hfW hbW hb2 hb1 hx hz hf1 hyr hxr hkf
    go_wp2_with fail
    refine (HWI.out _).mono ?_
    rintro e wx ⟨rfl, rfl⟩
    clear HWI
    have hkI : (k : Int) < (xs.length : Int) + 8 := by omega
    go_wp2_with fail
    rw [← HW.out]
    refine HUF.out.mono ?_
    rintro e w3 ⟨hf3, hu⟩
    have HF3 := Lib.hid (HFW.out.trans hf3 (fun _ _ h => h))
    have HA3 := Lib.hid (HB.out.fresh HF3.out)
    clear hf3 hc1 hfz hxor HUF HW HBW
    rcases HZ.out with rfl | ⟨hnz, hbz⟩
    · have hxx : (Enc.frame xs).set k (x ^^^ 0) = Enc.frame xs := by
        rw [UInt8.xor_zero]
        obtain ⟨hk', e⟩ := List.getElem?_eq_some_iff.1 HX.out
        rw [← e, List.set_getElem_self]
      rw [hxx, Enc.unframe_frame (by omega)] at hu
      obtain ⟨B, c', rfl, hB⟩ := hu
      have hcvA : ∀ j, (convert 24 9 (.slice A xs.length c)).run Try.prog (w3.drewN j) = .ok (.string ⟨xs.toArray⟩) (w3.drewN j) := fun j =>
        run_convert_Bs (P := Try.prog) 24 9 Try.underlying24 Try.underlying5 Try.underlying9 (HA3.out.drewN j)
      have hcvB : ∀ j, (convert 24 9 (.slice B xs.length c')).run Try.prog (w3.drewN j) = .ok (.string ⟨xs.toArray⟩) (w3.drewN j) := fun j =>
        run_convert_Bs (P := Try.prog) 24 9 Try.underlying24 Try.underlying5 Try.underlying9 (hB.drewN j)
      have h88 : ((8 + xs.length : Nat) : Int) = (xs.length : Int) + 8 := by omega
      have h89 : (8 + (xs.length : Int)) = (xs.length : Int) + 8 := by omega
      have h90 : (((8 + (xs.length : Int)) == (xs.length : Int) + 8)) = true := by simp; omega
      have hcA0 := hcvA 0
      have hcB0 := hcvB 0
      simp only [World.drewN_zero] at hcA0 hcB0
      clear hcvA hcvB hxx hB
      go_wp2_with fail
      refine (wakes_any _).mono ?_
      rintro e w4 ⟨rfl, hf4⟩
      have HF4 := Lib.hid hf4
      clear hf4
      go_wp2_with fail
      go_ret
      exact ⟨rfl, HF3.out.trans HF4.out (fun _ _ h => h)⟩
    · have hne : (Enc.frame xs)[k]? ≠ some (x ^^^ by_) := by
        rw [HX.out]
        intro e
        injection e with e
        have e2 : x ^^^ (x ^^^ by_) = 0 := by rw [← e]; exact UInt8.xor_self
        rw [← UInt8.xor_assoc, UInt8.xor_self, UInt8.zero_xor] at e2
        exact hnz e2
      by_cases h4 : 4 ≤ k
      · have h4I : ¬ (k : Int) < 4 := by omega
        rw [Enc.unframe_flip (by omega) h4 hkl hne] at hu
        cases hu
        clear hne
        go_wp2_with fail
        refine (wakes_any _).mono ?_
        rintro e w4 ⟨rfl, hf4⟩
        have HF4 := Lib.hid hf4
        clear hf4
        go_wp2_with fail
        go_ret
        exact ⟨rfl, HF3.out.trans HF4.out (fun _ _ h => h)⟩
      · have h4I : (k : Int) < 4 := by omega
        clear hne
        cases hun : Enc.unframe ((Enc.frame xs).set k (x ^^^ by_)) with
        | none =>
          rw [hun] at hu
          cases hu
          clear hun
          go_wp2_with fail
          refine (wakes_any _).mono ?_
          rintro e w4 ⟨rfl, hf4⟩
          have HF4 := Lib.hid hf4
          clear hf4
          go_wp2_with fail
          go_ret
          exact ⟨rfl, HF3.out.trans HF4.out (fun _ _ h => h)⟩
        | some q =>
          obtain ⟨p, kk⟩ := q
          rw [hun] at hu
          obtain ⟨B, c', rfl, hB⟩ := hu
          clear hun hB
          go_wp2_with fail
          refine (wakes_any _).mono ?_
          rintro e w4 ⟨rfl, hf4⟩
          have HF4 := Lib.hid hf4
          clear hf4
          go_wp2_with fail
          go_ret
          exact ⟨rfl, HF3.out.trans HF4.out (fun _ _ h => h)⟩
end Go.Proofs.Ytdfhdanfigpbpaa
