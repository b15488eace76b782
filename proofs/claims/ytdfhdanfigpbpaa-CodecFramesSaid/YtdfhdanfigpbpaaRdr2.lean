/- The contracts of the reference's Reader that stand on number: text, flag, end. -/
import Derived.Test.YtdfhdanfigpbpaaRdr
namespace Go.Proofs.Ytdfhdanfigpbpaa
open Go.RowKit

set_option maxRecDepth 100000 in
set_option maxHeartbeats 2000000 in
theorem rtext_any (br : Nat) (A : Option Addr) (n c : Nat) (xs : List UInt8) (st : Except Nat Nat) (w : World) (h : RdrSt w br A n c xs st) :
    Calls Try.prog 68 #[.pointer (some ⟨br, 0, none⟩)] w (RdrEnd (α := List UInt8) (fun v => .string ⟨v.toArray⟩) [] br A n c xs st (Dec.text xs) w) := by
  have HK := Lib.hid (rnumber_any br A n c xs st 0 1048576 w h)
  clear h
  go_enter Try.func68, Try.ntmps68
  go_wp2_with fail
  refine HK.out.mono ?_
  intro e w1 h
  obtain ⟨x, st', rfl, ⟨q, bad, on, hd, hst⟩, h2, h3⟩ := h.cases
  have hc2 := hd.1.cell 2
  simp only [List.getElem?_toArray, List.getElem?_cons_zero, List.getElem?_cons_succ] at hc2
  cases bad
  · obtain ⟨p, hst2, hr⟩ : ∃ p, st = .ok p ∧ Dec.number 0 1048576 xs p = .ok (x, q) := by
      rcases h3 with ⟨a, _, _, e⟩ | ⟨p, a, _, _, _, e⟩ | ⟨p, q', e1, hr, e⟩
      · rw [e] at hst; simp at hst
      · rw [e] at hst; simp at hst
      · rw [e] at hst
        simp only [Bool.false_eq_true, if_false, Except.ok.injEq] at hst
        exact ⟨p, e1, by rw [hr, hst]⟩
    subst hst2
    obtain ⟨hpn, _, hq, hx0, hx1, _⟩ := Dec.number_ok hr
    have hxl := hd.2.1.1
    rw [hxl] at hpn hq
    obtain ⟨m, rfl⟩ := Int.eq_ofNat_of_zero_le hx0
    have hn0 : 0 < n := by omega
    obtain ⟨b, o, rfl⟩ := hd.2.1.at_ hn0
    have hs : Dec.text xs p = if n - q < m then .error n else .ok ((xs.drop q).take m, q + m) := by unfold Dec.text; rw [hr, hxl]; rfl
    have HS := Lib.hid hs
    have hnc := hd.2.1.2.1
    have hcm := hd.2.1.2.2.1
    unfold maxLen at hcm
    have hc0 := hd.1.cell 0
    have hc1 := hd.1.cell 1
    have hf1 := hd.1.frozen 1
    simp only [List.getElem?_toArray, List.getElem?_cons_zero, List.getElem?_cons_succ] at hc0 hc1
    have HD := Lib.hid hd
    have HT := Lib.hid h2
    clear hs hd h2 h3 hr h hxl hst
    have hs1 : IntKind.i64.wrap ((n : Int) - (q : Int)) = (n : Int) - (q : Int) := IntWalk.i64_in _ (by omega)
    by_cases hbig : n - q < m
    · have hb1 : (n : Int) - (q : Int) < (m : Int) := by omega
      have HS2 := Lib.hid (HS.out.trans (if_pos hbig))
      clear hbig
      go_wp2_with fail
      go_quiet (fail)
      clear hs1
      go_wp2_with fail
      refine (no_any br _ n c xs q on n _ (HD.out.drewN nq)).mono ?_
      rintro e w2 ⟨rfl, h1, h2⟩
      have H1 := Lib.hid h1
      have H2 := Lib.hid h2
      clear h1 h2
      go_wp2_with fail
      go_ret
      exact ⟨[], .error n, rfl, ⟨q, true, n, H1.out, rfl⟩, (HT.out.drewN nq).trans H2.out (fun _ _ h => h), by simp [HS2.out]⟩
    · have hb1 : ¬ (n : Int) - (q : Int) < (m : Int) := by omega
      have HS2 := Lib.hid (HS.out.trans (if_neg hbig))
      have hqm : q + m ≤ n := by omega
      clear hbig
      go_wp2_with fail
      go_quiet (fail)
      clear hs1
      go_wp2_with fail
      have hs2 : IntKind.i64.wrap ((q : Int) + (m : Int)) = (q : Int) + (m : Int) := IntWalk.i64_in _ (by omega)
      have hend : ∀ r, RdrEnd (α := List UInt8) (fun v => .string ⟨v.toArray⟩) [] br (some ⟨b, o, none⟩) n c xs (.ok p) (Dec.text xs) w (.returned (.string ⟨((xs.drop q).take m).toArray⟩)) ((w1.drewN r).setCell ⟨br, 1, none⟩ (.int .i64 ((q : Int) + (m : Int)))) := by
        intro r
        have h9 := (HD.out.drewN r).set_ (q + m) hqm
        rw [show ((q + m : Nat) : Int) = (q : Int) + (m : Int) from by omega] at h9
        refine ⟨(xs.drop q).take m, .ok (q + m), rfl, ⟨q + m, false, on, h9, rfl⟩, (HT.out.drewN r).setCell (p := ⟨br, 1, none⟩) (.inr rfl) _, ?_⟩
        simp [HS2.out]
      have HEND := Lib.hid hend
      clear hend
      by_cases hcq : c = q
      · have hm0 : m = 0 := by omega
        subst hm0
        subst hcq
        have hcv : ∀ r, (convert 24 9 (.slice (some ⟨b, o, none⟩) 0 0)).run Try.prog (w1.drewN r) = .ok (.string ⟨(([] : List UInt8)).toArray⟩) (w1.drewN r) := fun r =>
          run_convert_Bs _ _ Try.underlying24 Try.underlying5 Try.underlying9 ⟨rfl, Nat.le_refl _, by simp [maxLen], fun h => by omega⟩
        have hs3 : IntKind.i64.wrap (c : Int) = (c : Int) := IntWalk.i64_in _ (by omega)
        clear hs2
        go_quiet (fail)
        go_wp2_with fail
        go_ret
        have h9 := fun r => HEND.out r
        simp only [List.take_zero, Int.natCast_zero, Int.add_zero] at h9
        exact h9 _
      · have hcv : ∀ r, (convert 24 9 (.slice (some ⟨b, o + q, none⟩) m (c - q))).run Try.prog (w1.drewN r) = .ok (.string ⟨((xs.drop q).take m).toArray⟩) (w1.drewN r) := fun r =>
          run_convert_Bs _ _ Try.underlying24 Try.underlying5 Try.underlying9 ((HD.out.2.1.drop_ (k := q) (by omega)).take (by omega) |>.drewN r)
        go_quiet (fail)
        go_wp2_with fail
        go_ret
        exact HEND.out _
  · have hend : RdrEnd (α := List UInt8) (fun v => .string ⟨v.toArray⟩) [] br A n c xs st (Dec.text xs) w (.returned (.string ⟨([] : List UInt8).toArray⟩)) w1 := by
      refine ⟨[], st', rfl, ⟨q, true, on, hd, hst⟩, h2, ?_⟩
      rcases h3 with ⟨a, rfl, _, rfl⟩ | ⟨p, a, rfl, hr, _, rfl⟩ | ⟨p, q', rfl, hr, rfl⟩
      · exact ⟨rfl, rfl⟩
      · simp [Dec.text, hr]
      · simp at hst
    have HEND := Lib.hid hend
    clear hend h3 h2 hd hst h
    go_wp2_with fail
    go_ret
    exact HEND.out

/-- what end tells -/
def rendV (n : Nat) : Except Nat Nat → Value
  | .error a => .tuple #[.int .i64 a, .int .i64 2]
  | .ok p => if p < n then .tuple #[.int .i64 p, .int .i64 2] else .tuple #[.int .i64 0, .int .i64 0]

set_option maxRecDepth 100000 in
set_option maxHeartbeats 2000000 in
theorem rend_any (br : Nat) (A : Option Addr) (n c : Nat) (xs : List UInt8) (st : Except Nat Nat) (w : World) (h : RdrSt w br A n c xs st) :
    Calls Try.prog 70 #[.pointer (some ⟨br, 0, none⟩)] w fun e w' => Touch (· = br) w w' ∧
      e = .returned (rendV n st) := by
  obtain ⟨p, bad, on, hd, rfl⟩ := h
  have hc0 := hd.1.cell 0
  have hc1 := hd.1.cell 1
  have hc2 := hd.1.cell 2
  have hc3 := hd.1.cell 3
  simp only [List.getElem?_toArray, List.getElem?_cons_zero, List.getElem?_cons_succ] at hc0 hc1 hc2 hc3
  have hpn := hd.2.2.1
  have hnot : ∀ (x : Bool) (w : World), (Op.unary .not (.bool x)).run Try.prog w = .ok (.bool (!x)) w := fun _ _ => rfl
  have HD := Lib.hid hd
  clear hd
  cases bad
  · simp only [Bool.false_eq_true, if_false]
    by_cases hp : p < n
    · have hb : decide ((p : Int) < (n : Int)) = true := by simpa using hp
      have HV := Lib.hid (show rendV n (.ok p) = .tuple #[.int .i64 p, .int .i64 2] from if_pos hp)
      go_enter Try.func70, Try.ntmps70
      go_wp2_with fail
      go_quiet (fail)
      go_wp2_with fail
      refine (no_any br _ n c xs p on p _ (HD.out.drewN nq)).mono ?_
      rintro e w2 ⟨rfl, h1, h2⟩
      have hd2 := h1.1.cell 2
      have hd3 := h1.1.cell 3
      simp only [List.getElem?_toArray, List.getElem?_cons_zero, List.getElem?_cons_succ] at hd2 hd3
      have H2 := Lib.hid (((Touch.refl (· = br) w).drewN nq).trans h2 (fun _ _ h => h))
      clear h1 h2
      go_wp2_with fail
      go_ret2
      exact ⟨H2.out, by rw [HV.out]; rfl⟩
    · have hb : decide ((p : Int) < (n : Int)) = false := by simp; omega
      have HV := Lib.hid (show rendV n (.ok p) = .tuple #[.int .i64 0, .int .i64 0] from if_neg hp)
      go_enter Try.func70, Try.ntmps70
      go_wp2_with fail
      go_quiet (fail)
      go_wp2_with fail
      go_ret2
      exact ⟨(Touch.refl (· = br) w).drewN _, by rw [HV.out]; rfl⟩
  · simp only [if_true]
    go_enter Try.func70, Try.ntmps70
    go_wp2_with fail
    go_quiet (fail)
    go_wp2_with fail
    go_ret2
    exact ⟨(Touch.refl (· = br) w).drewN _, rfl⟩
end Go.Proofs.Ytdfhdanfigpbpaa
