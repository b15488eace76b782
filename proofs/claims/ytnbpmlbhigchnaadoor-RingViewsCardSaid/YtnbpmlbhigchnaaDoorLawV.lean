/- Right, the document's Right, Newer; the law RingViews, walked. Conditions stand with each. -/
import Derived.Test.YtnbpmlbhigchnaaDoorInts
import Derived.Deep.RegionHeld
import Derived.BigRegion
namespace Go.Proofs.YtnbpmlbhigchnaaDoor
open Go.RowKit

def okAt (l : List Int) (i : Nat) : Bool := decide (0 ≤ l.getD i 0) && decide (l.getD i 0 < 16) && !(decide (0 < i) && decide (l.getD i 0 ≤ l.getD (i - 1) 0))
def upto (l : List Int) (k : Nat) : Bool := (List.range k).all (okAt l)
def rightV (ver : Int) (l : List Int) : Bool := decide (0 ≤ ver) && decide (ver ≤ 4503599627370496) && upto l l.length
theorem upto_succ {l : List Int} {k : Nat} (h : upto l k = true) (h2 : okAt l k = true) : upto l (k + 1) = true := by
  unfold upto at *
  rw [List.range_succ, List.all_append, h, List.all_cons, h2]
  rfl
theorem upto_bad {l : List Int} {k n : Nat} (h : okAt l k = false) (hk : k < n) : upto l n = false := by
  unfold upto
  rw [List.all_eq_false]
  exact ⟨k, List.mem_range.2 hk, by rw [h]; simp⟩
theorem rightV_bad {ver : Int} {l : List Int} {k : Nat} (h : okAt l k = false) (hk : k < l.length) : rightV ver l = false := by
  unfold rightV
  rw [upto_bad h hk, Bool.and_false]

set_option maxRecDepth 20000 in
set_option maxHeartbeats 2000000 in
theorem right_any (ver : Int) (A : Option Addr) (n c : Nat) (l : List Int) (w : World) (h : IsInts w A n c l) :
    Calls Tryd.prog 32 #[.agg #[.int .i64 ver, .slice A n c]] w fun e w' => e = .returned (.bool (rightV ver l)) ∧ Fresh w w' := by
  obtain rfl := h.1
  have hlc := h.2.1
  have hcm := h.2.2.1
  unfold maxLen at hcm
  obtain ⟨W1, hW1⟩ : ∃ W1, W1 = w.alloc (.cells #[.int .i64 ver, .slice A l.length c] 60) := ⟨_, rfl⟩
  have HF := Lib.hid (show Fresh w W1 by rw [hW1]; exact (Touch.refl _ w).alloc _)
  have hb : Blk W1 w.heap.size 60 #[.int .i64 ver, .slice A l.length c] := by rw [hW1]; exact Blk.new _ _ _
  have c0 : W1.cell? ⟨w.heap.size, 0, none⟩ = some (.int .i64 ver) := hb.cell 0
  have c1 : W1.cell? ⟨w.heap.size, 1, none⟩ = some (.slice A l.length c) := hb.cell 1
  have HI := Lib.hid (h.touch HF.out fun _ _ _ => id)
  have HW := Lib.hid hW1
  clear hb hW1 h
  by_cases hv1 : ver < 0
  · have HE := Lib.hid (show rightV ver l = false by have : ¬ 0 ≤ ver := (by omega); simp [rightV, this])
    go_enter Tryd.func32, Tryd.ntmps32
    go_wp2_with fail
    rw [← HW.out]
    go_wp2_with fail
    all_goals (go_ret; exact ⟨by rw [HE.out]; rfl, HF.out⟩)
  by_cases hv2 : 4503599627370496 < ver
  · have HE := Lib.hid (show rightV ver l = false by have : ¬ ver ≤ 4503599627370496 := (by omega); simp [rightV, this])
    go_enter Tryd.func32, Tryd.ntmps32
    go_wp2_with fail
    rw [← HW.out]
    go_wp2_with fail
    all_goals (go_ret; exact ⟨by rw [HE.out]; rfl, HF.out⟩)
  have HVER := Lib.hid (show decide (0 ≤ ver) = true ∧ decide (ver ≤ 4503599627370496) = true by constructor <;> simp <;> omega)
  go_enter Tryd.func32, Tryd.ntmps32
  go_wp2_with fail
  rw [← HW.out]
  go_wp2_with fail
  go_loopw [16] (fun i wr => ∃ j : Nat, j ≤ l.length ∧ i = .int .i64 j ∧ upto l j = true ∧ wr = W1) (fun i _ => l.length - (intOf i).toNat)
  case atStart => exact ⟨0, Nat.zero_le _, rfl, rfl, rfl⟩
  case round =>
    obtain ⟨j, hj, rfl, hup, rfl⟩ := hrel
    have HU := Lib.hid hup
    clear hup
    by_cases hlt : j < l.length
    · obtain ⟨b, o, rfl, hc⟩ := HI.out.2.2.2 (by omega)
      obtain ⟨x, hx⟩ : ∃ x, l[j]? = some x := ⟨l[j], List.getElem?_eq_getElem hlt⟩
      have k1 := hc j x hx
      have hg : l.getD j 0 = x := by rw [List.getD_eq_getElem?_getD, hx]; rfl
      have HX := Lib.hid hg
      by_cases hx1 : x < 0
      · have HE := Lib.hid (rightV_bad (ver := ver) (l := l) (k := j) (by unfold okAt; rw [hg]; have : ¬ 0 ≤ x := (by omega); simp [this]) hlt)
        clear hc hx hg
        go_wp2_with fail
        all_goals (go_ret; exact ⟨by rw [HE.out]; rfl, HF.out⟩)
      by_cases hx2 : 16 ≤ x
      · have HE := Lib.hid (rightV_bad (ver := ver) (l := l) (k := j) (by unfold okAt; rw [hg]; have : ¬ x < 16 := (by omega); simp [this]) hlt)
        clear hc hx hg
        go_wp2_with fail
        all_goals (go_ret; exact ⟨by rw [HE.out]; rfl, HF.out⟩)
      by_cases hj0 : j = 0
      · subst hj0
        simp only [Nat.add_zero] at k1
        have HE := Lib.hid (upto_succ HU.out (by unfold okAt; rw [hg]; have h1 : 0 ≤ x := (by omega); have h2 : x < 16 := (by omega); simp [h1, h2]))
        clear hc hx hg
        go_wp2_with fail
        go_roundw
        case rel => exact ⟨1, by omega, by go_num, HE.out, by first | rfl | trivial⟩
        case measure => simp [intOf] <;> omega
      · obtain ⟨i, rfl⟩ : ∃ i, j = i + 1 := ⟨j - 1, by omega⟩
        obtain ⟨y, hy⟩ : ∃ y, l[i]? = some y := ⟨l[i], List.getElem?_eq_getElem (by omega)⟩
        have k2 := hc i y hy
        have hg2 : l.getD (i + 1 - 1) 0 = y := by rw [Nat.add_sub_cancel, List.getD_eq_getElem?_getD, hy]; rfl
        by_cases hxy : x ≤ y
        · have HE := Lib.hid (rightV_bad (ver := ver) (l := l) (k := i + 1) (by unfold okAt; rw [hg, hg2]; simp [hxy]) hlt)
          clear hc hx hg hy hg2
          go_wp2_with fail
          all_goals (go_ret; exact ⟨by rw [HE.out]; rfl, HF.out⟩)
        · have HE := Lib.hid (upto_succ HU.out (by unfold okAt; rw [hg, hg2]; have h1 : 0 ≤ x := (by omega); have h2 : x < 16 := (by omega); simp [h1, h2, hxy]))
          clear hc hx hg hy hg2
          go_wp2_with fail
          go_roundw
          case rel => exact ⟨i + 2, by omega, by go_num, HE.out, by first | rfl | trivial⟩
          case measure => simp [intOf] <;> omega
    · obtain rfl : j = l.length := by omega
      have HE := Lib.hid (show rightV ver l = true by unfold rightV; rw [HVER.out.1, HVER.out.2, HU.out]; rfl)
      go_wp2_with fail
      all_goals (go_ret; exact ⟨by rw [HE.out]; rfl, HF.out⟩)

set_option maxRecDepth 20000 in
set_option maxHeartbeats 4000000 in
theorem refright_any (ver : Int) (A : Option Addr) (n c : Nat) (l : List Int) (w : World) (h : IsInts w A n c l) :
    Calls Tryd.prog 33 #[.agg #[.int .i64 ver, .slice A n c]] w fun e w' => e = .returned (.bool (rightV ver l)) ∧ Fresh w w' := by
  obtain rfl := h.1
  have hlc := h.2.1
  have hcm := h.2.2.1
  unfold maxLen at hcm
  obtain ⟨W1, hW1⟩ : ∃ W1, W1 = w.alloc (.cells #[.int .i64 ver, .slice A l.length c] 60) := ⟨_, rfl⟩
  have HF := Lib.hid (show Fresh w W1 by rw [hW1]; exact (Touch.refl _ w).alloc _)
  have hb : Blk W1 w.heap.size 60 #[.int .i64 ver, .slice A l.length c] := by rw [hW1]; exact Blk.new _ _ _
  have c0 : ∀ q, (W1.drewN q).cell? ⟨w.heap.size, 0, none⟩ = some (.int .i64 ver) := fun _ => hb.cell 0
  have c1 : ∀ q, (W1.drewN q).cell? ⟨w.heap.size, 1, none⟩ = some (.slice A l.length c) := fun _ => hb.cell 1
  have HI := Lib.hid (h.touch HF.out fun _ _ _ => id)
  have HW := Lib.hid hW1
  clear hb hW1 h
  go_enter Tryd.func33, Tryd.ntmps33
  go_wp2_with fail
  rw [← HW.out]
  go_loopw [3] (fun i wr => ∃ j : Nat, j ≤ l.length ∧ i = .int .i64 j ∧ upto l j = true ∧ ∃ q, wr = W1.drewN q) (fun i _ => l.length - (intOf i).toNat)
  case atStart => exact ⟨0, Nat.zero_le _, rfl, rfl, 0, rfl⟩
  case round =>
    obtain ⟨j, hj, rfl, hup, q, rfl⟩ := hrel
    have HU := Lib.hid hup
    clear hup
    have HFq := Lib.hid (fun q => HF.out.drewN q)
    by_cases hlt : j < l.length
    · obtain ⟨b, o, rfl, hc⟩ := HI.out.2.2.2 (by omega)
      obtain ⟨x, hx⟩ : ∃ x, l[j]? = some x := ⟨l[j], List.getElem?_eq_getElem hlt⟩
      have k1 : ∀ q', (W1.drewN q').cell? ⟨b, o + j, none⟩ = some (.int .i64 x) := fun _ => hc j x hx
      have hg : l.getD j 0 = x := by rw [List.getD_eq_getElem?_getD, hx]; rfl
      by_cases hx1 : x < 0
      · have HE := Lib.hid (rightV_bad (ver := ver) (l := l) (k := j) (by unfold okAt; rw [hg]; have : ¬ 0 ≤ x := (by omega); simp [this]) hlt)
        have e1 : decide (x < 0) = true := by simpa using hx1
        clear hc hx hg
        go_wp2_with fail
        go_quiet (fail)
        go_wp2_with fail
        all_goals (go_ret; exact ⟨by rw [HE.out]; rfl, (HFq.out _).drewN _⟩)
      have e1 : decide (x < 0) = false := by simp; omega
      by_cases hx2 : 16 ≤ x
      · have HE := Lib.hid (rightV_bad (ver := ver) (l := l) (k := j) (by unfold okAt; rw [hg]; have : ¬ x < 16 := (by omega); simp [this]) hlt)
        have e2 : decide (16 ≤ x) = true := by simpa using hx2
        clear hc hx hg
        go_wp2_with fail
        go_quiet (fail)
        go_wp2_with fail
        all_goals (go_ret; exact ⟨by rw [HE.out]; rfl, (HFq.out _).drewN _⟩)
      have e2 : decide (16 ≤ x) = false := by simp; omega
      by_cases hj0 : j = 0
      · subst hj0
        simp only [Nat.add_zero] at k1
        have HE := Lib.hid (upto_succ HU.out (by unfold okAt; rw [hg]; have h1 : 0 ≤ x := (by omega); have h2 : x < 16 := (by omega); simp [h1, h2]))
        clear hc hx hg
        go_wp2_with fail
        go_quiet (fail)
        go_wp2_with fail
        go_roundw
        case rel => exact ⟨1, by omega, by go_num, HE.out, _, rfl⟩
        case measure => simp [intOf] <;> omega
      · obtain ⟨i, rfl⟩ : ∃ i, j = i + 1 := ⟨j - 1, by omega⟩
        obtain ⟨y, hy⟩ : ∃ y, l[i]? = some y := ⟨l[i], List.getElem?_eq_getElem (by omega)⟩
        have k2 : ∀ q', (W1.drewN q').cell? ⟨b, o + i, none⟩ = some (.int .i64 y) := fun _ => hc i y hy
        have hg2 : l.getD (i + 1 - 1) 0 = y := by rw [Nat.add_sub_cancel, List.getD_eq_getElem?_getD, hy]; rfl
        have e3 : decide ((0 : Int) < (i : Int) + 1) = true := decide_eq_true (by omega)
        by_cases hxy : x ≤ y
        · have HE := Lib.hid (rightV_bad (ver := ver) (l := l) (k := i + 1) (by unfold okAt; rw [hg, hg2]; simp [hxy]) hlt)
          clear hc hx hg hy hg2
          go_wp2_with fail
          go_quiet (fail)
          go_wp2_with fail
          all_goals (go_ret; exact ⟨by rw [HE.out]; rfl, (HFq.out _).drewN _⟩)
        · have HE := Lib.hid (upto_succ HU.out (by unfold okAt; rw [hg, hg2]; have h1 : 0 ≤ x := (by omega); have h2 : x < 16 := (by omega); simp [h1, h2, hxy]))
          clear hc hx hg hy hg2
          go_wp2_with fail
          go_quiet (fail)
          go_wp2_with fail
          go_roundw
          case rel => exact ⟨i + 2, by omega, by go_num, HE.out, _, rfl⟩
          case measure => simp [intOf] <;> omega
    · obtain rfl : j = l.length := by omega
      have HE := Lib.hid (show rightV ver l = (decide (0 ≤ ver) && decide (ver ≤ 4503599627370496)) by unfold rightV; rw [HU.out, Bool.and_true])
      by_cases hv1 : 0 ≤ ver
      · have HV1 := Lib.hid hv1
        go_wp2_with fail
        all_goals (go_ret; exact ⟨by rw [HE.out]; simp [HV1.out], HFq.out _⟩)
      · have HV1 := Lib.hid hv1
        go_wp2_with fail
        all_goals (go_ret; exact ⟨by rw [HE.out]; have := HV1.out; simp; omega, HFq.out _⟩)
end Go.Proofs.YtnbpmlbhigchnaaDoor
