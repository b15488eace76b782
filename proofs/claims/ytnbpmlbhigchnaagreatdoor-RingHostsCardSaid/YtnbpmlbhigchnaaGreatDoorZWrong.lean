/- The reference's Wrong: whether hosts and points make no ring. Condition: numbers as an int holds them. -/
import Derived.Test.YtnbpmlbhigchnaaGreatDoorZText
namespace Go.Proofs.YtnbpmlbhigchnaaGreatDoor
open Go.RowKit

theorem ok_take {l : List Int} {j : Nat} {x : Int} (h : l[j]? = some x) (h1 : (l.take j).all okHost = true) (h2 : (l.take j).Nodup) (hx : okHost x = true) (hn : x ∉ l.take j) : (l.take (j + 1)).all okHost = true ∧ (l.take (j + 1)).Nodup := by
  have e : l.take (j + 1) = l.take j ++ [x] := by rw [List.take_add_one, h]; rfl
  rw [e]
  refine ⟨by rw [List.all_append, h1]; simp [hx], List.nodup_append.2 ⟨h2, by simp, fun a ha b hb e => ?_⟩⟩
  rw [List.mem_singleton] at hb
  exact hn (by rw [← hb, ← e]; exact ha)

set_option maxRecDepth 20000 in
set_option maxHeartbeats 2000000 in
theorem wrong_any (A : Option Addr) (c : Nat) (l : List Int) (p : Int) (w : World) (h : IsInts w A l.length c l) :
    Calls Tryz.prog 23 #[.slice A l.length c, .int .i64 p] w fun e w' => e = .returned (.bool (!okNew l p)) ∧ ∃ q, w' = w.drewN q := by
  have h1 := h.2.1
  have h2 := h.2.2.1
  unfold maxLen at h2
  have H := Lib.hid h
  clear h
  go_enter Tryz.func23, Tryz.ntmps23
  go_wp2_with fail
  go_loopw [5] (fun i wr => ∃ j : Nat, j ≤ l.length ∧ i = .int .i64 j ∧ ((l.take j).all okHost = true ∧ (l.take j).Nodup) ∧ ∃ q, wr = w.drewN q) (fun i _ => l.length - (intOf i).toNat)
  case atStart => exact ⟨0, by omega, rfl, ⟨rfl, by simp⟩, 0, rfl⟩
  case round =>
    obtain ⟨j, hj, rfl, hok, q, rfl⟩ := hrel
    have HOK := Lib.hid hok
    clear hok
    by_cases hlt : j < l.length
    · obtain ⟨b, o, rfl, hc⟩ := H.out.2.2.2 (by omega)
      obtain ⟨x, hx⟩ : ∃ x, l[j]? = some x := ⟨l[j], List.getElem?_eq_getElem hlt⟩
      have k1 : ∀ q', (w.drewN q').cell? ⟨b, o + j, none⟩ = some (.int .i64 x) := fun _ => hc j x hx
      have HC := Lib.hid hc
      have HX := Lib.hid hx
      clear hc hx
      by_cases hx0 : x < 0
      · have HE := Lib.hid (okNew_bad (p := p) HX.out (.inl (by have : ¬ 0 ≤ x := (by omega); simp [okHost, this])))
        go_wp2_with fail
        go_ret
        exact ⟨by rw [HE.out]; rfl, q, rfl⟩
      · by_cases hx1 : 16 ≤ x
        · have HE := Lib.hid (okNew_bad (p := p) HX.out (.inl (by have : ¬ x < 16 := (by omega); simp [okHost, this])))
          go_wp2_with fail
          go_ret
          exact ⟨by rw [HE.out]; rfl, q, rfl⟩
        · have HXO := Lib.hid (show okHost x = true by simp only [okHost, Bool.and_eq_true, decide_eq_true_eq]; omega)
          go_wp2_with fail
          go_loopw [6] (fun i wr => ∃ k : Nat, k ≤ j ∧ i = .int .i64 k ∧ x ∉ l.take k ∧ ∃ q, wr = w.drewN q) (fun i _ => j - (intOf i).toNat)
          case atStart => exact ⟨0, by omega, rfl, by simp, q, rfl⟩
          case round =>
            obtain ⟨k, hk, rfl, hno, q2, rfl⟩ := hrel
            have HNO := Lib.hid hno
            clear hno
            by_cases hkj : k < j
            · obtain ⟨y, hy⟩ : ∃ y, l[k]? = some y := ⟨l[k]'(by omega), List.getElem?_eq_getElem (by omega)⟩
              have k2 : ∀ q', (w.drewN q').cell? ⟨b, o + k, none⟩ = some (.int .i64 y) := fun _ => HC.out k y hy
              have HY := Lib.hid hy
              have hkl : k < l.length := by omega
              clear hy
              go_wp2_with fail
              go_quiet (fail)
              by_cases hxy : y = x
              · have HE := Lib.hid (okNew_bad (p := p) HX.out (.inr (List.mem_of_getElem? (i := k) (by rw [List.getElem?_take_of_lt hkj, HY.out, hxy]))))
                subst hxy
                go_wp2_with fail
                go_ret
                exact ⟨by rw [HE.out]; rfl, _, World.drewN_drewN _ _ _⟩
              · go_wp2_with fail
                go_roundw
                case rel =>
                  refine ⟨k + 1, by omega, by go_num, ?_, _, rfl⟩
                  rw [List.take_add_one, HY.out]
                  simp only [Option.toList_some, List.mem_append, List.mem_singleton]
                  rintro (h | h)
                  · exact HNO.out h
                  · exact hxy h.symm
                case measure => simp [intOf] <;> omega
            · obtain rfl : k = j := by omega
              have HN2 := Lib.hid (ok_take HX.out HOK.out.1 HOK.out.2 HXO.out HNO.out)
              go_wp2_with fail
              go_roundw
              case rel => exact ⟨k + 1, by omega, by go_num, HN2.out, _, rfl⟩
              case measure => simp [intOf] <;> omega
    · obtain rfl : j = l.length := by omega
      have hall : l.all okHost = true ∧ l.Nodup := by
        have := HOK.out
        rwa [List.take_length] at this
      have HE := Lib.hid (show okNew l p = (decide (1 ≤ p) && decide (p ≤ 64)) by simp [okNew, hall.1, hall.2])
      clear hall
      by_cases hp1 : p < 1
      · go_wp2_with fail
        go_ret
        exact ⟨by rw [HE.out, decide_eq_false (show ¬ 1 ≤ p by omega)]; rfl, q, rfl⟩
      · by_cases hp2 : 64 < p
        · go_wp2_with fail
          go_ret
          exact ⟨by rw [HE.out, decide_eq_false (show ¬ p ≤ 64 by omega)]; simp, q, rfl⟩
        · go_wp2_with fail
          go_ret
          exact ⟨by rw [HE.out, decide_eq_true (show 1 ≤ p by omega), decide_eq_true (show p ≤ 64 by omega)]; rfl, q, rfl⟩
end Go.Proofs.YtnbpmlbhigchnaaGreatDoor
