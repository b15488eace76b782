/- The plain law of WorldKeeps. No program is in sight here. -/
import Derived.Test.YthmjnlkdoepmjaaSpec
namespace Go.Proofs.Ythmjnlkdoepmjaa

def fsOf (raw : List UInt8) (kept : Nat) : List Fl := if raw = [] then [] else [⟨3, raw, kept⟩]
def kp1 (xs : List UInt8) : Dk := Dk.new.append 3 xs
def kp2 (xs : List UInt8) : Dk := (kp1 xs).sync 3
def kp3 (xs ys : List UInt8) : Dk := (kp2 xs).append 3 ys
def kp4 (xs ys : List UInt8) (cuts : List Int) : Dk := (kp3 xs ys).crash cuts
theorem plain_why {d : Dk} (h1 : d.faults = []) (h2 : d.stopped = false) {n : Int} (hn : 0 ≤ n) : d.why n = 0 := by
  unfold Dk.why Dk.dead Dk.hit
  rw [h1, h2]
  simp
  omega
theorem plain_append {d : Dk} (h1 : d.faults = []) (h2 : d.stopped = false) {n : Int} (hn : 0 ≤ n) (b : List UInt8) : d.append n b = ⟨Fl.add n b d.fs, d.ops + 1, [], false, d.stop⟩ := by
  unfold Dk.append
  rw [if_pos (plain_why h1 h2 hn)]
  unfold Dk.next
  rw [h1, h2]
  rfl
theorem plain_sync {d : Dk} (h1 : d.faults = []) (h2 : d.stopped = false) {n : Int} (hn : 0 ≤ n) : d.sync n = ⟨Fl.sync n d.fs, d.ops + 1, [], false, d.stop⟩ := by
  unfold Dk.sync
  rw [if_pos (plain_why h1 h2 hn)]
  unfold Dk.next
  rw [h1, h2]
  rfl
theorem kp1_eq (xs : List UInt8) : kp1 xs = ⟨fsOf xs 0, 1, [], false, 0⟩ := by
  unfold kp1
  rw [plain_append rfl rfl (by omega)]
  unfold Fl.add fsOf
  by_cases h : xs = []
  · rw [if_pos h, if_pos h]; rfl
  · rw [if_neg h, if_neg h]; rfl
theorem kp2_eq (xs : List UInt8) : kp2 xs = ⟨fsOf xs xs.length, 2, [], false, 0⟩ := by
  unfold kp2
  rw [kp1_eq, plain_sync rfl rfl (by omega)]
  unfold fsOf
  by_cases h : xs = []
  · rw [if_pos h, if_pos h]; rfl
  · rw [if_neg h, if_neg h]; rfl
theorem kp3_eq (xs ys : List UInt8) : kp3 xs ys = ⟨fsOf (xs ++ ys) xs.length, 3, [], false, 0⟩ := by
  unfold kp3
  rw [kp2_eq, plain_append rfl rfl (by omega)]
  unfold Fl.add fsOf
  by_cases hy : ys = []
  · rw [if_pos hy, hy, List.append_nil]
  · rw [if_neg hy, if_neg (show ¬ xs ++ ys = [] by simp [hy])]
    by_cases hx : xs = []
    · rw [if_pos hx, hx]; rfl
    · rw [if_neg hx]; rfl
def kpF (xs ys : List UInt8) : Fl := ⟨3, xs ++ ys, xs.length⟩
theorem kpF_ways (xs ys : List UInt8) (c : Int) : (kpF xs ys).ways c ≤ 2 * ys.length := by
  have h : (((kpF xs ys).ways c : Nat) : Int) = c % (2 * (((xs ++ ys).length : Int) - xs.length) + 1) := by
    unfold Fl.ways
    exact Int.toNat_of_nonneg (Int.emod_nonneg _ (show 2 * (((xs ++ ys).length : Int) - xs.length) + 1 ≠ 0 by rw [List.length_append]; omega))
  have h2 := Int.emod_lt_of_pos c (show 0 < 2 * (((xs ++ ys).length : Int) - xs.length) + 1 by rw [List.length_append]; omega)
  rw [List.length_append] at h h2
  omega
theorem lose_kept (xs ys : List UInt8) (c : Int) : ((kpF xs ys).lose c).kept = xs.length + ((kpF xs ys).ways c + 1) / 2 := rfl
theorem lose_raw (xs ys : List UInt8) (c : Int) : ((kpF xs ys).lose c).raw = if (kpF xs ys).ways c % 2 = 0 ∧ 0 < (kpF xs ys).ways c then ((xs ++ ys).take (xs.length + ((kpF xs ys).ways c + 1) / 2)).set (xs.length + ((kpF xs ys).ways c + 1) / 2 - 1) (255 - (xs ++ ys).getD (xs.length + ((kpF xs ys).ways c + 1) / 2 - 1) 0) else (xs ++ ys).take (xs.length + ((kpF xs ys).ways c + 1) / 2) := rfl
theorem lose_length (xs ys : List UInt8) (c : Int) : ((kpF xs ys).lose c).raw.length = ((kpF xs ys).lose c).kept := by
  have h := kpF_ways xs ys c
  rw [lose_raw, lose_kept]
  have ht : ((xs ++ ys).take (xs.length + ((kpF xs ys).ways c + 1) / 2)).length = xs.length + ((kpF xs ys).ways c + 1) / 2 := by
    rw [List.length_take, List.length_append]; omega
  split
  · rw [List.length_set, ht]
  · exact ht
theorem kp4_read (xs ys : List UInt8) (cuts : List Int) : (kp4 xs ys cuts).read 3 = ((kpF xs ys).lose (cuts.headD 0)).raw ∧ (kp4 xs ys cuts).kept 3 = ((kpF xs ys).lose (cuts.headD 0)).kept := by
  have hl := lose_length xs ys (cuts.headD 0)
  unfold kp4
  rw [kp3_eq]
  unfold fsOf Dk.crash Dk.read Dk.kept
  by_cases h : xs ++ ys = []
  · rw [if_pos h]
    obtain ⟨rfl, rfl⟩ := List.append_eq_nil_iff.1 h
    have hw := kpF_ways [] [] (cuts.headD 0)
    have h0 : (kpF [] []).ways (cuts.headD 0) = 0 := by simpa using hw
    have hk : ((kpF [] []).lose (cuts.headD 0)).kept = 0 := by rw [lose_kept, h0]; rfl
    rw [hk] at hl
    rw [hk, List.eq_nil_of_length_eq_zero hl]
    exact ⟨rfl, rfl⟩
  · rw [if_neg h]
    show (match Fl.at_ (if ((kpF xs ys).lose (cuts.headD 0)).kept = 0 then [] else [(kpF xs ys).lose (cuts.headD 0)]) 3 with | some f => f.raw | none => []) = _ ∧ (match Fl.at_ (if ((kpF xs ys).lose (cuts.headD 0)).kept = 0 then [] else [(kpF xs ys).lose (cuts.headD 0)]) 3 with | some f => f.kept | none => 0) = _
    by_cases hk : ((kpF xs ys).lose (cuts.headD 0)).kept = 0
    · rw [if_pos hk]
      rw [hk] at hl
      rw [hk, List.eq_nil_of_length_eq_zero hl]
      exact ⟨rfl, rfl⟩
    · rw [if_neg hk]
      exact ⟨rfl, rfl⟩
/-- what the law says -/
theorem keeps_law (xs ys : List UInt8) (c : Int) (R : List UInt8) (hR : R = ((kpF xs ys).lose c).raw) :
    xs.length ≤ R.length ∧ R.length ≤ xs.length + ys.length ∧ R.take xs.length = xs ∧ ∀ i, xs.length ≤ i → i < R.length → i - xs.length < ys.length ∧ (R.getD i 0 = ys.getD (i - xs.length) 0 ∨ (i + 1 = R.length ∧ R.getD i 0 = 255 - ys.getD (i - xs.length) 0)) := by
  have hw := kpF_ways xs ys c
  have hl := lose_length xs ys c
  rw [← hR, lose_kept] at hl
  rw [lose_raw] at hR
  generalize hk : (kpF xs ys).ways c = k at *
  obtain ⟨m, hm⟩ : ∃ m, m = (k + 1) / 2 := ⟨_, rfl⟩
  rw [← hm] at hR hl
  have hmy : m ≤ ys.length := by omega
  have htk : (xs ++ ys).take (xs.length + m) = xs ++ ys.take m := by rw [List.take_length_add_append]
  rw [htk] at hR
  have hget : ∀ i, xs.length ≤ i → i < xs.length + m → (xs ++ ys.take m).getD i 0 = ys.getD (i - xs.length) 0 := by
    intro i h1 h2
    rw [List.getD_eq_getElem?_getD, List.getD_eq_getElem?_getD, List.getElem?_append_right h1, List.getElem?_take, if_pos (by omega)]
  refine ⟨by omega, by omega, ?_, fun i h1 h2 => ⟨by omega, ?_⟩⟩
  · split at hR
    · rename_i hc
      rw [hR, List.take_set_of_le (by omega), List.take_left]
    · rw [hR, List.take_left]
  · rw [hl] at h2
    split at hR
    · rename_i hc
      by_cases he : i = xs.length + m - 1
      · refine .inr ⟨by omega, ?_⟩
        have hg : (xs ++ ys).getD (xs.length + m - 1) 0 = ys.getD (i - xs.length) 0 := by
          rw [he, List.getD_eq_getElem?_getD, List.getD_eq_getElem?_getD, List.getElem?_append_right (by omega)]
        rw [hR, List.getD_eq_getElem?_getD, ← he, List.getElem?_set_self (by rw [List.length_append, List.length_take]; omega), he, hg, he]
        rfl
      · refine .inl ?_
        rw [hR, List.getD_eq_getElem?_getD, List.getElem?_set_ne (by omega), ← List.getD_eq_getElem?_getD]
        exact hget i h1 h2
    · rw [hR]
      exact .inl (hget i h1 h2)
end Go.Proofs.Ythmjnlkdoepmjaa
