/- The contract of the begin of the document's disk; those of Fail and Stop. Conditions stand with each. -/
import Derived.Test.YthmjnlkdoepmjaaRdisk
import Derived.Test.YthmjnlkdoepmjaaFault
import Derived.Deep.RegionWith
import Derived.Deep.Cut
namespace Go.Proofs.Ythmjnlkdoepmjaa
open Go.RowKit

theorem Try.info120 : (Try.prog.info? 120).map (fun i => (i.zero, i.size, i.bytes)) = some (some (.agg #[.int .i64 0, .int .i64 0]), 2, 16) := by kernel_rfl
/-- what begin has found in the faults so far -/
def strk (l : List (Int × Int)) : Bool := (l.find? fun f => decide (¬ 0 < f.1)).isSome
def strkK (l : List (Int × Int)) : Int := match l.find? (fun f => decide (¬ 0 < f.1)) with | some f => f.2 | none => 0
theorem strk_snoc (l : List (Int × Int)) (f : Int × Int) : strk (l ++ [f]) = if strk l = true then true else decide (¬ 0 < f.1) := by
  unfold strk
  rw [List.find?_append]
  cases l.find? (fun f => decide (¬ 0 < f.1)) with
  | some g => rfl
  | none =>
    by_cases h : 0 < f.1
    · simp [h]
    · simp [h, Int.not_lt.1 h]
theorem strkK_snoc (l : List (Int × Int)) (f : Int × Int) : strkK (l ++ [f]) = if strk l = true then strkK l else if 0 < f.1 then 0 else f.2 := by
  unfold strk strkK
  rw [List.find?_append]
  cases l.find? (fun f => decide (¬ 0 < f.1)) with
  | some g => rfl
  | none =>
    by_cases h : 0 < f.1
    · simp [h]
    · simp [h, Int.not_lt.1 h]
theorem strkK_none {l : List (Int × Int)} (h : strk l = false) : strkK l = 0 := by
  unfold strk at h
  unfold strkK
  cases hf : l.find? (fun f => decide (¬ 0 < f.1)) with
  | some g => rw [hf] at h; cases h
  | none => rfl
theorem left_snoc (l : List (Int × Int)) (f : Int × Int) : Rk.left (l ++ [f]) = Rk.left l ++ (if 0 < f.1 then [(f.1 - 1, f.2)] else []) := by
  unfold Rk.left
  rw [List.filterMap_append]
  by_cases h : 0 < f.1 <;> simp [h]
theorem fltCells_append (a b : List (Int × Int)) : fltCells (a ++ b) = fltCells a ++ fltCells b := by simp [fltCells]
theorem left_len (l : List (Int × Int)) : (Rk.left l).length ≤ l.length := List.length_filterMap_le _ _
theorem Rk.half_eq (r : Rk) (hs : r.stop ≠ 0) : r.half = (strk r.faults && decide (strkK r.faults = 2)) := by
  unfold Rk.half Rk.hit strk strkK
  cases r.faults.find? (fun f => decide (¬ 0 < f.1)) with
  | some g => simp [hs]
  | none => rfl
theorem Rk.hit_eq (r : Rk) : r.hit.isSome = strk r.faults := rfl
theorem Rk.half_dead (r : Rk) (hs : r.stop = 0) : r.half = false := by
  unfold Rk.half
  cases r.hit <;> simp [hs]
theorem rflt_new (w : World) (a k : Int) : Src Try.prog 2 98 (.slice (some ⟨w.heap.size, 0, none⟩) 1 1) 1 [.int .i64 a, .int .i64 k] (w.alloc (.cells #[.int .i64 a, .int .i64 k] 120)) := by
  refine Src.ofSlice _ Try.underlying98 _ _ _ _ rfl (fun j u hu => ?_) (by intro u hu; simp at hu; rcases hu with rfl | rfl <;> rfl)
  have hb := Blk.new w 120 #[.int .i64 a, .int .i64 k]
  rw [add_flat, Nat.zero_add, hb.cell j, ← hu]
  simp

/-- faults as begin can count them -/
structure Rk.nums (r : Rk) : Prop where
  flt : ∀ f ∈ r.faults, f.1 ≤ 9223372036854775807
  lo : -1 ≤ r.stop
  hi : r.stop ≤ 9223372036854775807
def RBeginEnd (w : World) (bd : Nat) (lv : Value) (fs : List RF) (r : Rk) (file : Int) (e : Ending) (w' : World) : Prop :=
  e = .returned (.tuple #[.int .i64 (r.why file), .bool r.half]) ∧ Touch (fun k => k = bd) w w' ∧ ∃ fv', RDK w' bd lv fv' fs r.next ∧ ∀ k, fv'.ownBlock = some k → w.heap.size ≤ k

set_option maxRecDepth 20000 in
set_option maxHeartbeats 4000000 in
theorem rbegin_any (w : World) (bd : Nat) (lv fv : Value) (fs : List RF) (r : Rk) (file : Int) (h : RDK w bd lv fv fs r) (hc : r.count ≤ 1000000000) (hl : r.faults.length ≤ 1000000000) (hn : r.nums) :
    Calls Try.prog 75 #[.pointer (some ⟨bd, 0, none⟩), .int .i64 file] w (RBeginEnd w bd lv fs r file) := by
  obtain ⟨A, c, rfl, hle, hcm, hA⟩ := h.flt.form
  have hc3 : w.cell? ⟨bd, 3, none⟩ = some (.int .i64 r.count) := h.blk.cell 3
  have hf3 : w.frozen? ⟨bd, 3, none⟩ = false := h.blk.frozen 3
  unfold maxLen at hcm
  obtain ⟨W1, hW1⟩ : ∃ W1, W1 = w.setCell ⟨bd, 3, none⟩ (.int .i64 (r.count + 1)) := ⟨_, rfl⟩
  have hB1 : Blk W1 bd 100 #[lv, .slice A r.faults.length c, .int .i64 r.stop, .int .i64 (r.count + 1)] := by rw [hW1]; exact h.blk.set_ 3 _
  have hT1 : Touch (fun k => k = bd) w W1 := by rw [hW1]; exact (Touch.refl (fun k => k = bd) w).setCell (p := ⟨bd, 3, none⟩) (.inr rfl) _
  have hF1 : Own W1 120 2 (.slice A r.faults.length c) r.faults.length (fltCells r.faults) := by
    rw [hW1]
    exact h.flt.far (p := ⟨bd, 3, none⟩) (h.flt.ne_blk h.blk (by decide)) _
  have hsz : W1.heap.size = w.heap.size := by rw [hW1]; simp [World.setCell]
  have HW1 := Lib.hid hW1; have HB1 := Lib.hid hB1; have HT1 := Lib.hid hT1; have HF1 := Lib.hid hF1; have HSZ := Lib.hid hsz
  have HA := Lib.hid hA; have H := Lib.hid h; have HN := Lib.hid hn
  clear hW1 hB1 hT1 hF1 hsz hA h hn
  go_enter Try.func75, Try.ntmps75
  go_wp2_with fail
  rw [← HW1.out]
  go_loopw [6, 7, 8, 9] (fun st kd u i wr => ∃ j : Nat, j ≤ r.faults.length ∧ i = .int .i64 j ∧ st = .bool (strk (r.faults.take j)) ∧ kd = .int .i64 (strkK (r.faults.take j)) ∧ Own wr 120 2 u (Rk.left (r.faults.take j)).length (fltCells (Rk.left (r.faults.take j))) ∧ (∀ k, u.ownBlock = some k → W1.heap.size ≤ k) ∧ Fresh W1 wr) (fun _ _ _ i _ => r.faults.length - (intOf i).toNat)
  case atStart => exact ⟨0, by omega, rfl, rfl, rfl, Own.nil_ _ _ _, fun k hk => (by cases hk), Touch.refl _ _⟩
  case round =>
    obtain ⟨j, hj, rfl, rfl, rfl, hO, hon, ht⟩ := hrel
    have hcB1 : wr.cell? ⟨bd, 1, none⟩ = some (.slice A r.faults.length c) := (HB1.out.touch ht id).cell 1
    by_cases hlt : j < r.faults.length
    · obtain ⟨g, rfl⟩ : ∃ g, A = some ⟨g, 0, none⟩ := by
        rcases HA.out with ⟨_, h0, _⟩ | hA
        · omega
        · exact hA
      obtain ⟨f, hf⟩ : ∃ f, f = r.faults[j] := ⟨_, rfl⟩
      have hF := HF1.out.touch ht fun _ _ => id
      have hc0 := hF.cell (j := j * 2) (by omega)
      have hc1 := hF.cell (j := j * 2 + 1) (by omega)
      rw [(fltCells_get r.faults j hlt).1, ← hf] at hc0
      rw [(fltCells_get r.faults j hlt).2, ← hf] at hc1
      have hfb := HN.out.flt f (by rw [hf]; exact List.getElem_mem hlt)
      have htake : r.faults.take (j + 1) = r.faults.take j ++ [f] := by rw [hf, List.take_succ_eq_append_getElem hlt]
      have hs := strk_snoc (r.faults.take j) f
      have hk := strkK_snoc (r.faults.take j) f
      have hlf := left_snoc (r.faults.take j) f
      rw [← htake] at hs hk hlf
      have hll : (Rk.left (r.faults.take j)).length ≤ 1000000000 := Nat.le_trans (left_len _) (by rw [List.length_take]; omega)
      obtain ⟨S, hS⟩ : ∃ S, S = wr.alloc (.cells #[.int .i64 f.1, .int .i64 f.2] 120) := ⟨_, rfl⟩
      have hBS : Blk S wr.heap.size 120 #[.int .i64 f.1, .int .i64 f.2] := by rw [hS]; exact Blk.new _ _ _
      have hOS := show Own S _ _ _ _ _ from (by rw [hS]; exact hO.alloc _)
      have hTS : Fresh W1 S := by rw [hS]; exact ht.alloc _
      have hq0 : S.cell? ⟨wr.heap.size, 0, none⟩ = some (.int .i64 f.1) := hBS.cell 0
      have hq1 : S.cell? ⟨wr.heap.size, 1, none⟩ = some (.int .i64 f.2) := hBS.cell 1
      have HO := Lib.hid hOS; have HT := Lib.hid hTS; have HON := Lib.hid hon; have HS := Lib.hid hS; have HSK := Lib.hid hs; have HKK := Lib.hid hk; have HLF := Lib.hid hlf; have HTAKE := Lib.hid htake
      clear hF hO ht hon hS hs hk hlf hf hBS hOS hTS htake
      by_cases hpos : 0 < f.1
      · go_upto_region 8 with fail
        rw [← HS.out]
        go_wp2_with (at_builtin; go_loud (refine wpList_own_src _ rfl _ _ 98 98 rfl 120 (.agg #[.int .i64 0, .int .i64 0]) 2 16 Try.info120 Try.underlying98 rfl u8 _ _ rfl (HO.out.alloc _) (fltCells_one _) (.slice (some ⟨S.heap.size, 0, none⟩) 1 1) 1 [.int .i64 (f.1 - 1), .int .i64 f.2] rfl (by exact rflt_new S (f.1 - 1) f.2) (by unfold maxLen; omega) (by omega) ?_); intro B1 c1 w1 o1 g1 b1)
        have hT1 : Fresh W1 w1 := (HT.out.alloc _).grown g1 fun k hk => .inl (HON.out k hk)
        have hN1 : ∀ k, (Value.slice B1 ((Rk.left (r.faults.take j)).length + 1) c1).ownBlock = some k → W1.heap.size ≤ k := by
          intro k hk
          rcases b1 with h | h
          · exact HON.out k (h.symm.trans hk)
          · rw [hk] at h
            injection h with h
            have := HT.out.size
            rw [h, alloc_size]
            omega
        refine ⟨⟨j + 1, by omega, by simp, ?_, ?_, ?_, hN1, hT1⟩, by simp [intOf] <;> omega⟩
        · rw [HSK.out]
          cases strk (r.faults.take j) <;> simp [hpos]
        · rw [HKK.out]
          cases hst : strk (r.faults.take j)
          · rw [strkK_none hst]; simp [hpos]
          · simp
        · rw [HLF.out, if_pos hpos, List.length_append, fltCells_append]
          exact o1
      · have hlf2 : Rk.left (r.faults.take (j + 1)) = Rk.left (r.faults.take j) := by rw [HLF.out, if_neg hpos, List.append_nil]
        have HLF2 := Lib.hid hlf2
        have HPOS := Lib.hid hpos
        clear hlf2 HLF
        cases hst : strk (r.faults.take j) with
        | true =>
          have HST := Lib.hid hst
          clear hst
          go_upto_region 8 with fail
          rw [← HS.out]
          go_wp2_with fail
          refine ⟨⟨j + 1, by omega, by simp, ?_, ?_, ?_, HON.out, HT.out⟩, by simp [intOf] <;> omega⟩
          · rw [HSK.out, HST.out]; rfl
          · rw [HKK.out, HST.out]; rfl
          · rw [HLF2.out]; exact HO.out
        | false =>
          have HST := Lib.hid hst
          clear hst
          go_upto_region 8 with fail
          rw [← HS.out]
          go_wp2_with fail
          go_quiet (fail)
          go_wp2_with fail
          refine ⟨⟨j + 1, by omega, by simp, ?_, ?_, ?_, HON.out, HT.out.drewN _⟩, by simp [intOf] <;> omega⟩
          · rw [HSK.out, HST.out]; simp; omega
          · rw [HKK.out, HST.out]
            simp only [Bool.false_eq_true, if_false]
            rw [if_neg (show ¬ 0 < f.1 by have := HPOS.out; omega)]
          · rw [HLF2.out]; exact HO.out
    · have hjl : j = r.faults.length := by omega
      subst hjl
      rw [List.take_length] at hO ⊢
      have hB2 := HB1.out.touch ht id
      obtain ⟨A8, c8, rfl, _, _, _⟩ := hO.form
      have hT2 : Touch (fun k => k = bd) w wr := HT1.out.trans ht fun _ _ => False.elim
      have hcs : ∀ v, (wr.setCell ⟨bd, 1, none⟩ v).cell? ⟨bd, 2, none⟩ = some (.int .i64 r.stop) := fun v => (hB2.set_ 1 v).cell 2
      have hfs : ∀ v, (wr.setCell ⟨bd, 1, none⟩ v).frozen? ⟨bd, 2, none⟩ = false := fun v => (hB2.set_ 1 v).frozen 2
      have hf1 : wr.frozen? ⟨bd, 1, none⟩ = false := hB2.frozen 1
      have hlvl : ∀ k, lv.ownBlock = some k → k ≠ bd := fun k hk e => H.out.row.ne_blk H.out.blk (by decide) (by rw [hk, e])
      have hul : ∀ k, (Value.slice A8 (Rk.left r.faults).length c8).ownBlock = some k → w.heap.size ≤ k := fun k hk => by have := hon k hk; have := HSZ.out; omega
      have hbl : bd < w.heap.size := H.out.blk.lt
      have hune : (Value.slice A8 (Rk.left r.faults).length c8).ownBlock ≠ some bd := fun e => by have := hul bd e; omega
      have hfin : ∀ (W : World) (s : Int), Blk W bd 100 #[lv, (.slice A8 (Rk.left r.faults).length c8), .int .i64 s, .int .i64 (r.count + 1)] → s = (if 0 < r.stop then r.stop - 1 else r.stop) → Touch (fun k => k = bd) w W → Own W 120 2 (.slice A8 (Rk.left r.faults).length c8) (Rk.left r.faults).length (fltCells (Rk.left r.faults)) → RDK W bd lv (.slice A8 (Rk.left r.faults).length c8) fs r.next := by
        intro W s hb hs ht hu
        refine ⟨H.out.fls, ?_, H.out.row.touch ht fun k hk e => hlvl k hk e, hu, fun f hf => (H.out.file f hf).touch ht fun k hk e => ?_⟩
        · subst hs; exact hb
        · exact (H.out.file f hf).ne_blk H.out.blk (by decide) (by rw [hk, e])
      have hfin1 : ¬ 0 < r.stop → Touch (fun k => k = bd) w (wr.setCell ⟨bd, 1, none⟩ (.slice A8 (Rk.left r.faults).length c8)) ∧ RDK (wr.setCell ⟨bd, 1, none⟩ (.slice A8 (Rk.left r.faults).length c8)) bd lv (.slice A8 (Rk.left r.faults).length c8) fs r.next := by
        intro hs
        have h1 := hT2.setCell (p := ⟨bd, 1, none⟩) (.inr rfl) (.slice A8 (Rk.left r.faults).length c8)
        exact ⟨h1, hfin _ r.stop (hB2.set_ 1 (.slice A8 (Rk.left r.faults).length c8)) (if_neg hs).symm h1 (hO.far (p := ⟨bd, 1, none⟩) hune _)⟩
      have hfin2 : 0 < r.stop → Touch (fun k => k = bd) w ((wr.setCell ⟨bd, 1, none⟩ (.slice A8 (Rk.left r.faults).length c8)).setCell ⟨bd, 2, none⟩ (.int .i64 (r.stop - 1))) ∧ RDK ((wr.setCell ⟨bd, 1, none⟩ (.slice A8 (Rk.left r.faults).length c8)).setCell ⟨bd, 2, none⟩ (.int .i64 (r.stop - 1))) bd lv (.slice A8 (Rk.left r.faults).length c8) fs r.next := by
        intro hs
        have h1 := (hT2.setCell (p := ⟨bd, 1, none⟩) (.inr rfl) (.slice A8 (Rk.left r.faults).length c8)).setCell (p := ⟨bd, 2, none⟩) (.inr rfl) (.int .i64 (r.stop - 1))
        exact ⟨h1, hfin _ (r.stop - 1) ((hB2.set_ 1 (.slice A8 (Rk.left r.faults).length c8)).set_ 2 _) (if_pos hs).symm h1 ((hO.far (p := ⟨bd, 1, none⟩) hune _).far (p := ⟨bd, 2, none⟩) hune _)⟩
      have HX1 := Lib.hid hfin1; have HX2 := Lib.hid hfin2; have HUL := Lib.hid hul
      have hlo := HN.out.lo
      have hhi := HN.out.hi
      have HWD := Lib.hid (show r.why file = if r.stop = 0 then 4 else if strk r.faults = true then 3 else if file < 0 then 1 else 0 from rfl)
      have HHF := Lib.hid r.half_eq
      have HHD := Lib.hid r.half_dead
      clear hfin hfin1 hfin2 hul hune hlvl hB2 hT2 hO hon ht HB1 HT1 HF1 HW1 HA H HN
      generalize strk r.faults = st at *
      by_cases hs0 : r.stop = 0
      · have HW := Lib.hid (show r.why file = 4 by rw [HWD.out, if_pos hs0])
        have HH := Lib.hid (HHD.out hs0)
        rw [hs0] at hcs
        go_wp2_with fail
        go_ret2
        exact ⟨ret_at HW.out.symm HH.out.symm, (HX1.out (by omega)).1, (.slice A8 (Rk.left r.faults).length c8), (HX1.out (by omega)).2, HUL.out⟩
      · by_cases hs1 : 0 < r.stop
        · cases st with
          | true =>
            have HW := Lib.hid (show r.why file = 3 by rw [HWD.out, if_neg hs0]; rfl)
            have HH := Lib.hid (HHF.out hs0)
            go_wp2_with fail
            go_ret2
            exact ⟨ret_at HW.out.symm HH.out.symm, (HX2.out hs1).1, (.slice A8 (Rk.left r.faults).length c8), (HX2.out hs1).2, HUL.out⟩
          | false =>
            have HH := Lib.hid (HHF.out hs0)
            by_cases hfl : file < 0
            · have HW := Lib.hid (show r.why file = 1 by rw [HWD.out, if_neg hs0]; simp [hfl])
              go_wp2_with fail
              go_ret2
              exact ⟨ret_at HW.out.symm HH.out.symm, (HX2.out hs1).1, (.slice A8 (Rk.left r.faults).length c8), (HX2.out hs1).2, HUL.out⟩
            · have HW := Lib.hid (show r.why file = 0 by rw [HWD.out, if_neg hs0]; simp [hfl])
              go_wp2_with fail
              go_ret2
              exact ⟨ret_at HW.out.symm HH.out.symm, (HX2.out hs1).1, (.slice A8 (Rk.left r.faults).length c8), (HX2.out hs1).2, HUL.out⟩
        · cases st with
          | true =>
            have HW := Lib.hid (show r.why file = 3 by rw [HWD.out, if_neg hs0]; rfl)
            have HH := Lib.hid (HHF.out hs0)
            go_wp2_with fail
            go_ret2
            exact ⟨ret_at HW.out.symm HH.out.symm, (HX1.out hs1).1, (.slice A8 (Rk.left r.faults).length c8), (HX1.out hs1).2, HUL.out⟩
          | false =>
            have HH := Lib.hid (HHF.out hs0)
            by_cases hfl : file < 0
            · have HW := Lib.hid (show r.why file = 1 by rw [HWD.out, if_neg hs0]; simp [hfl])
              go_wp2_with fail
              go_ret2
              exact ⟨ret_at HW.out.symm HH.out.symm, (HX1.out hs1).1, (.slice A8 (Rk.left r.faults).length c8), (HX1.out hs1).2, HUL.out⟩
            · have HW := Lib.hid (show r.why file = 0 by rw [HWD.out, if_neg hs0]; simp [hfl])
              go_wp2_with fail
              go_ret2
              exact ⟨ret_at HW.out.symm HH.out.symm, (HX1.out hs1).1, (.slice A8 (Rk.left r.faults).length c8), (HX1.out hs1).2, HUL.out⟩
end Go.Proofs.Ythmjnlkdoepmjaa
