/- The contract of the Delete of the document's disk. Conditions stand with it. -/
import Derived.Test.YthmjnlkdoepmjaaRsync
namespace Go.Proofs.Ythmjnlkdoepmjaa
open Go.RowKit

theorem rdel_fin {w w1 w5 : World} {bd P m c5 : Nat} {lv fv fv2 : Value} {fs : List RF} {r : Rk} {n : Int} {f : RF} {B5 : Option Addr} (hd : RDK w1 bd lv fv2 fs r.next) (ho : r.fs.Pairwise fun a b => a.n < b.n) (hh : Fl.hit n r.fs = true) (hP : P = Fl.pos n r.fs) (hf : fs[P]? = some f) (hw : r.why n = 0)
    (ht : Touch (fun k => k = bd) w w1) (hfoot : ∀ k, rfoot bd lv fv2 fs k → rfoot bd lv fv fs k ∨ w.heap.size ≤ k) (res : Ending) (h5 : Fresh w1 w5) (ho5 : Own w5 104 3 (.slice B5 m c5) m (rfCells (fs.take P) ++ rfCells (fs.drop (P + 1)))) (hm : m = fs.length - 1) (hn : ∀ k, (Value.slice B5 m c5).ownBlock = some k → w1.heap.size ≤ k) :
    RStep w bd lv fv fs (r.delete n) res res (w5.setCell ⟨bd, 0, none⟩ (.slice B5 m c5)) := by
  have h6 := hd.fresh h5
  have hlt : P < fs.length := (List.getElem?_eq_some_iff.1 hf).1
  have hT : Touch (fun k => k = bd) w1 (w5.setCell ⟨bd, 0, none⟩ (.slice B5 m c5)) := (Touch.mono (S' := fun k => k = bd) h5 fun _ _ => False.elim).setCell (p := ⟨bd, 0, none⟩) (.inr rfl) _
  have hl : (fs.take P ++ fs.drop (P + 1)).length = m := by rw [List.length_append, List.length_take, List.length_drop]; omega
  have hbl := hd.blk.lt
  have hne : (Value.slice B5 m c5).ownBlock ≠ some bd := fun e => by have := hn bd e; omega
  refine ⟨rfl, (ht.trans hT fun k _ e => e).mono fun k _ e => .inl e, .slice B5 m c5, fv2, fs.take P ++ fs.drop (P + 1), ⟨?_, ?_, ?_, ?_, ?_⟩, ?_⟩
  · have hs : r.delete n = { r.next with fs := r.fs.filter fun f => decide (f.n ≠ n) } := by unfold Rk.delete; rw [if_pos hw]
    rw [hs]
    show r.fs.filter (fun f => decide (f.n ≠ n)) = _
    rw [Fl.gone_pos ho, if_pos hh, ← hP, List.map_append, List.map_take, List.map_drop, ← hd.fls]
    rfl
  · have hs : r.delete n = { r.next with fs := r.fs.filter fun f => decide (f.n ≠ n) } := by unfold Rk.delete; rw [if_pos hw]
    rw [hs]
    exact h6.blk.set_ 0 _
  · rw [hl, rfCells_append]
    exact ho5.far (p := ⟨bd, 0, none⟩) hne _
  · have hs : r.delete n = { r.next with fs := r.fs.filter fun f => decide (f.n ≠ n) } := by unfold Rk.delete; rw [if_pos hw]
    rw [hs]
    exact h6.flt.far (p := ⟨bd, 0, none⟩) (h6.flt.ne_blk h6.blk (by decide)) _
  · intro f' hf'
    have hm' : f' ∈ fs := by
      rcases List.mem_append.1 hf' with h | h
      · exact List.mem_of_mem_take h
      · exact List.mem_of_mem_drop h
    exact (h6.file f' hm').far (p := ⟨bd, 0, none⟩) ((h6.file f' hm').ne_blk h6.blk (by decide)) _
  · rintro k (e | e | e | ⟨f', hf', e⟩)
    · exact .inl (.inl e)
    · exact .inr (Nat.le_trans ht.size (hn k e))
    · exact hfoot k (.inr (.inr (.inl e)))
    · have hm' : f' ∈ fs := by
        rcases List.mem_append.1 hf' with h | h
        · exact List.mem_of_mem_take h
        · exact List.mem_of_mem_drop h
      exact hfoot k (.inr (.inr (.inr ⟨f', hm', e⟩)))

set_option maxRecDepth 20000 in
set_option maxHeartbeats 4000000 in
theorem rdelete_any (w : World) (bd : Nat) (lv fv : Value) (fs : List RF) (r : Rk) (n : Int) {K : Nat} (h : RDK w bd lv fv fs r) (hk : r.fit K) (hK : K ≤ 1000000000) :
    Calls Try.prog 58 #[.pointer (some ⟨bd, 0, none⟩), .int .i64 n] w (RStep w bd lv fv fs (r.delete n) (.returned (.int .i64 (r.why n)))) := by
  obtain ⟨hr1, hr2⟩ := h.raws hk
  have HBG := Lib.hid (rbegin_any w bd lv fv fs r n h (by have := hk.count; omega) (by have := hk.faults; omega) hk.nums)
  have HRISE := Lib.hid hk.rise
  clear h hk
  go_enter Try.func58, Try.ntmps58
  go_wp2_with fail
  refine HBG.out.mono ?_
  rintro e w1 ⟨he, ht, fv2, hd2, hf2⟩
  subst he
  have HT := Lib.hid ht; have HD := Lib.hid hd2; have HFT := Lib.hid (RBeginEnd.foot (w := w) (bd := bd) (lv := lv) (fv := fv) (fs := fs) hf2)
  have HAT := Lib.hid (rat_any w1 bd lv fv2 fs r.next n hd2 (by omega))
  rw [show r.next.fs = r.fs from rfl] at HAT
  clear ht hd2 hf2 HBG
  go_wp2_with fail
  refine HAT.out.mono ?_
  rintro e w2 ⟨⟨q, rfl⟩, rfl⟩
  clear HAT
  obtain ⟨P, hP⟩ : ∃ P, P = Fl.pos n r.fs := ⟨_, rfl⟩
  have HP := Lib.hid hP
  rw [← hP]
  clear hP
  have HN := Lib.hid (show ∀ q', r.delete n = r.next → RStep w bd lv fv fs (r.delete n) (.returned (.int .i64 (r.why n))) (.returned (.int .i64 (r.why n))) (w1.drewN q') from fun q' e => by
    rw [e]
    exact ⟨rfl, (HT.out.mono fun k _ e => .inl e).drewN q', lv, fv2, fs, HD.out.fresh ((Touch.refl _ w1).drewN q'), HFT.out⟩)
  by_cases hw : r.why n = 0
  · cases hh : Fl.hit n r.fs with
    | true =>
      obtain ⟨f, hf, _⟩ := RDK.hit (r := r.next) HD.out hh
      rw [show Fl.pos n r.next.fs = P from HP.out.symm] at hf
      have hlt : P < fs.length := (List.getElem?_eq_some_iff.1 hf).1
      obtain ⟨A, c, hlv, hle, hcm, hA⟩ := HD.out.lform
      obtain ⟨g, rfl⟩ := hA (by omega)
      unfold maxLen at hcm
      have KF := Lib.hid (fun w5 B5 m c5 res h5 ho5 hm hn => rdel_fin (w := w) (fv := fv) (w5 := w5) (B5 := B5) (m := m) (c5 := c5) HD.out HRISE.out hh HP.out hf hw HT.out HFT.out res h5 ho5 hm hn)
      have HW := Lib.hid hw
      subst hlv
      have j0 : ∀ q' o, ((w1.drewN q').alloc o).cell? ⟨bd, 0, none⟩ = some (.slice (some ⟨g, 0, none⟩) fs.length c) := fun _ o => (HD.out.blk.alloc o).cell 0
      have j0b : ∀ q', (w1.drewN q').cell? ⟨bd, 0, none⟩ = some (.slice (some ⟨g, 0, none⟩) fs.length c) := fun _ => HD.out.blk.cell 0
      have KL := Lib.hid (show ∀ q', Own ((w1.drewN q').alloc (.cells #[] 104)) 104 3 (.slice (some ⟨w1.heap.size, 0, none⟩) 0 0) 0 [] from fun _ => Own.lit0 _ _ _)
      have KS1 := Lib.hid (show ∀ q', Src Try.prog 3 97 (.slice (some ⟨g, 0, none⟩) P c) P ((rfCells fs).take (P * 3)) ((w1.drewN q').alloc (.cells #[] 104)) from fun q' => Own.takeSrc ((HD.out.row.drewN q').alloc _) Try.underlying97 (rfCells_one HD.out.file) (Nat.le_of_lt hlt))
      have KO1 := Lib.hid (show ∀ u ∈ (rfCells fs).take (P * 3), u.oneCell' = true from fun u hu => rfCells_one HD.out.file u (List.mem_of_mem_take hu))
      have KB := Lib.hid (show ∀ w5, Fresh w1 w5 → w5.cell? ⟨bd, 0, none⟩ = some (.slice (some ⟨g, 0, none⟩) fs.length c) ∧ w5.frozen? ⟨bd, 0, none⟩ = false from fun w5 ht => ⟨(HD.out.blk.touch ht id).cell 0, (HD.out.blk.touch ht id).frozen 0⟩)
      have KN1 := Lib.hid (show ∀ (q' : Nat) (w4 : World) (_ : ((w1.drewN q').alloc (.cells #[] 104)).grownBy w4 (Value.slice (some ⟨w1.heap.size, 0, none⟩) 0 0).ownBlock) (B : Option Addr) (m c : Nat), ((Value.slice B m c).ownBlock = (Value.slice (some ⟨w1.heap.size, 0, none⟩) 0 0).ownBlock ∨ (Value.slice B m c).ownBlock = some ((w1.drewN q').alloc (.cells #[] 104)).heap.size) → Fresh w1 w4 ∧ ∀ k, (Value.slice B m c).ownBlock = some k → w1.heap.size ≤ k from by
        intro q' w4 hg B m c hb
        refine ⟨(((Touch.refl (fun _ => False) w1).drewN q').alloc _).grown hg fun k hk => .inl ?_, fun k hk => ?_⟩
        · simp only [Value.ownBlock, Option.some.injEq] at hk; omega
        · rcases hb with h | h
          · rw [hk] at h; simp only [Value.ownBlock, Option.some.injEq] at h; omega
          · rw [hk, alloc_size] at h; injection h with h; rw [h]; exact Nat.le_succ _)
      have KN2 := Lib.hid (show ∀ (w4 w5 : World) (B : Option Addr) (m c : Nat) (_ : Fresh w1 w4 ∧ ∀ k, (Value.slice B m c).ownBlock = some k → w1.heap.size ≤ k) (_ : w4.grownBy w5 (Value.slice B m c).ownBlock) (B' : Option Addr) (m' c' : Nat), ((Value.slice B' m' c').ownBlock = (Value.slice B m c).ownBlock ∨ (Value.slice B' m' c').ownBlock = some w4.heap.size) → Fresh w1 w5 ∧ ∀ k, (Value.slice B' m' c').ownBlock = some k → w1.heap.size ≤ k from by
        intro w4 w5 B m c h1 hg B' m' c' hb
        refine ⟨h1.1.grown hg fun k hk => .inl (h1.2 k hk), fun k hk => ?_⟩
        rcases hb with h | h
        · exact h1.2 k (h.symm.trans hk)
        · rw [hk] at h; injection h with h; have := h1.1.size; omega)
      rw [hw]
      clear hf hh hw HN HT HFT hA
      have gw : IntKind.i64.wrap ((P : Int) + 1) = (P : Int) + 1 := IntWalk.i64_in _ (by omega)
      have z1 : (P : Int) ≤ (P : Int) + 1 := by omega
      have z2 : P ≤ c := by omega
      have z4 : (P : Int) + 1 ≤ (fs.length : Int) := by omega
      have z5 : ((P : Int) + 1).toNat = P + 1 := by omega
      have z6 : (0 : Int) ≤ (P : Int) + 1 := by omega
      have z8 : P + 1 ≤ fs.length := by omega
      have z9 : P + 1 ≤ c := by omega
      by_cases hPc : P + 1 = c
      · subst hPc
        have hPf : fs.length - (P + 1) = 0 := by omega
        go_upto_region 4 with fail
        go_region_law ((first
          | (refine step_own_src _ rfl (.tmp 27) (.tmp 33) 97 97 rfl 104 (.agg #[.int .i64 0, .slice none 0 0, .int .i64 0]) 3 40 Try.info104 Try.underlying97 rfl (.slice (some ⟨w1.heap.size, 0, none⟩) 0 0) 0 [] rfl (KL.out (q + 1)) (by simp) (Value.slice (some ⟨g, 0, none⟩) P (P + 1)) P _ rfl (KS1.out (q + 1)) (by unfold maxLen; omega) (by omega) ?_; intro B4 c4 w4 o4 g4 b4; simp only [Nat.zero_add, List.nil_append] at o4 g4 b4 ⊢; have hT4 := Lib.hid (KN1.out (q + 1) w4 g4 B4 P c4 b4); have ho4 := Lib.hid o4; obtain ⟨a4, d4⟩ := KB.out w4 hT4.out.1; clear o4 g4 b4)
          | (refine step_own_src _ rfl (.tmp 34) (.tmp 41) 97 97 rfl 104 (.agg #[.int .i64 0, .slice none 0 0, .int .i64 0]) 3 40 Try.info104 Try.underlying97 rfl (.slice B4 P c4) P _ rfl ho4.out KO1.out (Value.slice (some ⟨g, 0, none⟩) 0 0) (0) _ rfl (Own.dropSrc0 (HD.out.row.touch hT4.out.1 fun _ _ => id) Try.underlying97 (k := P + 1) hle _ _ _ hPf.symm) (by unfold maxLen; omega) (by omega) ?_; intro B5 c5 w5 o5 g5 b5; have hT5 := Lib.hid (KN2.out w4 w5 _ _ _ hT4.out g5 B5 _ c5 b5); have ho5 := Lib.hid o5; obtain ⟨a5, d5⟩ := KB.out w5 hT5.out.1; clear o5 g5 b5)))
        all_goals
          have HS := Lib.hid (KF.out w5 B5 _ c5 (.returned (.int .i64 (r.why n))) hT5.out.1 (by rw [← rfCells_take, ← rfCells_drop]; exact ho5.out) (by omega) hT5.out.2)
          clear a4 d4 a5 d5 j0
          rw [HW.out] at HS
          go_wp2_with fail
          go_ret
          rw [HW.out]
          first
            | exact HS.out
            | exact HS.out.drew
      · have hPc2 : ¬ c = P + 1 := by omega
        go_upto_region 4 with fail
        go_region_law ((first
          | (refine step_own_src _ rfl (.tmp 27) (.tmp 33) 97 97 rfl 104 (.agg #[.int .i64 0, .slice none 0 0, .int .i64 0]) 3 40 Try.info104 Try.underlying97 rfl (.slice (some ⟨w1.heap.size, 0, none⟩) 0 0) 0 [] rfl (KL.out (q + 1)) (by simp) (Value.slice (some ⟨g, 0, none⟩) P c) P _ rfl (KS1.out (q + 1)) (by unfold maxLen; omega) (by omega) ?_; intro B4 c4 w4 o4 g4 b4; simp only [Nat.zero_add, List.nil_append] at o4 g4 b4 ⊢; have hT4 := Lib.hid (KN1.out (q + 1) w4 g4 B4 P c4 b4); have ho4 := Lib.hid o4; obtain ⟨a4, d4⟩ := KB.out w4 hT4.out.1; clear o4 g4 b4)
          | (refine step_own_src _ rfl (.tmp 34) (.tmp 41) 97 97 rfl 104 (.agg #[.int .i64 0, .slice none 0 0, .int .i64 0]) 3 40 Try.info104 Try.underlying97 rfl (.slice B4 P c4) P _ rfl ho4.out KO1.out (Value.slice (some ⟨g, (P + 1) * 3, none⟩) (fs.length - (P + 1)) (c - (P + 1))) (fs.length - (P + 1)) _ rfl (Own.dropSrc (HD.out.row.touch hT4.out.1 fun _ _ => id) Try.underlying97 (rfCells_one HD.out.file) (k := P + 1) hlt _ _ rfl) (by unfold maxLen; omega) (by omega) ?_; intro B5 c5 w5 o5 g5 b5; have hT5 := Lib.hid (KN2.out w4 w5 _ _ _ hT4.out g5 B5 _ c5 b5); have ho5 := Lib.hid o5; obtain ⟨a5, d5⟩ := KB.out w5 hT5.out.1; clear o5 g5 b5)))
        all_goals
          have HS := Lib.hid (KF.out w5 B5 _ c5 (.returned (.int .i64 (r.why n))) hT5.out.1 (by rw [← rfCells_take, ← rfCells_drop]; exact ho5.out) (by omega) hT5.out.2)
          clear a4 d4 a5 d5 j0
          rw [HW.out] at HS
          go_wp2_with fail
          go_ret
          rw [HW.out]
          first
            | exact HS.out
            | exact HS.out.drew
    | false =>
      have hs : r.delete n = r.next := by
        unfold Rk.delete
        rw [if_pos hw, Fl.gone_pos HRISE.out, hh]
        rfl
      have HS := Lib.hid (HN.out q hs)
      rw [hw] at HS
      have HW := Lib.hid hw
      rw [hw]
      clear hw hh HN
      go_wp2_with fail
      go_ret
      rw [HW.out]
      exact HS.out
  · have hs : r.delete n = r.next := by unfold Rk.delete; rw [if_neg hw]
    have HS := Lib.hid (HN.out q hs)
    generalize r.why n = y at *
    have hy : (y == 0) = false := by simpa using hw
    clear HN
    go_wp2_with fail
    go_ret
    exact HS.out
end Go.Proofs.Ythmjnlkdoepmjaa
