/- Drop of the document's net. Conditions stand with it. -/
import Derived.Test.YthmjnlkdoepmjaaRnet2
namespace Go.Proofs.Ythmjnlkdoepmjaa
open Go.RowKit

theorem dropR_fin {w w5 : World} {t : TypeId} {bn m m5 c5 : Nat} {most : Int} {rv : Value} {ps : List Pc} {B5 : Option Addr} (ht : 65 ≠ t) (hu : 5 ≠ t) (h : NT w t bn most rv ps) (hm : m < ps.length) (hf : Fresh w w5)
    (ho : Own w5 65 3 (.slice B5 m5 c5) m5 ((pcCells ps).take (m * 3) ++ (pcCells ps).drop ((m + 1) * 3))) (hm5 : m5 = ps.length - 1) (hn : ∀ k, (Value.slice B5 m5 c5).ownBlock = some k → w.heap.size ≤ k) :
    NMove w t bn most rv ps ((ps.map Pc.pl).eraseIdx m) (w5.setCell ⟨bn, 1, none⟩ (.slice B5 m5 c5)) := by
  have hl : (ps.eraseIdx m).length = m5 := by rw [List.length_eraseIdx, if_pos hm, hm5]
  have hb5 := h.blk.touch hf id
  have hbn := h.blk.lt
  have hT2 : Touch (nfoot bn rv) w (w5.setCell ⟨bn, 1, none⟩ (.slice B5 m5 c5)) := (hf.mono fun _ _ h => h.elim).setCell (p := ⟨bn, 1, none⟩) (.inr (.inl rfl)) _
  have hsub : ∀ p ∈ ps.eraseIdx m, p ∈ ps := fun p hp => (List.eraseIdx_sublist ps m).subset hp
  refine ⟨.slice B5 m5 c5, ps.eraseIdx m, hT2, ⟨?_, ?_, fun p hp => ?_⟩, map_erase ps m, ?_, hsub⟩
  · have := hb5.set_ 1 (.slice B5 m5 c5)
    simpa using this
  · rw [hl, pcCells_erase]
    exact ho.far (p := ⟨bn, 1, none⟩) (ho.ne_blk hb5 ht) _
  · have hpv := h.byt p (hsub p hp)
    refine hpv.touch hT2 fun k hk => ?_
    rintro (e | e)
    · exact hpv.ne_blk h.blk hu (by rw [hk, e])
    · exact hpv.ne_row h.row k hk e
  · rintro k (e | e)
    · exact .inl (.inl e)
    · exact .inr (hn k e)

set_option maxRecDepth 20000 in
set_option maxHeartbeats 4000000 in
theorem dropR_any (bn : Nat) (most : Int) (rv : Value) (ps : List Pc) (i : Int) (w : World) (h : NT w 76 bn most rv ps) (hl : ps.length ≤ 1000000) :
    Calls Try.prog 43 #[.pointer (some ⟨bn, 0, none⟩), .int .i64 i] w fun e w' => e = .returned (.bool (at_ (ps.map Pc.pl) i).isSome) ∧ NMove w 76 bn most rv ps (del_ (ps.map Pc.pl) i) w' := by
  obtain ⟨RA, rc, rfl, hrc1, hrc2, hRA⟩ := h.row.form
  have c1 : w.cell? ⟨bn, 1, none⟩ = some (.slice RA ps.length rc) := h.blk.cell 1
  have H := Lib.hid h
  clear h
  have OUT := Lib.hid (show at_ (ps.map Pc.pl) i = none → (Ending.returned (.bool false) = .returned (.bool (at_ (ps.map Pc.pl) i).isSome) ∧ NMove w 76 bn most (.slice RA ps.length rc) ps (del_ (ps.map Pc.pl) i) w) from fun hal => by
    rw [del_none hal, hal]
    exact ⟨rfl, NMove.same H.out (Touch.refl _ _)⟩)
  by_cases hi : i < 0
  · have HAL := Lib.hid (show at_ (ps.map Pc.pl) i = none by unfold at_; rw [if_pos hi])
    go_enter Try.func43, Try.ntmps43
    go_wp2_with fail
    go_ret
    exact OUT.out HAL.out
  · have hid : decide (i < 0) = false := by simpa using hi
    obtain ⟨m, rfl⟩ : ∃ m : Nat, i = (m : Int) := ⟨i.toNat, by omega⟩
    by_cases hm : m < ps.length
    · have hmd : decide ((ps.length : Int) ≤ (m : Int)) = false := by simp; omega
      obtain ⟨g, rfl⟩ : ∃ g, RA = some ⟨g, 0, none⟩ := by
        rcases hRA with ⟨_, h0, _⟩ | ⟨g, hg⟩
        · omega
        · exact ⟨g, hg⟩
      have HAL := Lib.hid (show ∃ q, at_ (ps.map Pc.pl) (m : Int) = some q from ⟨_, by rw [at_pos]; exact List.getElem?_eq_getElem (by simpa using hm)⟩)
      unfold maxLen at hrc2
      have hle : m ≤ ps.length := Nat.le_of_lt hm
      have j0 : ∀ o, (w.alloc o).cell? ⟨bn, 1, none⟩ = some (.slice (some ⟨g, 0, none⟩) ps.length rc) := fun _ => (H.out.blk.alloc _).cell 1
      have KS1 := Lib.hid (show Src Try.prog 3 73 (.slice (some ⟨g, 0, none⟩) m rc) m ((pcCells ps).take (m * 3)) (w.alloc (.cells #[] 65)).drew from Own.takeSrc (Own.drew (H.out.row.alloc _)) Try.underlying73 (pcCells_one H.out.byt) hle)
      have KO1 := Lib.hid (show ∀ u ∈ (pcCells ps).take (m * 3), u.oneCell' = true from fun u hu => pcCells_one H.out.byt u (List.mem_of_mem_take hu))
      have KB := Lib.hid (show ∀ w5, Fresh w w5 → w5.cell? ⟨bn, 1, none⟩ = some (.slice (some ⟨g, 0, none⟩) ps.length rc) ∧ w5.frozen? ⟨bn, 1, none⟩ = false from fun w5 ht => ⟨(H.out.blk.touch ht id).cell 1, (H.out.blk.touch ht id).frozen 1⟩)
      have KN1 := Lib.hid (show ∀ (w4 : World) (_ : (w.alloc (.cells #[] 65)).drew.grownBy w4 (Value.slice (some ⟨w.heap.size, 0, none⟩) 0 0).ownBlock) (B : Option Addr) (m c : Nat), ((Value.slice B m c).ownBlock = (Value.slice (some ⟨w.heap.size, 0, none⟩) 0 0).ownBlock ∨ (Value.slice B m c).ownBlock = some (w.alloc (.cells #[] 65)).drew.heap.size) → Fresh w w4 ∧ ∀ k, (Value.slice B m c).ownBlock = some k → w.heap.size ≤ k from by
        intro w4 hg B m c hb
        refine ⟨((Touch.refl (fun _ => False) w).alloc _).drew.grown hg fun k hk => .inl ?_, fun k hk => ?_⟩
        · simp only [Value.ownBlock, Option.some.injEq] at hk; omega
        · rcases hb with h | h
          · rw [hk] at h; simp only [Value.ownBlock, Option.some.injEq] at h; omega
          · rw [hk] at h; injection h with h; rw [h]; show _ ≤ (w.alloc _).heap.size; rw [alloc_size]; exact Nat.le_succ _)
      have KN2 := Lib.hid (show ∀ (w4 w5 : World) (B : Option Addr) (m c : Nat) (_ : Fresh w w4 ∧ ∀ k, (Value.slice B m c).ownBlock = some k → w.heap.size ≤ k) (_ : w4.grownBy w5 (Value.slice B m c).ownBlock) (B' : Option Addr) (m' c' : Nat), ((Value.slice B' m' c').ownBlock = (Value.slice B m c).ownBlock ∨ (Value.slice B' m' c').ownBlock = some w4.heap.size) → Fresh w w5 ∧ ∀ k, (Value.slice B' m' c').ownBlock = some k → w.heap.size ≤ k from by
        intro w4 w5 B m c h1 hg B' m' c' hb
        refine ⟨h1.1.grown hg fun k hk => .inl (h1.2 k hk), fun k hk => ?_⟩
        rcases hb with h | h
        · exact h1.2 k (h.symm.trans hk)
        · rw [hk] at h; injection h with h; have := h1.1.size; omega)
      clear hi hRA OUT
      have gw : IntKind.i64.wrap ((m : Int) + 1) = (m : Int) + 1 := IntWalk.i64_in _ (by omega)
      have z1 : (m : Int) ≤ (m : Int) + 1 := by omega
      have z2 : m ≤ rc := by omega
      have z4 : (m : Int) + 1 ≤ (ps.length : Int) := by omega
      have z5 : ((m : Int) + 1).toNat = m + 1 := by omega
      have z6 : (0 : Int) ≤ (m : Int) + 1 := by omega
      have z8 : m + 1 ≤ ps.length := by omega
      have z9 : m + 1 ≤ rc := by omega
      go_enter Try.func43, Try.ntmps43
      by_cases hPc : m + 1 = rc
      · subst hPc
        have hPf : ps.length - (m + 1) = 0 := by omega
        go_upto_region 3 with fail
        go_region_law ((first
          | (refine step_own_src _ rfl (.tmp 17) (.tmp 23) 73 73 rfl 65 (.agg #[.int .i64 0, .int .i64 0, .slice none 0 0]) 3 40 Try.info65 Try.underlying73 rfl (.slice (some ⟨w.heap.size, 0, none⟩) 0 0) 0 [] rfl (Own.lit0 _ _ _) (by simp) (Value.slice (some ⟨g, 0, none⟩) m (m + 1)) m _ rfl (by exact KS1.out) (by unfold maxLen; omega) (by omega) ?_; intro B4 c4 w4 o4 g4 b4; simp only [Nat.zero_add, List.nil_append] at o4 g4 b4 ⊢; have hT4 := Lib.hid (KN1.out w4 g4 B4 m c4 b4); have ho4 := Lib.hid o4; obtain ⟨a4, d4⟩ := KB.out w4 hT4.out.1; clear o4 g4 b4)
          | (refine step_own_src _ rfl (.tmp 24) (.tmp 31) 73 73 rfl 65 (.agg #[.int .i64 0, .int .i64 0, .slice none 0 0]) 3 40 Try.info65 Try.underlying73 rfl (.slice B4 m c4) m _ rfl ho4.out KO1.out (Value.slice (some ⟨g, 0, none⟩) 0 0) (0) _ rfl (Own.dropSrc0 (H.out.row.touch hT4.out.1 fun _ _ => id) Try.underlying73 (k := m + 1) (by omega) _ _ _ hPf.symm) (by unfold maxLen; omega) (by omega) ?_; intro B5 c5 w5 o5 g5 b5; have hT5 := Lib.hid (KN2.out w4 w5 _ _ _ hT4.out g5 B5 _ c5 b5); have ho5 := Lib.hid o5; obtain ⟨a5, d5⟩ := KB.out w5 hT5.out.1; clear o5 g5 b5)))
        all_goals
          have HS := Lib.hid (dropR_fin (by decide) (by decide) H.out hm hT5.out.1 ho5.out (by omega) hT5.out.2)
          clear a4 d4 a5 d5 j0
          go_wp2_with fail
          go_ret
          obtain ⟨q, hq⟩ := HAL.out
          rw [hq, del_pos]
          exact ⟨rfl, HS.out⟩
      · have hPc2 : ¬ rc = m + 1 := by omega
        go_upto_region 3 with fail
        go_region_law ((first
          | (refine step_own_src _ rfl (.tmp 17) (.tmp 23) 73 73 rfl 65 (.agg #[.int .i64 0, .int .i64 0, .slice none 0 0]) 3 40 Try.info65 Try.underlying73 rfl (.slice (some ⟨w.heap.size, 0, none⟩) 0 0) 0 [] rfl (Own.lit0 _ _ _) (by simp) (Value.slice (some ⟨g, 0, none⟩) m rc) m _ rfl (by exact KS1.out) (by unfold maxLen; omega) (by omega) ?_; intro B4 c4 w4 o4 g4 b4; simp only [Nat.zero_add, List.nil_append] at o4 g4 b4 ⊢; have hT4 := Lib.hid (KN1.out w4 g4 B4 m c4 b4); have ho4 := Lib.hid o4; obtain ⟨a4, d4⟩ := KB.out w4 hT4.out.1; clear o4 g4 b4)
          | (refine step_own_src _ rfl (.tmp 24) (.tmp 31) 73 73 rfl 65 (.agg #[.int .i64 0, .int .i64 0, .slice none 0 0]) 3 40 Try.info65 Try.underlying73 rfl (.slice B4 m c4) m _ rfl ho4.out KO1.out (Value.slice (some ⟨g, (m + 1) * 3, none⟩) (ps.length - (m + 1)) (rc - (m + 1))) (ps.length - (m + 1)) _ rfl (Own.dropSrc (H.out.row.touch hT4.out.1 fun _ _ => id) Try.underlying73 (pcCells_one H.out.byt) (k := m + 1) (by omega) _ _ rfl) (by unfold maxLen; omega) (by omega) ?_; intro B5 c5 w5 o5 g5 b5; have hT5 := Lib.hid (KN2.out w4 w5 _ _ _ hT4.out g5 B5 _ c5 b5); have ho5 := Lib.hid o5; obtain ⟨a5, d5⟩ := KB.out w5 hT5.out.1; clear o5 g5 b5)))
        all_goals
          have HS := Lib.hid (dropR_fin (by decide) (by decide) H.out hm hT5.out.1 ho5.out (by omega) hT5.out.2)
          clear a4 d4 a5 d5 j0
          go_wp2_with fail
          go_ret
          obtain ⟨q, hq⟩ := HAL.out
          rw [hq, del_pos]
          exact ⟨rfl, HS.out⟩
    · have hmd : decide ((ps.length : Int) ≤ (m : Int)) = true := by simp; omega
      have HAL := Lib.hid (show at_ (ps.map Pc.pl) (m : Int) = none by rw [at_pos]; exact List.getElem?_eq_none (by simp; omega))
      clear hi
      go_enter Try.func43, Try.ntmps43
      go_wp2_with fail
      go_ret
      exact OUT.out HAL.out
end Go.Proofs.Ythmjnlkdoepmjaa
