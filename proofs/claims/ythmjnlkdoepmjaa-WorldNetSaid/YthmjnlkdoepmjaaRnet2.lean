/- Look, Drop, Take and Double of the document's net. Conditions stand with each. -/
import Derived.Test.YthmjnlkdoepmjaaRnet
namespace Go.Proofs.Ythmjnlkdoepmjaa
open Go.RowKit

set_option maxRecDepth 20000 in
set_option maxHeartbeats 2000000 in
theorem lookR_any (bn : Nat) (most : Int) (rv : Value) (ps : List Pc) (i : Int) (w : World) (h : NT w 76 bn most rv ps) (hl : ps.length ≤ 1000000) :
    Calls Try.prog 47 #[.pointer (some ⟨bn, 0, none⟩), .int .i64 i] w fun e w' => Fresh w w' ∧ LookFin w (at_ (ps.map Pc.pl) i) e w' := by
  obtain ⟨RA, rc, rfl, hrc1, hrc2, hRA⟩ := h.row.form
  have c1 : ∀ o, (w.alloc o).cell? ⟨bn, 1, none⟩ = some (.slice RA ps.length rc) := fun o => (h.blk.alloc o).cell 1
  have H := Lib.hid h
  have hbn := h.blk.lt
  obtain ⟨w0, hw0⟩ : ∃ w0, w0 = w.alloc (.cells #[.int .i64 0, .int .i64 0, .slice none 0 0] 65) := ⟨_, rfl⟩
  have HW0 := Lib.hid hw0
  have HF0 := Lib.hid (show Fresh w w0 by rw [hw0]; exact (Touch.refl _ w).alloc _)
  have h4 : Blk w0 w.heap.size 65 #[.int .i64 0, .int .i64 0, .slice none 0 0] := by rw [hw0]; exact Blk.new _ _ _
  have H4 := Lib.hid h4
  have c40 := h4.cell 0
  have c41 := h4.cell 1
  have c42 := h4.cell 2
  have f4 := h4.frozen
  simp only [List.getElem?_toArray, List.getElem?_cons_zero, List.getElem?_cons_succ] at c40 c41 c42
  clear h hw0 h4
  have out : at_ (ps.map Pc.pl) i = none → ∀ (W : World) (e : Ending), e = .returned (.tuple #[.agg #[.int .i64 0, .int .i64 0, .slice none 0 0], .bool false]) → Fresh w W → Fresh w W ∧ LookFin w (at_ (ps.map Pc.pl) i) e W := fun hal W e he hf =>
    ⟨hf, ⟨0, 0, [], .slice none 0 0⟩, by rw [hal, he]; rfl, ⟨Row.nil_ _, by simp⟩, fun q hq => (by cases hq), by rw [hal]; rfl⟩
  have OUT := Lib.hid out
  clear out
  by_cases hi : i < 0
  · have HAL := Lib.hid (show at_ (ps.map Pc.pl) i = none by unfold at_; rw [if_pos hi])
    go_enter Try.func47, Try.ntmps47
    go_wp2_with fail
    rw [← HW0.out]
    refine bodyPost_ret (v := .tuple #[.agg #[.int .i64 0, .int .i64 0, .slice none 0 0], .bool false]) (by simp [results, Try.results47, go_sem, c40, c41, c42]) rfl (OUT.out HAL.out _ _ rfl HF0.out)
  · have hid : decide (i < 0) = false := by simpa using hi
    obtain ⟨m, rfl⟩ : ∃ m : Nat, i = (m : Int) := ⟨i.toNat, by omega⟩
    by_cases hm : m < ps.length
    · obtain ⟨p, hpm⟩ : ∃ p, ps[m]? = some p := ⟨_, List.getElem?_eq_getElem hm⟩
      have hmd : decide ((ps.length : Int) ≤ (m : Int)) = false := by simp; omega
      obtain ⟨g, rfl⟩ : ∃ g, RA = some ⟨g, 0, none⟩ := by
        rcases hRA with ⟨_, h0, _⟩ | ⟨g, hg⟩
        · omega
        · exact ⟨g, hg⟩
      have hro := H.out.row.touch HF0.out fun _ _ => id
      have hpv := H.out.byt p (List.mem_of_getElem? hpm)
      obtain ⟨pa, pb, raw, pv⟩ := p
      have hfm := hpv.1.form
      dsimp only at hfm
      obtain ⟨A, cp, rfl, hcp, hcm, _⟩ := hfm
      have g0 : (w.alloc (.cells #[.int .i64 0, .int .i64 0, .slice none 0 0] 65)).cell? ⟨g, m * 3, none⟩ = some (.int .i64 pa) := by
        have := hro.cell (j := m * 3 + 0) (by omega)
        rw [pcCells_get hpm 0 (by omega), HW0.out] at this
        exact this
      have g1 : (w.alloc (.cells #[.int .i64 0, .int .i64 0, .slice none 0 0] 65)).cell? ⟨g, m * 3 + 1, none⟩ = some (.int .i64 pb) := by
        have := hro.cell (j := m * 3 + 1) (by omega)
        rw [pcCells_get hpm 1 (by omega), HW0.out] at this
        exact this
      have g2 : (w.alloc (.cells #[.int .i64 0, .int .i64 0, .slice none 0 0] 65)).cell? ⟨g, m * 3 + 2, none⟩ = some (.slice A raw.length cp) := by
        have := hro.cell (j := m * 3 + 2) (by omega)
        rw [pcCells_get hpm 2 (by omega), HW0.out] at this
        exact this
      have HAL := Lib.hid (show at_ (ps.map Pc.pl) (m : Int) = some (pa, pb, raw) by rw [at_pos, List.getElem?_map, hpm]; rfl)
      have hraw := hpv.2
      have KC := Lib.hid (copiedR_any pa pb A raw.length cp raw w0 (Row.bs (hpv.1.touch HF0.out fun _ _ => id)) hraw)
      clear hi hRA hpm hro hpv OUT
      go_enter Try.func47, Try.ntmps47
      go_wp2_with fail
      rw [← HW0.out]
      refine KC.out.mono ?_
      rintro e w3 ⟨hf3, B3, c3, rfl, hr3, hn3⟩
      have h43 := H4.out.touch hf3 id
      have d40 := h43.cell 0
      have d41 := h43.cell 1
      have d42 := h43.cell 2
      have e4 := h43.frozen
      simp only [List.getElem?_toArray, List.getElem?_cons_zero, List.getElem?_cons_succ] at d40 d41 d42
      have HF3 := Lib.hid hf3; have HR3 := Lib.hid hr3; have HN3 := Lib.hid hn3; have H43 := Lib.hid h43
      clear hf3 hr3 hn3 h43
      go_wp2_with fail
      have hq := H43.out.puts_all [.int .i64 pa, .int .i64 pb, .slice B3 raw.length c3] rfl
      simp only [puts, Nat.zero_add] at hq
      have e0 := hq.cell 0
      have e1 := hq.cell 1
      have e2 := hq.cell 2
      simp only [List.getElem?_toArray, List.getElem?_cons_zero, List.getElem?_cons_succ] at e0 e1 e2
      have hne : (Value.slice B3 raw.length c3).ownBlock ≠ some w.heap.size := fun e => HR3.out.ne_blk H43.out (by decide) e
      refine bodyPost_ret (v := .tuple #[.agg #[.int .i64 pa, .int .i64 pb, .slice B3 raw.length c3], .bool true]) (by simp [results, Try.results47, go_sem, e0, e1, e2]) rfl ⟨?_, ⟨pa, pb, raw, .slice B3 raw.length c3⟩, by rw [HAL.out]; rfl, ?_, fun k hk => ?_, by rw [HAL.out]; rfl⟩
      · exact (((HF0.out.trans HF3.out fun _ _ => id).setCell (p := ⟨w.heap.size, 0, none⟩) (.inl (Nat.le_refl _)) _).setCell (p := ⟨w.heap.size, 1, none⟩) (.inl (Nat.le_refl _)) _).setCell (p := ⟨w.heap.size, 2, none⟩) (.inl (Nat.le_refl _)) _
      · exact ⟨((HR3.out.far (p := ⟨w.heap.size, 0, none⟩) hne _).far (p := ⟨w.heap.size, 1, none⟩) hne _).far (p := ⟨w.heap.size, 2, none⟩) hne _, hraw⟩
      · cases B3 with
        | none => cases hk
        | some x =>
          have h1 := HN3.out x rfl
          have h2 := HF0.out.size
          have h3 : x.block = k := by simpa [Value.ownBlock] using hk
          omega
    · have hmd : decide ((ps.length : Int) ≤ (m : Int)) = true := by simp; omega
      have HAL := Lib.hid (show at_ (ps.map Pc.pl) (m : Int) = none by rw [at_pos]; exact List.getElem?_eq_none (by simp; omega))
      clear hi
      go_enter Try.func47, Try.ntmps47
      go_wp2_with fail
      rw [← HW0.out]
      refine bodyPost_ret (v := .tuple #[.agg #[.int .i64 0, .int .i64 0, .slice none 0 0], .bool false]) (by simp [results, Try.results47, go_sem, c40, c41, c42]) rfl (OUT.out HAL.out _ _ rfl HF0.out)
end Go.Proofs.Ythmjnlkdoepmjaa
