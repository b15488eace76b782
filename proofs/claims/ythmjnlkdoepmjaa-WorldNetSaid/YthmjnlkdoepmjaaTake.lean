/- Take, Drop and Double of the program's net. Conditions stand with each. -/
import Derived.Test.YthmjnlkdoepmjaaLook
namespace Go.Proofs.Ythmjnlkdoepmjaa
open Go.RowKit

/-- the row without its parcel at place i -/
def del_ (qs : List (Int × Int × List UInt8)) (i : Int) : List (Int × Int × List UInt8) := if i < 0 then qs else qs.eraseIdx i.toNat
theorem del_pos {qs : List (Int × Int × List UInt8)} {m : Nat} : del_ qs (m : Int) = qs.eraseIdx m := by
  unfold del_
  rw [if_neg (by omega)]
  rfl
theorem at_lt {qs : List (Int × Int × List UInt8)} {i : Int} {q : Int × Int × List UInt8} (h : at_ qs i = some q) : ∃ m : Nat, i = (m : Int) ∧ m < qs.length ∧ qs[m]? = some q := by
  unfold at_ at h
  by_cases hi : i < 0
  · rw [if_pos hi] at h; cases h
  · rw [if_neg hi] at h
    exact ⟨i.toNat, by omega, (List.getElem?_eq_some_iff.1 h).1, h⟩
theorem del_none {qs : List (Int × Int × List UInt8)} {i : Int} (h : at_ qs i = none) : del_ qs i = qs := by
  unfold at_ at h
  unfold del_
  by_cases hi : i < 0
  · rw [if_pos hi]
  · rw [if_neg hi] at h ⊢
    exact List.eraseIdx_of_length_le (List.getElem?_eq_none_iff.1 h)
theorem pcCells_take (ps : List Pc) (m : Nat) : pcCells (ps.take m) = (pcCells ps).take (m * 3) := by
  induction ps generalizing m with
  | nil => simp [pcCells]
  | cons p ps ih =>
    cases m with
    | zero => simp [pcCells]
    | succ m =>
      rw [List.take_succ_cons, show pcCells (p :: ps.take m) = p.cells ++ pcCells (ps.take m) from rfl, show pcCells (p :: ps) = p.cells ++ pcCells ps from rfl, ih, List.take_append, List.take_of_length_le (l := p.cells) (by show 3 ≤ (m + 1) * 3; omega)]
      congr 2
      show m * 3 = (m + 1) * 3 - 3
      omega
theorem pcCells_drop (ps : List Pc) (m : Nat) : pcCells (ps.drop m) = (pcCells ps).drop (m * 3) := by
  induction ps generalizing m with
  | nil => simp [pcCells]
  | cons p ps ih =>
    cases m with
    | zero => simp
    | succ m =>
      rw [List.drop_succ_cons, show pcCells (p :: ps) = p.cells ++ pcCells ps from rfl, ih, List.drop_append, List.drop_of_length_le (l := p.cells) (by show 3 ≤ (m + 1) * 3; omega), List.nil_append]
      congr 1
      show m * 3 = (m + 1) * 3 - 3
      omega
theorem pcCells_erase (ps : List Pc) (m : Nat) : pcCells (ps.eraseIdx m) = (pcCells ps).take (m * 3) ++ (pcCells ps).drop ((m + 1) * 3) := by
  rw [List.eraseIdx_eq_take_drop_succ, pcCells_append, pcCells_take, pcCells_drop]
/-- what a call that takes a parcel out leaves of the net -/
def NGot (w : World) (t : TypeId) (bn : Nat) (most : Int) (rv : Value) (ps : List Pc) (qs : List (Int × Int × List UInt8)) (rv' : Value) (ps' : List Pc) (w' : World) : Prop :=
  Touch (nfoot bn rv) w w' ∧ NT w' t bn most rv' ps' ∧ ps'.map Pc.pl = qs ∧ (∀ k, nfoot bn rv' k → nfoot bn rv k ∨ w.heap.size ≤ k) ∧ (∀ p ∈ ps', p ∈ ps)
def NMove (w : World) (t : TypeId) (bn : Nat) (most : Int) (rv : Value) (ps : List Pc) (qs : List (Int × Int × List UInt8)) (w' : World) : Prop := ∃ rv' ps', NGot w t bn most rv ps qs rv' ps' w'
theorem NGot.after {w w' w'' : World} {t : TypeId} {bn b : Nat} {most : Int} {rv rv' : Value} {ps : List Pc} {qs : List (Int × Int × List UInt8)} {ps' : List Pc} (h : NGot w t bn most rv ps qs rv' ps' w') (hl : ∀ p ∈ ps, ∀ k, p.v.ownBlock = some k → k < w.heap.size) (hT : Touch (fun k => k = b) w' w'') (hb : w.heap.size ≤ b) (hne : ¬ nfoot bn rv' b) : NGot w t bn most rv ps qs rv' ps' w'' := by
  obtain ⟨h1, h2, h3, h4, h5⟩ := h
  refine ⟨h1.trans hT fun k hk e => ?_, h2.touch hT (fun k hk e => hne (by rw [← e]; exact hk)) fun p hp k hk e => ?_, h3, h4, h5⟩
  · omega
  · have := hl p (h5 p hp) k hk
    omega
theorem NT.byt_lt {w : World} {t : TypeId} {bn : Nat} {most : Int} {rv : Value} {ps : List Pc} (h : NT w t bn most rv ps) : ∀ p ∈ ps, ∀ k, p.v.ownBlock = some k → k < w.heap.size := fun p hp k hk => (h.byt p hp).1.lt k hk
theorem NMove.same {w w' : World} {t : TypeId} {bn : Nat} {most : Int} {rv : Value} {ps : List Pc} (h : NT w t bn most rv ps) (hf : Fresh w w') : NMove w t bn most rv ps (ps.map Pc.pl) w' :=
  ⟨rv, ps, hf.mono fun _ _ h => h.elim, h.fresh hf, rfl, fun _ h => .inl h, fun _ h => h⟩
theorem map_erase (ps : List Pc) (m : Nat) : (ps.eraseIdx m).map Pc.pl = (ps.map Pc.pl).eraseIdx m := by
  rw [List.eraseIdx_eq_take_drop_succ, List.eraseIdx_eq_take_drop_succ, List.map_append, List.map_take, List.map_drop]
theorem NT.erase {w w2 w3 : World} {t : TypeId} {bn g c m : Nat} {most : Int} {ps : List Pc} (ht : 65 ≠ t) (hu : 5 ≠ t) (h : NT w t bn most (.slice (some ⟨g, 0, none⟩) ps.length c) ps) (hm : m < ps.length) (hf : Fresh w w2) (hT : Touch (fun k => k = g) w2 w3)
    (ho : Own w3 65 3 (.slice (some ⟨g, 0, none⟩) (ps.length - 1) c) (ps.length - 1) ((pcCells ps).take (m * 3) ++ (pcCells ps).drop ((m + 1) * 3))) :
    NGot w t bn most (.slice (some ⟨g, 0, none⟩) ps.length c) ps ((ps.map Pc.pl).eraseIdx m) (.slice (some ⟨g, 0, none⟩) (ps.length - 1) c) (ps.eraseIdx m) (w3.setCell ⟨bn, 1, none⟩ (.slice (some ⟨g, 0, none⟩) (ps.length - 1) c)) := by
  have hl : (ps.eraseIdx m).length = ps.length - 1 := by rw [List.length_eraseIdx, if_pos hm]
  have hgb : g ≠ bn := fun e => h.row.ne_blk h.blk ht (by rw [← e]; rfl)
  have hb3 := (h.blk.touch hf id).touch hT fun e => hgb e.symm
  have hT2 : Touch (nfoot bn (.slice (some ⟨g, 0, none⟩) ps.length c)) w (w3.setCell ⟨bn, 1, none⟩ (.slice (some ⟨g, 0, none⟩) (ps.length - 1) c)) :=
    ((hf.mono fun _ _ h => h.elim).trans hT fun k _ e => .inr (by rw [e]; rfl)).setCell (p := ⟨bn, 1, none⟩) (.inr (.inl rfl)) _
  have hsub : ∀ p ∈ ps.eraseIdx m, p ∈ ps := fun p hp => (List.eraseIdx_sublist ps m).subset hp
  refine ⟨hT2, ⟨?_, ?_, fun p hp => ?_⟩, map_erase ps m, fun k hk => .inl hk, hsub⟩
  · have := hb3.set_ 1 (.slice (some ⟨g, 0, none⟩) (ps.length - 1) c)
    simpa using this
  · rw [hl, pcCells_erase]
    exact ho.far (p := ⟨bn, 1, none⟩) (fun e => hgb (by injection e)) _
  · have hpv := h.byt p (hsub p hp)
    refine hpv.touch hT2 fun k hk => ?_
    rintro (e | e)
    · exact hpv.ne_blk h.blk hu (by rw [hk, e])
    · exact hpv.ne_row h.row k hk e

set_option maxRecDepth 20000 in
set_option maxHeartbeats 2000000 in
theorem takeW_any (bn : Nat) (most : Int) (rv : Value) (ps : List Pc) (i : Int) (w : World) (h : NT w 110 bn most rv ps) (hl : ps.length ≤ 1000000) :
    Calls Try.prog 38 #[.pointer (some ⟨bn, 0, none⟩), .int .i64 i] w fun e w' => LookFin w (at_ (ps.map Pc.pl) i) e w' ∧ NMove w 110 bn most rv ps (del_ (ps.map Pc.pl) i) w' := by
  have H := Lib.hid h
  clear h
  obtain ⟨w0, hw0⟩ : ∃ w0, w0 = w.alloc (.cells #[.int .i64 0, .int .i64 0, .slice none 0 0] 65) := ⟨_, rfl⟩
  have HW0 := Lib.hid hw0
  have HF0 := Lib.hid (show Fresh w w0 by rw [hw0]; exact (Touch.refl _ w).alloc _)
  have H4 := Lib.hid (show Blk w0 w.heap.size 65 #[.int .i64 0, .int .i64 0, .slice none 0 0] by rw [hw0]; exact Blk.new _ _ _)
  clear hw0
  go_enter Try.func38, Try.ntmps38
  go_wp2_with fail
  rw [← HW0.out]
  refine (lookW_any bn most rv ps i w0 (H.out.fresh HF0.out) hl).mono ?_
  rintro e w1 ⟨hf1, ⟨pa, pb, raw, pv⟩, rfl, hpv, hnew, hpl⟩
  have hfm := hpv.1.form
  dsimp only at hfm
  obtain ⟨A, cp, rfl, hcp, hcm, _⟩ := hfm
  have HPV := Lib.hid hpv; have HNEW := Lib.hid hnew; have HPL := Lib.hid hpl; have HF1 := Lib.hid hf1
  clear hpv hnew hpl hf1 hcp hcm
  have h4a : ∀ o, Blk (w1.alloc o) w.heap.size 65 #[.int .i64 0, .int .i64 0, .slice none 0 0] := fun o => (H4.out.touch HF1.out id).alloc o
  have c40 : ∀ o, (w1.alloc o).cell? ⟨w.heap.size, 0, none⟩ = some (.int .i64 0) := fun o => (h4a o).cell 0
  have c41 : ∀ o, (w1.alloc o).cell? ⟨w.heap.size, 1, none⟩ = some (.int .i64 0) := fun o => (h4a o).cell 1
  have c42 : ∀ o, (w1.alloc o).cell? ⟨w.heap.size, 2, none⟩ = some (.slice none 0 0) := fun o => (h4a o).cell 2
  have f4 : ∀ o j, (w1.alloc o).frozen? ⟨w.heap.size, j, none⟩ = false := fun o j => (h4a o).frozen j
  have H4A := Lib.hid h4a
  have hs0 := HF0.out.size
  have hs1 := HF1.out.size
  have hs2 : w.heap.size < w0.heap.size := H4.out.lt
  clear h4a
  cases hat : at_ (ps.map Pc.pl) i with
  | none =>
    rw [hat] at HPL
    have HAT := Lib.hid hat
    clear hat
    go_wp2_with fail
    have hq := (H4A.out (.cells #[.int .i64 pa, .int .i64 pb, .slice A raw.length cp] 65)).puts_all [.int .i64 pa, .int .i64 pb, .slice A raw.length cp] rfl
    simp only [puts, Nat.zero_add] at hq
    have e0 := hq.cell 0
    have e1 := hq.cell 1
    have e2 := hq.cell 2
    simp only [List.getElem?_toArray, List.getElem?_cons_zero, List.getElem?_cons_succ] at e0 e1 e2
    have hT1 : Fresh w0 (w1.alloc (.cells #[.int .i64 pa, .int .i64 pb, .slice A raw.length cp] 65)) := HF1.out.alloc _
    have hpv1 := HPV.out.touch (show Fresh w1 (w1.alloc (.cells #[.int .i64 pa, .int .i64 pb, .slice A raw.length cp] 65)) from (Touch.refl _ _).alloc _) fun _ _ => id
    have hT : Fresh w ((((w1.alloc (.cells #[.int .i64 pa, .int .i64 pb, .slice A raw.length cp] 65)).setCell ⟨w.heap.size, 0, none⟩ (.int .i64 pa)).setCell ⟨w.heap.size, 1, none⟩ (.int .i64 pb)).setCell ⟨w.heap.size, 2, none⟩ (.slice A raw.length cp)) :=
      (((HF0.out.trans hT1 fun _ _ => id).setCell (p := ⟨w.heap.size, 0, none⟩) (.inl (Nat.le_refl _)) _).setCell (p := ⟨w.heap.size, 1, none⟩) (.inl (Nat.le_refl _)) _).setCell (p := ⟨w.heap.size, 2, none⟩) (.inl (Nat.le_refl _)) _
    have hne : (Value.slice A raw.length cp).ownBlock ≠ some w.heap.size := fun e => hpv1.ne_blk (H4A.out _) (by decide) e
    refine bodyPost_ret (v := .tuple #[.agg #[.int .i64 pa, .int .i64 pb, .slice A raw.length cp], .bool false]) (by simp [results, Try.results38, go_sem, e0, e1, e2]) rfl ⟨⟨⟨pa, pb, raw, .slice A raw.length cp⟩, by rw [HAT.out]; rfl, ?_, fun k hk => ?_, by rw [HAT.out]; exact HPL.out⟩, ?_⟩
    · exact ⟨((hpv1.1.far (p := ⟨w.heap.size, 0, none⟩) hne _).far (p := ⟨w.heap.size, 1, none⟩) hne _).far (p := ⟨w.heap.size, 2, none⟩) hne _, hpv1.2⟩
    · have := HNEW.out k hk
      omega
    · rw [del_none HAT.out]
      exact NMove.same H.out hT
  | some q =>
    rw [hat] at HPL
    obtain ⟨m, rfl, hm, hq⟩ := at_lt hat
    rw [List.length_map] at hm
    obtain ⟨RA, rc, rfl, hrc1, hrc2, hRA⟩ := H.out.row.form
    obtain ⟨g, rfl⟩ : ∃ g, RA = some ⟨g, 0, none⟩ := by
      rcases hRA with ⟨_, h0, _⟩ | ⟨g, hg⟩
      · omega
      · exact ⟨g, hg⟩
    have hb2 : ∀ o, Blk (w1.alloc o) bn 110 #[.int .i64 most, .slice (some ⟨g, 0, none⟩) ps.length rc] := fun o => ((H.out.blk.touch HF0.out id).touch HF1.out id).alloc o
    have n1 : ∀ o, (w1.alloc o).cell? ⟨bn, 1, none⟩ = some (.slice (some ⟨g, 0, none⟩) ps.length rc) := fun o => (hb2 o).cell 1
    have HB2 := Lib.hid hb2
    have hbn := H.out.blk.lt
    have hgn := H.out.row.lt g rfl
    have hgb : g ≠ bn := fun e => H.out.row.ne_blk H.out.blk (by decide) (by rw [← e]; rfl)
    have HAT := Lib.hid hat
    clear hq hat hb2 hRA
    go_wp2_with fail
    obtain ⟨w2, hw2⟩ : ∃ w2, w2 = w1.alloc (.cells #[.int .i64 pa, .int .i64 pb, .slice A raw.length cp] 65) := ⟨_, rfl⟩
    rw [← hw2]
    have HF2 := Lib.hid (show Fresh w1 w2 by rw [hw2]; exact (Touch.refl _ _).alloc _)
    have HX := Lib.hid (show Blk w2 w1.heap.size 65 #[.int .i64 pa, .int .i64 pb, .slice A raw.length cp] by rw [hw2]; exact Blk.new _ _ _)
    have H42 := Lib.hid (H4A.out (.cells #[.int .i64 pa, .int .i64 pb, .slice A raw.length cp] 65))
    have HN2 := Lib.hid (HB2.out (.cells #[.int .i64 pa, .int .i64 pb, .slice A raw.length cp] 65))
    rw [← hw2] at H42 HN2
    have HF02 := Lib.hid (show Fresh w w2 from (HF0.out.trans HF1.out fun _ _ => id).trans HF2.out fun _ _ => id)
    clear hw2 c40 c41 c42 f4 n1
    refine (deleteP_any g ps.length rc m (pcCells ps) w2 (H.out.row.touch HF02.out fun _ _ => id) (pcCells_one H.out.byt) hl hm).mono ?_
    rintro e w3 ⟨hT3, rfl, ho3⟩
    have h43 := H42.out.touch hT3 (show ¬ w.heap.size = g by omega)
    have hx3 := HX.out.touch hT3 (show ¬ w1.heap.size = g by omega)
    have hn3 := HN2.out.touch hT3 (fun e => hgb e.symm)
    have h43s : ∀ u, Blk (w3.setCell ⟨bn, 1, none⟩ u) w.heap.size 65 #[.int .i64 0, .int .i64 0, .slice none 0 0] := fun u => h43.far (p := ⟨bn, 1, none⟩) (show w.heap.size ≠ bn by omega) u
    have hx3s : ∀ u, Blk (w3.setCell ⟨bn, 1, none⟩ u) w1.heap.size 65 #[.int .i64 pa, .int .i64 pb, .slice A raw.length cp] := fun u => hx3.far (p := ⟨bn, 1, none⟩) (show w1.heap.size ≠ bn by omega) u
    have n3 := hn3.cell 1
    have f3 := hn3.frozen 1
    have c40 : ∀ u, (w3.setCell ⟨bn, 1, none⟩ u).cell? ⟨w.heap.size, 0, none⟩ = some (.int .i64 0) := fun u => (h43s u).cell 0
    have c41 : ∀ u, (w3.setCell ⟨bn, 1, none⟩ u).cell? ⟨w.heap.size, 1, none⟩ = some (.int .i64 0) := fun u => (h43s u).cell 1
    have c42 : ∀ u, (w3.setCell ⟨bn, 1, none⟩ u).cell? ⟨w.heap.size, 2, none⟩ = some (.slice none 0 0) := fun u => (h43s u).cell 2
    have f4 : ∀ u j, (w3.setCell ⟨bn, 1, none⟩ u).frozen? ⟨w.heap.size, j, none⟩ = false := fun u j => (h43s u).frozen j
    have x0 : ∀ u, (w3.setCell ⟨bn, 1, none⟩ u).cell? ⟨w1.heap.size, 0, none⟩ = some (.int .i64 pa) := fun u => (hx3s u).cell 0
    have x1 : ∀ u, (w3.setCell ⟨bn, 1, none⟩ u).cell? ⟨w1.heap.size, 1, none⟩ = some (.int .i64 pb) := fun u => (hx3s u).cell 1
    have x2 : ∀ u, (w3.setCell ⟨bn, 1, none⟩ u).cell? ⟨w1.heap.size, 2, none⟩ = some (.slice A raw.length cp) := fun u => (hx3s u).cell 2
    have HM := Lib.hid (H.out.erase (by decide) (by decide) hm HF02.out hT3 ho3)
    have H43S := Lib.hid h43s
    have HT3 := Lib.hid hT3
    simp only [List.getElem?_toArray, List.getElem?_cons_zero, List.getElem?_cons_succ] at n3
    clear hT3 ho3 h43 hx3 hn3 h43s hx3s
    go_wp2_with fail
    obtain ⟨w4, hw4⟩ : ∃ w4, w4 = w3.setCell ⟨bn, 1, none⟩ (.slice (some ⟨g, 0, none⟩) (ps.length - 1) rc) := ⟨_, rfl⟩
    have hb4 := H43S.out (.slice (some ⟨g, 0, none⟩) (ps.length - 1) rc)
    have hm4 := HM.out
    rw [← hw4] at hm4 hb4 ⊢
    have hq := hb4.puts_all [.int .i64 pa, .int .i64 pb, .slice A raw.length cp] rfl
    simp only [puts, Nat.zero_add] at hq
    have e0 := hq.cell 0
    have e1 := hq.cell 1
    have e2 := hq.cell 2
    simp only [List.getElem?_toArray, List.getElem?_cons_zero, List.getElem?_cons_succ] at e0 e1 e2
    have hTe : Touch (fun k => k = w.heap.size) w4 (((w4.setCell ⟨w.heap.size, 0, none⟩ (.int .i64 pa)).setCell ⟨w.heap.size, 1, none⟩ (.int .i64 pb)).setCell ⟨w.heap.size, 2, none⟩ (.slice A raw.length cp)) :=
      (((Touch.refl (fun k => k = w.heap.size) w4).setCell (p := ⟨w.heap.size, 0, none⟩) (.inr rfl) _).setCell (p := ⟨w.heap.size, 1, none⟩) (.inr rfl) _).setCell (p := ⟨w.heap.size, 2, none⟩) (.inr rfl) _
    have hT34 : Touch (fun k => k = g ∨ k = bn) w2 w4 := by rw [hw4]; exact (HT3.out.mono fun k _ e => .inl e).setCell (p := ⟨bn, 1, none⟩) (.inr (.inr rfl)) _
    have hpv2 := HPV.out.touch HF2.out fun _ _ => id
    have hpv4 : PcV w4 ⟨pa, pb, raw, .slice A raw.length cp⟩ := hpv2.touch hT34 fun k hk e => by
      have := HNEW.out k hk
      omega
    refine bodyPost_ret (v := .tuple #[.agg #[.int .i64 pa, .int .i64 pb, .slice A raw.length cp], .bool true]) (by simp [results, Try.results38, go_sem, e0, e1, e2]) rfl ⟨⟨⟨pa, pb, raw, .slice A raw.length cp⟩, by rw [HAT.out]; rfl, hpv4.touch hTe (fun k hk e => hpv4.ne_blk hb4 (by decide) (by rw [hk, e])), fun k hk => ?_, by rw [HAT.out]; exact HPL.out⟩, ?_⟩
    · have := HNEW.out k hk
      omega
    · rw [del_pos]
      refine ⟨_, _, hm4.after H.out.byt_lt hTe (Nat.le_refl _) ?_⟩
      rintro (e | e)
      · omega
      · injection e with e
        have e2 : g = w.heap.size := e
        omega

theorem NGot.fresh {w w' w'' : World} {t : TypeId} {bn : Nat} {most : Int} {rv rv' : Value} {ps : List Pc} {qs : List (Int × Int × List UInt8)} {ps' : List Pc} (h : NGot w t bn most rv ps qs rv' ps' w') (hf : Fresh w' w'') : NGot w t bn most rv ps qs rv' ps' w'' := by
  obtain ⟨h1, h2, h3, h4, h5⟩ := h
  exact ⟨h1.trans hf fun k hk e => e.elim, h2.fresh hf, h3, h4, h5⟩
set_option maxRecDepth 20000 in
theorem dropW_any (bn : Nat) (most : Int) (rv : Value) (ps : List Pc) (i : Int) (w : World) (h : NT w 110 bn most rv ps) (hl : ps.length ≤ 1000000) :
    Calls Try.prog 42 #[.pointer (some ⟨bn, 0, none⟩), .int .i64 i] w fun e w' => e = .returned (.bool (at_ (ps.map Pc.pl) i).isSome) ∧ NMove w 110 bn most rv ps (del_ (ps.map Pc.pl) i) w' := by
  have KT := Lib.hid (takeW_any bn most rv ps i w h hl)
  clear h
  go_enter Try.func42, Try.ntmps42
  go_wp2_with fail
  refine KT.out.mono ?_
  rintro e w1 ⟨⟨⟨pa, pb, raw, pv⟩, rfl, hpv, hnew, hpl⟩, hm⟩
  have hfm := hpv.1.form
  dsimp only at hfm
  obtain ⟨A, cp, rfl, hcp, hcm, _⟩ := hfm
  have HM := Lib.hid hm
  clear hpv hnew hpl hcp hcm hm
  go_wp2_with fail
  go_ret
  obtain ⟨rv', ps', hg⟩ := HM.out
  exact ⟨rfl, rv', ps', hg.fresh ((Touch.refl _ _).alloc _)⟩
/-- what Double leaves -/
def dbl_ (most : Int) (qs : List (Int × Int × List UInt8)) (i : Int) : List (Int × Int × List UInt8) × Bool :=
  match at_ qs i with
  | none => (qs, false)
  | some q => if most ≤ qs.length then (qs, false) else (qs ++ [q], true)
theorem NStep.from_ {w w2 w' : World} {t : TypeId} {bn : Nat} {most : Int} {rv : Value} {ps : List Pc} {qs : List (Int × Int × List UInt8)} {res e : Ending} (hf : Fresh w w2) (h : NStep w2 t bn most rv ps qs res e w') : NStep w t bn most rv ps qs res e w' := by
  obtain ⟨h1, h2, rv', ps', h3, h4, h5, h6⟩ := h
  refine ⟨h1, hf.mono (fun _ _ h => h.elim) |>.trans h2 (fun _ _ h => h), rv', ps', h3, h4, fun k hk => (h5 k hk).elim .inl fun h => .inr (Nat.le_trans hf.size h), fun p hp => (h6 p hp).imp id fun h k hk => Nat.le_trans hf.size (h k hk)⟩
set_option maxRecDepth 20000 in
theorem doubleW_any (bn : Nat) (most : Int) (rv : Value) (ps : List Pc) (i : Int) (w : World) (h : NT w 110 bn most rv ps) (hl : ps.length ≤ 1000000) :
    Calls Try.prog 44 #[.pointer (some ⟨bn, 0, none⟩), .int .i64 i] w fun e w' => NStep w 110 bn most rv ps (dbl_ most (ps.map Pc.pl) i).1 (.returned (.bool (dbl_ most (ps.map Pc.pl) i).2)) e w' := by
  have KT := Lib.hid (lookW_any bn most rv ps i w h hl)
  have H := Lib.hid h
  clear h
  go_enter Try.func44, Try.ntmps44
  go_wp2_with fail
  refine KT.out.mono ?_
  rintro e w1 ⟨hf1, ⟨pa, pb, raw, pv⟩, rfl, hpv, hnew, hpl⟩
  have hfm := hpv.1.form
  dsimp only at hfm
  obtain ⟨A, cp, rfl, hcp, hcm, _⟩ := hfm
  have HPV := Lib.hid hpv; have HPL := Lib.hid hpl; have HF1 := Lib.hid hf1
  clear hpv hnew hpl hcp hcm hf1
  cases hat : at_ (ps.map Pc.pl) i with
  | none =>
    have HD := Lib.hid (show dbl_ most (ps.map Pc.pl) i = (ps.map Pc.pl, false) by unfold dbl_; rw [hat])
    clear hat HPL
    go_wp2_with fail
    go_ret
    rw [HD.out]
    exact H.out.step (HF1.out.alloc _)
  | some q =>
    rw [hat] at HPL
    have hpl := HPL.out
    simp only [Option.getD_some, Pc.pl] at hpl
    have HD := Lib.hid (show dbl_ most (ps.map Pc.pl) i = if most ≤ ps.length then (ps.map Pc.pl, false) else (ps.map Pc.pl ++ [(pa, pb, raw)], true) by unfold dbl_; rw [hat, List.length_map, ← hpl])
    obtain ⟨w2, hw2⟩ : ∃ w2, w2 = w1.alloc (.cells #[.int .i64 pa, .int .i64 pb, .slice A raw.length cp] 65) := ⟨_, rfl⟩
    have HW2 := Lib.hid hw2
    have HF2 := Lib.hid (show Fresh w1 w2 by rw [hw2]; exact (Touch.refl _ _).alloc _)
    have hx := Blk.new w1 65 #[.int .i64 pa, .int .i64 pb, .slice A raw.length cp]
    rw [← hw2] at hx
    have x0 := hx.cell 0
    have x1 := hx.cell 1
    have x2 := hx.cell 2
    simp only [List.getElem?_toArray, List.getElem?_cons_zero, List.getElem?_cons_succ] at x0 x1 x2
    have hf02 : Fresh w w2 := HF1.out.trans HF2.out fun _ _ => id
    have HF02 := Lib.hid hf02
    have hraw : raw.length ≤ 1000000 := HPV.out.2
    have KS := Lib.hid (sendW_any bn most rv ps pa pb A raw.length cp raw w2 (H.out.fresh hf02) hl (Row.bs (HPV.out.touch HF2.out fun _ _ => id).1) hraw)
    clear hat hpl hw2 hx hf02
    go_wp2_with fail
    rw [← HW2.out]
    go_wp2_with fail
    refine KS.out.mono ?_
    intro e w3 hst
    obtain ⟨rfl, hst2⟩ := hst
    have HST := Lib.hid hst2
    clear hst2
    go_wp2_with fail
    go_ret
    refine NStep.from_ HF02.out ⟨?_, ?_⟩
    · rw [HD.out]
      by_cases hm : most ≤ (ps.length : Int)
      · rw [if_pos hm]
        simp; omega
      · rw [if_neg hm]
        simp; omega
    · rw [HD.out]
      have := HST.out
      by_cases hm : most ≤ (ps.length : Int)
      · rw [if_pos hm] at this ⊢
        exact this
      · rw [if_neg hm] at this ⊢
        exact this
end Go.Proofs.Ythmjnlkdoepmjaa
