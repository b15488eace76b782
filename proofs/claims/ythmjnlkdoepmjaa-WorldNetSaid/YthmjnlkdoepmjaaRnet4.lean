/- Take and Double of the document's net; Parcels at rows of one. Conditions stand with each. -/
import Derived.Test.YthmjnlkdoepmjaaRnet3
import Derived.LoopN
namespace Go.Proofs.Ythmjnlkdoepmjaa
open Go.RowKit

set_option maxRecDepth 20000 in
theorem doubleR_any (bn : Nat) (most : Int) (rv : Value) (ps : List Pc) (i : Int) (w : World) (h : NT w 76 bn most rv ps) (hl : ps.length ≤ 1000000) :
    Calls Try.prog 45 #[.pointer (some ⟨bn, 0, none⟩), .int .i64 i] w fun e w' => NStep w 76 bn most rv ps (dbl_ most (ps.map Pc.pl) i).1 (.returned (.bool (dbl_ most (ps.map Pc.pl) i).2)) e w' := by
  have KT := Lib.hid (lookR_any bn most rv ps i w h hl)
  have H := Lib.hid h
  clear h
  go_enter Try.func45, Try.ntmps45
  go_wp2_with fail
  refine KT.out.mono ?_
  rintro e w1 ⟨hf1, ⟨pa, pb, raw, pv⟩, rfl, hpv, hnew, hpl⟩
  have hfm := hpv.1.form
  dsimp only at hfm
  obtain ⟨A, cp, rfl, hcp, hcm, _⟩ := hfm
  have HPV := Lib.hid hpv; have HPL := Lib.hid hpl; have HF1 := Lib.hid hf1
  clear hpv hnew hpl hcp hcm hf1
  cases hat : at_ (ps.map Pc.pl) i with
  | none =>
    have HD := Lib.hid (show dbl_ most (ps.map Pc.pl) i = (ps.map Pc.pl, false) by unfold dbl_; rw [hat])
    clear hat HPL
    go_wp2_with fail
    go_ret
    rw [HD.out]
    exact H.out.step (HF1.out.alloc _)
  | some q =>
    rw [hat] at HPL
    have hpl := HPL.out
    simp only [Option.getD_some, Pc.pl] at hpl
    have HD := Lib.hid (show dbl_ most (ps.map Pc.pl) i = if most ≤ ps.length then (ps.map Pc.pl, false) else (ps.map Pc.pl ++ [(pa, pb, raw)], true) by unfold dbl_; rw [hat, List.length_map, ← hpl])
    obtain ⟨w2, hw2⟩ : ∃ w2, w2 = w1.alloc (.cells #[.int .i64 pa, .int .i64 pb, .slice A raw.length cp] 65) := ⟨_, rfl⟩
    have HW2 := Lib.hid hw2
    have HF2 := Lib.hid (show Fresh w1 w2 by rw [hw2]; exact (Touch.refl _ _).alloc _)
    have hx := Blk.new w1 65 #[.int .i64 pa, .int .i64 pb, .slice A raw.length cp]
    rw [← hw2] at hx
    have x0 := hx.cell 0
    have x1 := hx.cell 1
    have x2 := hx.cell 2
    simp only [List.getElem?_toArray, List.getElem?_cons_zero, List.getElem?_cons_succ] at x0 x1 x2
    have hf02 : Fresh w w2 := HF1.out.trans HF2.out fun _ _ => id
    have HF02 := Lib.hid hf02
    have hraw : raw.length ≤ 1000000 := HPV.out.2
    have KS := Lib.hid (sendR_any bn most rv ps pa pb A raw.length cp raw w2 (H.out.fresh hf02) hl (Row.bs (HPV.out.touch HF2.out fun _ _ => id).1) hraw)
    clear hat hpl hw2 hx hf02
    go_wp2_with fail
    rw [← HW2.out]
    go_wp2_with fail
    refine KS.out.mono ?_
    intro e w3 hst
    obtain ⟨rfl, hst2⟩ := hst
    have HST := Lib.hid hst2
    clear hst2
    go_wp2_with fail
    go_ret
    refine NStep.from_ HF02.out ⟨?_, ?_⟩
    · rw [HD.out]
      by_cases hm : most ≤ (ps.length : Int)
      · rw [if_pos hm]
        simp; omega
      · rw [if_neg hm]
        simp; omega
    · rw [HD.out]
      have := HST.out
      by_cases hm : most ≤ (ps.length : Int)
      · rw [if_pos hm] at this ⊢
        exact this
      · rw [if_neg hm] at this ⊢
        exact this

theorem NMove.from_ {w w2 w' : World} {t : TypeId} {bn : Nat} {most : Int} {rv : Value} {ps : List Pc} {qs : List (Int × Int × List UInt8)} (hf : Fresh w w2) (h : NMove w2 t bn most rv ps qs w') : ∃ rv' ps', NGot w t bn most rv ps qs rv' ps' w' ∧ ∀ k, nfoot bn rv' k → nfoot bn rv k ∨ w2.heap.size ≤ k := by
  obtain ⟨rv', ps', h1, h2, h3, h4, h5⟩ := h
  exact ⟨rv', ps', ⟨hf.mono (fun _ _ h => h.elim) |>.trans h1 (fun _ _ h => h), h2, h3, fun k hk => (h4 k hk).elim .inl fun h => .inr (Nat.le_trans hf.size h), h5⟩, h4⟩
set_option maxRecDepth 20000 in
set_option maxHeartbeats 2000000 in
theorem takeR_any (bn : Nat) (most : Int) (rv : Value) (ps : List Pc) (i : Int) (w : World) (h : NT w 76 bn most rv ps) (hl : ps.length ≤ 1000000) :
    Calls Try.prog 39 #[.pointer (some ⟨bn, 0, none⟩), .int .i64 i] w fun e w' => LookFin w (at_ (ps.map Pc.pl) i) e w' ∧ NMove w 76 bn most rv ps (del_ (ps.map Pc.pl) i) w' := by
  have H := Lib.hid h
  have hbn := h.blk.lt
  have hrn := h.row.lt
  have HBN := Lib.hid hbn; have HRN := Lib.hid hrn
  clear h hbn hrn
  obtain ⟨w0, hw0⟩ : ∃ w0, w0 = w.alloc (.cells #[.int .i64 0, .int .i64 0, .slice none 0 0] 65) := ⟨_, rfl⟩
  have HW0 := Lib.hid hw0
  have HF0 := Lib.hid (show Fresh w w0 by rw [hw0]; exact (Touch.refl _ w).alloc _)
  have H4 := Lib.hid (show Blk w0 w.heap.size 65 #[.int .i64 0, .int .i64 0, .slice none 0 0] by rw [hw0]; exact Blk.new _ _ _)
  clear hw0
  go_enter Try.func39, Try.ntmps39
  go_wp2_with fail
  rw [← HW0.out]
  refine (lookR_any bn most rv ps i w0 (H.out.fresh HF0.out) hl).mono ?_
  rintro e w1 ⟨hf1, ⟨pa, pb, raw, pv⟩, rfl, hpv, hnew, hpl⟩
  have hfm := hpv.1.form
  dsimp only at hfm
  obtain ⟨A, cp, rfl, hcp, hcm, _⟩ := hfm
  have HPV := Lib.hid hpv; have HNEW := Lib.hid hnew; have HPL := Lib.hid hpl; have HF1 := Lib.hid hf1
  clear hpv hnew hpl hf1 hcp hcm
  obtain ⟨w2, hw2⟩ : ∃ w2, w2 = w1.alloc (.cells #[.int .i64 pa, .int .i64 pb, .slice A raw.length cp] 65) := ⟨_, rfl⟩
  have HW2 := Lib.hid hw2
  have HF2 := Lib.hid (show Fresh w1 w2 by rw [hw2]; exact (Touch.refl _ _).alloc _)
  have HX := Lib.hid (show Blk w2 w1.heap.size 65 #[.int .i64 pa, .int .i64 pb, .slice A raw.length cp] by rw [hw2]; exact Blk.new _ _ _)
  have HF02 := Lib.hid (show Fresh w w2 from (HF0.out.trans HF1.out fun _ _ => id).trans HF2.out fun _ _ => id)
  have KD := Lib.hid (dropR_any bn most rv ps i w2 (H.out.fresh HF02.out) hl)
  clear hw2
  go_wp2_with fail
  rw [← HW2.out]
  refine KD.out.mono ?_
  rintro e w3 ⟨rfl, hm⟩
  obtain ⟨rv', ps', hg, hft⟩ := NMove.from_ HF02.out hm
  have hT3 := hm
  obtain ⟨_, _, hT3, _⟩ := hT3
  have s0 := HF0.out.size
  have s1 := HF1.out.size
  have s2 := HF2.out.size
  have s3 : w.heap.size < w0.heap.size := H4.out.lt
  have n1 : ∀ k, w.heap.size ≤ k → ¬ nfoot bn rv k := by
    rintro k hk (e | e)
    · have := HBN.out; omega
    · have := HRN.out k e; omega
  have h43 := (((H4.out.touch HF1.out id).touch HF2.out id).touch hT3 (n1 _ (Nat.le_refl _)))
  have hx3 := HX.out.touch hT3 (n1 _ (by omega))
  have c40 := h43.cell 0
  have c41 := h43.cell 1
  have c42 := h43.cell 2
  have f4 := h43.frozen
  have x0 := hx3.cell 0
  have x1 := hx3.cell 1
  have x2 := hx3.cell 2
  simp only [List.getElem?_toArray, List.getElem?_cons_zero, List.getElem?_cons_succ] at c40 c41 c42 x0 x1 x2
  have HP3 := Lib.hid ((HPV.out.touch HF2.out fun _ _ => id).touch hT3 fun k hk => n1 k (by have := HNEW.out k hk; omega))
  have HG := Lib.hid hg; have HFT := Lib.hid hft; have H43 := Lib.hid h43
  clear hm hg hft hT3 n1 h43 hx3 KD
  obtain ⟨ok, hok⟩ : ∃ ok, ok = (at_ (ps.map Pc.pl) i).isSome := ⟨_, rfl⟩
  have HOK := Lib.hid hok
  rw [← hok]
  clear hok
  go_wp2_with fail
  have hq := H43.out.puts_all [.int .i64 pa, .int .i64 pb, .slice A raw.length cp] rfl
  simp only [puts, Nat.zero_add] at hq
  have e0 := hq.cell 0
  have e1 := hq.cell 1
  have e2 := hq.cell 2
  simp only [List.getElem?_toArray, List.getElem?_cons_zero, List.getElem?_cons_succ] at e0 e1 e2
  have hTe : Touch (fun k => k = w.heap.size) w3 (((w3.setCell ⟨w.heap.size, 0, none⟩ (.int .i64 pa)).setCell ⟨w.heap.size, 1, none⟩ (.int .i64 pb)).setCell ⟨w.heap.size, 2, none⟩ (.slice A raw.length cp)) :=
    (((Touch.refl (fun k => k = w.heap.size) w3).setCell (p := ⟨w.heap.size, 0, none⟩) (.inr rfl) _).setCell (p := ⟨w.heap.size, 1, none⟩) (.inr rfl) _).setCell (p := ⟨w.heap.size, 2, none⟩) (.inr rfl) _
  refine bodyPost_ret (v := .tuple #[.agg #[.int .i64 pa, .int .i64 pb, .slice A raw.length cp], .bool ok]) (by simp [results, Try.results39, go_sem, e0, e1, e2]) rfl ⟨⟨⟨pa, pb, raw, .slice A raw.length cp⟩, by rw [HOK.out], HP3.out.touch hTe (fun k hk e => HP3.out.ne_blk H43.out (by decide) (by rw [hk, e])), fun k hk => ?_, HPL.out⟩, _, _, HG.out.after H.out.byt_lt hTe (Nat.le_refl _) ?_⟩
  · have := HNEW.out k hk
    omega
  · intro e
    rcases HFT.out _ e with (h | h) | h
    · have := HBN.out; omega
    · have := HRN.out _ h; omega
    · omega

set_option maxRecDepth 100000 in
set_option maxHeartbeats 2000000 in
theorem parcels_one (g1 o1 c1 g2 o2 c2 : Nat) (a b : Int) (A1 A2 : Option Addr) (d1 d2 : Nat) (xs : List UInt8) (w : World)
    (h0 : w.cell? ⟨g1, o1, none⟩ = some (.int .i64 a)) (h1 : w.cell? ⟨g1, o1 + 1, none⟩ = some (.int .i64 b)) (h2 : w.cell? ⟨g1, o1 + 2, none⟩ = some (.slice A1 xs.length d1)) (hb1 : Bs w A1 xs.length d1 xs)
    (j0 : w.cell? ⟨g2, o2, none⟩ = some (.int .i64 a)) (j1 : w.cell? ⟨g2, o2 + 1, none⟩ = some (.int .i64 b)) (j2 : w.cell? ⟨g2, o2 + 2, none⟩ = some (.slice A2 xs.length d2)) (hb2 : Bs w A2 xs.length d2 xs) :
    Calls Try.prog 40 #[.slice (some ⟨g1, o1, none⟩) 1 c1, .slice (some ⟨g2, o2, none⟩) 1 c2] w fun e w' => e = .returned (.bool true) ∧ ∃ q, w' = w.drewN q := by
  have hnot : ∀ (x : Bool) (w : World), (Op.unary .not (.bool x)).run Try.prog w = .ok (.bool (!x)) w := fun _ _ => rfl
  have k1 : ∀ q, (convert 22 9 (.slice A1 xs.length d1)).run Try.prog (w.drewN q) = .ok (.string ⟨xs.toArray⟩) (w.drewN q) := fun q => run_convert_Bs (P := Try.prog) 22 9 Try.underlying22 Try.underlying5 Try.underlying9 (hb1.drewN q)
  have k2 : ∀ q, (convert 22 9 (.slice A2 xs.length d2)).run Try.prog (w.drewN q) = .ok (.string ⟨xs.toArray⟩) (w.drewN q) := fun q => run_convert_Bs (P := Try.prog) 22 9 Try.underlying22 Try.underlying5 Try.underlying9 (hb2.drewN q)
  clear hb1 hb2
  go_enter Try.func40, Try.ntmps40
  go_wp2_with fail
  refine wp_loop_rounds 2 ?_
  rw [rounds_succ]
  go_wp2_with fail
  go_quiet (fail)
  go_wp2_with fail
  rw [rounds_succ]
  go_wp2_with fail
  go_ret
  exact ⟨rfl, _, rfl⟩
end Go.Proofs.Ythmjnlkdoepmjaa
