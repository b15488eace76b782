/- The contract of the codec's ReadState (printed by gen_stard.py). Conditions stand with it. -/
import Derived.Test.YtdfhdanfigpbpaaStaW
import Derived.Test.YtdfhdanfigpbpaaRecS
import Derived.Test.YtdfhdanfigpbpaaOpsRd
import Derived.LoopN
namespace Go.Proofs.Ytdfhdanfigpbpaa
open Go.RowKit

theorem Try.infoNd : (Try.prog.info? 127).map (fun i => (i.zero, i.size, i.bytes)) = some (some (.agg #[.int .i64 0, .int .i64 0, .string ⟨#[]⟩]), 3, 32) := by kernel_rfl
theorem Try.infoSg : (Try.prog.info? 129).map (fun i => (i.zero, i.size, i.bytes)) = some (some (.agg #[.string ⟨#[]⟩, .string ⟨#[]⟩]), 2, 32) := by kernel_rfl
theorem nod_go {xs : List UInt8} {p q : Nat} {o : Dec.Nd} (h : Dec.nod xs p = .ok (o, q)) (hp : p ≤ xs.length) : p < q ∧ q ≤ xs.length := by
  obtain ⟨ys, he, hd, hq⟩ := Plain.nod_dec h
  have hl := congrArg List.length hd
  simp only [List.length_drop, List.length_append] at hl
  have h1 : 0 < ys.length := by
    obtain ⟨y1, y3, h1, _, rfl⟩ := Plain.cat_inv he
    obtain ⟨y0, y2, h0, _, rfl⟩ := Plain.cat_inv h1
    unfold Enc.number at h0
    split at h0
    · cases h0
    · injection h0 with h0
      subst h0
      simp [Enc.numB]
  omega
theorem text_pos {s ys : List UInt8} (h : Enc.text s = some ys) : 0 < ys.length := by
  obtain ⟨y1, y3, h1, _, rfl⟩ := Plain.cat_inv h
  unfold Enc.number at h1
  split at h1
  · cases h1
  · injection h1 with h1
    subst h1
    simp [Enc.numB]
theorem sig_go {xs : List UInt8} {p q : Nat} {o : Dec.Sg} (h : Dec.sig xs p = .ok (o, q)) (hp : p ≤ xs.length) : p < q ∧ q ≤ xs.length := by
  obtain ⟨ys, he, hd, hq⟩ := Plain.sig_dec h
  have hl := congrArg List.length hd
  simp only [List.length_drop, List.length_append] at hl
  have h1 : 0 < ys.length := by
    obtain ⟨y0, y1, h0, _, rfl⟩ := Plain.cat_inv he
    have := text_pos h0
    rw [List.length_append]; omega
  omega
theorem VRow.ne_row {w : World} {e e' : TypeId} {sz sz' n n' : Nat} {v v' : Value} {vs vs' : List Value} (h : VRow w e sz v n vs) (h' : VRow w e' sz' v' n' vs') (hne : e ≠ e') : v.ownBlock = none ∨ v.ownBlock ≠ v'.ownBlock := by
  rcases h.2 with ⟨rfl, _⟩ | ⟨g, cap, cur, rfl, _, hg, _⟩
  · exact .inl rfl
  · refine .inr fun he => ?_
    have h9 : v'.ownBlock = some g := by rw [← he]; rfl
    exact own_blk_ne h' (show Blk w g e cur from hg) hne.symm h9
theorem ndsV_snoc (l : List Dec.Nd) (o : Dec.Nd) : ndsV (l ++ [o]) = ndsV l ++ ndV o := by simp [ndsV]
theorem sgsV_snoc (l : List Dec.Sg) (o : Dec.Sg) : sgsV (l ++ [o]) = sgsV l ++ sgV o := by simp [sgsV]
/-- what a reading of a state gives, behind e's first bytes -/
def StaGood (B : Nat) (xs : List UInt8) (x : StaX) (q : Nat) (w2 : World) : Prop :=
  Dec.state xs 0 = .ok (x.1, q) ∧ VRow w2 127 3 (.slice x.2.1 x.1.nd.length x.2.2.1) x.1.nd.length (ndsV x.1.nd) ∧ VRow w2 129 2 (.slice x.2.2.2.1 x.1.sg.length x.2.2.2.2) x.1.sg.length (sgsV x.1.sg) ∧
    (∀ k, (Value.slice x.2.1 x.1.nd.length x.2.2.1).ownBlock = some k → B ≤ k) ∧ ∀ k, (Value.slice x.2.2.2.1 x.1.sg.length x.2.2.2.2).ownBlock = some k → B ≤ k

set_option maxRecDepth 100000 in
set_option maxHeartbeats 4000000 in
theorem state1_read (be Bd : Nat) (A : Option Addr) (n c : Nat) (xs : List UInt8) (w : World) (he : Eye w be A n c xs 0) (hB : Bd ≤ w.heap.size) (hn : n ≤ 4000000000000) :
    Calls Try.prog 95 #[.pointer (some ⟨be, 0, none⟩)] w (RecG stV be (fun _ => False) A n c xs (fun a => Dec.state xs 0 = .error a) (StaGood Bd xs) w) := by
  have hxl : xs.length = n := he.2.1.1
  obtain ⟨w0, hw0⟩ : ∃ w0, w0 = w.alloc (.cells #[.string ⟨#[]⟩, .string ⟨#[]⟩, .string ⟨#[]⟩, .string ⟨#[]⟩, .int .i64 0, .string ⟨#[]⟩, .slice none 0 0, .slice none 0 0, .int .i64 0] 67) := ⟨_, rfl⟩
  have hT0 : Fresh w w0 := by rw [hw0]; exact (Touch.refl _ w).alloc _
  have hB0 : Blk w0 w.heap.size 67 #[.string ⟨#[]⟩, .string ⟨#[]⟩, .string ⟨#[]⟩, .string ⟨#[]⟩, .int .i64 0, .string ⟨#[]⟩, .slice none 0 0, .slice none 0 0, .int .i64 0] := by rw [hw0]; exact Blk.new _ _ _
  have hlt := he.1.lt
  have hE0 : Eye w0 be A n c xs 0 := ⟨he.1.touch hT0 id, he.2.1.fresh hT0, he.2.2.1, he.2.2.2⟩
  obtain ⟨S0, hS0⟩ : ∃ S0, S0 = w0.alloc (.cells #[.pointer (some ⟨w.heap.size, 0, none⟩), .pointer (some ⟨w.heap.size, 1, none⟩), .pointer (some ⟨w.heap.size, 2, none⟩), .pointer (some ⟨w.heap.size, 3, none⟩)] 131) := ⟨_, rfl⟩
  obtain ⟨sb, hsb⟩ : ∃ sb, sb = w.heap.size + 1 := ⟨_, rfl⟩
  have hsz0 : w0.heap.size = sb := by rw [hw0, hsb]; simp
  have HL0 := Lib.hid (show Blk S0 sb 131 #[.pointer (some ⟨w.heap.size, 0, none⟩), .pointer (some ⟨w.heap.size, 1, none⟩), .pointer (some ⟨w.heap.size, 2, none⟩), .pointer (some ⟨w.heap.size, 3, none⟩)] by rw [hS0, ← hsz0]; exact Blk.new _ _ _)
  have HB0 := Lib.hid (show Blk S0 w.heap.size 67 #[.string ⟨#[]⟩, .string ⟨#[]⟩, .string ⟨#[]⟩, .string ⟨#[]⟩, .int .i64 0, .string ⟨#[]⟩, .slice none 0 0, .slice none 0 0, .int .i64 0] by rw [hS0]; exact hB0.alloc _)
  have HE0 := Lib.hid (show Eye S0 be A n c xs 0 by rw [hS0]; exact ⟨hE0.1.alloc _, hE0.2.1.alloc _, hE0.2.2.1, hE0.2.2.2⟩)
  have HT0 := Lib.hid (show Touch (· = be) w S0 by rw [hS0]; exact (hT0.mono fun _ _ h => h.elim).alloc _)
  have HN := Lib.hid he.2.2.2
  have hne1 : sb ≠ be := by omega
  have hne2 : sb ≠ w.heap.size := by omega
  have HSB := Lib.hid hsb
  have HS0 := Lib.hid (show S0 = (w.alloc (.cells #[.string ⟨#[]⟩, .string ⟨#[]⟩, .string ⟨#[]⟩, .string ⟨#[]⟩, .int .i64 0, .string ⟨#[]⟩, .slice none 0 0, .slice none 0 0, .int .i64 0] 67)).alloc (.cells #[.pointer (some ⟨w.heap.size, 0, none⟩), .pointer (some ⟨w.heap.size, 1, none⟩), .pointer (some ⟨w.heap.size, 2, none⟩), .pointer (some ⟨w.heap.size, 3, none⟩)] 131) by rw [hS0, hw0])
  clear hB0 hT0 hw0 he hE0 hS0 hsb hsz0
  have hstep : ∀ (wa : World) (g i : Nat) (u : Value) (q : Nat), w.heap.size ≤ g → Eye wa be A n c xs q → Eye (wa.setCell ⟨g, i, none⟩ u) be A n c xs q := by
    intro wa g i u q hg h
    refine ⟨h.1.far (p := ⟨g, i, none⟩) (by simp; omega) _, h.2.1.keep fun h0 p v hp ⟨a, ha, e⟩ => ?_, h.2.2.1, h.2.2.2⟩
    have := HN.out a ha h0
    rw [World.cell?_setCell_other _ _ _ _ (by intro h9; rw [← h9] at e; simp at e; omega)]
    exact hp
  have HSTEP := Lib.hid hstep; clear hstep
  go_enter Try.func95, Try.ntmps95
  go_wp2_with fail
  rw [← HS0.out, ← HSB.out]
  refine wp_loop_rounds 5 ?_
  rw [rounds_succ]
  have hlc := HL0.out.cell 0
  simp only [List.getElem?_toArray, List.getElem?_cons_zero] at hlc
  go_wp2_with fail
  clear hlc
  refine (etext_any be A n c xs 0 S0 HE0.out).mono ?_
  intro e wa h
  rcases h.cases with ⟨a, hr, rfl, ht⟩ | ⟨x0, p1, hr, rfl, he, ht⟩
  · exact ⟨rfl, .inl ⟨a, rfl, (show Dec.state xs 0 = .error a by unfold Dec.state Dec.bind; simp only [hr]), (HT0.out.trans ht fun _ _ h => h).mono fun _ _ h => .inl h⟩⟩
  have hb := HB0.out.touch ht (by omega)
  have hl := HL0.out.touch ht (by omega)
  have hc := hb.cell 0
  have hf := hb.frozen 0
  simp only [List.getElem?_toArray, List.getElem?_cons_zero] at hc
  have HR0 := Lib.hid hr
  obtain ⟨w1, hw1⟩ : ∃ w', w' = wa.setCell ⟨w.heap.size, 0, none⟩ (.string ⟨x0.toArray⟩) := ⟨_, rfl⟩
  have HB1 := Lib.hid (show Blk w1 w.heap.size 67 #[.string ⟨x0.toArray⟩, .string ⟨#[]⟩, .string ⟨#[]⟩, .string ⟨#[]⟩, .int .i64 0, .string ⟨#[]⟩, .slice none 0 0, .slice none 0 0, .int .i64 0] by rw [hw1]; exact hb.set_ 0 (.string ⟨x0.toArray⟩))
  have HE1 := Lib.hid (show Eye w1 be A n c xs p1 by rw [hw1]; exact HSTEP.out _ _ _ _ _ (Nat.le_refl _) he)
  have HT1 := Lib.hid (show Touch (· = be) w w1 by rw [hw1]; exact (HT0.out.trans ht fun _ _ h => h).setCell (p := ⟨w.heap.size, 0, none⟩) (.inl (Nat.le_refl _)) _)
  have HL1 := Lib.hid (show Blk w1 sb 131 #[.pointer (some ⟨w.heap.size, 0, none⟩), .pointer (some ⟨w.heap.size, 1, none⟩), .pointer (some ⟨w.heap.size, 2, none⟩), .pointer (some ⟨w.heap.size, 3, none⟩)] by rw [hw1]; exact hl.far (p := ⟨w.heap.size, 0, none⟩) (by simp; omega) _)
  have HW1 := Lib.hid hw1
  clear hw1 hb hl hr h he ht
  go_wp2_with fail
  rw [← HW1.out]
  clear hc hf
  rw [rounds_succ]
  have hlc := HL1.out.cell 1
  simp only [List.getElem?_toArray, List.getElem?_cons_zero, List.getElem?_cons_succ] at hlc
  go_wp2_with fail
  clear hlc
  refine (etext_any be A n c xs p1 w1 HE1.out).mono ?_
  intro e wa h
  rcases h.cases with ⟨a, hr, rfl, ht⟩ | ⟨x1, p2, hr, rfl, he, ht⟩
  · exact ⟨rfl, .inl ⟨a, rfl, (show Dec.state xs 0 = .error a by unfold Dec.state Dec.bind; simp only [HR0.out]; simp only [hr]), (HT1.out.trans ht fun _ _ h => h).mono fun _ _ h => .inl h⟩⟩
  have hb := HB1.out.touch ht (by omega)
  have hl := HL1.out.touch ht (by omega)
  have hc := hb.cell 1
  have hf := hb.frozen 1
  simp only [List.getElem?_toArray, List.getElem?_cons_zero, List.getElem?_cons_succ] at hc
  have HR1 := Lib.hid hr
  obtain ⟨w2, hw2⟩ : ∃ w', w' = wa.setCell ⟨w.heap.size, 1, none⟩ (.string ⟨x1.toArray⟩) := ⟨_, rfl⟩
  have HB2 := Lib.hid (show Blk w2 w.heap.size 67 #[.string ⟨x0.toArray⟩, .string ⟨x1.toArray⟩, .string ⟨#[]⟩, .string ⟨#[]⟩, .int .i64 0, .string ⟨#[]⟩, .slice none 0 0, .slice none 0 0, .int .i64 0] by rw [hw2]; exact hb.set_ 1 (.string ⟨x1.toArray⟩))
  have HE2 := Lib.hid (show Eye w2 be A n c xs p2 by rw [hw2]; exact HSTEP.out _ _ _ _ _ (Nat.le_refl _) he)
  have HT2 := Lib.hid (show Touch (· = be) w w2 by rw [hw2]; exact (HT1.out.trans ht fun _ _ h => h).setCell (p := ⟨w.heap.size, 1, none⟩) (.inl (Nat.le_refl _)) _)
  have HL2 := Lib.hid (show Blk w2 sb 131 #[.pointer (some ⟨w.heap.size, 0, none⟩), .pointer (some ⟨w.heap.size, 1, none⟩), .pointer (some ⟨w.heap.size, 2, none⟩), .pointer (some ⟨w.heap.size, 3, none⟩)] by rw [hw2]; exact hl.far (p := ⟨w.heap.size, 1, none⟩) (by simp; omega) _)
  have HW2 := Lib.hid hw2
  clear hw2 hb hl hr h he ht
  go_wp2_with fail
  rw [← HW2.out]
  clear hc hf
  rw [rounds_succ]
  have hlc := HL2.out.cell 2
  simp only [List.getElem?_toArray, List.getElem?_cons_zero, List.getElem?_cons_succ] at hlc
  go_wp2_with fail
  clear hlc
  refine (etext_any be A n c xs p2 w2 HE2.out).mono ?_
  intro e wa h
  rcases h.cases with ⟨a, hr, rfl, ht⟩ | ⟨x2, p3, hr, rfl, he, ht⟩
  · exact ⟨rfl, .inl ⟨a, rfl, (show Dec.state xs 0 = .error a by unfold Dec.state Dec.bind; simp only [HR0.out]; simp only [HR1.out]; simp only [hr]), (HT2.out.trans ht fun _ _ h => h).mono fun _ _ h => .inl h⟩⟩
  have hb := HB2.out.touch ht (by omega)
  have hl := HL2.out.touch ht (by omega)
  have hc := hb.cell 2
  have hf := hb.frozen 2
  simp only [List.getElem?_toArray, List.getElem?_cons_zero, List.getElem?_cons_succ] at hc
  have HR2 := Lib.hid hr
  obtain ⟨w3, hw3⟩ : ∃ w', w' = wa.setCell ⟨w.heap.size, 2, none⟩ (.string ⟨x2.toArray⟩) := ⟨_, rfl⟩
  have HB3 := Lib.hid (show Blk w3 w.heap.size 67 #[.string ⟨x0.toArray⟩, .string ⟨x1.toArray⟩, .string ⟨x2.toArray⟩, .string ⟨#[]⟩, .int .i64 0, .string ⟨#[]⟩, .slice none 0 0, .slice none 0 0, .int .i64 0] by rw [hw3]; exact hb.set_ 2 (.string ⟨x2.toArray⟩))
  have HE3 := Lib.hid (show Eye w3 be A n c xs p3 by rw [hw3]; exact HSTEP.out _ _ _ _ _ (Nat.le_refl _) he)
  have HT3 := Lib.hid (show Touch (· = be) w w3 by rw [hw3]; exact (HT2.out.trans ht fun _ _ h => h).setCell (p := ⟨w.heap.size, 2, none⟩) (.inl (Nat.le_refl _)) _)
  have HL3 := Lib.hid (show Blk w3 sb 131 #[.pointer (some ⟨w.heap.size, 0, none⟩), .pointer (some ⟨w.heap.size, 1, none⟩), .pointer (some ⟨w.heap.size, 2, none⟩), .pointer (some ⟨w.heap.size, 3, none⟩)] by rw [hw3]; exact hl.far (p := ⟨w.heap.size, 2, none⟩) (by simp; omega) _)
  have HW3 := Lib.hid hw3
  clear hw3 hb hl hr h he ht
  go_wp2_with fail
  rw [← HW3.out]
  clear hc hf
  rw [rounds_succ]
  have hlc := HL3.out.cell 3
  simp only [List.getElem?_toArray, List.getElem?_cons_zero, List.getElem?_cons_succ] at hlc
  go_wp2_with fail
  clear hlc
  refine (etext_any be A n c xs p3 w3 HE3.out).mono ?_
  intro e wa h
  rcases h.cases with ⟨a, hr, rfl, ht⟩ | ⟨x3, p4, hr, rfl, he, ht⟩
  · exact ⟨rfl, .inl ⟨a, rfl, (show Dec.state xs 0 = .error a by unfold Dec.state Dec.bind; simp only [HR0.out]; simp only [HR1.out]; simp only [HR2.out]; simp only [hr]), (HT3.out.trans ht fun _ _ h => h).mono fun _ _ h => .inl h⟩⟩
  have hb := HB3.out.touch ht (by omega)
  have hl := HL3.out.touch ht (by omega)
  have hc := hb.cell 3
  have hf := hb.frozen 3
  simp only [List.getElem?_toArray, List.getElem?_cons_zero, List.getElem?_cons_succ] at hc
  have HR3 := Lib.hid hr
  obtain ⟨w4, hw4⟩ : ∃ w', w' = wa.setCell ⟨w.heap.size, 3, none⟩ (.string ⟨x3.toArray⟩) := ⟨_, rfl⟩
  have HB4 := Lib.hid (show Blk w4 w.heap.size 67 #[.string ⟨x0.toArray⟩, .string ⟨x1.toArray⟩, .string ⟨x2.toArray⟩, .string ⟨x3.toArray⟩, .int .i64 0, .string ⟨#[]⟩, .slice none 0 0, .slice none 0 0, .int .i64 0] by rw [hw4]; exact hb.set_ 3 (.string ⟨x3.toArray⟩))
  have HE4 := Lib.hid (show Eye w4 be A n c xs p4 by rw [hw4]; exact HSTEP.out _ _ _ _ _ (Nat.le_refl _) he)
  have HT4 := Lib.hid (show Touch (· = be) w w4 by rw [hw4]; exact (HT3.out.trans ht fun _ _ h => h).setCell (p := ⟨w.heap.size, 3, none⟩) (.inl (Nat.le_refl _)) _)
  have HL4 := Lib.hid (show Blk w4 sb 131 #[.pointer (some ⟨w.heap.size, 0, none⟩), .pointer (some ⟨w.heap.size, 1, none⟩), .pointer (some ⟨w.heap.size, 2, none⟩), .pointer (some ⟨w.heap.size, 3, none⟩)] by rw [hw4]; exact hl.far (p := ⟨w.heap.size, 3, none⟩) (by simp; omega) _)
  have HW4 := Lib.hid hw4
  clear hw4 hb hl hr h he ht
  go_wp2_with fail
  rw [← HW4.out]
  clear hc hf
  rw [rounds_succ]
  go_wp2_with fail
  refine (enumber_any be A n c xs p4 0 4 w4 HE4.out).mono ?_
  intro e wa h
  rcases h.cases with ⟨a, hr, rfl, ht⟩ | ⟨x4, p5, hr, rfl, he, ht⟩
  · exact ⟨rfl, .inl ⟨a, rfl, (show Dec.state xs 0 = .error a by unfold Dec.state Dec.bind; simp only [HR0.out]; simp only [HR1.out]; simp only [HR2.out]; simp only [HR3.out]; simp only [hr]), (HT4.out.trans ht fun _ _ h => h).mono fun _ _ h => .inl h⟩⟩
  have hb := HB4.out.touch ht (by omega)
  have hc := hb.cell 4
  have hf := hb.frozen 4
  simp only [List.getElem?_toArray, List.getElem?_cons_zero, List.getElem?_cons_succ] at hc
  have HR4 := Lib.hid hr
  obtain ⟨w5, hw5⟩ : ∃ w', w' = wa.setCell ⟨w.heap.size, 4, none⟩ (.int .i64 x4) := ⟨_, rfl⟩
  have HB5 := Lib.hid (show Blk w5 w.heap.size 67 #[.string ⟨x0.toArray⟩, .string ⟨x1.toArray⟩, .string ⟨x2.toArray⟩, .string ⟨x3.toArray⟩, .int .i64 x4, .string ⟨#[]⟩, .slice none 0 0, .slice none 0 0, .int .i64 0] by rw [hw5]; exact hb.set_ 4 (.int .i64 x4))
  have HE5 := Lib.hid (show Eye w5 be A n c xs p5 by rw [hw5]; exact HSTEP.out _ _ _ _ _ (Nat.le_refl _) he)
  have HT5 := Lib.hid (show Touch (· = be) w w5 by rw [hw5]; exact (HT4.out.trans ht fun _ _ h => h).setCell (p := ⟨w.heap.size, 4, none⟩) (.inl (Nat.le_refl _)) _)
  have HW5 := Lib.hid hw5
  clear hw5 hb hr h he ht
  go_wp2_with fail
  rw [← HW5.out]
  clear hc hf
  refine (etext_any be A n c xs p5 w5 HE5.out).mono ?_
  intro e wa h
  rcases h.cases with ⟨a, hr, rfl, ht⟩ | ⟨x5, p6, hr, rfl, he, ht⟩
  · exact ⟨rfl, .inl ⟨a, rfl, (show Dec.state xs 0 = .error a by unfold Dec.state Dec.bind; simp only [HR0.out]; simp only [HR1.out]; simp only [HR2.out]; simp only [HR3.out]; simp only [HR4.out]; simp only [hr]), (HT5.out.trans ht fun _ _ h => h).mono fun _ _ h => .inl h⟩⟩
  have hb := HB5.out.touch ht (by omega)
  have hc := hb.cell 5
  have hf := hb.frozen 5
  simp only [List.getElem?_toArray, List.getElem?_cons_zero, List.getElem?_cons_succ] at hc
  have HR5 := Lib.hid hr
  obtain ⟨w6, hw6⟩ : ∃ w', w' = wa.setCell ⟨w.heap.size, 5, none⟩ (.string ⟨x5.toArray⟩) := ⟨_, rfl⟩
  have HB6 := Lib.hid (show Blk w6 w.heap.size 67 #[.string ⟨x0.toArray⟩, .string ⟨x1.toArray⟩, .string ⟨x2.toArray⟩, .string ⟨x3.toArray⟩, .int .i64 x4, .string ⟨x5.toArray⟩, .slice none 0 0, .slice none 0 0, .int .i64 0] by rw [hw6]; exact hb.set_ 5 (.string ⟨x5.toArray⟩))
  have HE6 := Lib.hid (show Eye w6 be A n c xs p6 by rw [hw6]; exact HSTEP.out _ _ _ _ _ (Nat.le_refl _) he)
  have HT6 := Lib.hid (show Touch (· = be) w w6 by rw [hw6]; exact (HT5.out.trans ht fun _ _ h => h).setCell (p := ⟨w.heap.size, 5, none⟩) (.inl (Nat.le_refl _)) _)
  have HW6 := Lib.hid hw6
  clear hw6 hb hr h he ht
  go_wp2_with fail
  rw [← HW6.out]
  clear hc hf
  refine (eplain_any be A n c xs p6 w6 HE6.out).mono ?_
  intro e w7 h
  rcases h.cases with ⟨a, hr, rfl, ht⟩ | ⟨x6, p7, hr, rfl, he, ht⟩
  · exact ⟨rfl, .inl ⟨a, rfl, (show Dec.state xs 0 = .error a by unfold Dec.state Dec.bind; simp only [HR0.out]; simp only [HR1.out]; simp only [HR2.out]; simp only [HR3.out]; simp only [HR4.out]; simp only [HR5.out]; simp only [hr]), (HT6.out.trans ht fun _ _ h => h).mono fun _ _ h => .inl h⟩⟩
  have hN0 : 0 ≤ x6 := (Dec.number_ok hr).2.2.2.2.2
  have hN1 : x6 ≤ 4503599627370496 := (Dec.number_ok hr).2.2.2.2.1
  have HB7 := Lib.hid (HB6.out.touch ht (by omega))
  have HR6 := Lib.hid hr
  have HE7 := Lib.hid he
  have HT7 := Lib.hid (HT6.out.trans ht fun _ _ h => h)
  clear hr h he ht
  go_wp2_with fail
  go_loopw [30] (fun i wr => ∃ k : Nat, (k : Int) ≤ x6 ∧ i = .int .i64 k ∧ ∃ (lst : List Dec.Nd) (p : Nat) (nv : Value), lst.length = k ∧ k ≤ p ∧ Blk wr w.heap.size 67 #[.string ⟨x0.toArray⟩, .string ⟨x1.toArray⟩, .string ⟨x2.toArray⟩, .string ⟨x3.toArray⟩, .int .i64 x4, .string ⟨x5.toArray⟩, nv, .slice none 0 0, .int .i64 0] ∧ VRow wr 127 3 nv k (ndsV lst) ∧ (∀ j, nv.ownBlock = some j → Bd ≤ j ∧ w.heap.size ≤ j) ∧
      Dec.many Dec.nod xs x6.toNat p7 = Dec.pre lst (Dec.many Dec.nod xs (x6.toNat - k) p) ∧ Eye wr be A n c xs p ∧ Touch (· = be) w wr) (fun i _ => x6.toNat - (intOf i).toNat)
  case atStart => exact ⟨0, by omega, rfl, [], p7, .slice none 0 0, rfl, by omega, HB7.out, VRow.nil_ _ _ _, fun j h => ⟨own_none h, own_none h⟩, (Dec.pre_nil _).symm, HE7.out, HT7.out⟩
  case round =>
    obtain ⟨k, hk, rfl, lst, p, nv, hlk, hkp, hbm, hvr, hown, hsp, he, ht⟩ := hrel
    have hpn := he.2.2.1
    have HVR := Lib.hid hvr; clear hvr
    have HBM := Lib.hid hbm; clear hbm
    have HOWN := Lib.hid hown; clear hown
    have HSP := Lib.hid hsp; clear hsp
    have HE := Lib.hid he; clear he
    have HT := Lib.hid ht; clear ht
    by_cases hlt : (k : Int) < x6
    · have hm : x6.toNat - k = (x6.toNat - (k + 1)) + 1 := by omega
      obtain ⟨ob, hob⟩ : ∃ ob, ob = wr.heap.size := ⟨_, rfl⟩
      obtain ⟨S1, hS1⟩ : ∃ S1, S1 = wr.alloc (.cells #[.int .i64 0, .int .i64 0, .string ⟨#[]⟩] 127) := ⟨_, rfl⟩
      have HO0 := Lib.hid (show Blk S1 ob 127 #[.int .i64 0, .int .i64 0, .string ⟨#[]⟩] by rw [hS1, hob]; exact Blk.new _ _ _)
      have HY0 := Lib.hid (show Eye S1 be A n c xs p by rw [hS1]; exact ⟨HE.out.1.alloc _, HE.out.2.1.alloc _, HE.out.2.2.1, HE.out.2.2.2⟩)
      have HX0 := Lib.hid (show Touch (· = be) wr S1 by rw [hS1]; exact (Touch.refl _ wr).alloc _)
      have hbel := HE.out.1.lt
      have hmbl := HBM.out.lt
      have hww : w.heap.size ≤ wr.heap.size := HT.out.size
      have hobw : wr.heap.size ≤ ob := by omega
      have hobe : ob ≠ be := by omega
      have hobm : ob ≠ w.heap.size := by omega
      have HNB : Hid (∀ j, nv.ownBlock = some j → ¬ (j = be)) := Lib.hid (fun j hj e => HVR.out.ne_blk HE.out.1 (by decide) (by rw [hj, e]))
      have HNM : Hid (nv.ownBlock ≠ some w.heap.size) := Lib.hid (HVR.out.ne_blk HBM.out (by decide))
      have HOB := Lib.hid hob
      have HZ0 := Lib.hid hS1
      clear hS1 hob
      go_wp2_with fail
      rw [← HZ0.out, ← HOB.out]
      refine (enumber_any be A n c xs p 0 4 S1 HY0.out).mono ?_
      intro e u0a h
      rcases h.cases with ⟨a, hr, rfl, ht⟩ | ⟨z0, q0, hr, rfl, he, ht⟩
      · exact ⟨rfl, .inl ⟨a, rfl, (show Dec.state xs 0 = .error a by
          have hm9 : Dec.many Dec.nod xs x6.toNat p7 = .error a := by rw [HSP.out, hm]; exact Dec.pre_bad (by unfold Dec.nod Dec.bind; simp only [hr])
          unfold Dec.state Dec.bind; simp only [HR0.out]; simp only [HR1.out]; simp only [HR2.out]; simp only [HR3.out]; simp only [HR4.out]; simp only [HR5.out]; simp only [HR6.out]; simp only [hm9]), (HT.out.trans (HX0.out.trans ht fun _ _ h => h) fun _ _ h => h).mono fun _ _ h => .inl h⟩⟩
      have HV0 := Lib.hid hr
      have hbo := HO0.out.touch ht hobe
      have hc := hbo.cell 0
      have hf := hbo.frozen 0
      simp only [List.getElem?_toArray, List.getElem?_cons_zero] at hc
      obtain ⟨u1, hu⟩ : ∃ x, x = u0a.setCell ⟨ob, 0, none⟩ (.int .i64 z0) := ⟨_, rfl⟩
      have HO1 := Lib.hid (show Blk u1 ob 127 #[.int .i64 z0, .int .i64 0, .string ⟨#[]⟩] by rw [hu]; exact hbo.set_ 0 (.int .i64 z0))
      have HY1 := Lib.hid (show Eye u1 be A n c xs q0 by rw [hu]; exact HSTEP.out _ _ _ _ _ (by omega) he)
      have HX1 := Lib.hid (show Touch (· = be) wr u1 by rw [hu]; exact (HX0.out.trans ht fun _ _ h => h).setCell (p := ⟨ob, 0, none⟩) (.inl hobw) _)
      have HZ1 := Lib.hid hu
      clear hr h he ht hbo hu
      go_wp2_with fail
      rw [← HZ1.out]
      clear hc hf
      refine (eplain_any be A n c xs q0 u1 HY1.out).mono ?_
      intro e u1a h
      rcases h.cases with ⟨a, hr, rfl, ht⟩ | ⟨z1, q1, hr, rfl, he, ht⟩
      · exact ⟨rfl, .inl ⟨a, rfl, (show Dec.state xs 0 = .error a by
          have hm9 : Dec.many Dec.nod xs x6.toNat p7 = .error a := by rw [HSP.out, hm]; exact Dec.pre_bad (by unfold Dec.nod Dec.bind; simp only [HV0.out]; simp only [hr])
          unfold Dec.state Dec.bind; simp only [HR0.out]; simp only [HR1.out]; simp only [HR2.out]; simp only [HR3.out]; simp only [HR4.out]; simp only [HR5.out]; simp only [HR6.out]; simp only [hm9]), (HT.out.trans (HX1.out.trans ht fun _ _ h => h) fun _ _ h => h).mono fun _ _ h => .inl h⟩⟩
      have HV1 := Lib.hid hr
      have hbo := HO1.out.touch ht hobe
      have hc := hbo.cell 1
      have hf := hbo.frozen 1
      simp only [List.getElem?_toArray, List.getElem?_cons_zero, List.getElem?_cons_succ] at hc
      obtain ⟨u2, hu⟩ : ∃ x, x = u1a.setCell ⟨ob, 1, none⟩ (.int .i64 z1) := ⟨_, rfl⟩
      have HO2 := Lib.hid (show Blk u2 ob 127 #[.int .i64 z0, .int .i64 z1, .string ⟨#[]⟩] by rw [hu]; exact hbo.set_ 1 (.int .i64 z1))
      have HY2 := Lib.hid (show Eye u2 be A n c xs q1 by rw [hu]; exact HSTEP.out _ _ _ _ _ (by omega) he)
      have HX2 := Lib.hid (show Touch (· = be) wr u2 by rw [hu]; exact (HX1.out.trans ht fun _ _ h => h).setCell (p := ⟨ob, 1, none⟩) (.inl hobw) _)
      have HZ2 := Lib.hid hu
      clear hr h he ht hbo hu
      go_wp2_with fail
      rw [← HZ2.out]
      clear hc hf
      refine (etext_any be A n c xs q1 u2 HY2.out).mono ?_
      intro e u2a h
      rcases h.cases with ⟨a, hr, rfl, ht⟩ | ⟨z2, q2, hr, rfl, he, ht⟩
      · exact ⟨rfl, .inl ⟨a, rfl, (show Dec.state xs 0 = .error a by
          have hm9 : Dec.many Dec.nod xs x6.toNat p7 = .error a := by rw [HSP.out, hm]; exact Dec.pre_bad (by unfold Dec.nod Dec.bind; simp only [HV0.out]; simp only [HV1.out]; simp only [hr])
          unfold Dec.state Dec.bind; simp only [HR0.out]; simp only [HR1.out]; simp only [HR2.out]; simp only [HR3.out]; simp only [HR4.out]; simp only [HR5.out]; simp only [HR6.out]; simp only [hm9]), (HT.out.trans (HX2.out.trans ht fun _ _ h => h) fun _ _ h => h).mono fun _ _ h => .inl h⟩⟩
      have HV2 := Lib.hid hr
      have hbo := HO2.out.touch ht hobe
      have hc := hbo.cell 2
      have hf := hbo.frozen 2
      simp only [List.getElem?_toArray, List.getElem?_cons_zero, List.getElem?_cons_succ] at hc
      obtain ⟨u3, hu⟩ : ∃ x, x = u2a.setCell ⟨ob, 2, none⟩ (.string ⟨z2.toArray⟩) := ⟨_, rfl⟩
      have HO3 := Lib.hid (show Blk u3 ob 127 #[.int .i64 z0, .int .i64 z1, .string ⟨z2.toArray⟩] by rw [hu]; exact hbo.set_ 2 (.string ⟨z2.toArray⟩))
      have HY3 := Lib.hid (show Eye u3 be A n c xs q2 by rw [hu]; exact HSTEP.out _ _ _ _ _ (by omega) he)
      have HX3 := Lib.hid (show Touch (· = be) wr u3 by rw [hu]; exact (HX2.out.trans ht fun _ _ h => h).setCell (p := ⟨ob, 2, none⟩) (.inl hobw) _)
      have HZ3 := Lib.hid hu
      clear hr h he ht hbo hu
      obtain ⟨ii, hi, hz, hi3, hi40⟩ := info_parts Try.infoNd
      have hd0 := HO3.out.cell 0
      have hd1 := HO3.out.cell 1
      have hd2 := HO3.out.cell 2
      have hmc := (HBM.out.touch HX3.out (by omega)).cell 6
      have hmf := (HBM.out.touch HX3.out (by omega)).frozen 6
      simp only [List.getElem?_toArray, List.getElem?_cons_zero, List.getElem?_cons_succ] at hd0 hd1 hd2 hmc
      rw [HZ3.out] at hd0 hd1 hd2 hmc hmf
      have HVR2 := Lib.hid (show VRow ((u2a.setCell ⟨ob, 2, none⟩ (.string ⟨z2.toArray⟩)).alloc (.cells #[.int .i64 z0, .int .i64 z1, .string ⟨z2.toArray⟩] 127)) 127 3 nv k (ndsV lst) from by
        rw [← HZ3.out]
        exact (HVR.out.touch HX3.out (fun j hj => HNB.out j hj)).alloc _)
      have HNC : Hid (∀ j u, [.int .i64 z0, .int .i64 z1, .string ⟨z2.toArray⟩][j]? = some u → ((u2a.setCell ⟨ob, 2, none⟩ (.string ⟨z2.toArray⟩)).alloc (.cells #[.int .i64 z0, .int .i64 z1, .string ⟨z2.toArray⟩] 127)).cell? ((⟨u2a.heap.size, 0, none⟩ : Addr).add j) = some u) := Lib.hid (by
        have h := new_cells (u2a.setCell ⟨ob, 2, none⟩ (.string ⟨z2.toArray⟩)) 127 [.int .i64 z0, .int .i64 z1, .string ⟨z2.toArray⟩]
        rw [show (u2a.setCell ⟨ob, 2, none⟩ (.string ⟨z2.toArray⟩)).heap.size = u2a.heap.size from by simp] at h
        exact h)
      have HSP2 := Lib.hid (show Dec.many Dec.nod xs x6.toNat p7 = Dec.pre (lst ++ [⟨z0, z1, z2⟩]) (Dec.many Dec.nod xs (x6.toNat - (k + 1)) q2) from HSP.out.trans (by rw [hm]; exact Dec.pre_step (show Dec.nod xs p = .ok (⟨z0, z1, z2⟩, q2) by unfold Dec.nod Dec.bind; simp only [HV0.out]; simp only [HV1.out]; simp only [HV2.out])))
      have hgo := nod_go (show Dec.nod xs p = .ok (⟨z0, z1, z2⟩, q2) by unfold Dec.nod Dec.bind; simp only [HV0.out]; simp only [HV1.out]; simp only [HV2.out]) (by rw [hxl]; exact hpn)
      have hsz : w.heap.size ≤ u2a.heap.size := by have h := (HT.out.trans HX3.out fun _ _ h => h).size; rw [HZ3.out] at h; simpa using h
      have hBM2 : Blk ((u2a.setCell ⟨ob, 2, none⟩ (.string ⟨z2.toArray⟩)).alloc (.cells #[.int .i64 z0, .int .i64 z1, .string ⟨z2.toArray⟩] 127)) w.heap.size 67 #[.string ⟨x0.toArray⟩, .string ⟨x1.toArray⟩, .string ⟨x2.toArray⟩, .string ⟨x3.toArray⟩, .int .i64 x4, .string ⟨x5.toArray⟩, nv, .slice none 0 0, .int .i64 0] := by rw [← HZ3.out]; exact (HBM.out.touch HX3.out (by omega)).alloc _
      have HBM2 := Lib.hid hBM2; clear hBM2
      go_wp2_with (at_builtin; (refine wpList_append_lies _ rfl _ _ 64 rfl 0 127 ii (.agg #[.int .i64 0, .int .i64 0, .string ⟨#[]⟩]) 3 32 Try.underlying64 hi hz hi3 hi40 rfl (by decide) nv k (ndsV lst) rfl HVR2.out ⟨u2a.heap.size, 0, none⟩ 1 1 [.int .i64 z0, .int .i64 z1, .string ⟨z2.toArray⟩] rfl rfl HNC.out (by intro u hu; simp only [List.mem_cons, List.not_mem_nil, or_false] at hu; rcases hu with rfl | rfl | rfl <;> rfl) (by omega) (by unfold maxLen; omega) (by omega) (Nat.zero_le _) _ rfl ?_); intro g9 c9 w9 hr9 hg9 ho9 hl9; have hbm9 := HBM2.out.grown hg9 (fun e => HNM.out e.symm); have hmf9 := hbm9.frozen 6; have hmc9 := hbm9.cell 6; simp only [List.getElem?_toArray, List.getElem?_cons_zero, List.getElem?_cons_succ] at hmc9)
      obtain ⟨W, hW⟩ : ∃ W, W = w9.setCell ⟨w.heap.size, 6, none⟩ (.slice (some ⟨g9, 0, none⟩) (k + 1) c9) := ⟨_, rfl⟩
      have hbm9 := HBM2.out.grown hg9 (fun e => HNM.out e.symm)
      have hg9m : g9 ≠ w.heap.size := by
        intro e
        have h9 : VRow w9 127 3 (.slice (some ⟨g9, 0, none⟩) (k + 1) c9) (k + 1) (ndsV lst ++ [.int .i64 z0, .int .i64 z1, .string ⟨z2.toArray⟩]) := hr9
        exact h9.ne_blk hbm9 (by decide) (by rw [e]; rfl)
      have HBW := Lib.hid (show Blk W w.heap.size 67 #[.string ⟨x0.toArray⟩, .string ⟨x1.toArray⟩, .string ⟨x2.toArray⟩, .string ⟨x3.toArray⟩, .int .i64 x4, .string ⟨x5.toArray⟩, .slice (some ⟨g9, 0, none⟩) (k + 1) c9, .slice none 0 0, .int .i64 0] by rw [hW]; exact hbm9.set_ 6 (.slice (some ⟨g9, 0, none⟩) (k + 1) c9))
      have HR9 := Lib.hid (show VRow W 127 3 (.slice (some ⟨g9, 0, none⟩) (k + 1) c9) (k + 1) (ndsV (lst ++ [⟨z0, z1, z2⟩])) from by
        rw [ndsV_snoc, hW]
        have h9 : VRow w9 127 3 (.slice (some ⟨g9, 0, none⟩) (k + 1) c9) (k + 1) (ndsV lst ++ [.int .i64 z0, .int .i64 z1, .string ⟨z2.toArray⟩]) := hr9
        exact h9.touch ((Touch.refl (· = w.heap.size) w9).setCell (p := ⟨w.heap.size, 6, none⟩) (.inr rfl) _) (fun j hj => by simp [Value.ownBlock] at hj; omega))
      have hend9 : Eye W be A n c xs q2 ∧ Touch (· = be) w W := by
        rw [← HZ3.out] at hg9
        have h1 : Touch (· = be) w (u3.alloc (.cells #[.int .i64 z0, .int .i64 z1, .string ⟨z2.toArray⟩] 127)) := (HT.out.trans HX3.out fun _ _ h => h).alloc _
        have h2 : Eye (u3.alloc (.cells #[.int .i64 z0, .int .i64 z1, .string ⟨z2.toArray⟩] 127)) be A n c xs q2 := ⟨HY3.out.1.alloc _, HY3.out.2.1.alloc _, HY3.out.2.2.1, HY3.out.2.2.2⟩
        rw [hW]
        refine ⟨HSTEP.out _ _ _ _ _ (Nat.le_refl _) ⟨h2.1.grown hg9 (fun e => HNB.out be e.symm rfl), ?_, h2.2.2.1, h2.2.2.2⟩, (h1.grown hg9 (fun j hj => .inl (HOWN.out j hj).2)).setCell (p := ⟨w.heap.size, 6, none⟩) (.inl (Nat.le_refl _)) _⟩
        refine h2.2.1.keep fun h0 p v hp ⟨a, ha, e⟩ => ?_
        have h4 := HN.out a ha h0
        have h6 : a.block < w.heap.size := by omega
        refine (World.cell?_of_block (hg9.block p.block ?_ ?_)).trans hp
        · rw [e]
          exact Nat.lt_of_lt_of_le h6 h1.size
        · intro e5
          rw [e] at e5
          have := (HOWN.out _ e5.symm).2
          omega
      have hown9 : ∀ j, (Value.slice (some ⟨g9, 0, none⟩) (k + 1) c9).ownBlock = some j → Bd ≤ j ∧ w.heap.size ≤ j := by
        intro j hj
        have hj' : g9 = j := by simpa [Value.ownBlock] using hj
        subst hj'
        rcases ho9 with h | h
        · exact HOWN.out _ h
        · have : w.heap.size ≤ g9 := by rw [h]; simp; omega
          exact ⟨by omega, this⟩
      have HEND9 := Lib.hid hend9
      have HOWN9 := Lib.hid hown9
      rw [← hW]
      clear hend9 hown9 hr9 hg9 ho9 hl9 hW hbm9
      go_roundw
      case rel => exact ⟨k + 1, by omega, by go_num, lst ++ [⟨z0, z1, z2⟩], q2, _, by simp [hlk], by omega, HBW.out, HR9.out, HOWN9.out, HSP2.out, HEND9.out.1, HEND9.out.2⟩
      case measure => simp [intOf] <;> omega
    · have h0 : (x6.toNat - k) = 0 := by omega
      have hfin := HSP.out
      rw [h0, Dec.pre_done] at hfin
      have HR7 := Lib.hid hfin
      have HB8 := HBM
      have HE8 := HE
      have HT8 := HT
      obtain ⟨A8, c8, rfl, _⟩ := HVR.out.form
      obtain ⟨l8, hl⟩ : ∃ x, x = lst := ⟨_, rfl⟩
      obtain ⟨p8, hp⟩ : ∃ x, x = p := ⟨_, rfl⟩
      obtain ⟨w8, hw⟩ : ∃ x, x = wr := ⟨_, rfl⟩
      subst hlk hl hp hw
      have HVA0 := HVR
      have HOA0 := HOWN
      clear HVR HOWN HSP hfin HBM HE HT h0
      go_wp2_with fail
      refine (eplain_any be A n c xs p8 w8 HE8.out).mono ?_
      intro e w9 h
      rcases h.cases with ⟨a, hr, rfl, ht⟩ | ⟨x8, p9, hr, rfl, he, ht⟩
      · exact ⟨rfl, .inl ⟨a, rfl, (show Dec.state xs 0 = .error a by unfold Dec.state Dec.bind; simp only [HR0.out]; simp only [HR1.out]; simp only [HR2.out]; simp only [HR3.out]; simp only [HR4.out]; simp only [HR5.out]; simp only [HR6.out]; simp only [HR7.out]; simp only [hr]), (HT8.out.trans ht fun _ _ h => h).mono fun _ _ h => .inl h⟩⟩
      have hN0 : 0 ≤ x8 := (Dec.number_ok hr).2.2.2.2.2
      have hN1 : x8 ≤ 4503599627370496 := (Dec.number_ok hr).2.2.2.2.1
      have HB9 := Lib.hid (HB8.out.touch ht (by omega))
      have HR8 := Lib.hid hr
      have HE9 := Lib.hid he
      have HT9 := Lib.hid (HT8.out.trans ht fun _ _ h => h)
      have HVA0 := Lib.hid (HVA0.out.touch ht (fun j hj e => HVA0.out.ne_blk HE8.out.1 (by decide) (by rw [hj, e])))
      clear hr h he ht
      go_wp2_with fail
      go_loopw [50] (fun i wr => ∃ k : Nat, (k : Int) ≤ x8 ∧ i = .int .i64 k ∧ ∃ (lst : List Dec.Sg) (p : Nat) (nv : Value), lst.length = k ∧ k ≤ p ∧ Blk wr w.heap.size 67 #[.string ⟨x0.toArray⟩, .string ⟨x1.toArray⟩, .string ⟨x2.toArray⟩, .string ⟨x3.toArray⟩, .int .i64 x4, .string ⟨x5.toArray⟩, .slice A8 l8.length c8, nv, .int .i64 0] ∧ VRow wr 129 2 nv k (sgsV lst) ∧ (∀ j, nv.ownBlock = some j → Bd ≤ j ∧ w.heap.size ≤ j) ∧
          Dec.many Dec.sig xs x8.toNat p9 = Dec.pre lst (Dec.many Dec.sig xs (x8.toNat - k) p) ∧ Eye wr be A n c xs p ∧ Touch (· = be) w wr ∧ VRow wr 127 3 (.slice A8 l8.length c8) l8.length (ndsV l8) ) (fun i _ => x8.toNat - (intOf i).toNat)
      case atStart => exact ⟨0, by omega, rfl, [], p9, .slice none 0 0, rfl, by omega, HB9.out, VRow.nil_ _ _ _, fun j h => ⟨own_none h, own_none h⟩, (Dec.pre_nil _).symm, HE9.out, HT9.out, HVA0.out⟩
      case round =>
        obtain ⟨k, hk, rfl, lst, p, nv, hlk, hkp, hbm, hvr, hown, hsp, he, ht, hva0⟩ := hrel
        have hpn := he.2.2.1
        have HVR := Lib.hid hvr; clear hvr
        have HBM := Lib.hid hbm; clear hbm
        have HOWN := Lib.hid hown; clear hown
        have HSP := Lib.hid hsp; clear hsp
        have HE := Lib.hid he; clear he
        have HT := Lib.hid ht; clear ht
        have HVB0 := Lib.hid hva0; clear hva0
        by_cases hlt : (k : Int) < x8
        · have hm : x8.toNat - k = (x8.toNat - (k + 1)) + 1 := by omega
          obtain ⟨ob, hob⟩ : ∃ ob, ob = wr.heap.size := ⟨_, rfl⟩
          obtain ⟨S1, hS1⟩ : ∃ S1, S1 = wr.alloc (.cells #[.string ⟨#[]⟩, .string ⟨#[]⟩] 129) := ⟨_, rfl⟩
          have HO0 := Lib.hid (show Blk S1 ob 129 #[.string ⟨#[]⟩, .string ⟨#[]⟩] by rw [hS1, hob]; exact Blk.new _ _ _)
          have HY0 := Lib.hid (show Eye S1 be A n c xs p by rw [hS1]; exact ⟨HE.out.1.alloc _, HE.out.2.1.alloc _, HE.out.2.2.1, HE.out.2.2.2⟩)
          have HX0 := Lib.hid (show Touch (· = be) wr S1 by rw [hS1]; exact (Touch.refl _ wr).alloc _)
          have hbel := HE.out.1.lt
          have hmbl := HBM.out.lt
          have hww : w.heap.size ≤ wr.heap.size := HT.out.size
          have hobw : wr.heap.size ≤ ob := by omega
          have hobe : ob ≠ be := by omega
          have hobm : ob ≠ w.heap.size := by omega
          have HNB : Hid (∀ j, nv.ownBlock = some j → ¬ (j = be)) := Lib.hid (fun j hj e => HVR.out.ne_blk HE.out.1 (by decide) (by rw [hj, e]))
          have HNM : Hid (nv.ownBlock ≠ some w.heap.size) := Lib.hid (HVR.out.ne_blk HBM.out (by decide))
          have HVN0 := Lib.hid (HVB0.out.ne_row HVR.out (by decide))
          have HOB := Lib.hid hob
          have HZ0 := Lib.hid hS1
          clear hS1 hob
          go_wp2_with fail
          rw [← HZ0.out, ← HOB.out]
          refine (etext_any be A n c xs p S1 HY0.out).mono ?_
          intro e u0a h
          rcases h.cases with ⟨a, hr, rfl, ht⟩ | ⟨z0, q0, hr, rfl, he, ht⟩
          · exact ⟨rfl, .inl ⟨a, rfl, (show Dec.state xs 0 = .error a by
              have hm9 : Dec.many Dec.sig xs x8.toNat p9 = .error a := by rw [HSP.out, hm]; exact Dec.pre_bad (by unfold Dec.sig Dec.bind; simp only [hr])
              unfold Dec.state Dec.bind; simp only [HR0.out]; simp only [HR1.out]; simp only [HR2.out]; simp only [HR3.out]; simp only [HR4.out]; simp only [HR5.out]; simp only [HR6.out]; simp only [HR7.out]; simp only [HR8.out]; simp only [hm9]), (HT.out.trans (HX0.out.trans ht fun _ _ h => h) fun _ _ h => h).mono fun _ _ h => .inl h⟩⟩
          have HV0 := Lib.hid hr
          have hbo := HO0.out.touch ht hobe
          have hc := hbo.cell 0
          have hf := hbo.frozen 0
          simp only [List.getElem?_toArray, List.getElem?_cons_zero] at hc
          obtain ⟨u1, hu⟩ : ∃ x, x = u0a.setCell ⟨ob, 0, none⟩ (.string ⟨z0.toArray⟩) := ⟨_, rfl⟩
          have HO1 := Lib.hid (show Blk u1 ob 129 #[.string ⟨z0.toArray⟩, .string ⟨#[]⟩] by rw [hu]; exact hbo.set_ 0 (.string ⟨z0.toArray⟩))
          have HY1 := Lib.hid (show Eye u1 be A n c xs q0 by rw [hu]; exact HSTEP.out _ _ _ _ _ (by omega) he)
          have HX1 := Lib.hid (show Touch (· = be) wr u1 by rw [hu]; exact (HX0.out.trans ht fun _ _ h => h).setCell (p := ⟨ob, 0, none⟩) (.inl hobw) _)
          have HZ1 := Lib.hid hu
          clear hr h he ht hbo hu
          go_wp2_with fail
          rw [← HZ1.out]
          clear hc hf
          refine (etext_any be A n c xs q0 u1 HY1.out).mono ?_
          intro e u1a h
          rcases h.cases with ⟨a, hr, rfl, ht⟩ | ⟨z1, q1, hr, rfl, he, ht⟩
          · exact ⟨rfl, .inl ⟨a, rfl, (show Dec.state xs 0 = .error a by
              have hm9 : Dec.many Dec.sig xs x8.toNat p9 = .error a := by rw [HSP.out, hm]; exact Dec.pre_bad (by unfold Dec.sig Dec.bind; simp only [HV0.out]; simp only [hr])
              unfold Dec.state Dec.bind; simp only [HR0.out]; simp only [HR1.out]; simp only [HR2.out]; simp only [HR3.out]; simp only [HR4.out]; simp only [HR5.out]; simp only [HR6.out]; simp only [HR7.out]; simp only [HR8.out]; simp only [hm9]), (HT.out.trans (HX1.out.trans ht fun _ _ h => h) fun _ _ h => h).mono fun _ _ h => .inl h⟩⟩
          have HV1 := Lib.hid hr
          have hbo := HO1.out.touch ht hobe
          have hc := hbo.cell 1
          have hf := hbo.frozen 1
          simp only [List.getElem?_toArray, List.getElem?_cons_zero, List.getElem?_cons_succ] at hc
          obtain ⟨u2, hu⟩ : ∃ x, x = u1a.setCell ⟨ob, 1, none⟩ (.string ⟨z1.toArray⟩) := ⟨_, rfl⟩
          have HO2 := Lib.hid (show Blk u2 ob 129 #[.string ⟨z0.toArray⟩, .string ⟨z1.toArray⟩] by rw [hu]; exact hbo.set_ 1 (.string ⟨z1.toArray⟩))
          have HY2 := Lib.hid (show Eye u2 be A n c xs q1 by rw [hu]; exact HSTEP.out _ _ _ _ _ (by omega) he)
          have HX2 := Lib.hid (show Touch (· = be) wr u2 by rw [hu]; exact (HX1.out.trans ht fun _ _ h => h).setCell (p := ⟨ob, 1, none⟩) (.inl hobw) _)
          have HZ2 := Lib.hid hu
          clear hr h he ht hbo hu
          obtain ⟨ii, hi, hz, hi3, hi40⟩ := info_parts Try.infoSg
          have hd0 := HO2.out.cell 0
          have hd1 := HO2.out.cell 1
          have hmc := (HBM.out.touch HX2.out (by omega)).cell 7
          have hmf := (HBM.out.touch HX2.out (by omega)).frozen 7
          simp only [List.getElem?_toArray, List.getElem?_cons_zero, List.getElem?_cons_succ] at hd0 hd1 hmc
          rw [HZ2.out] at hd0 hd1 hmc hmf
          have HVR2 := Lib.hid (show VRow ((u1a.setCell ⟨ob, 1, none⟩ (.string ⟨z1.toArray⟩)).alloc (.cells #[.string ⟨z0.toArray⟩, .string ⟨z1.toArray⟩] 129)) 129 2 nv k (sgsV lst) from by
            rw [← HZ2.out]
            exact (HVR.out.touch HX2.out (fun j hj => HNB.out j hj)).alloc _)
          have HNC : Hid (∀ j u, [.string ⟨z0.toArray⟩, .string ⟨z1.toArray⟩][j]? = some u → ((u1a.setCell ⟨ob, 1, none⟩ (.string ⟨z1.toArray⟩)).alloc (.cells #[.string ⟨z0.toArray⟩, .string ⟨z1.toArray⟩] 129)).cell? ((⟨u1a.heap.size, 0, none⟩ : Addr).add j) = some u) := Lib.hid (by
            have h := new_cells (u1a.setCell ⟨ob, 1, none⟩ (.string ⟨z1.toArray⟩)) 129 [.string ⟨z0.toArray⟩, .string ⟨z1.toArray⟩]
            rw [show (u1a.setCell ⟨ob, 1, none⟩ (.string ⟨z1.toArray⟩)).heap.size = u1a.heap.size from by simp] at h
            exact h)
          have HSP2 := Lib.hid (show Dec.many Dec.sig xs x8.toNat p9 = Dec.pre (lst ++ [⟨z0, z1⟩]) (Dec.many Dec.sig xs (x8.toNat - (k + 1)) q1) from HSP.out.trans (by rw [hm]; exact Dec.pre_step (show Dec.sig xs p = .ok (⟨z0, z1⟩, q1) by unfold Dec.sig Dec.bind; simp only [HV0.out]; simp only [HV1.out])))
          have hgo := sig_go (show Dec.sig xs p = .ok (⟨z0, z1⟩, q1) by unfold Dec.sig Dec.bind; simp only [HV0.out]; simp only [HV1.out]) (by rw [hxl]; exact hpn)
          have hsz : w.heap.size ≤ u1a.heap.size := by have h := (HT.out.trans HX2.out fun _ _ h => h).size; rw [HZ2.out] at h; simpa using h
          have hBM2 : Blk ((u1a.setCell ⟨ob, 1, none⟩ (.string ⟨z1.toArray⟩)).alloc (.cells #[.string ⟨z0.toArray⟩, .string ⟨z1.toArray⟩] 129)) w.heap.size 67 #[.string ⟨x0.toArray⟩, .string ⟨x1.toArray⟩, .string ⟨x2.toArray⟩, .string ⟨x3.toArray⟩, .int .i64 x4, .string ⟨x5.toArray⟩, .slice A8 l8.length c8, nv, .int .i64 0] := by rw [← HZ2.out]; exact (HBM.out.touch HX2.out (by omega)).alloc _
          have HBM2 := Lib.hid hBM2; clear hBM2
          go_wp2_with (at_builtin; (refine wpList_append_lies _ rfl _ _ 65 rfl 0 129 ii (.agg #[.string ⟨#[]⟩, .string ⟨#[]⟩]) 2 32 Try.underlying65 hi hz hi3 hi40 rfl (by decide) nv k (sgsV lst) rfl HVR2.out ⟨u1a.heap.size, 0, none⟩ 1 1 [.string ⟨z0.toArray⟩, .string ⟨z1.toArray⟩] rfl rfl HNC.out (by intro u hu; simp only [List.mem_cons, List.not_mem_nil, or_false] at hu; rcases hu with rfl | rfl <;> rfl) (by omega) (by unfold maxLen; omega) (by omega) (Nat.zero_le _) _ rfl ?_); intro g9 c9 w9 hr9 hg9 ho9 hl9; have hbm9 := HBM2.out.grown hg9 (fun e => HNM.out e.symm); have hmf9 := hbm9.frozen 7; have hmc9 := hbm9.cell 7; simp only [List.getElem?_toArray, List.getElem?_cons_zero, List.getElem?_cons_succ] at hmc9)
          obtain ⟨W, hW⟩ : ∃ W, W = w9.setCell ⟨w.heap.size, 7, none⟩ (.slice (some ⟨g9, 0, none⟩) (k + 1) c9) := ⟨_, rfl⟩
          have hbm9 := HBM2.out.grown hg9 (fun e => HNM.out e.symm)
          have hg9m : g9 ≠ w.heap.size := by
            intro e
            have h9 : VRow w9 129 2 (.slice (some ⟨g9, 0, none⟩) (k + 1) c9) (k + 1) (sgsV lst ++ [.string ⟨z0.toArray⟩, .string ⟨z1.toArray⟩]) := hr9
            exact h9.ne_blk hbm9 (by decide) (by rw [e]; rfl)
          have HBW := Lib.hid (show Blk W w.heap.size 67 #[.string ⟨x0.toArray⟩, .string ⟨x1.toArray⟩, .string ⟨x2.toArray⟩, .string ⟨x3.toArray⟩, .int .i64 x4, .string ⟨x5.toArray⟩, .slice A8 l8.length c8, .slice (some ⟨g9, 0, none⟩) (k + 1) c9, .int .i64 0] by rw [hW]; exact hbm9.set_ 7 (.slice (some ⟨g9, 0, none⟩) (k + 1) c9))
          have HR9 := Lib.hid (show VRow W 129 2 (.slice (some ⟨g9, 0, none⟩) (k + 1) c9) (k + 1) (sgsV (lst ++ [⟨z0, z1⟩])) from by
            rw [sgsV_snoc, hW]
            have h9 : VRow w9 129 2 (.slice (some ⟨g9, 0, none⟩) (k + 1) c9) (k + 1) (sgsV lst ++ [.string ⟨z0.toArray⟩, .string ⟨z1.toArray⟩]) := hr9
            exact h9.touch ((Touch.refl (· = w.heap.size) w9).setCell (p := ⟨w.heap.size, 7, none⟩) (.inr rfl) _) (fun j hj => by simp [Value.ownBlock] at hj; omega))
          have hend9 : Eye W be A n c xs q1 ∧ Touch (· = be) w W := by
            rw [← HZ2.out] at hg9
            have h1 : Touch (· = be) w (u2.alloc (.cells #[.string ⟨z0.toArray⟩, .string ⟨z1.toArray⟩] 129)) := (HT.out.trans HX2.out fun _ _ h => h).alloc _
            have h2 : Eye (u2.alloc (.cells #[.string ⟨z0.toArray⟩, .string ⟨z1.toArray⟩] 129)) be A n c xs q1 := ⟨HY2.out.1.alloc _, HY2.out.2.1.alloc _, HY2.out.2.2.1, HY2.out.2.2.2⟩
            rw [hW]
            refine ⟨HSTEP.out _ _ _ _ _ (Nat.le_refl _) ⟨h2.1.grown hg9 (fun e => HNB.out be e.symm rfl), ?_, h2.2.2.1, h2.2.2.2⟩, (h1.grown hg9 (fun j hj => .inl (HOWN.out j hj).2)).setCell (p := ⟨w.heap.size, 7, none⟩) (.inl (Nat.le_refl _)) _⟩
            refine h2.2.1.keep fun h0 p v hp ⟨a, ha, e⟩ => ?_
            have h4 := HN.out a ha h0
            have h6 : a.block < w.heap.size := by omega
            refine (World.cell?_of_block (hg9.block p.block ?_ ?_)).trans hp
            · rw [e]
              exact Nat.lt_of_lt_of_le h6 h1.size
            · intro e5
              rw [e] at e5
              have := (HOWN.out _ e5.symm).2
              omega
          have hown9 : ∀ j, (Value.slice (some ⟨g9, 0, none⟩) (k + 1) c9).ownBlock = some j → Bd ≤ j ∧ w.heap.size ≤ j := by
            intro j hj
            have hj' : g9 = j := by simpa [Value.ownBlock] using hj
            subst hj'
            rcases ho9 with h | h
            · exact HOWN.out _ h
            · have : w.heap.size ≤ g9 := by rw [h]; simp; omega
              exact ⟨by omega, this⟩
          have HEND9 := Lib.hid hend9
          have HOWN9 := Lib.hid hown9
          have HVC0 := Lib.hid (show VRow W 127 3 (.slice A8 l8.length c8) l8.length (ndsV l8) by
            rw [hW]
            refine VRow.touch (S := (· = w.heap.size)) ?_ ((Touch.refl (· = w.heap.size) w9).setCell (p := ⟨w.heap.size, 7, none⟩) (.inr rfl) _) (fun j hj e => (HVB0.out.ne_blk HBM.out (by decide)) (by rw [hj, e]))
            have h9 := (HVB0.out.touch HX2.out (fun j hj e => (HVB0.out.ne_blk HE.out.1 (by decide)) (by rw [hj, e]))).alloc (.cells #[.string ⟨z0.toArray⟩, .string ⟨z1.toArray⟩] 129)
            rw [HZ2.out] at h9
            exact World.ownsRow.kept h9 hg9 HVN0.out)
          rw [← hW]
          clear hend9 hown9 hr9 hg9 ho9 hl9 hW hbm9
          go_roundw
          case rel => exact ⟨k + 1, by omega, by go_num, lst ++ [⟨z0, z1⟩], q1, _, by simp [hlk], by omega, HBW.out, HR9.out, HOWN9.out, HSP2.out, HEND9.out.1, HEND9.out.2, HVC0.out⟩
          case measure => simp [intOf] <;> omega
        · have h0 : (x8.toNat - k) = 0 := by omega
          have hfin := HSP.out
          rw [h0, Dec.pre_done] at hfin
          have HR9 := Lib.hid hfin
          have HB10 := HBM
          have HE10 := HE
          have HT10 := HT
          obtain ⟨A10, c10, rfl, _⟩ := HVR.out.form
          obtain ⟨l10, hl⟩ : ∃ x, x = lst := ⟨_, rfl⟩
          obtain ⟨p10, hp⟩ : ∃ x, x = p := ⟨_, rfl⟩
          obtain ⟨w10, hw⟩ : ∃ x, x = wr := ⟨_, rfl⟩
          subst hlk hl hp hw
          have HVA1 := HVR
          have HOA1 := HOWN
          clear HVR HOWN HSP hfin HBM HE HT h0
          have HVA0 := HVB0
          go_wp2_with fail
          refine (eplain_any be A n c xs p10 w10 HE10.out).mono ?_
          intro e wa h
          rcases h.cases with ⟨a, hr, rfl, ht⟩ | ⟨x10, p11, hr, rfl, he, ht⟩
          · exact ⟨rfl, .inl ⟨a, rfl, (show Dec.state xs 0 = .error a by unfold Dec.state Dec.bind; simp only [HR0.out]; simp only [HR1.out]; simp only [HR2.out]; simp only [HR3.out]; simp only [HR4.out]; simp only [HR5.out]; simp only [HR6.out]; simp only [HR7.out]; simp only [HR8.out]; simp only [HR9.out]; simp only [hr]), (HT10.out.trans ht fun _ _ h => h).mono fun _ _ h => .inl h⟩⟩
          have hb := HB10.out.touch ht (by omega)
          have hc := hb.cell 8
          have hf := hb.frozen 8
          simp only [List.getElem?_toArray, List.getElem?_cons_zero, List.getElem?_cons_succ] at hc
          have HR10 := Lib.hid hr
          have HVA0 := Lib.hid (HVA0.out.touch ht (fun j hj e => HVA0.out.ne_blk HE10.out.1 (by decide) (by rw [hj, e])))
          have HVA1 := Lib.hid (HVA1.out.touch ht (fun j hj e => HVA1.out.ne_blk HE10.out.1 (by decide) (by rw [hj, e])))
          have HBA := Lib.hid hb
          obtain ⟨w11, hw11⟩ : ∃ w', w' = wa.setCell ⟨w.heap.size, 8, none⟩ (.int .i64 x10) := ⟨_, rfl⟩
          have HB11 := Lib.hid (show Blk w11 w.heap.size 67 #[.string ⟨x0.toArray⟩, .string ⟨x1.toArray⟩, .string ⟨x2.toArray⟩, .string ⟨x3.toArray⟩, .int .i64 x4, .string ⟨x5.toArray⟩, .slice A8 l8.length c8, .slice A10 l10.length c10, .int .i64 x10] by rw [hw11]; exact hb.set_ 8 (.int .i64 x10))
          have HE11 := Lib.hid (show Eye w11 be A n c xs p11 by rw [hw11]; exact HSTEP.out _ _ _ _ _ (Nat.le_refl _) he)
          have HT11 := Lib.hid (show Touch (· = be) w w11 by rw [hw11]; exact (HT10.out.trans ht fun _ _ h => h).setCell (p := ⟨w.heap.size, 8, none⟩) (.inl (Nat.le_refl _)) _)
          have HW11 := Lib.hid hw11
          clear hw11 hb hr h he ht
          have hbx := HB11.out
          have g0 := hbx.cell 0
          have m0 := hbx.frozen 0
          have g1 := hbx.cell 1
          have m1 := hbx.frozen 1
          have g2 := hbx.cell 2
          have m2 := hbx.frozen 2
          have g3 := hbx.cell 3
          have m3 := hbx.frozen 3
          have g4 := hbx.cell 4
          have m4 := hbx.frozen 4
          have g5 := hbx.cell 5
          have m5 := hbx.frozen 5
          have g6 := hbx.cell 6
          have m6 := hbx.frozen 6
          have g7 := hbx.cell 7
          have m7 := hbx.frozen 7
          have g8 := hbx.cell 8
          have m8 := hbx.frozen 8
          simp only [List.getElem?_toArray, List.getElem?_cons_zero, List.getElem?_cons_succ] at g0 g1 g2 g3 g4 g5 g6 g7 g8
          obtain ⟨W, hW⟩ : ∃ W, W = (((((((((w11.setCell ⟨w.heap.size, 0, none⟩ (.string ⟨x0.toArray⟩)).setCell ⟨w.heap.size, 1, none⟩ (.string ⟨x1.toArray⟩)).setCell ⟨w.heap.size, 2, none⟩ (.string ⟨x2.toArray⟩)).setCell ⟨w.heap.size, 3, none⟩ (.string ⟨x3.toArray⟩)).setCell ⟨w.heap.size, 4, none⟩ (.int .i64 x4)).setCell ⟨w.heap.size, 5, none⟩ (.string ⟨x5.toArray⟩)).setCell ⟨w.heap.size, 6, none⟩ (.slice A8 l8.length c8)).setCell ⟨w.heap.size, 7, none⟩ (.slice A10 l10.length c10)).setCell ⟨w.heap.size, 8, none⟩ (.int .i64 x10)) := ⟨_, rfl⟩
          have HBW := Lib.hid (show Blk W w.heap.size 67 #[.string ⟨x0.toArray⟩, .string ⟨x1.toArray⟩, .string ⟨x2.toArray⟩, .string ⟨x3.toArray⟩, .int .i64 x4, .string ⟨x5.toArray⟩, .slice A8 l8.length c8, .slice A10 l10.length c10, .int .i64 x10] by rw [hW]; exact HB11.out.puts_all [.string ⟨x0.toArray⟩, .string ⟨x1.toArray⟩, .string ⟨x2.toArray⟩, .string ⟨x3.toArray⟩, .int .i64 x4, .string ⟨x5.toArray⟩, .slice A8 l8.length c8, .slice A10 l10.length c10, .int .i64 x10] rfl)
          have HEW := Lib.hid (show Eye W be A n c xs p11 by rw [hW]; exact puts_ind (P := fun wa => Eye wa be A n c xs p11) w.heap.size (fun wa g u h => HSTEP.out wa _ g u _ (Nat.le_refl _) h) [.string ⟨x0.toArray⟩, .string ⟨x1.toArray⟩, .string ⟨x2.toArray⟩, .string ⟨x3.toArray⟩, .int .i64 x4, .string ⟨x5.toArray⟩, .slice A8 l8.length c8, .slice A10 l10.length c10, .int .i64 x10] 0 _ HE11.out)
          have HTW := Lib.hid (show Touch (· = be) w W by rw [hW]; exact HT11.out.puts (b := w.heap.size) (.inl (Nat.le_refl _)) 0 [.string ⟨x0.toArray⟩, .string ⟨x1.toArray⟩, .string ⟨x2.toArray⟩, .string ⟨x3.toArray⟩, .int .i64 x4, .string ⟨x5.toArray⟩, .slice A8 l8.length c8, .slice A10 l10.length c10, .int .i64 x10])
          have HTM := Lib.hid (show Touch (· = w.heap.size) wa W by rw [hW, HW11.out]; exact ((Touch.refl (· = w.heap.size) wa).setCell (p := ⟨w.heap.size, 8, none⟩) (.inr rfl) _).puts (b := w.heap.size) (.inr rfl) 0 [.string ⟨x0.toArray⟩, .string ⟨x1.toArray⟩, .string ⟨x2.toArray⟩, .string ⟨x3.toArray⟩, .int .i64 x4, .string ⟨x5.toArray⟩, .slice A8 l8.length c8, .slice A10 l10.length c10, .int .i64 x10])
          rw [HW11.out] at hW g0 m0 g1 m1 g2 m2 g3 m3 g4 m4 g5 m5 g6 m6 g7 m7 g8 m8
          have HWW := Lib.hid hW
          clear hbx hW
          go_wp2_with fail
          rw [← HWW.out]
          have e0 := HBW.out.cell 0
          have e1 := HBW.out.cell 1
          have e2 := HBW.out.cell 2
          have e3 := HBW.out.cell 3
          have e4 := HBW.out.cell 4
          have e5 := HBW.out.cell 5
          have e6 := HBW.out.cell 6
          have e7 := HBW.out.cell 7
          have e8 := HBW.out.cell 8
          simp only [List.getElem?_toArray, List.getElem?_cons_zero, List.getElem?_cons_succ] at e0 e1 e2 e3 e4 e5 e6 e7 e8
          refine bodyPost_ret (v := stV (⟨x0, x1, x2, x3, x4, x5, l8, l10, x10⟩, A8, c8, A10, c10)) (by simp [stV, results, Try.results95, go_sem, e0, e1, e2, e3, e4, e5, e6, e7, e8]) rfl (.inr ⟨(⟨x0, x1, x2, x3, x4, x5, l8, l10, x10⟩, A8, c8, A10, c10), p11, rfl, ⟨?_, ?_, ?_, fun j hj => (HOA0.out j hj).1, fun j hj => (HOA1.out j hj).1⟩, HEW.out, HTW.out.mono fun _ _ h => .inl h⟩)
          · show Dec.state xs 0 = .ok (⟨x0, x1, x2, x3, x4, x5, l8, l10, x10⟩, p11)
            unfold Dec.state Dec.bind; simp only [HR0.out]; simp only [HR1.out]; simp only [HR2.out]; simp only [HR3.out]; simp only [HR4.out]; simp only [HR5.out]; simp only [HR6.out]; simp only [HR7.out]; simp only [HR8.out]; simp only [HR9.out]; simp only [HR10.out]
          · exact HVA0.out.touch HTM.out (fun j hj e => HVA0.out.ne_blk HBA.out (by decide) (by rw [hj, e]))
          · exact HVA1.out.touch HTM.out (fun j hj e => HVA1.out.ne_blk HBA.out (by decide) (by rw [hj, e]))
/-- a state's rows are new, and the call's own -/
structure StaOwn (w w' : World) (s : Dec.Sta) (A : Option Addr) (c : Nat) (B : Option Addr) (d : Nat) : Prop where
  nd : VRow w' 127 3 (.slice A s.nd.length c) s.nd.length (ndsV s.nd)
  sg : VRow w' 129 2 (.slice B s.sg.length d) s.sg.length (sgsV s.sg)
  ndn : ∀ k, (Value.slice A s.nd.length c).ownBlock = some k → w.heap.size ≤ k
  sgn : ∀ k, (Value.slice B s.sg.length d).ownBlock = some k → w.heap.size ≤ k
theorem StaOwn.at_ {w w' : World} {s : Dec.Sta} {A B : Option Addr} {c d : Nat} (h : StaOwn w w' s A c B d) : StaAt w' s A c B d := ⟨h.nd.rd, h.sg.rd⟩
theorem StaOwn.blk {w w' : World} {s : Dec.Sta} {A B : Option Addr} {c d : Nat} (h : StaOwn w w' s A c B d) : StaBlk s A B w'.heap.size := ⟨fun a ha _ => h.nd.lt a.block (by rw [ha]; rfl), fun a ha _ => h.sg.lt a.block (by rw [ha]; rfl)⟩
theorem StaOwn.touch {S : Nat → Prop} {w w' w'' : World} {s : Dec.Sta} {A B : Option Addr} {c d : Nat} (h : StaOwn w w' s A c B d) (ht : Touch S w' w'') (hs : ∀ k, w.heap.size ≤ k → k < w'.heap.size → ¬ S k) : StaOwn w w'' s A c B d :=
  ⟨h.nd.touch ht (fun k hk => hs k (h.ndn k hk) (h.nd.lt k hk)), h.sg.touch ht (fun k hk => hs k (h.sgn k hk) (h.sg.lt k hk)), h.ndn, h.sgn⟩
/-- What a reading of a whole state gives. -/
def StaEnd (w : World) (r : Except Nat Dec.Sta) (e : Ending) (w' : World) : Prop :=
  Fresh w w' ∧ match r with
  | .ok s => ∃ A c B d, e = .returned (.tuple #[stV (s, A, c, B, d), .int .i64 0, .int .i64 0]) ∧ StaOwn w w' s A c B d
  | .error a => e = .returned (.tuple #[.agg #[.string ⟨#[]⟩, .string ⟨#[]⟩, .string ⟨#[]⟩, .string ⟨#[]⟩, .int .i64 0, .string ⟨#[]⟩, .slice none 0 0, .slice none 0 0, .int .i64 0], .int .i64 (a : Nat), .int .i64 2])
theorem StaEnd.cases {w : World} {r : Except Nat Dec.Sta} {e : Ending} {w' : World} (h : StaEnd w r e w') :
    (∃ a, r = .error a ∧ e = .returned (.tuple #[.agg #[.string ⟨#[]⟩, .string ⟨#[]⟩, .string ⟨#[]⟩, .string ⟨#[]⟩, .int .i64 0, .string ⟨#[]⟩, .slice none 0 0, .slice none 0 0, .int .i64 0], .int .i64 a, .int .i64 2]) ∧ Fresh w w') ∨
    (∃ s A c B d, r = .ok s ∧ e = .returned (.tuple #[stV (s, A, c, B, d), .int .i64 0, .int .i64 0]) ∧ StaOwn w w' s A c B d ∧ Fresh w w') := by
  cases r with
  | error a => exact .inl ⟨a, rfl, h.2, h.1⟩
  | ok s =>
    obtain ⟨ht, A, c, B, d, h1, h2⟩ := h
    exact .inr ⟨s, A, c, B, d, rfl, h1, h2, ht⟩
theorem StaEnd.bad {w w' : World} {r : Except Nat Dec.Sta} {a : Nat} (hr : r = .error a) (h : Fresh w w') : StaEnd w r (.returned (.tuple #[.agg #[.string ⟨#[]⟩, .string ⟨#[]⟩, .string ⟨#[]⟩, .string ⟨#[]⟩, .int .i64 0, .string ⟨#[]⟩, .slice none 0 0, .slice none 0 0, .int .i64 0], .int .i64 a, .int .i64 2])) w' := hr ▸ ⟨h, rfl⟩
theorem StaEnd.good {w w' : World} {r : Except Nat Dec.Sta} {s : Dec.Sta} {A B : Option Addr} {c d : Nat} (hr : r = .ok s) (h1 : StaOwn w w' s A c B d) (h : Fresh w w') :
    StaEnd w r (.returned (.tuple #[stV (s, A, c, B, d), .int .i64 0, .int .i64 0])) w' := hr ▸ ⟨h, A, c, B, d, rfl, h1⟩

set_option maxRecDepth 100000 in
set_option maxHeartbeats 2000000 in
theorem sta_read (A : Option Addr) (n c : Nat) (xs : List UInt8) (w : World) (hbs : Bs w A n c xs) (hA : ∀ a, A = some a → 0 < n → a.block < w.heap.size) (hn : n ≤ 4000000000000) :
    Calls Try.prog 45 #[.slice A n c] w (StaEnd w (Dec.whole (Dec.state xs 0) n)) := by
  obtain ⟨w0, hw0⟩ : ∃ w0, w0 = w.alloc (.cells #[.string ⟨#[]⟩, .string ⟨#[]⟩, .string ⟨#[]⟩, .string ⟨#[]⟩, .int .i64 0, .string ⟨#[]⟩, .slice none 0 0, .slice none 0 0, .int .i64 0] 67) := ⟨_, rfl⟩
  have HT0 := Lib.hid (show Fresh w w0 by rw [hw0]; exact (Touch.refl _ w).alloc _)
  have HB0 := Lib.hid (show Blk w0 w.heap.size 67 #[.string ⟨#[]⟩, .string ⟨#[]⟩, .string ⟨#[]⟩, .string ⟨#[]⟩, .int .i64 0, .string ⟨#[]⟩, .slice none 0 0, .slice none 0 0, .int .i64 0] by rw [hw0]; exact Blk.new _ _ _)
  have hsz : w0.heap.size = w.heap.size + 1 := by rw [hw0]; simp
  have HK := Lib.hid (record_state_g 95 #[] (fun _ => False) A n c xs (fun a => Dec.state xs 0 = .error a) (StaGood (w0.heap.size + 1 + 1 + 1) xs) w0 (hbs.fresh HT0.out) (fun a ha h0 => by have := hA a ha h0; omega)
    (fun k hk => hk.elim) (fun args w => by simp [go_sem]) (fun x q w2 w3 _ ⟨h1, h2, h3, h4, h5⟩ ht => ⟨h1, h2.touch ht (fun k hk => by have := h4 k hk; omega), h3.touch ht (fun k hk => by have := h5 k hk; omega), h4, h5⟩)
    (fun w1 be hf hbe he => by simpa using state1_read be (w0.heap.size + 1 + 1 + 1) A n c xs w1 he (by have := he.1.lt; omega) hn))
  have HW0 := Lib.hid hw0
  clear hbs hA hw0
  go_enter Try.func45, Try.ntmps45
  go_wp2_with fail
  rw [← HW0.out]
  refine HK.out.mono ?_
  rintro e w1 ⟨ht, h⟩
  have HT1 := Lib.hid (show Fresh w0 w1 from ht)
  have hs1 := ht.size
  rcases h with ⟨a, hbad, rfl⟩ | ⟨⟨s, A', c', B', d'⟩, q, w2, hgood, h⟩
  · have HR := Lib.hid (show Dec.whole (Dec.state xs 0) n = .error a by rw [hbad]; rfl)
    clear hbad ht
    have hb := HB0.out.touch HT1.out id
    have hc0 := hb.cell 0
    have hf0 := hb.frozen 0
    have hc1 := hb.cell 1
    have hf1 := hb.frozen 1
    have hc2 := hb.cell 2
    have hf2 := hb.frozen 2
    have hc3 := hb.cell 3
    have hf3 := hb.frozen 3
    have hc4 := hb.cell 4
    have hf4 := hb.frozen 4
    have hc5 := hb.cell 5
    have hf5 := hb.frozen 5
    have hc6 := hb.cell 6
    have hf6 := hb.frozen 6
    have hc7 := hb.cell 7
    have hf7 := hb.frozen 7
    have hc8 := hb.cell 8
    have hf8 := hb.frozen 8
    simp only [List.getElem?_toArray, List.getElem?_cons_zero, List.getElem?_cons_succ] at hc0 hc1 hc2 hc3 hc4 hc5 hc6 hc7 hc8
    obtain ⟨W, hW⟩ : ∃ W, W = (((((((((w1.setCell ⟨w.heap.size, 0, none⟩ (.string ⟨#[]⟩)).setCell ⟨w.heap.size, 1, none⟩ (.string ⟨#[]⟩)).setCell ⟨w.heap.size, 2, none⟩ (.string ⟨#[]⟩)).setCell ⟨w.heap.size, 3, none⟩ (.string ⟨#[]⟩)).setCell ⟨w.heap.size, 4, none⟩ (.int .i64 0)).setCell ⟨w.heap.size, 5, none⟩ (.string ⟨#[]⟩)).setCell ⟨w.heap.size, 6, none⟩ (.slice none 0 0)).setCell ⟨w.heap.size, 7, none⟩ (.slice none 0 0)).setCell ⟨w.heap.size, 8, none⟩ (.int .i64 0)) := ⟨_, rfl⟩
    have HBW := Lib.hid (show Blk W w.heap.size 67 #[.string ⟨#[]⟩, .string ⟨#[]⟩, .string ⟨#[]⟩, .string ⟨#[]⟩, .int .i64 0, .string ⟨#[]⟩, .slice none 0 0, .slice none 0 0, .int .i64 0] by rw [hW]; exact hb.puts_all [.string ⟨#[]⟩, .string ⟨#[]⟩, .string ⟨#[]⟩, .string ⟨#[]⟩, .int .i64 0, .string ⟨#[]⟩, .slice none 0 0, .slice none 0 0, .int .i64 0] rfl)
    have HTX := Lib.hid (show Touch (· = w.heap.size) w1 W by rw [hW]; exact (Touch.refl (· = w.heap.size) w1).puts (b := w.heap.size) (.inr rfl) 0 [.string ⟨#[]⟩, .string ⟨#[]⟩, .string ⟨#[]⟩, .string ⟨#[]⟩, .int .i64 0, .string ⟨#[]⟩, .slice none 0 0, .slice none 0 0, .int .i64 0])
    have HTW := Lib.hid (show Fresh w W from (HT0.out.trans HT1.out fun _ _ h => h).trans HTX.out fun i hi hs => by omega)
    have HB1 := Lib.hid hb
    have HW := Lib.hid hW
    clear hb hW
    go_wp2_with fail
    rw [← HW.out]
    have e0 := HBW.out.cell 0
    have e1 := HBW.out.cell 1
    have e2 := HBW.out.cell 2
    have e3 := HBW.out.cell 3
    have e4 := HBW.out.cell 4
    have e5 := HBW.out.cell 5
    have e6 := HBW.out.cell 6
    have e7 := HBW.out.cell 7
    have e8 := HBW.out.cell 8
    simp only [List.getElem?_toArray, List.getElem?_cons_zero, List.getElem?_cons_succ] at e0 e1 e2 e3 e4 e5 e6 e7 e8
    exact bodyPost_ret (v := .tuple #[.agg #[.string ⟨#[]⟩, .string ⟨#[]⟩, .string ⟨#[]⟩, .string ⟨#[]⟩, .int .i64 0, .string ⟨#[]⟩, .slice none 0 0, .slice none 0 0, .int .i64 0], .int .i64 a, .int .i64 2]) (by simp [results, Try.results45, go_sem, e0, e1, e2, e3, e4, e5, e6, e7, e8]) rfl (StaEnd.bad HR.out HTW.out)
  · obtain ⟨hst, hv1, hv2, ho1, ho2⟩ := hgood
    rcases h with ⟨hq, rfl⟩ | ⟨hq, rfl, rfl⟩
    · have HR := Lib.hid (show Dec.whole (Dec.state xs 0) n = .error q by rw [hst]; exact if_pos hq)
      clear hst ht hv1 hv2 ho1 ho2
      have hb := HB0.out.touch HT1.out id
      have hc0 := hb.cell 0
      have hf0 := hb.frozen 0
      have hc1 := hb.cell 1
      have hf1 := hb.frozen 1
      have hc2 := hb.cell 2
      have hf2 := hb.frozen 2
      have hc3 := hb.cell 3
      have hf3 := hb.frozen 3
      have hc4 := hb.cell 4
      have hf4 := hb.frozen 4
      have hc5 := hb.cell 5
      have hf5 := hb.frozen 5
      have hc6 := hb.cell 6
      have hf6 := hb.frozen 6
      have hc7 := hb.cell 7
      have hf7 := hb.frozen 7
      have hc8 := hb.cell 8
      have hf8 := hb.frozen 8
      simp only [List.getElem?_toArray, List.getElem?_cons_zero, List.getElem?_cons_succ] at hc0 hc1 hc2 hc3 hc4 hc5 hc6 hc7 hc8
      obtain ⟨W, hW⟩ : ∃ W, W = (((((((((w1.setCell ⟨w.heap.size, 0, none⟩ (.string ⟨#[]⟩)).setCell ⟨w.heap.size, 1, none⟩ (.string ⟨#[]⟩)).setCell ⟨w.heap.size, 2, none⟩ (.string ⟨#[]⟩)).setCell ⟨w.heap.size, 3, none⟩ (.string ⟨#[]⟩)).setCell ⟨w.heap.size, 4, none⟩ (.int .i64 0)).setCell ⟨w.heap.size, 5, none⟩ (.string ⟨#[]⟩)).setCell ⟨w.heap.size, 6, none⟩ (.slice none 0 0)).setCell ⟨w.heap.size, 7, none⟩ (.slice none 0 0)).setCell ⟨w.heap.size, 8, none⟩ (.int .i64 0)) := ⟨_, rfl⟩
      have HBW := Lib.hid (show Blk W w.heap.size 67 #[.string ⟨#[]⟩, .string ⟨#[]⟩, .string ⟨#[]⟩, .string ⟨#[]⟩, .int .i64 0, .string ⟨#[]⟩, .slice none 0 0, .slice none 0 0, .int .i64 0] by rw [hW]; exact hb.puts_all [.string ⟨#[]⟩, .string ⟨#[]⟩, .string ⟨#[]⟩, .string ⟨#[]⟩, .int .i64 0, .string ⟨#[]⟩, .slice none 0 0, .slice none 0 0, .int .i64 0] rfl)
      have HTX := Lib.hid (show Touch (· = w.heap.size) w1 W by rw [hW]; exact (Touch.refl (· = w.heap.size) w1).puts (b := w.heap.size) (.inr rfl) 0 [.string ⟨#[]⟩, .string ⟨#[]⟩, .string ⟨#[]⟩, .string ⟨#[]⟩, .int .i64 0, .string ⟨#[]⟩, .slice none 0 0, .slice none 0 0, .int .i64 0])
      have HTW := Lib.hid (show Fresh w W from (HT0.out.trans HT1.out fun _ _ h => h).trans HTX.out fun i hi hs => by omega)
      have HB1 := Lib.hid hb
      have HW := Lib.hid hW
      clear hb hW
      go_wp2_with fail
      rw [← HW.out]
      have e0 := HBW.out.cell 0
      have e1 := HBW.out.cell 1
      have e2 := HBW.out.cell 2
      have e3 := HBW.out.cell 3
      have e4 := HBW.out.cell 4
      have e5 := HBW.out.cell 5
      have e6 := HBW.out.cell 6
      have e7 := HBW.out.cell 7
      have e8 := HBW.out.cell 8
      simp only [List.getElem?_toArray, List.getElem?_cons_zero, List.getElem?_cons_succ] at e0 e1 e2 e3 e4 e5 e6 e7 e8
      exact bodyPost_ret (v := .tuple #[.agg #[.string ⟨#[]⟩, .string ⟨#[]⟩, .string ⟨#[]⟩, .string ⟨#[]⟩, .int .i64 0, .string ⟨#[]⟩, .slice none 0 0, .slice none 0 0, .int .i64 0], .int .i64 q, .int .i64 2]) (by simp [results, Try.results45, go_sem, e0, e1, e2, e3, e4, e5, e6, e7, e8]) rfl (StaEnd.bad HR.out HTW.out)
    · have HR := Lib.hid (show Dec.whole (Dec.state xs 0) n = .ok s by rw [hst]; exact if_neg (by omega))
      have HV1 := Lib.hid hv1
      have HV2 := Lib.hid hv2
      have HO1 := Lib.hid (fun k hk => by have := ho1 k hk; omega : ∀ k, (Value.slice A' s.nd.length c').ownBlock = some k → w.heap.size < k)
      have HO2 := Lib.hid (fun k hk => by have := ho2 k hk; omega : ∀ k, (Value.slice B' s.sg.length d').ownBlock = some k → w.heap.size < k)
      clear hst ht hv1 hv2 ho1 ho2
      have hb := HB0.out.touch HT1.out id
      have hc0 := hb.cell 0
      have hf0 := hb.frozen 0
      have hc1 := hb.cell 1
      have hf1 := hb.frozen 1
      have hc2 := hb.cell 2
      have hf2 := hb.frozen 2
      have hc3 := hb.cell 3
      have hf3 := hb.frozen 3
      have hc4 := hb.cell 4
      have hf4 := hb.frozen 4
      have hc5 := hb.cell 5
      have hf5 := hb.frozen 5
      have hc6 := hb.cell 6
      have hf6 := hb.frozen 6
      have hc7 := hb.cell 7
      have hf7 := hb.frozen 7
      have hc8 := hb.cell 8
      have hf8 := hb.frozen 8
      simp only [List.getElem?_toArray, List.getElem?_cons_zero, List.getElem?_cons_succ] at hc0 hc1 hc2 hc3 hc4 hc5 hc6 hc7 hc8
      obtain ⟨W, hW⟩ : ∃ W, W = (((((((((w2.setCell ⟨w.heap.size, 0, none⟩ (.string ⟨s.df.toArray⟩)).setCell ⟨w.heap.size, 1, none⟩ (.string ⟨s.id.toArray⟩)).setCell ⟨w.heap.size, 2, none⟩ (.string ⟨s.pa.toArray⟩)).setCell ⟨w.heap.size, 3, none⟩ (.string ⟨s.pn.toArray⟩)).setCell ⟨w.heap.size, 4, none⟩ (.int .i64 s.st)).setCell ⟨w.heap.size, 5, none⟩ (.string ⟨s.tx.toArray⟩)).setCell ⟨w.heap.size, 6, none⟩ (.slice A' s.nd.length c')).setCell ⟨w.heap.size, 7, none⟩ (.slice B' s.sg.length d')).setCell ⟨w.heap.size, 8, none⟩ (.int .i64 s.ev)) := ⟨_, rfl⟩
      have HBW := Lib.hid (show Blk W w.heap.size 67 #[.string ⟨s.df.toArray⟩, .string ⟨s.id.toArray⟩, .string ⟨s.pa.toArray⟩, .string ⟨s.pn.toArray⟩, .int .i64 s.st, .string ⟨s.tx.toArray⟩, .slice A' s.nd.length c', .slice B' s.sg.length d', .int .i64 s.ev] by rw [hW]; exact hb.puts_all [.string ⟨s.df.toArray⟩, .string ⟨s.id.toArray⟩, .string ⟨s.pa.toArray⟩, .string ⟨s.pn.toArray⟩, .int .i64 s.st, .string ⟨s.tx.toArray⟩, .slice A' s.nd.length c', .slice B' s.sg.length d', .int .i64 s.ev] rfl)
      have HTX := Lib.hid (show Touch (· = w.heap.size) w2 W by rw [hW]; exact (Touch.refl (· = w.heap.size) w2).puts (b := w.heap.size) (.inr rfl) 0 [.string ⟨s.df.toArray⟩, .string ⟨s.id.toArray⟩, .string ⟨s.pa.toArray⟩, .string ⟨s.pn.toArray⟩, .int .i64 s.st, .string ⟨s.tx.toArray⟩, .slice A' s.nd.length c', .slice B' s.sg.length d', .int .i64 s.ev])
      have HTW := Lib.hid (show Fresh w W from (HT0.out.trans HT1.out fun _ _ h => h).trans HTX.out fun i hi hs => by omega)
      have HB1 := Lib.hid hb
      have HW := Lib.hid hW
      clear hb hW
      unfold stV
      go_wp2_with fail
      rw [← HW.out]
      have e0 := HBW.out.cell 0
      have e1 := HBW.out.cell 1
      have e2 := HBW.out.cell 2
      have e3 := HBW.out.cell 3
      have e4 := HBW.out.cell 4
      have e5 := HBW.out.cell 5
      have e6 := HBW.out.cell 6
      have e7 := HBW.out.cell 7
      have e8 := HBW.out.cell 8
      simp only [List.getElem?_toArray, List.getElem?_cons_zero, List.getElem?_cons_succ] at e0 e1 e2 e3 e4 e5 e6 e7 e8
      exact bodyPost_ret (v := .tuple #[.agg #[.string ⟨s.df.toArray⟩, .string ⟨s.id.toArray⟩, .string ⟨s.pa.toArray⟩, .string ⟨s.pn.toArray⟩, .int .i64 s.st, .string ⟨s.tx.toArray⟩, .slice A' s.nd.length c', .slice B' s.sg.length d', .int .i64 s.ev], .int .i64 0, .int .i64 0]) (by simp [results, Try.results45, go_sem, e0, e1, e2, e3, e4, e5, e6, e7, e8]) rfl (StaEnd.good HR.out ⟨HV1.out.touch HTX.out (fun k hk => by have := HO1.out k hk; omega), HV2.out.touch HTX.out (fun k hk => by have := HO2.out k hk; omega), fun k hk => by have := HO1.out k hk; omega, fun k hk => by have := HO2.out k hk; omega⟩ HTW.out)

end Go.Proofs.Ytdfhdanfigpbpaa
