/- Send, Look, Drop, Take and Double of the document's net. Conditions stand with each. -/
import Derived.Test.YthmjnlkdoepmjaaTake
namespace Go.Proofs.Ythmjnlkdoepmjaa
open Go.RowKit

theorem sendR_fin {w w1 w4 : World} {t : TypeId} {bn : Nat} {most : Int} {rv : Value} {ps : List Pc} {a b : Int} {B D : Option Addr} {n c' c4 : Nat} {xs : List UInt8} (res : Ending) (ht : 65 ≠ t) (hu : 5 ≠ t) (h : NT w t bn most rv ps) (hf1 : Fresh w w1) (hl : xs.length ≤ 1000000) (hn : ∀ a, B = some a → w.heap.size ≤ a.block)
    (hf4 : Fresh w1 w4) (hr4 : Row w4 (.slice B n c') xs) (ho : Own w4 65 3 (.slice D (ps.length + 1) c4) (ps.length + 1) (pcCells ps ++ [.int .i64 a, .int .i64 b, .slice B n c']))
    (hd : ∀ k, (Value.slice D (ps.length + 1) c4).ownBlock = some k → w1.heap.size ≤ k) :
    NStep w t bn most rv ps (ps.map Pc.pl ++ [(a, b, xs)]) res res (w4.setCell ⟨bn, 1, none⟩ (.slice D (ps.length + 1) c4)) := by
  have hs1 := hf1.size
  have hT4 : Fresh w w4 := hf1.trans hf4 fun _ _ => id
  have hT : Touch (nfoot bn rv) w w4 := hT4.mono fun _ _ h => h.elim
  have hT2 := hT.setCell (p := ⟨bn, 1, none⟩) (.inr (.inl rfl)) (.slice D (ps.length + 1) c4)
  have hb4 : Blk w4 bn t #[.int .i64 most, rv] := h.blk.touch hT4 id
  have hbn := h.blk.lt
  refine ⟨rfl, hT2, .slice D (ps.length + 1) c4, ps ++ [⟨a, b, xs, .slice B n c'⟩], ⟨?_, ?_, ?_⟩, by simp [Pc.pl], ?_, ?_⟩
  · have := hb4.set_ 1 (.slice D (ps.length + 1) c4)
    simpa using this
  · rw [pcCells_append, List.length_append]
    exact ho.far (p := ⟨bn, 1, none⟩) (ho.ne_blk hb4 ht) _
  · intro p hp
    rcases List.mem_append.1 hp with hp | hp
    · have hpv := h.byt p hp
      refine hpv.touch hT2 fun k hk => ?_
      rintro (e | e)
      · exact hpv.ne_blk h.blk hu (by rw [hk, e])
      · exact hpv.ne_row h.row k hk e
    · simp only [List.mem_cons, List.not_mem_nil, or_false] at hp
      subst hp
      have hk0 : ∀ k, (Value.slice B n c').ownBlock = some k → w.heap.size ≤ k := by
        intro k hk
        cases B with
        | none => cases hk
        | some x =>
          have := hn x rfl
          simp only [Value.ownBlock, Option.some.injEq] at hk
          omega
      exact ⟨hr4.far (p := ⟨bn, 1, none⟩) (fun e => by have := hk0 bn e; omega) _, hl⟩
  · rintro k (e | e)
    · exact .inl (.inl e)
    · have := hd k e
      exact .inr (by omega)
  · intro p hp
    rcases List.mem_append.1 hp with hp | hp
    · exact .inl hp
    · simp only [List.mem_cons, List.not_mem_nil, or_false] at hp
      subst hp
      refine .inr fun k hk => ?_
      cases B with
      | none => cases hk
      | some x =>
        have := hn x rfl
        simp only [Value.ownBlock, Option.some.injEq] at hk
        omega

set_option maxRecDepth 20000 in
set_option maxHeartbeats 2000000 in
theorem sendR_any (bn : Nat) (most : Int) (rv : Value) (ps : List Pc) (a b : Int) (A : Option Addr) (n c : Nat) (xs : List UInt8) (w : World) (h : NT w 76 bn most rv ps) (hl : ps.length ≤ 1000000) (hx : Bs w A n c xs) (hb : n ≤ 1000000) :
    Calls Try.prog 37 #[.pointer (some ⟨bn, 0, none⟩), .agg #[.int .i64 a, .int .i64 b, .slice A n c]] w fun e w' =>
      NStep w 76 bn most rv ps (if most ≤ ps.length then ps.map Pc.pl else ps.map Pc.pl ++ [(a, b, xs)]) (.returned (.bool (decide (¬ most ≤ (ps.length : Int))))) e w' := by
  obtain ⟨RA, rc, rfl, hrc1, hrc2, hRA⟩ := h.row.form
  have c0 : ∀ o q, ((w.alloc o).drewN q).cell? ⟨bn, 0, none⟩ = some (.int .i64 most) := fun o q => ((h.blk.alloc o).drewN q).cell 0
  have c1 : ∀ o q, ((w.alloc o).drewN q).cell? ⟨bn, 1, none⟩ = some (.slice RA ps.length rc) := fun o q => ((h.blk.alloc o).drewN q).cell 1
  have H := Lib.hid h; have HX := Lib.hid hx; have HRA := Lib.hid hRA
  clear h hx hRA
  by_cases hm : most ≤ (ps.length : Int)
  · rw [if_pos hm]
    have hmd : decide (most ≤ (ps.length : Int)) = true := by simpa using hm
    have HM := Lib.hid hm
    clear hm
    go_enter Try.func37, Try.ntmps37
    go_wp2_with fail
    go_quiet (fail)
    go_wp2_with fail
    go_ret
    have e : decide ((ps.length : Int) < most) = false := by have := HM.out; simp; omega
    rw [e]
    exact H.out.step (((Touch.refl _ w).alloc _).drewN nq)
  · rw [if_neg hm]
    have hmd : decide (most ≤ (ps.length : Int)) = false := by simp; omega
    have HM := Lib.hid hm
    clear hm
    unfold maxLen at hrc2
    go_enter Try.func37, Try.ntmps37
    go_wp2_with fail
    go_quiet (fail)
    obtain ⟨w1, hw1⟩ : ∃ w1, w1 = (w.alloc (.cells #[.int .i64 a, .int .i64 b, .slice A n c] 65)).drewN nq := ⟨_, rfl⟩
    rw [← hw1]
    have hf1 : Fresh w w1 := by rw [hw1]; exact ((Touch.refl _ w).alloc _).drewN nq
    have hbx : Blk w1 w.heap.size 65 #[.int .i64 a, .int .i64 b, .slice A n c] := by rw [hw1]; exact (Blk.new _ _ _).drewN nq
    have KF := Lib.hid (show ∀ W, Fresh w1 W → (W.cell? ⟨bn, 1, none⟩ = some (.slice RA ps.length rc) ∧ W.cell? ⟨w.heap.size, 0, none⟩ = some (.int .i64 a) ∧ W.cell? ⟨w.heap.size, 1, none⟩ = some (.int .i64 b) ∧ W.cell? ⟨w.heap.size, 2, none⟩ = some (.slice A n c)) from fun W hW => ⟨((H.out.blk.touch hf1 id).touch hW id).cell 1, (hbx.touch hW id).cell 0, (hbx.touch hW id).cell 1, (hbx.touch hW id).cell 2⟩)
    obtain ⟨p1, p2, p3, p4⟩ := KF.out w1 (Touch.refl _ _)
    have i1 : ∀ o, (w1.alloc o).cell? ⟨bn, 1, none⟩ = some (.slice RA ps.length rc) := fun o => (KF.out _ ((Touch.refl _ w1).alloc o)).1
    have i2 : ∀ o, (w1.alloc o).cell? ⟨w.heap.size, 0, none⟩ = some (.int .i64 a) := fun o => (KF.out _ ((Touch.refl _ w1).alloc o)).2.1
    have i3 : ∀ o, (w1.alloc o).cell? ⟨w.heap.size, 1, none⟩ = some (.int .i64 b) := fun o => (KF.out _ ((Touch.refl _ w1).alloc o)).2.2.1
    have i4 : ∀ o, (w1.alloc o).cell? ⟨w.heap.size, 2, none⟩ = some (.slice A n c) := fun o => (KF.out _ ((Touch.refl _ w1).alloc o)).2.2.2
    have HF1 := Lib.hid hf1
    have KR := Lib.hid (show Own (w1.alloc (.cells #[] 65)) 65 3 (.slice RA ps.length rc) ps.length (pcCells ps) from (H.out.row.touch hf1 fun _ _ => id).alloc _)
    have K1 := Lib.hid (show ∀ (w4 : World) (_ : (w1.alloc (.cells #[] 65)).drew.grownBy w4 (Value.slice (some ⟨w1.heap.size, 0, none⟩) 0 0).ownBlock) (B : Option Addr) (m c : Nat), ((Value.slice B m c).ownBlock = (Value.slice (some ⟨w1.heap.size, 0, none⟩) 0 0).ownBlock ∨ (Value.slice B m c).ownBlock = some (w1.alloc (.cells #[] 65)).drew.heap.size) → Fresh w1 w4 ∧ ∀ k, (Value.slice B m c).ownBlock = some k → w1.heap.size ≤ k from by
        intro w4 hg B m c hb
        refine ⟨((Touch.refl (fun _ => False) w1).alloc _).drew.grown hg fun k hk => .inl ?_, fun k hk => ?_⟩
        · simp only [Value.ownBlock, Option.some.injEq] at hk; omega
        · rcases hb with h | h
          · rw [hk] at h; simp only [Value.ownBlock, Option.some.injEq] at h; omega
          · rw [hk] at h; injection h with h; rw [h]; show _ ≤ (w1.alloc _).heap.size; rw [alloc_size]; exact Nat.le_succ _)
    have KW := Lib.hid (show ∀ (W W4 : World) (o : Obj) (B : Option Addr) (m c : Nat), Fresh w1 W → (∀ k, (Value.slice B m c).ownBlock = some k → w1.heap.size ≤ k) → (W.alloc o).grownBy W4 (Value.slice B m c).ownBlock → (W4.cell? ⟨bn, 1, none⟩ = some (.slice RA ps.length rc) ∧ W4.frozen? ⟨bn, 1, none⟩ = false) ∧ Fresh w1 W4 from fun W W4 o B m c hW hk hg => by
      have h4 : Fresh w1 W4 := (hW.alloc o).grown hg fun k e => .inl (hk k e)
      have hd := (H.out.blk.touch hf1 id).touch h4 id
      exact ⟨⟨hd.cell 1, hd.frozen 1⟩, h4⟩)
    have KC := Lib.hid (fun W (hW : Fresh w1 W) => copiedR_any a b A n c xs W (HX.out.fresh (hf1.trans hW fun _ _ => id)) hb)
    clear hw1 hf1 hbx c0 c1
    go_upto_region 3 with fail
    go_region_law ((first
      | (refine step_own_src _ rfl (.tmp 16) (.tmp 20) 73 73 rfl 65 (.agg #[.int .i64 0, .int .i64 0, .slice none 0 0]) 3 40 Try.info65 Try.underlying73 rfl (.slice (some ⟨w1.heap.size, 0, none⟩) 0 0) 0 [] rfl (Own.lit0 _ _ _) (by simp) (.slice RA ps.length rc) ps.length (pcCells ps) rfl (by exact Own.src KR.out Try.underlying73 (pcCells_one H.out.byt)) (by unfold maxLen; omega) (by omega) ?_; intro B1 c1 w2 o1 g1 b1; simp only [Nat.zero_add, List.nil_append] at o1 g1 b1 ⊢; have HT1 := Lib.hid (K1.out w2 g1 B1 ps.length c1 b1); have HO1 := Lib.hid o1; obtain ⟨q1, q2, q3, q4⟩ := KF.out w2 HT1.out.1; clear o1 g1 b1)
      | (refine step_own_src _ rfl (.tmp 21) (.tmp 24) 73 73 rfl 65 (.agg #[.int .i64 0, .int .i64 0, .slice none 0 0]) 3 40 Try.info65 Try.underlying73 rfl (.slice B1 ps.length c1) ps.length (pcCells ps) rfl (by exact (HO1.out.touch HF3.out fun _ _ => id).alloc _) (pcCells_one H.out.byt) (.slice (some ⟨w3.heap.size, 0, none⟩) 1 1) 1 [.int .i64 a, .int .i64 b, .slice B n c'] rfl (by exact pc_new w3 a b B n c') (by unfold maxLen; omega) (by omega) ?_; intro D c4 w4 o4 g4 b4; obtain ⟨⟨r1, r2⟩, r3⟩ := KW.out w3 w4 _ B1 ps.length c1 (HT1.out.1.trans HF3.out fun _ _ => id) HT1.out.2 g4)
      | (go_simp; go_at_call 69; refine (KC.out w2 HT1.out.1).mono ?_; rintro e w3 ⟨hf3, B, c', rfl, hr3, hn3⟩; have HF3 := Lib.hid hf3; obtain ⟨s1, s2, s3, s4⟩ := KF.out w3 (HT1.out.1.trans HF3.out fun _ _ => id); have s5 : ∀ o, (w3.alloc o).cell? ⟨bn, 1, none⟩ = some (.slice RA ps.length rc) := fun o => (KF.out _ ((HT1.out.1.trans HF3.out fun _ _ => id).alloc o)).1; have HR3 := Lib.hid hr3; have HN3 := Lib.hid hn3; clear hf3 hr3 hn3)))
    all_goals
      have hr4 : Row w4 (.slice B n c') xs := by
        have hT4 : Touch (fun k => (Value.slice B1 ps.length c1).ownBlock = some k) (w3.alloc (.cells #[.int .i64 a, .int .i64 b, .slice B n c'] 65)) w4 := (Touch.refl _ _).grown g4 fun k hk => .inr hk
        refine (HR3.out.alloc _).touch hT4 fun k hk e => ?_
        have h1 := HO1.out.lt k e
        cases B with
        | none => cases hk
        | some x =>
          have := HN3.out x rfl
          simp only [Value.ownBlock, Option.some.injEq] at hk
          omega
      have hd4 : ∀ k, (Value.slice D (ps.length + 1) c4).ownBlock = some k → w1.heap.size ≤ k := by
        intro k hk
        rcases b4 with h | h
        · exact HT1.out.2 k (h.symm.trans hk)
        · rw [hk, alloc_size] at h
          injection h with h
          have h1 := HT1.out.1.size
          have h2 := HF3.out.size
          omega
      have HFIN := Lib.hid (sendR_fin (.returned (.bool true)) (by decide) (by decide) H.out HF1.out (by have := HX.out.1; omega) (fun x hx => by have h1 : w2.heap.size ≤ x.block := HN3.out x hx; have h2 := HF1.out.size; have h3 := HT1.out.1.size; omega) r3 hr4 o4 hd4)
      clear p1 p2 p3 p4 q1 q2 q3 q4 s1 s2 s3 s4 s5 i1 i2 i3 i4 r1 r2 r3 g4 o4 b4 hr4 hd4
      go_wp2_with fail
      go_ret
      have e : decide ((ps.length : Int) < most) = true := by have := HM.out; simp; omega
      rw [e]
      exact HFIN.out
end Go.Proofs.Ythmjnlkdoepmjaa
