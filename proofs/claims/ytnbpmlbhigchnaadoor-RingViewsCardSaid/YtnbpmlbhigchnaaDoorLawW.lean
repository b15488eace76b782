/- Newer; the law RingViews, walked. Condition: numbers as an int holds them. -/
import Derived.Test.YtnbpmlbhigchnaaDoorLawV
namespace Go.Proofs.YtnbpmlbhigchnaaDoor
open Go.RowKit

set_option maxRecDepth 20000 in
set_option maxHeartbeats 2000000 in
theorem newer_any (va vb : Int) (A B : Option Addr) (n m c d : Nat) (xs ys : List Int) (w : World) (ha : IsInts w A n c xs) (hb : IsInts w B m d ys) (hn : n ≤ 20) (hm : m ≤ 20) :
    Calls Tryd.prog 30 #[.agg #[.int .i64 va, .slice A n c], .agg #[.int .i64 vb, .slice B m d]] w fun e w' => Fresh w w' ∧ ∃ D c', e = .returned (.agg #[.int .i64 (if va < vb then vb else va), .slice D (if va < vb then m else n) c']) ∧
      Own w' 3 1 (.slice D (if va < vb then m else n) c') (if va < vb then m else n) (intsV (if va < vb then ys else xs)) ∧ ∀ k, (Value.slice D (if va < vb then m else n) c').ownBlock = some k → w.heap.size ≤ k := by
  have gen : ∀ (v : Int) (X : Option Addr) (k e : Nat) (zs : List Int), IsInts w X k e zs → k ≤ 20 → ∃ W1, W1 = ((w.alloc (.cells #[.int .i64 v, .slice X k e] 60)).alloc (.cells #[.int .i64 vb, .slice B m d] 60)).alloc (.cells #[.int .i64 0, .slice none 0 0] 60) ∧
      Fresh w W1 ∧ Blk W1 w.heap.size 60 #[.int .i64 v, .slice X k e] ∧ Blk W1 (w.heap.size + 1 + 1) 60 #[.int .i64 0, .slice none 0 0] ∧ IsInts W1 X k e zs := by
    intro v X k e zs hz hk
    have hf : Fresh w (((w.alloc (.cells #[.int .i64 v, .slice X k e] 60)).alloc (.cells #[.int .i64 vb, .slice B m d] 60)).alloc (.cells #[.int .i64 0, .slice none 0 0] 60)) := (((Touch.refl _ w).alloc _).alloc _).alloc _
    refine ⟨_, rfl, hf, ((Blk.new _ _ _).alloc _).alloc _, ?_, hz.touch hf fun _ _ _ => id⟩
    have := Blk.new ((w.alloc (.cells #[.int .i64 v, .slice X k e] 60)).alloc (.cells #[.int .i64 vb, .slice B m d] 60)) 60 #[.int .i64 0, .slice none 0 0]
    rwa [World.size_alloc, World.size_alloc] at this
  by_cases hv : va < vb
  · simp only [if_pos hv]
    obtain ⟨W1, hW1, hF, hb1, hb3, hi⟩ := gen vb B m d ys hb hm
    have KS := Lib.hid (show ∀ W, Fresh W1 W → (W.cell? ⟨w.heap.size, 0, none⟩ = some (.int .i64 vb) ∧ W.cell? ⟨w.heap.size, 1, none⟩ = some (.slice B m d)) from fun W hW => ⟨(hb1.touch hW id).cell 0, (hb1.touch hW id).cell 1⟩)
    have KF := Lib.hid (show ∀ W v1 v2, Fresh W1 W → (((W.setCell ⟨w.heap.size + 1 + 1, 0, none⟩ v1).setCell ⟨w.heap.size + 1 + 1, 1, none⟩ v2).cell? ⟨w.heap.size, 0, none⟩ = some (.int .i64 vb) ∧ ((W.setCell ⟨w.heap.size + 1 + 1, 0, none⟩ v1).setCell ⟨w.heap.size + 1 + 1, 1, none⟩ v2).cell? ⟨w.heap.size, 1, none⟩ = some (.slice B m d)) from fun W v1 v2 hW => by
      have h := ((hb1.touch hW id).far (p := ⟨w.heap.size + 1 + 1, 0, none⟩) (by show w.heap.size ≠ w.heap.size + 1 + 1; omega) v1).far (p := ⟨w.heap.size + 1 + 1, 1, none⟩) (by show w.heap.size ≠ w.heap.size + 1 + 1; omega) v2
      exact ⟨h.cell 0, h.cell 1⟩)
    have KC := Lib.hid (cloneI_any B m d ys W1.drew (hi.touch (Touch.refl (fun _ => False) W1).drew fun _ _ _ => id) (by omega))
    have HF := Lib.hid hF; have HB3 := Lib.hid hb3; have HW := Lib.hid hW1
    clear hF hb1 hb3 hi hW1 ha hb gen
    go_enter Tryd.func30, Tryd.ntmps30
    go_wp2_with fail
    rw [← HW.out]
    have hfd : Fresh W1 W1.drew := (Touch.refl (fun _ => False) W1).drew
    have k0 := KS.out _ hfd
    go_region_held (fun W => W.cell? ⟨w.heap.size, 0, none⟩ = some (.int .i64 vb) ∧ W.cell? ⟨w.heap.size, 1, none⟩ = some (.slice B m d))
      (first | exact k2 _ _ | exact k1 | exact k0)
      (first | (go_at_call 44; refine KC.out.mono ?_; rintro e w3 ⟨hf3, D, c', rfl, ho3, hn3⟩; have k1 := KS.out _ (hfd.trans hf3 fun _ _ => id); have HB4 := Lib.hid (HB3.out.touch (hfd.trans hf3 fun _ _ => id) id); have q0 := HB4.out.frozen 0; have q1 := HB4.out.frozen 1; have z0 := HB4.out.cell 0; have z1 := HB4.out.cell 1; have k2 := fun v1 v2 => KF.out w3 v1 v2 (hfd.trans hf3 fun _ _ => id); have HF3 := Lib.hid (HF.out.trans (hfd.trans hf3 fun _ _ => id) fun _ _ => id); have HO3 := Lib.hid ho3; have HN3 := Lib.hid hn3; clear hf3 ho3 hn3))
    clear k0 k1 k2
    go_wp2_with fail
    have hE := (HB4.out.set_ 0 (.int .i64 vb)).set_ 1 (.slice D m c')
    have e0 := hE.cell 0
    have e1 := hE.cell 1
    simp at e0 e1
    refine bodyPost_ret (v := .agg #[.int .i64 vb, .slice D m c']) (by simp [results, Tryd.results30, go_sem, e0, e1]) rfl ⟨(HF3.out.setCell (p := ⟨w.heap.size + 1 + 1, 0, none⟩) (.inl (by show w.heap.size ≤ w.heap.size + 1 + 1; omega)) _).setCell (p := ⟨w.heap.size + 1 + 1, 1, none⟩) (.inl (by show w.heap.size ≤ w.heap.size + 1 + 1; omega)) _, D, c', rfl, ?_, fun k hk => Nat.le_trans HF.out.size (HN3.out k hk)⟩
    exact (HO3.out.far (p := ⟨w.heap.size + 1 + 1, 0, none⟩) (HO3.out.ne_blk HB4.out (by decide)) _).far (p := ⟨w.heap.size + 1 + 1, 1, none⟩) (HO3.out.ne_blk HB4.out (by decide)) _
  · simp only [if_neg hv]
    obtain ⟨W1, hW1, hF, hb1, hb3, hi⟩ := gen va A n c xs ha hn
    have KS := Lib.hid (show ∀ W, Fresh W1 W → (W.cell? ⟨w.heap.size, 0, none⟩ = some (.int .i64 va) ∧ W.cell? ⟨w.heap.size, 1, none⟩ = some (.slice A n c)) from fun W hW => ⟨(hb1.touch hW id).cell 0, (hb1.touch hW id).cell 1⟩)
    have KF := Lib.hid (show ∀ W v1 v2, Fresh W1 W → (((W.setCell ⟨w.heap.size + 1 + 1, 0, none⟩ v1).setCell ⟨w.heap.size + 1 + 1, 1, none⟩ v2).cell? ⟨w.heap.size, 0, none⟩ = some (.int .i64 va) ∧ ((W.setCell ⟨w.heap.size + 1 + 1, 0, none⟩ v1).setCell ⟨w.heap.size + 1 + 1, 1, none⟩ v2).cell? ⟨w.heap.size, 1, none⟩ = some (.slice A n c)) from fun W v1 v2 hW => by
      have h := ((hb1.touch hW id).far (p := ⟨w.heap.size + 1 + 1, 0, none⟩) (by show w.heap.size ≠ w.heap.size + 1 + 1; omega) v1).far (p := ⟨w.heap.size + 1 + 1, 1, none⟩) (by show w.heap.size ≠ w.heap.size + 1 + 1; omega) v2
      exact ⟨h.cell 0, h.cell 1⟩)
    have KC := Lib.hid (cloneI_any A n c xs W1.drew (hi.touch (Touch.refl (fun _ => False) W1).drew fun _ _ _ => id) (by omega))
    have HF := Lib.hid hF; have HB3 := Lib.hid hb3; have HW := Lib.hid hW1
    clear hF hb1 hb3 hi hW1 ha hb gen
    go_enter Tryd.func30, Tryd.ntmps30
    go_wp2_with fail
    rw [← HW.out]
    have hfd : Fresh W1 W1.drew := (Touch.refl (fun _ => False) W1).drew
    have k0 := KS.out _ hfd
    go_region_held (fun W => W.cell? ⟨w.heap.size, 0, none⟩ = some (.int .i64 va) ∧ W.cell? ⟨w.heap.size, 1, none⟩ = some (.slice A n c))
      (first | exact k2 _ _ | exact k1 | exact k0)
      (first | (go_at_call 44; refine KC.out.mono ?_; rintro e w3 ⟨hf3, D, c', rfl, ho3, hn3⟩; have k1 := KS.out _ (hfd.trans hf3 fun _ _ => id); have HB4 := Lib.hid (HB3.out.touch (hfd.trans hf3 fun _ _ => id) id); have q0 := HB4.out.frozen 0; have q1 := HB4.out.frozen 1; have z0 := HB4.out.cell 0; have z1 := HB4.out.cell 1; have k2 := fun v1 v2 => KF.out w3 v1 v2 (hfd.trans hf3 fun _ _ => id); have HF3 := Lib.hid (HF.out.trans (hfd.trans hf3 fun _ _ => id) fun _ _ => id); have HO3 := Lib.hid ho3; have HN3 := Lib.hid hn3; clear hf3 ho3 hn3))
    clear k0 k1 k2
    go_wp2_with fail
    have hE := (HB4.out.set_ 0 (.int .i64 va)).set_ 1 (.slice D n c')
    have e0 := hE.cell 0
    have e1 := hE.cell 1
    simp at e0 e1
    refine bodyPost_ret (v := .agg #[.int .i64 va, .slice D n c']) (by simp [results, Tryd.results30, go_sem, e0, e1]) rfl ⟨(HF3.out.setCell (p := ⟨w.heap.size + 1 + 1, 0, none⟩) (.inl (by show w.heap.size ≤ w.heap.size + 1 + 1; omega)) _).setCell (p := ⟨w.heap.size + 1 + 1, 1, none⟩) (.inl (by show w.heap.size ≤ w.heap.size + 1 + 1; omega)) _, D, c', rfl, ?_, fun k hk => Nat.le_trans HF.out.size (HN3.out k hk)⟩
    exact (HO3.out.far (p := ⟨w.heap.size + 1 + 1, 0, none⟩) (HO3.out.ne_blk HB4.out (by decide)) _).far (p := ⟨w.heap.size + 1 + 1, 1, none⟩) (HO3.out.ne_blk HB4.out (by decide)) _
end Go.Proofs.YtnbpmlbhigchnaaDoor
