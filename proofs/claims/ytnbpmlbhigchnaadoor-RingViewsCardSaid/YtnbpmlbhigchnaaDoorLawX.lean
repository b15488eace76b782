/- The law RingViews, walked. Condition: numbers as an int holds them. -/
import Derived.Test.YtnbpmlbhigchnaaDoorLawW
import Derived.Deep.Cut
namespace Go.Proofs.YtnbpmlbhigchnaaDoor
open Go.RowKit

theorem IsInts.take_ {w : World} {A : Option Addr} {n c k : Nat} {xs : List Int} (h : IsInts w A n c xs) (hk : k ≤ n) : IsInts w A k c (xs.take k) := by
  obtain ⟨h1, h2, h3, h4⟩ := h
  refine ⟨by rw [List.length_take]; omega, by omega, h3, fun h0 => ?_⟩
  obtain ⟨b, o, e, hc⟩ := h4 (by omega)
  refine ⟨b, o, e, fun j x hx => hc j x ?_⟩
  have : j < k := by
    have := (List.getElem?_eq_some_iff.1 hx).1
    rw [List.length_take] at this
    omega
  rwa [List.getElem?_take_of_lt this] at hx
/-- behind the cuts: the two views in their boxes -/
structure Vw2 (w W : World) (va vb : Int) (A B : Option Addr) (n m c d : Nat) (xs ys : List Int) : Prop where
  fresh : Fresh w W
  ba : Blk W w.heap.size 60 #[.int .i64 va, .slice A n c]
  bb : Blk W (w.heap.size + 1) 60 #[.int .i64 vb, .slice B m d]
  ia : IsInts W A n c xs
  ib : IsInts W B m d ys
theorem Vw2.mk_ (w : World) (va vb : Int) (A B : Option Addr) (n m c d : Nat) (xs ys : List Int) (ha : IsInts w A n c xs) (hb : IsInts w B m d ys) :
    Vw2 w ((w.alloc (.cells #[.int .i64 va, .slice A n c] 60)).alloc (.cells #[.int .i64 vb, .slice B m d] 60)) va vb A B n m c d xs ys := by
  have hf : Fresh w ((w.alloc (.cells #[.int .i64 va, .slice A n c] 60)).alloc (.cells #[.int .i64 vb, .slice B m d] 60)) := ((Touch.refl _ w).alloc _).alloc _
  refine ⟨hf, (Blk.new _ _ _).alloc _, ?_, ha.touch hf fun _ _ _ => id, hb.touch hf fun _ _ _ => id⟩
  have := Blk.new (w.alloc (.cells #[.int .i64 va, .slice A n c] 60)) 60 #[.int .i64 vb, .slice B m d]
  rwa [World.size_alloc] at this
theorem IsInts.lt_ {w : World} {A : Option Addr} {n c : Nat} {xs : List Int} (h : IsInts w A n c xs) : ∀ a, A = some a → 0 < n → a.block < w.heap.size := by
  intro a ha h0
  obtain ⟨b, o, e, hc⟩ := h.2.2.2 h0
  rw [e] at ha
  injection ha with ha
  subst ha
  have hl := h.1
  obtain ⟨x, hx⟩ : ∃ x, xs[0]? = some x := ⟨_, List.getElem?_eq_getElem (by omega)⟩
  exact World.block_lt_of_cell? _ _ (hc 0 x hx)
theorem Vw2.on {w W W' : World} {va vb : Int} {A B : Option Addr} {n m c d : Nat} {xs ys : List Int} (h : Vw2 w W va vb A B n m c d xs ys) (hf : Fresh W W') : Vw2 w W' va vb A B n m c d xs ys :=
  ⟨h.fresh.trans hf fun _ _ => id, h.ba.touch hf id, h.bb.touch hf id, h.ia.touch hf fun _ _ _ => id, h.ib.touch hf fun _ _ _ => id⟩

set_option maxRecDepth 20000 in
set_option maxHeartbeats 16000000 in
theorem law_views (va vb : Int) (A B : Option Addr) (n m c d : Nat) (xs ys : List Int) (w : World) (ha : IsInts w A n c xs) (hb : IsInts w B m d ys) :
    Calls Tryd.prog 10 #[.agg #[.int .i64 va, .slice A n c], .agg #[.int .i64 vb, .slice B m d]] w fun e w' => e = .returned (.bool true) ∧ Fresh w w' := by
  have hn1 := ha.2.1
  have hn2 := ha.2.2.1
  have hm1 := hb.2.1
  have hm2 := hb.2.2.1
  unfold maxLen at hn2 hm2
  have KW := Lib.hid (fun W => wakes_any W)
  obtain ⟨n', hn', hn0⟩ : ∃ n', n' ≤ 20 ∧ ((20 < n ∧ n' = 20) ∨ (n ≤ 20 ∧ n' = n)) := by
    by_cases h : 20 < n
    · exact ⟨20, Nat.le_refl _, .inl ⟨h, rfl⟩⟩
    · exact ⟨n, by omega, .inr ⟨by omega, rfl⟩⟩
  obtain ⟨m', hm', hm0⟩ : ∃ m', m' ≤ 20 ∧ ((20 < m ∧ m' = 20) ∨ (m ≤ 20 ∧ m' = m)) := by
    by_cases h : 20 < m
    · exact ⟨20, Nat.le_refl _, .inl ⟨h, rfl⟩⟩
    · exact ⟨m, by omega, .inr ⟨by omega, rfl⟩⟩
  have QA := Lib.hid ha.lt_; have QB := Lib.hid hb.lt_
  have HV := Lib.hid (Vw2.mk_ w va vb A B n' m' c d _ _ (ha.take_ (k := n') (by omega)) (hb.take_ (k := m') (by omega)))
  have hn1' : n' ≤ n ∨ n' = n := by omega
  have hm1' : m' ≤ m ∨ m' = m := by omega
  clear ha hb
  generalize xs.take n' = xs' at *
  generalize ys.take m' = ys' at *
  obtain ⟨W1, hW1⟩ : ∃ W1, W1 = (w.alloc (.cells #[.int .i64 va, .slice A n' c] 60)).alloc (.cells #[.int .i64 vb, .slice B m' d] 60) := ⟨_, rfl⟩
  rw [← hW1] at HV
  have HW := Lib.hid hW1
  clear hW1
  have KN := Lib.hid (newer_any va vb A B n' m' c d xs' ys' W1 HV.out.ia HV.out.ib hn' hm')
  have a0 : W1.cell? ⟨w.heap.size, 0, none⟩ = some (.int .i64 va) := HV.out.ba.cell 0
  have a1 : W1.cell? ⟨w.heap.size, 1, none⟩ = some (.slice A n' c) := HV.out.ba.cell 1
  have b0 : W1.cell? ⟨w.heap.size + 1, 0, none⟩ = some (.int .i64 vb) := HV.out.bb.cell 0
  have b1 : W1.cell? ⟨w.heap.size + 1, 1, none⟩ = some (.slice B m' d) := HV.out.bb.cell 1
  obtain ⟨vw, hvw⟩ : ∃ v, v = if va < vb then vb else va := ⟨_, rfl⟩
  obtain ⟨X, hX⟩ : ∃ X, X = if va < vb then B else A := ⟨_, rfl⟩
  obtain ⟨k, hk⟩ : ∃ k, k = if va < vb then m' else n' := ⟨_, rfl⟩
  obtain ⟨e, he⟩ : ∃ e, e = if va < vb then d else c := ⟨_, rfl⟩
  obtain ⟨zs, hzs⟩ : ∃ zs, zs = if va < vb then ys' else xs' := ⟨_, rfl⟩
  rw [← hvw, ← hk, ← hzs] at KN
  have QV := Lib.hid hvw; have QX := Lib.hid hX; have QK := Lib.hid hk; have QE := Lib.hid he; have QZ := Lib.hid hzs
  clear hvw hX hk he hzs
  go_enter Tryd.func10, Tryd.ntmps10
  go_upto_if 11 with fail
  go_cut [8] from 12 (fun _ wc => wc = (w.alloc (.cells #[.int .i64 va, .slice A n' c] 60)).alloc (.cells #[.int .i64 vb, .slice B m d] 60))
  case first =>
    clear KN a0 a1 b0 b1
    rcases hn0 with ⟨hn0, rfl⟩ | ⟨hn0, rfl⟩
    · have e1 : (20 : Int) < (n : Int) := by omega
      go_wp2_with fail
      go_meet
      case rel => rfl
    · have e1 : ¬ (20 : Int) < (n' : Int) := by omega
      go_wp2_with fail
      go_meet
      case rel => rfl
  case rest =>
    subst hcut
    go_upto_if 19 with fail
    go_cut [8] from 20 (fun _ wc => wc = W1)
    case first =>
      clear KN a0 a1 b0 b1
      rcases hm0 with ⟨hm0, rfl⟩ | ⟨hm0, rfl⟩
      · have e1 : (20 : Int) < (m : Int) := by omega
        go_wp2_with fail
        go_meet
        case rel => exact HW.out.symm
      · have e1 : ¬ (20 : Int) < (m' : Int) := by omega
        go_wp2_with fail
        go_meet
        case rel => exact HW.out.symm
    case rest =>
      rw [hcut]
      clear hcut wc HW hn0 hm0
      go_wp2_with fail
      refine KN.out.mono ?_
      rintro e2 w2 ⟨hf2, D, c', rfl, ho2, hn2⟩
      have HV2 := Lib.hid (HV.out.on hf2)
      have HO2 := Lib.hid ho2; have HN2 := Lib.hid hn2; have HF2 := Lib.hid hf2
      obtain ⟨W3, hW3⟩ : ∃ W3, W3 = (w2.alloc (.cells #[.int .i64 vw, .slice D k c'] 60)).alloc (.cells #[.int .i64 vw, .slice X k e] 60) := ⟨_, rfl⟩
      have hsz2 : w.heap.size + 1 < w2.heap.size := HV2.out.bb.lt
      have a0' : ∀ o, (w2.alloc o).cell? ⟨w.heap.size, 0, none⟩ = some (.int .i64 va) := fun o => (HV2.out.ba.alloc o).cell 0
      have a1' : ∀ o, (w2.alloc o).cell? ⟨w.heap.size, 1, none⟩ = some (.slice A n' c) := fun o => (HV2.out.ba.alloc o).cell 1
      have b0' : ∀ o o', ((w2.alloc o).alloc o').cell? ⟨w.heap.size + 1, 0, none⟩ = some (.int .i64 vb) := fun o o' => ((HV2.out.bb.alloc o).alloc o').cell 0
      have b1' : ∀ o o', ((w2.alloc o).alloc o').cell? ⟨w.heap.size + 1, 1, none⟩ = some (.slice B m' d) := fun o o' => ((HV2.out.bb.alloc o).alloc o').cell 1
      have a0'' : ∀ o o', ((w2.alloc o).alloc o').cell? ⟨w.heap.size, 0, none⟩ = some (.int .i64 va) := fun o o' => ((HV2.out.ba.alloc o).alloc o').cell 0
      clear hf2 ho2 hn2 KN a0 a1 b0 b1
      go_upto_if 32 with fail
      go_cut [33] from 34 (fun _ wc => wc = W3)
      case first =>
        by_cases hv : va < vb
        · have hvw := QV.out; have hX := QX.out; have hk := QK.out; have he := QE.out
          rw [if_pos hv] at hvw hX hk he
          rw [hX, he] at hW3
          have HW3 := Lib.hid hW3
          clear hX he hW3
          subst hvw hk
          go_wp2_with fail
          go_meet
          case rel => exact HW3.out.symm
        · have hvw := QV.out; have hX := QX.out; have hk := QK.out; have he := QE.out
          rw [if_neg hv] at hvw hX hk he
          rw [hX, he] at hW3
          have HW3 := Lib.hid hW3
          clear hX he hW3
          subst hvw hk
          go_wp2_with fail
          go_meet
          case rel => exact HW3.out.symm
      case rest =>
        rw [hcut]
        clear hcut wc a0' a1' b0' b1' a0''
        have hv3 := HV2.out.on (((Touch.refl (fun _ => False) w2).alloc (.cells #[.int .i64 vw, .slice D k c'] 60)).alloc (.cells #[.int .i64 vw, .slice X k e] 60))
        rw [← hW3] at hv3
        have h5 : Blk W3 w2.heap.size 60 #[.int .i64 vw, .slice D k c'] := by rw [hW3]; exact (Blk.new _ _ _).alloc _
        have h6 : Blk W3 (w2.heap.size + 1) 60 #[.int .i64 vw, .slice X k e] := by
          rw [hW3]
          have := Blk.new (w2.alloc (.cells #[.int .i64 vw, .slice D k c'] 60)) 60 #[.int .i64 vw, .slice X k e]
          rwa [World.size_alloc] at this
        have hO3 : Own W3 3 1 (.slice D k c') k (intsV zs) := by rw [hW3]; exact (HO2.out.alloc _).alloc _
        have hX3 : IsInts W3 X k e zs := by
          by_cases hv : va < vb
          · have hX := QX.out; have hk := QK.out; have he := QE.out; have hz := QZ.out
            rw [if_pos hv] at hX hk he hz
            rw [hX, hk, he, hz]
            exact hv3.ib
          · have hX := QX.out; have hk := QK.out; have he := QE.out; have hz := QZ.out
            rw [if_neg hv] at hX hk he hz
            rw [hX, hk, he, hz]
            exact hv3.ia
        have hXlt : ∀ a, X = some a → 0 < k → a.block < w.heap.size := by
          intro a ha h0
          by_cases hv : va < vb
          · have hX := QX.out; have hk := QK.out
            rw [if_pos hv] at hX hk
            exact QB.out a (by rw [← hX, ha]) (by rcases hm1' with h | h <;> omega)
          · have hX := QX.out; have hk := QK.out
            rw [if_neg hv] at hX hk
            exact QA.out a (by rw [← hX, ha]) (by rcases hn1' with h | h <;> omega)
        have hk20 : k ≤ 20 := by
          have hk := QK.out
          rw [hk]
          split <;> omega
        have HV3 := Lib.hid hv3; have H5 := Lib.hid h5; have H6 := Lib.hid h6; have HO3 := Lib.hid hO3; have HX3 := Lib.hid hX3; have HXL := Lib.hid hXlt
        have KI := Lib.hid (ints_any W3 D X k c' e zs hO3.ints hX3)
        have hm5 : w2.heap.size < W3.heap.size := h5.lt
        have s0 : W3.cell? ⟨w2.heap.size, 0, none⟩ = some (.int .i64 vw) := h5.cell 0
        have s1 : ∀ q, (W3.drewN q).cell? ⟨w2.heap.size, 1, none⟩ = some (.slice D k c') := fun _ => h5.cell 1
        have t0 : W3.cell? ⟨w2.heap.size + 1, 0, none⟩ = some (.int .i64 vw) := h6.cell 0
        have t1 : ∀ q, (W3.drewN q).cell? ⟨w2.heap.size + 1, 1, none⟩ = some (.slice X k e) := fun _ => h6.cell 1
        have t1' : ∀ q o, ((W3.drewN q).alloc o).cell? ⟨w2.heap.size + 1, 1, none⟩ = some (.slice X k e) := fun q o => ((h6.drewN q).alloc o).cell 1
        have s1z : W3.cell? ⟨w2.heap.size, 1, none⟩ = some (.slice D k c') := h5.cell 1
        have t1z : W3.cell? ⟨w2.heap.size + 1, 1, none⟩ = some (.slice X k e) := h6.cell 1
        clear hv3 h5 h6 hO3 hX3 hXlt hW3
        go_wp2_with fail
        refine KI.out.mono ?_
        rintro e3 w3 ⟨rfl, q, rfl⟩
        have HSRC := Lib.hid (show ∀ o, Src Tryd.prog 1 36 (.slice X k e) k (intsV zs) ((W3.drewN q).alloc o) from fun o => (HX3.out.touch (((Touch.refl (fun _ => False) W3).drewN q).alloc o) fun _ _ _ => id).src Tryd.underlying36)
        clear KI
        go_wp2_with (at_builtin; refine wpList_own_src _ rfl _ _ 36 36 rfl 3 (.int .i64 0) 1 8 Tryd.info3 Tryd.underlying36 rfl (.slice (some ⟨W3.heap.size, 0, none⟩) 0 0) 0 [] rfl (Own.lit0 _ _ _) (by simp) (.slice X k e) k (intsV zs) rfl (HSRC.out _) (by unfold maxLen; omega) (by omega) ?_; intro R r1 w5 o5 g5 b5; simp only [Nat.zero_add, List.nil_append] at o5 g5 b5 ⊢; have HO5 := Lib.hid o5; have HG5 := Lib.hid g5; have HB5 := Lib.hid b5; have s5 := (H5.out.touch (((Touch.refl (fun _ => False) W3).drewN q).alloc _ |>.grown g5 fun j hj => .inl (by simp only [Value.ownBlock, Option.some.injEq] at hj; rw [← hj]; exact Nat.le_refl _)) id).cell 1; clear o5 g5 b5)
        have KSP := Lib.hid (spoilInts_any w5 D k c' zs (HO3.out.touch (((Touch.refl (fun _ => False) W3).drewN q).alloc _ |>.grown HG5.out fun j hj => .inl (by simp only [Value.ownBlock, Option.some.injEq] at hj; rw [← hj]; exact Nat.le_refl _)) fun _ _ => id) (by omega))
        have HT5 := Lib.hid (show Fresh W3 w5 from ((Touch.refl (fun _ => False) W3).drewN q).alloc _ |>.grown HG5.out fun j hj => .inl (by simp only [Value.ownBlock, Option.some.injEq] at hj; rw [← hj]; exact Nat.le_refl _))
        have HDB := Lib.hid (show ∀ j, (Value.slice D k c').ownBlock = some j → W1.heap.size ≤ j ∧ j < w2.heap.size from fun j hj => ⟨HN2.out j hj, HO2.out.lt j hj⟩)
        have HRB := Lib.hid (show ∀ j, (Value.slice R k r1).ownBlock = some j → W3.heap.size ≤ j from fun j hj => by
          rcases HB5.out with h | h
          · rw [hj] at h; simp only [Value.ownBlock, Option.some.injEq] at h; omega
          · rw [hj, World.size_alloc] at h
            injection h with h
            rw [h]
            exact Nat.le_succ _)
        clear HB5 HG5 HSRC s0 s1 t0 t1 t1' s1z t1z s5
        refine KSP.out.mono ?_
        rintro e4 w6 ⟨rfl, ht6⟩
        have hsz1 : w.heap.size + 1 < W1.heap.size := HV.out.bb.lt
        have hne : ∀ j, j < W1.heap.size ∨ w2.heap.size ≤ j → ¬ (Value.slice D k c').ownBlock = some j := fun j hj e => by have := HDB.out j e; omega
        have hb6 : Blk w6 (w2.heap.size + 1) 60 #[.int .i64 vw, .slice X k e] := (H6.out.touch HT5.out id).touch ht6 (hne _ (.inr (Nat.le_succ _)))
        have hv6 : Vw2 w w6 va vb A B n' m' c d xs' ys' := by
          have hv5 := HV3.out.on HT5.out
          refine ⟨hv5.fresh.trans ht6 fun j hj he => by have := HDB.out j he; omega, hv5.ba.touch ht6 (hne _ (.inl (by omega))), hv5.bb.touch ht6 (hne _ (.inl (by omega))), hv5.ia.touch ht6 fun a ha h0 => hne _ (.inl ?_), hv5.ib.touch ht6 fun a ha h0 => hne _ (.inl ?_)⟩
          · have := QA.out a ha (by omega)
            omega
          · have := QB.out a ha (by omega)
            omega
        have hX6 : IsInts w6 X k e zs := (HX3.out.touch HT5.out fun _ _ _ => id).touch ht6 fun a ha h0 => hne _ (.inl (by have := HXL.out a ha h0; omega))
        have hR6 : Own w6 3 1 (.slice R k r1) k (intsV zs) := HO5.out.touch ht6 fun j hj => hne _ (.inr (by have := HRB.out j hj; omega))
        have KI2 := Lib.hid (show ∀ W, Fresh w6 W → _ from fun W hW => ints_any W X R k e r1 zs (hX6.touch hW fun _ _ _ => id) (hR6.ints.touch hW fun _ _ _ => id))
        have IA := Lib.hid (show ∀ W, Fresh w6 W → IsInts W A n' c xs' from fun W hW => hv6.ia.touch hW fun _ _ _ => id)
        have IB := Lib.hid (show ∀ W, Fresh w6 W → IsInts W B m' d ys' from fun W hW => hv6.ib.touch hW fun _ _ _ => id)
        have KS := Lib.hid (show ∀ W, Fresh w6 W → (W.cell? ⟨w2.heap.size + 1, 1, none⟩ = some (.slice X k e) ∧ W.cell? ⟨w.heap.size, 0, none⟩ = some (.int .i64 va) ∧ W.cell? ⟨w.heap.size, 1, none⟩ = some (.slice A n' c) ∧ W.cell? ⟨w.heap.size + 1, 0, none⟩ = some (.int .i64 vb) ∧ W.cell? ⟨w.heap.size + 1, 1, none⟩ = some (.slice B m' d)) from fun W hW => ⟨(hb6.touch hW id).cell 1, (hv6.ba.touch hW id).cell 0, (hv6.ba.touch hW id).cell 1, (hv6.bb.touch hW id).cell 0, (hv6.bb.touch hW id).cell 1⟩)
        have HF6 := Lib.hid hv6.fresh
        clear ht6 hb6 hv6 hX6 hR6 hne KSP HDB HRB HT5 HO5 H5 H6 HO3 HX3 HXL HV3 HV HV2 HO2 HN2 HF2 QA QB QV QX QK QE QZ
        have hz : Fresh w6 w6.drew := (Touch.refl (fun _ => False) w6).drew
        go_upto_region 13 with fail
        go_region_held (fun W => W.cell? ⟨w2.heap.size + 1, 1, none⟩ = some (.slice X k e) ∧ W.cell? ⟨w.heap.size, 0, none⟩ = some (.int .i64 va) ∧ W.cell? ⟨w.heap.size, 1, none⟩ = some (.slice A n' c) ∧ W.cell? ⟨w.heap.size + 1, 0, none⟩ = some (.int .i64 vb) ∧ W.cell? ⟨w.heap.size + 1, 1, none⟩ = some (.slice B m' d))
          (first | exact KS.out _ hz)
          (first
            | (go_at_call 28; refine (KI2.out _ hz).mono ?_; rintro e7 w7 ⟨rfl, q7, rfl⟩; have hz : Fresh w6 (w6.drewN (1 + q7)) := (Touch.refl (fun _ => False) w6).drewN (1 + q7))
            | (go_at_call 32; refine (right_any _ _ _ _ _ _ (by first | exact IA.out _ hz | exact IB.out _ hz)).mono ?_; rintro e7 w7 ⟨rfl, hf7⟩; have hz := hz.trans hf7 fun _ _ => id; clear hf7)
            | (go_at_call 33; refine (refright_any _ _ _ _ _ _ (by first | exact IA.out _ hz | exact IB.out _ hz)).mono ?_; rintro e7 w7 ⟨rfl, hf7⟩; have hz := hz.trans hf7 fun _ _ => id; clear hf7)
            | (go_at_call 18; refine (KW.out _).mono ?_; rintro e7 w7 ⟨rfl, hf7⟩; have hz := hz.trans hf7 fun _ _ => id; clear hf7))
        all_goals
          have HZ := Lib.hid (HF6.out.trans hz fun _ _ => id)
          clear hz
          go_wp2_with fail
          all_goals (go_ret; exact ⟨rfl, HZ.out⟩)
end Go.Proofs.YtnbpmlbhigchnaaDoor
