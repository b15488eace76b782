/- The reference's ring in memory; its put. Condition: few spots. -/
import Derived.Test.YtnbpmlbhigchnaaGreatDoorZIns
import Derived.Shelf.SlSortCmp.QuietGrown
import Derived.BigQuiet
namespace Go.Proofs.YtnbpmlbhigchnaaGreatDoor
open Go.RowKit Ieee Go.Sort

theorem insK_at (x : Key) : ∀ (R : List Key) (k : Nat), k ≤ R.length → (∀ s ∈ R.take k, befZ x.1 s.1 = true) → (∀ s, R[k]? = some s → befZ x.1 s.1 = false) → insK x R.reverse = (R.drop k).reverse ++ [x] ++ (R.take k).reverse
  | R, 0, _, _, h => by
    cases R with
    | nil => rfl
    | cons y R =>
      have hy := h y rfl
      rw [List.reverse_cons, insK_snoc, if_neg (by rw [hy]; simp)]
      simp
  | [], k + 1, hk, _, _ => by simp at hk
  | y :: R, k + 1, hk, h1, h2 => by
    have hy := h1 y (by simp)
    rw [List.reverse_cons, insK_snoc, if_pos hy, insK_at x R k (by simpa using hk) (fun s hs => h1 s (by simp [hs])) (fun s hs => h2 s (by simpa using hs))]
    simp
/-- where the spot comes to stand -/
theorem insK_here {x : Key} {L : List Key} {k : Nat} (hk : k ≤ L.length) (h1 : ∀ s ∈ L.drop k, befZ x.1 s.1 = true) (h2 : ∀ j s, k = j + 1 → L[j]? = some s → befZ x.1 s.1 = false) : insK x L = L.take k ++ [x] ++ L.drop k := by
  have h := insK_at x L.reverse (L.length - k) (by rw [List.length_reverse]; omega) (fun s hs => h1 s (by
    rw [List.take_reverse, List.mem_reverse, show L.length - (L.length - k) = k by omega] at hs
    exact hs)) (fun s hs => by
    have hl := (List.getElem?_eq_some_iff.1 hs).1
    rw [List.length_reverse] at hl
    rw [List.getElem?_reverse hl] at hs
    exact h2 (L.length - 1 - (L.length - k)) s (by omega) hs)
  rw [List.reverse_reverse, List.drop_reverse, List.take_reverse, List.reverse_reverse, List.reverse_reverse, show L.length - (L.length - k) = k by omega] at h
  exact h

def kV (k : Key) : List Value := [.int .i64 k.1.1, .int .i64 k.1.2, .int .i64 k.2]
theorem kV_len (k : Key) : (kV k).length = 3 := rfl
def ksV (l : List Key) : List Value := l.flatMap kV
theorem ksV_one (l : List Key) : ∀ u ∈ ksV l, u.oneCell' = true := by
  intro u hu
  obtain ⟨k, _, hk⟩ := List.mem_flatMap.1 hu
  simp only [kV, List.mem_cons, List.not_mem_nil, or_false] at hk
  rcases hk with rfl | rfl | rfl <;> rfl
theorem ksV_take : ∀ (l : List Key) (k : Nat), (ksV l).take (k * 3) = ksV (l.take k)
  | _, 0 => by simp [ksV]
  | [], k + 1 => by simp [ksV]
  | a :: l, k + 1 => by
    have ih := ksV_take l k
    unfold ksV at *
    rw [List.take_succ_cons, List.flatMap_cons, List.flatMap_cons, show (k + 1) * 3 = 3 + k * 3 by omega, List.take_add, List.take_left' (kV_len a), List.drop_left' (kV_len a), ih]
theorem ksV_drop : ∀ (l : List Key) (k : Nat), (ksV l).drop (k * 3) = ksV (l.drop k)
  | _, 0 => by simp [ksV]
  | [], k + 1 => by simp [ksV]
  | a :: l, k + 1 => by
    have ih := ksV_drop l k
    unfold ksV at *
    rw [List.drop_succ_cons, List.flatMap_cons, show (k + 1) * 3 = 3 + k * 3 by omega, ← List.drop_drop, List.drop_left' (kV_len a), ih]
theorem ksV_append (a b : List Key) : ksV (a ++ b) = ksV a ++ ksV b := by simp [ksV]
theorem Tryz.info49 : (Tryz.prog.info? 49).map (fun i => (i.zero, i.size, i.bytes)) = some (some (.agg #[.int .i64 0, .int .i64 0, .int .i64 0]), 3, 24) := by kernel_rfl

/-- the reference's ring in memory -/
structure QG (w : World) (bn : Nat) (lv hv : Value) (ks : List Key) (hs : List Int) : Prop where
  blk : Blk w bn 37 #[lv, hv]
  lrow : Own w 49 3 lv ks.length (ksV ks)
  hrow : Own w 3 1 hv hs.length (iV hs)
theorem QG.touch {w w' : World} {S : Nat → Prop} {bn : Nat} {lv hv : Value} {ks : List Key} {hs : List Int} (h : QG w bn lv hv ks hs) (hb : Touch S w w') (hn : ∀ k, rfoot bn lv hv k → ¬ S k) : QG w' bn lv hv ks hs :=
  ⟨h.blk.touch hb (hn bn (.inl rfl)), h.lrow.touch hb fun k hk => hn k (.inr (.inl hk)), h.hrow.touch hb fun k hk => hn k (.inr (.inr hk))⟩
theorem QG.fresh {w w' : World} {bn : Nat} {lv hv : Value} {ks : List Key} {hs : List Int} (h : QG w bn lv hv ks hs) (hb : Fresh w w') : QG w' bn lv hv ks hs := h.touch hb fun _ _ => id
theorem QG.lt {w : World} {bn : Nat} {lv hv : Value} {ks : List Key} {hs : List Int} (h : QG w bn lv hv ks hs) : ∀ k, rfoot bn lv hv k → k < w.heap.size := by
  rintro k (rfl | hk | hk)
  · exact h.blk.lt
  · exact h.lrow.lt k hk
  · exact h.hrow.lt k hk
structure QN (w0 w : World) (bn : Nat) (lv hv : Value) (ks : List Key) (hs : List Int) : Prop where
  rg : QG w bn lv hv ks hs
  fresh : Fresh w0 w
  new : ∀ k, rfoot bn lv hv k → w0.heap.size ≤ k
theorem QN.on {w0 w w' : World} {bn : Nat} {lv hv : Value} {ks : List Key} {hs : List Int} (h : QN w0 w bn lv hv ks hs) (hf : Fresh w w') : QN w0 w' bn lv hv ks hs := ⟨h.rg.fresh hf, h.fresh.trans hf fun _ _ => id, h.new⟩
/-- the row of spots set anew: a row that was made since -/
theorem QN.spots {w0 w w' : World} {bn n : Nat} {lv hv : Value} {ks ks' : List Key} {hs : List Int} {D : Option Addr} {c4 : Nat} (h : QN w0 w bn lv hv ks hs) (hf : Fresh w w') (hn : n = ks'.length) (ho : Own w' 49 3 (.slice D n c4) n (ksV ks')) (hd : ∀ k, (Value.slice D n c4).ownBlock = some k → w.heap.size ≤ k) :
    QN w0 (w'.setCell ⟨bn, 0, none⟩ (.slice D n c4)) bn (.slice D n c4) hv ks' hs := by
  subst hn
  have hq := h.rg.fresh hf
  have hsz := h.fresh.size
  refine ⟨⟨?_, ?_, ?_⟩, (h.fresh.trans hf fun _ _ => id).setCell (p := ⟨bn, 0, none⟩) (.inl (h.new bn (.inl rfl))) _, ?_⟩
  · simpa using hq.blk.set_ 0 (.slice D ks'.length c4)
  · exact ho.far (p := ⟨bn, 0, none⟩) (ho.ne_blk hq.blk (by decide)) _
  · exact hq.hrow.far (p := ⟨bn, 0, none⟩) (hq.hrow.ne_blk hq.blk (by decide)) _
  · rintro k (e | e | e)
    · exact h.new k (.inl e)
    · exact Nat.le_trans hsz (hd k e)
    · exact h.new k (.inr (.inr e))

set_option maxRecDepth 20000 in
theorem refbefore_grown (z q : Int × Int) (w : World) :
    Calls Tryz.prog 33 #[.agg #[.int .i64 z.1, .int .i64 z.2], .agg #[.int .i64 q.1, .int .i64 q.2]] w fun e w' => e = .returned (.bool (befZ z q)) ∧ ∃ q os', w' = Sort.grow (w.drewN q) os' := by
  obtain ⟨W1, hW1⟩ : ∃ W1, W1 = (w.alloc (.cells #[.int .i64 z.1, .int .i64 z.2] 47)).alloc (.cells #[.int .i64 q.1, .int .i64 q.2] 47) := ⟨_, rfl⟩
  have HF := Lib.hid (show ∃ q os', W1 = Sort.grow (w.drewN q) os' from ⟨0, _, by rw [hW1, alloc_eq_grow, alloc_eq_grow, grow_grow]; rfl⟩)
  have hb : Blk W1 w.heap.size 47 #[.int .i64 z.1, .int .i64 z.2] := by rw [hW1]; exact (Blk.new _ _ _).alloc _
  have hd : Blk W1 (w.heap.size + 1) 47 #[.int .i64 q.1, .int .i64 q.2] := by
    rw [hW1]
    have := Blk.new (w.alloc (.cells #[.int .i64 z.1, .int .i64 z.2] 47)) 47 #[.int .i64 q.1, .int .i64 q.2]
    rwa [World.size_alloc] at this
  have c0 : W1.cell? ⟨w.heap.size, 0, none⟩ = some (.int .i64 z.1) := hb.cell 0
  have c1 : W1.cell? ⟨w.heap.size, 1, none⟩ = some (.int .i64 z.2) := hb.cell 1
  have d0 : W1.cell? ⟨w.heap.size + 1, 0, none⟩ = some (.int .i64 q.1) := hd.cell 0
  have d1 : W1.cell? ⟨w.heap.size + 1, 1, none⟩ = some (.int .i64 q.2) := hd.cell 1
  have HW := Lib.hid hW1
  clear hb hd hW1
  unfold befZ
  obtain ⟨a, b⟩ := z
  obtain ⟨c, d⟩ := q
  dsimp only at *
  rcases Int.lt_trichotomy a c with h1 | rfl | h1
  case' inl => have h2 : ¬ a = c := by omega
  case' inr.inl => have h1 : ¬ a < a := by omega
  case' inr.inl => have h2 : a = a := rfl
  case' inr.inr => have h2 : ¬ a = c := by omega
  case' inr.inr => have h3 : ¬ a < c := by omega
  all_goals
    go_enter Tryz.func33, Tryz.ntmps33
    go_wp2_with fail
    rw [← HW.out]
    go_wp2_with fail
    all_goals (go_ret; exact ⟨by first | rfl | (simp [h1, h2]; done) | (simp; omega), HF.out⟩)
theorem Fresh.grow_ (w : World) (n : Nat) (os : Array Obj) : Fresh w (Sort.grow (w.drewN n) os) := by
  refine ⟨rfl, rfl, rfl, by simp, fun k hk _ => ?_⟩
  rw [heap_grow_old _ _ (by simpa using hk)]
  rfl
theorem key_new (w : World) (x : Key) : Src Tryz.prog 3 35 (.slice (some ⟨w.heap.size, 0, none⟩) 1 1) 1 (kV x) (w.alloc (.cells #[.int .i64 x.1.1, .int .i64 x.1.2, .int .i64 x.2] 49)) := by
  refine Src.ofSlice _ Tryz.underlying35 _ _ _ _ rfl (fun j u hu => ?_) (by intro u hu; simp [kV] at hu; rcases hu with rfl | rfl | rfl <;> rfl)
  have hb := Blk.new w 49 #[.int .i64 x.1.1, .int .i64 x.1.2, .int .i64 x.2]
  rw [add_flat, Nat.zero_add, hb.cell j, ← hu]
  simp [kV]

theorem grow_step {W w1 w2 : World} {o : Obj} {row : Option Nat} {v : Value} (hf : Fresh W w1) (hg : (w1.alloc o).grownBy w2 row) (hr : ∀ q, row = some q → W.heap.size ≤ q) (hb : v.ownBlock = row ∨ v.ownBlock = some (w1.alloc o).heap.size) : Fresh W w2 ∧ ∀ q, v.ownBlock = some q → W.heap.size ≤ q := by
  refine ⟨(hf.alloc o).grown hg fun q hq => .inl (hr q hq), fun q hq => ?_⟩
  rcases hb with h | h
  · exact hr q (h.symm.trans hq)
  · rw [hq, World.size_alloc] at h
    injection h with h
    have := hf.size
    omega
theorem grow_step0 {W w1 w2 : World} {row : Option Nat} {v : Value} (hf : Fresh W w1) (hg : w1.grownBy w2 row) (hr : ∀ q, row = some q → W.heap.size ≤ q) (hb : v.ownBlock = row ∨ v.ownBlock = some w1.heap.size) : Fresh W w2 ∧ ∀ q, v.ownBlock = some q → W.heap.size ≤ q := by
  refine ⟨hf.grown hg fun q hq => .inl (hr q hq), fun q hq => ?_⟩
  rcases hb with h | h
  · exact hr q (h.symm.trans hq)
  · rw [hq] at h
    injection h with h
    have := hf.size
    omega
theorem here_eq {x : Key} {ks : List Key} {k : Nat} (hi : insK x ks = ks.take k ++ [x] ++ ks.drop k) : ksV (insK x ks) = (ksV ks).take (k * 3) ++ kV x ++ (ksV ks).drop (k * 3) := by
  rw [hi, ksV_append, ksV_append, ksV_take, ksV_drop]
  simp [ksV]
theorem here_len {x : Key} {ks : List Key} {k : Nat} (hk : k ≤ ks.length) (hi : insK x ks = ks.take k ++ [x] ++ ks.drop k) : k + 1 + (ks.length - k) = (insK x ks).length := by
  rw [hi]
  simp only [List.length_append, List.length_take, List.length_drop, List.length_singleton]
  omega

set_option maxRecDepth 20000 in
set_option maxHeartbeats 4000000 in
theorem put_any (x : Key) (bn : Nat) (lv hv : Value) (ks : List Key) (hs : List Int) (w0 w : World) (hQ : QN w0 w bn lv hv ks hs) (hl : ks.length ≤ 1000000) :
    Calls Tryz.prog 24 #[.pointer (some ⟨bn, 0, none⟩), .agg #[.int .i64 x.1.1, .int .i64 x.1.2, .int .i64 x.2]] w fun e w' => e = .returned (.tuple #[]) ∧ ∃ lv', QN w0 w' bn lv' hv (insK x ks) hs := by
  obtain ⟨A, c, rfl, hc1, hc2, hA⟩ := hQ.rg.lrow.form
  unfold maxLen at hc2
  have mixed : Tryz.prog.follows .mixedOrders = true := by kernel_rfl
  obtain ⟨W1, hW1⟩ : ∃ W1, W1 = w.alloc (.cells #[.int .i64 x.1.1, .int .i64 x.1.2, .int .i64 x.2] 49) := ⟨_, rfl⟩
  have hF1 : Fresh w W1 := by rw [hW1]; exact (Touch.refl _ w).alloc _
  have hB1 : Blk W1 w.heap.size 49 #[.int .i64 x.1.1, .int .i64 x.1.2, .int .i64 x.2] := by rw [hW1]; exact Blk.new _ _ _
  have HQ := Lib.hid hQ; have HF1 := Lib.hid hF1; have HB1 := Lib.hid hB1; have HW := Lib.hid hW1; have HA := Lib.hid hA
  have r0 : ∀ o, (w.alloc o).cell? ⟨bn, 0, none⟩ = some (.slice A ks.length c) := fun o => (hQ.rg.blk.alloc o).cell 0
  clear hQ hF1 hB1 hW1 hA
  go_enter Tryz.func24, Tryz.ntmps24
  go_wp2_with fail
  rw [← HW.out]
  go_loopw [4] (fun i wr => ∃ k : Nat, k ≤ ks.length ∧ i = .int .i64 k ∧ Fresh W1 wr ∧ ∀ s ∈ ks.drop k, befZ x.1 s.1 = true) (fun i _ => (intOf i).toNat)
  case atStart => exact ⟨ks.length, Nat.le_refl _, rfl, Touch.refl _ _, by simp⟩
  case round =>
    clear r0
    obtain ⟨k, hk, rfl, hf, hbef⟩ := hrel
    have HF := Lib.hid hf; have HBE := Lib.hid hbef
    have hq := (HQ.out.on HF1.out).on hf
    have hb := HB1.out.touch hf id
    have HN := Lib.hid hq; have HB := Lib.hid hb
    have b0 : ∀ n os, (Sort.grow (wr.drewN n) os).cell? ⟨w.heap.size, 0, none⟩ = some (.int .i64 x.1.1) := cell_grown hb.lt (hb.cell 0)
    have b1 : ∀ n os, (Sort.grow (wr.drewN n) os).cell? ⟨w.heap.size, 1, none⟩ = some (.int .i64 x.1.2) := cell_grown hb.lt (hb.cell 1)
    have r0 : ∀ n os, (Sort.grow (wr.drewN n) os).cell? ⟨bn, 0, none⟩ = some (.slice A ks.length c) := cell_grown hq.rg.blk.lt (hq.rg.blk.cell 0)
    clear hf hbef hb hq
    by_cases h0 : 0 < k
    · obtain ⟨j, hj⟩ : ∃ j, k = j + 1 := ⟨k - 1, by omega⟩
      obtain ⟨g, rfl⟩ : ∃ g, A = some ⟨g, 0, none⟩ := by
        rcases HA.out with ⟨_, h, _⟩ | hg
        · omega
        · exact hg
      obtain ⟨s, hs⟩ : ∃ s, ks[j]? = some s := ⟨_, List.getElem?_eq_getElem (by omega)⟩
      have s0 : ∀ n os, (Sort.grow (wr.drewN n) os).cell? ⟨g, j * 3, none⟩ = some (.int .i64 s.1.1) := cell_grown (HN.out.rg.lrow.lt g rfl) (by
        rw [HN.out.rg.lrow.cell (j := j * 3) (by omega)]
        exact flat_at kV 3 kV_len ks j 0 s hs (by omega))
      have s1 : ∀ n os, (Sort.grow (wr.drewN n) os).cell? ⟨g, j * 3 + 1, none⟩ = some (.int .i64 s.1.2) := cell_grown (HN.out.rg.lrow.lt g rfl) (by
        rw [HN.out.rg.lrow.cell (j := j * 3 + 1) (by omega)]
        exact flat_at kV 3 kV_len ks j 1 s hs (by omega))
      have HS := Lib.hid hs
      have KB := Lib.hid (fun W => refbefore_grown x.1 s.1 W)
      obtain ⟨bb, hbb⟩ : ∃ bb, bb = befZ x.1 s.1 := ⟨_, rfl⟩
      rw [← hbb] at KB
      have HBB := Lib.hid hbb
      have wj : IntKind.i64.wrap ((k : Int) - 1) = (j : Int) := by rw [show (k : Int) - 1 = (j : Int) by omega]; exact IntWalk.i64_in _ (by omega)
      have d1 : decide ((0 : Int) < (k : Int)) = true := by simp; omega
      have d2 : (0 : Int) < (k : Int) := by omega
      have d3 : decide (0 < k) = true := by simp; omega
      have hjl : j < ks.length := by omega
      have HJ := Lib.hid hj
      clear hbb hs hj h0
      cases bb with
      | true =>
        have HNX := Lib.hid (show ∀ t ∈ ks.drop j, befZ x.1 t.1 = true from fun t ht => by
          have e : ks.drop j = s :: ks.drop k := by
            rw [HJ.out, List.drop_eq_getElem_cons hjl]
            have := HS.out
            rw [List.getElem?_eq_getElem hjl] at this
            injection this with this
            rw [this]
          rw [e] at ht
          rcases List.mem_cons.1 ht with rfl | ht
          · exact HBB.out.symm
          · exact HBE.out t ht)
        go_upto_region 2 with fail
        refine wp_region_quiet_grown (by kernel_rfl) (by kernel_rfl) ?_
        repeat (go_big_quiet_step (first | (go_at_call 33; exact Calls.grown_of (KB.out _))))
        refine wpQuiet_nil ?_
        intro _ hw'
        obtain ⟨⟨nq, osq⟩, hw''⟩ := hw'
        subst hw''
        have HF5 := Lib.hid (Fresh.grow_ wr nq osq)
        clear b0 b1 r0 s0 s1
        go_wp2_with fail
        go_roundw
        case rel => exact ⟨j, by omega, rfl, HF.out.trans HF5.out fun _ _ => id, HNX.out⟩
        case measure => have := HJ.out; simp [intOf] <;> omega
      | false =>
        have HI := Lib.hid (insK_here (x := x) (L := ks) (k := k) hk HBE.out (fun j' s' e hs' => by
          have e2 : j' = j := by have := HJ.out; omega
          rw [e2, HS.out] at hs'
          injection hs' with hs'
          rw [← hs']
          exact HBB.out.symm))
        go_upto_region 2 with fail
        refine wp_region_quiet_grown (by kernel_rfl) (by kernel_rfl) ?_
        repeat (go_big_quiet_step (first | (go_at_call 33; exact Calls.grown_of (KB.out _))))
        refine wpQuiet_nil ?_
        intro _ hw'
        obtain ⟨⟨nq, osq⟩, hw''⟩ := hw'
        subst hw''
        clear b0 b1 r0 s0 s1
        obtain ⟨W5, hW5⟩ : ∃ W5, W5 = Sort.grow (wr.drewN nq) osq := ⟨_, rfl⟩
        have hF5 : Fresh wr W5 := by rw [hW5]; exact Fresh.grow_ wr nq osq
        rw [← hW5]
        have HN5 := Lib.hid (HN.out.on hF5); have HB5 := Lib.hid (HB.out.touch hF5 id)
        have HEQ := Lib.hid (here_eq HI.out); have HLEN := Lib.hid (here_len hk HI.out)
        clear hW5 hF5
        have z1 : (k : Int) ≤ (ks.length : Int) := by omega
        have z2 : k ≤ c := by omega
        by_cases hkc : c = k
        · subst hkc
          have r5 : ∀ o, (W5.alloc o).cell? ⟨bn, 0, none⟩ = some (.slice (some ⟨g, 0, none⟩) ks.length c) := fun o => (HN5.out.rg.blk.alloc o).cell 0
          have KS1 := Lib.hid (show Src Tryz.prog 3 35 (.slice (some ⟨g, 0, none⟩) c c) c ((ksV ks).take (c * 3)) (W5.alloc (.cells #[] 49)) from Own.takeSrc (HN5.out.rg.lrow.alloc _) Tryz.underlying35 (ksV_one ks) hk)
          have KONE := Lib.hid (show ∀ u ∈ (ksV ks).take (c * 3) ++ kV x, u.oneCell' = true from fun u hu => by
            rcases List.mem_append.1 hu with hu | hu
            · exact ksV_one ks u (List.mem_of_mem_take hu)
            · exact ksV_one [x] u (by simpa [ksV] using hu))
          go_wp2_with (at_builtin; first
            | (refine wpList_own_src _ rfl (.tmp 29) (.tmp 35) 35 35 rfl 49 (.agg #[.int .i64 0, .int .i64 0, .int .i64 0]) 3 24 Tryz.info49 Tryz.underlying35 rfl (.slice (some ⟨W5.heap.size, 0, none⟩) 0 0) 0 [] rfl (Own.lit0' W5 49 3) (by simp) (.slice (some ⟨g, 0, none⟩) c c) c ((ksV ks).take (c * 3)) rfl KS1.out (by unfold maxLen; omega) (by omega) ?_; intro D6 c6 w6 o6 g6 b6; simp only [Nat.zero_add, List.nil_append] at o6 g6 b6 ⊢; have HO6 := Lib.hid o6; have H6 := Lib.hid (grow_step (Touch.refl _ W5) g6 (fun q hq => by simp only [Value.ownBlock, Option.some.injEq] at hq; omega) b6); have e0 := (HB5.out.touch H6.out.1 id).cell 0; have e1 := (HB5.out.touch H6.out.1 id).cell 1; have e2 := (HB5.out.touch H6.out.1 id).cell 2; clear o6 g6 b6 r5)
            | (refine wpList_own_src _ rfl (.tmp 37) (.tmp 39) 35 35 rfl 49 (.agg #[.int .i64 0, .int .i64 0, .int .i64 0]) 3 24 Tryz.info49 Tryz.underlying35 rfl (.slice D6 c c6) c ((ksV ks).take (c * 3)) rfl (HO6.out.alloc _) (fun u hu => ksV_one ks u (List.mem_of_mem_take hu)) (.slice (some ⟨w6.heap.size, 0, none⟩) 1 1) 1 (kV x) rfl (by exact key_new w6 x) (by unfold maxLen; omega) (by omega) ?_; intro D7 c7 w7 o7 g7 b7; have HO7 := Lib.hid o7; have H7 := Lib.hid (grow_step H6.out.1 g7 H6.out.2 b7); have r7 : w7.cell? ⟨bn, 0, none⟩ = some (.slice (some ⟨g, 0, none⟩) ks.length c) := (HN5.out.on H7.out.1).rg.blk.cell 0; clear o7 g7 b7 e0 e1 e2)
            | (refine wpList_own_src _ rfl (.tmp 42) (.tmp 48) 35 35 rfl 49 (.agg #[.int .i64 0, .int .i64 0, .int .i64 0]) 3 24 Tryz.info49 Tryz.underlying35 rfl (.slice D7 (c + 1) c7) (c + 1) ((ksV ks).take (c * 3) ++ kV x) rfl HO7.out KONE.out (.slice (some ⟨g, 0, none⟩) 0 0) 0 [] rfl (Src.ofSlice w7 Tryz.underlying35 _ 0 0 [] (by simp) (by simp) (by simp)) (by unfold maxLen; omega) (by omega) ?_; intro D8 c8 w8 o8 g8 b8; simp only [Nat.add_zero, List.append_nil] at o8 g8 b8 ⊢; have HO8 := Lib.hid o8; have H8 := Lib.hid (grow_step0 H7.out.1 g8 H7.out.2 b8); have r8 : w8.cell? ⟨bn, 0, none⟩ = some (.slice (some ⟨g, 0, none⟩) ks.length c) := (HN5.out.on H8.out.1).rg.blk.cell 0; have f8 := (HN5.out.on H8.out.1).rg.blk.frozen 0; clear o8 g8 b8 r7))
          all_goals
            go_end0
            refine ⟨rfl, _, HN5.out.spots H8.out.1 (by have := HLEN.out; omega) ?_ H8.out.2⟩
            rw [HEQ.out, ksV_drop, List.drop_eq_nil_of_le hc1]
            simpa [ksV] using HO8.out
        · have hck : ¬ c = k := hkc
          have r5 : ∀ o, (W5.alloc o).cell? ⟨bn, 0, none⟩ = some (.slice (some ⟨g, 0, none⟩) ks.length c) := fun o => (HN5.out.rg.blk.alloc o).cell 0
          have KS1 := Lib.hid (show Src Tryz.prog 3 35 (.slice (some ⟨g, 0, none⟩) k c) k ((ksV ks).take (k * 3)) (W5.alloc (.cells #[] 49)) from Own.takeSrc (HN5.out.rg.lrow.alloc _) Tryz.underlying35 (ksV_one ks) hk)
          have KS3 := Lib.hid (show ∀ W, Fresh W5 W → Src Tryz.prog 3 35 (.slice (some ⟨g, k * 3, none⟩) (ks.length - k) (c - k)) (ks.length - k) ((ksV ks).drop (k * 3)) W from fun W hW => Own.dropSrc (HN5.out.on hW).rg.lrow Tryz.underlying35 (ksV_one ks) hk _ _ rfl)
          have KONE := Lib.hid (show ∀ u ∈ (ksV ks).take (k * 3) ++ kV x, u.oneCell' = true from fun u hu => by
            rcases List.mem_append.1 hu with hu | hu
            · exact ksV_one ks u (List.mem_of_mem_take hu)
            · exact ksV_one [x] u (by simpa [ksV] using hu))
          go_wp2_with (at_builtin; first
            | (refine wpList_own_src _ rfl (.tmp 29) (.tmp 35) 35 35 rfl 49 (.agg #[.int .i64 0, .int .i64 0, .int .i64 0]) 3 24 Tryz.info49 Tryz.underlying35 rfl (.slice (some ⟨W5.heap.size, 0, none⟩) 0 0) 0 [] rfl (Own.lit0' W5 49 3) (by simp) (.slice (some ⟨g, 0, none⟩) k c) k ((ksV ks).take (k * 3)) rfl KS1.out (by unfold maxLen; omega) (by omega) ?_; intro D6 c6 w6 o6 g6 b6; simp only [Nat.zero_add, List.nil_append] at o6 g6 b6 ⊢; have HO6 := Lib.hid o6; have H6 := Lib.hid (grow_step (Touch.refl _ W5) g6 (fun q hq => by simp only [Value.ownBlock, Option.some.injEq] at hq; omega) b6); have e0 := (HB5.out.touch H6.out.1 id).cell 0; have e1 := (HB5.out.touch H6.out.1 id).cell 1; have e2 := (HB5.out.touch H6.out.1 id).cell 2; clear o6 g6 b6 r5)
            | (refine wpList_own_src _ rfl (.tmp 37) (.tmp 39) 35 35 rfl 49 (.agg #[.int .i64 0, .int .i64 0, .int .i64 0]) 3 24 Tryz.info49 Tryz.underlying35 rfl (.slice D6 k c6) k ((ksV ks).take (k * 3)) rfl (HO6.out.alloc _) (fun u hu => ksV_one ks u (List.mem_of_mem_take hu)) (.slice (some ⟨w6.heap.size, 0, none⟩) 1 1) 1 (kV x) rfl (by exact key_new w6 x) (by unfold maxLen; omega) (by omega) ?_; intro D7 c7 w7 o7 g7 b7; have HO7 := Lib.hid o7; have H7 := Lib.hid (grow_step H6.out.1 g7 H6.out.2 b7); have r7 : w7.cell? ⟨bn, 0, none⟩ = some (.slice (some ⟨g, 0, none⟩) ks.length c) := (HN5.out.on H7.out.1).rg.blk.cell 0; clear o7 g7 b7 e0 e1 e2)
            | (refine wpList_own_src _ rfl (.tmp 42) (.tmp 48) 35 35 rfl 49 (.agg #[.int .i64 0, .int .i64 0, .int .i64 0]) 3 24 Tryz.info49 Tryz.underlying35 rfl (.slice D7 (k + 1) c7) (k + 1) ((ksV ks).take (k * 3) ++ kV x) rfl HO7.out KONE.out (.slice (some ⟨g, k * 3, none⟩) (ks.length - k) (c - k)) (ks.length - k) ((ksV ks).drop (k * 3)) rfl (KS3.out w7 H7.out.1) (by unfold maxLen; omega) (by omega) ?_; intro D8 c8 w8 o8 g8 b8; have HO8 := Lib.hid o8; have H8 := Lib.hid (grow_step0 H7.out.1 g8 H7.out.2 b8); have r8 : w8.cell? ⟨bn, 0, none⟩ = some (.slice (some ⟨g, 0, none⟩) ks.length c) := (HN5.out.on H8.out.1).rg.blk.cell 0; have f8 := (HN5.out.on H8.out.1).rg.blk.frozen 0; clear o8 g8 b8 r7))
          all_goals
            go_end0
            refine ⟨rfl, _, HN5.out.spots H8.out.1 (HLEN.out) ?_ H8.out.2⟩
            rw [HEQ.out]
            exact HO8.out
    · have HI := Lib.hid (insK_here (x := x) (L := ks) (k := k) hk HBE.out (fun j s e _ => by omega))
      have hk0 : k = 0 := by omega
      have d1 : decide ((0 : Int) < (k : Int)) = false := by simp; omega
      have d2 : ¬ (0 : Int) < (k : Int) := by omega
      have d3 : decide (0 < k) = false := by simp; omega
      have HK0 := Lib.hid hk0
      clear h0 hk0
      go_upto_region 2 with fail
      refine wp_region_quiet_grown (by kernel_rfl) (by kernel_rfl) ?_
      repeat (go_big_quiet_step (fail))
      refine wpQuiet_nil ?_
      intro _ hw'
      obtain ⟨⟨nq, osq⟩, hw''⟩ := hw'
      subst hw''
      clear b0 b1 r0
      obtain ⟨W5, hW5⟩ : ∃ W5, W5 = Sort.grow (wr.drewN nq) osq := ⟨_, rfl⟩
      have hF5 : Fresh wr W5 := by rw [hW5]; exact Fresh.grow_ wr nq osq
      rw [← hW5]
      have HN5 := Lib.hid (HN.out.on hF5); have HB5 := Lib.hid (HB.out.touch hF5 id)
      have HEQ := Lib.hid (here_eq HI.out); have HLEN := Lib.hid (here_len hk HI.out)
      clear hW5 hF5
      have z1 : (k : Int) ≤ (ks.length : Int) := by omega
      have z2 : k ≤ c := by omega
      rcases HA.out with ⟨rfl, hn0, hc0⟩ | ⟨g, rfl⟩
      · have hks : ks = [] := List.eq_nil_of_length_eq_zero hn0
        subst hks
        have hk0 := HK0.out
        subst hk0
        subst hc0
        have KN := Lib.hid (show Src Tryz.prog 3 35 (.slice (some ⟨W5.heap.size + 1, 0, none⟩) 1 1) 1 (kV x) ((W5.alloc (.cells #[] 49)).alloc (.cells #[.int .i64 x.1.1, .int .i64 x.1.2, .int .i64 x.2] 49)) from by
          have := key_new (W5.alloc (.cells #[] 49)) x
          rwa [World.size_alloc] at this)
        have r5 : ∀ o, (W5.alloc o).cell? ⟨bn, 0, none⟩ = some (.slice none 0 0) := fun o => (HN5.out.rg.blk.alloc o).cell 0
        have e0 : ∀ o, (W5.alloc o).cell? ⟨w.heap.size, 0, none⟩ = some (.int .i64 x.1.1) := fun o => (HB5.out.alloc o).cell 0
        have e1 : ∀ o, (W5.alloc o).cell? ⟨w.heap.size, 1, none⟩ = some (.int .i64 x.1.2) := fun o => (HB5.out.alloc o).cell 1
        have e2 : ∀ o, (W5.alloc o).cell? ⟨w.heap.size, 2, none⟩ = some (.int .i64 x.2) := fun o => (HB5.out.alloc o).cell 2
        go_wp2_with (at_builtin; first
          | (refine wpList_own_src _ rfl (.tmp 37) (.tmp 39) 35 35 rfl 49 (.agg #[.int .i64 0, .int .i64 0, .int .i64 0]) 3 24 Tryz.info49 Tryz.underlying35 rfl (.slice (some ⟨W5.heap.size, 0, none⟩) 0 0) 0 [] rfl ((Own.lit0' W5 49 3).alloc _) (by simp) (.slice (some ⟨W5.heap.size + 1, 0, none⟩) 1 1) 1 (kV x) rfl (by exact KN.out) (by unfold maxLen; omega) (by omega) ?_; intro D7 c7 w7 o7 g7 b7; simp only [Nat.zero_add, List.nil_append] at o7 g7 b7 ⊢; have HO7 := Lib.hid o7; have H7 := Lib.hid (grow_step ((Touch.refl (fun _ => False) W5).alloc (.cells #[] 49)) g7 (fun q hq => by simp only [Value.ownBlock, Option.some.injEq] at hq; omega) b7); have r7 : w7.cell? ⟨bn, 0, none⟩ = some (.slice none 0 0) := (HN5.out.on H7.out.1).rg.blk.cell 0; clear o7 g7 b7 e0 e1 e2)
          | (refine wpList_own_src _ rfl (.tmp 42) (.tmp 48) 35 35 rfl 49 (.agg #[.int .i64 0, .int .i64 0, .int .i64 0]) 3 24 Tryz.info49 Tryz.underlying35 rfl (.slice D7 1 c7) 1 (kV x) rfl HO7.out (fun u hu => ksV_one [x] u (by simpa [ksV] using hu)) (.slice none 0 0) 0 [] rfl (Src.ofNil w7 Tryz.underlying35 0) (by unfold maxLen; omega) (by omega) ?_; intro D8 c8 w8 o8 g8 b8; simp only [Nat.add_zero, List.append_nil] at o8 g8 b8 ⊢; have HO8 := Lib.hid o8; have H8 := Lib.hid (grow_step0 H7.out.1 g8 H7.out.2 b8); have r8 : w8.cell? ⟨bn, 0, none⟩ = some (.slice none 0 0) := (HN5.out.on H8.out.1).rg.blk.cell 0; have f8 := (HN5.out.on H8.out.1).rg.blk.frozen 0; clear o8 g8 b8 r7))
        all_goals
          go_end0
          refine ⟨rfl, _, HN5.out.spots H8.out.1 rfl ?_ H8.out.2⟩
          have := HO8.out
          simpa [insK_nil, ksV] using this
      · by_cases hkc : c = k
        · subst hkc
          have r5 : ∀ o, (W5.alloc o).cell? ⟨bn, 0, none⟩ = some (.slice (some ⟨g, 0, none⟩) ks.length c) := fun o => (HN5.out.rg.blk.alloc o).cell 0
          have KS1 := Lib.hid (show Src Tryz.prog 3 35 (.slice (some ⟨g, 0, none⟩) c c) c ((ksV ks).take (c * 3)) (W5.alloc (.cells #[] 49)) from Own.takeSrc (HN5.out.rg.lrow.alloc _) Tryz.underlying35 (ksV_one ks) hk)
          have KONE := Lib.hid (show ∀ u ∈ (ksV ks).take (c * 3) ++ kV x, u.oneCell' = true from fun u hu => by
            rcases List.mem_append.1 hu with hu | hu
            · exact ksV_one ks u (List.mem_of_mem_take hu)
            · exact ksV_one [x] u (by simpa [ksV] using hu))
          go_wp2_with (at_builtin; first
            | (refine wpList_own_src _ rfl (.tmp 29) (.tmp 35) 35 35 rfl 49 (.agg #[.int .i64 0, .int .i64 0, .int .i64 0]) 3 24 Tryz.info49 Tryz.underlying35 rfl (.slice (some ⟨W5.heap.size, 0, none⟩) 0 0) 0 [] rfl (Own.lit0' W5 49 3) (by simp) (.slice (some ⟨g, 0, none⟩) c c) c ((ksV ks).take (c * 3)) rfl KS1.out (by unfold maxLen; omega) (by omega) ?_; intro D6 c6 w6 o6 g6 b6; simp only [Nat.zero_add, List.nil_append] at o6 g6 b6 ⊢; have HO6 := Lib.hid o6; have H6 := Lib.hid (grow_step (Touch.refl _ W5) g6 (fun q hq => by simp only [Value.ownBlock, Option.some.injEq] at hq; omega) b6); have e0 := (HB5.out.touch H6.out.1 id).cell 0; have e1 := (HB5.out.touch H6.out.1 id).cell 1; have e2 := (HB5.out.touch H6.out.1 id).cell 2; clear o6 g6 b6 r5)
            | (refine wpList_own_src _ rfl (.tmp 37) (.tmp 39) 35 35 rfl 49 (.agg #[.int .i64 0, .int .i64 0, .int .i64 0]) 3 24 Tryz.info49 Tryz.underlying35 rfl (.slice D6 c c6) c ((ksV ks).take (c * 3)) rfl (HO6.out.alloc _) (fun u hu => ksV_one ks u (List.mem_of_mem_take hu)) (.slice (some ⟨w6.heap.size, 0, none⟩) 1 1) 1 (kV x) rfl (by exact key_new w6 x) (by unfold maxLen; omega) (by omega) ?_; intro D7 c7 w7 o7 g7 b7; have HO7 := Lib.hid o7; have H7 := Lib.hid (grow_step H6.out.1 g7 H6.out.2 b7); have r7 : w7.cell? ⟨bn, 0, none⟩ = some (.slice (some ⟨g, 0, none⟩) ks.length c) := (HN5.out.on H7.out.1).rg.blk.cell 0; clear o7 g7 b7 e0 e1 e2)
            | (refine wpList_own_src _ rfl (.tmp 42) (.tmp 48) 35 35 rfl 49 (.agg #[.int .i64 0, .int .i64 0, .int .i64 0]) 3 24 Tryz.info49 Tryz.underlying35 rfl (.slice D7 (c + 1) c7) (c + 1) ((ksV ks).take (c * 3) ++ kV x) rfl HO7.out KONE.out (.slice (some ⟨g, 0, none⟩) 0 0) 0 [] rfl (Src.ofSlice w7 Tryz.underlying35 _ 0 0 [] (by simp) (by simp) (by simp)) (by unfold maxLen; omega) (by omega) ?_; intro D8 c8 w8 o8 g8 b8; simp only [Nat.add_zero, List.append_nil] at o8 g8 b8 ⊢; have HO8 := Lib.hid o8; have H8 := Lib.hid (grow_step0 H7.out.1 g8 H7.out.2 b8); have r8 : w8.cell? ⟨bn, 0, none⟩ = some (.slice (some ⟨g, 0, none⟩) ks.length c) := (HN5.out.on H8.out.1).rg.blk.cell 0; have f8 := (HN5.out.on H8.out.1).rg.blk.frozen 0; clear o8 g8 b8 r7))
          all_goals
            go_end0
            refine ⟨rfl, _, HN5.out.spots H8.out.1 (by have := HLEN.out; omega) ?_ H8.out.2⟩
            rw [HEQ.out, ksV_drop, List.drop_eq_nil_of_le hc1]
            simpa [ksV] using HO8.out
        · have hck : ¬ c = k := hkc
          have r5 : ∀ o, (W5.alloc o).cell? ⟨bn, 0, none⟩ = some (.slice (some ⟨g, 0, none⟩) ks.length c) := fun o => (HN5.out.rg.blk.alloc o).cell 0
          have KS1 := Lib.hid (show Src Tryz.prog 3 35 (.slice (some ⟨g, 0, none⟩) k c) k ((ksV ks).take (k * 3)) (W5.alloc (.cells #[] 49)) from Own.takeSrc (HN5.out.rg.lrow.alloc _) Tryz.underlying35 (ksV_one ks) hk)
          have KS3 := Lib.hid (show ∀ W, Fresh W5 W → Src Tryz.prog 3 35 (.slice (some ⟨g, k * 3, none⟩) (ks.length - k) (c - k)) (ks.length - k) ((ksV ks).drop (k * 3)) W from fun W hW => Own.dropSrc (HN5.out.on hW).rg.lrow Tryz.underlying35 (ksV_one ks) hk _ _ rfl)
          have KONE := Lib.hid (show ∀ u ∈ (ksV ks).take (k * 3) ++ kV x, u.oneCell' = true from fun u hu => by
            rcases List.mem_append.1 hu with hu | hu
            · exact ksV_one ks u (List.mem_of_mem_take hu)
            · exact ksV_one [x] u (by simpa [ksV] using hu))
          go_wp2_with (at_builtin; first
            | (refine wpList_own_src _ rfl (.tmp 29) (.tmp 35) 35 35 rfl 49 (.agg #[.int .i64 0, .int .i64 0, .int .i64 0]) 3 24 Tryz.info49 Tryz.underlying35 rfl (.slice (some ⟨W5.heap.size, 0, none⟩) 0 0) 0 [] rfl (Own.lit0' W5 49 3) (by simp) (.slice (some ⟨g, 0, none⟩) k c) k ((ksV ks).take (k * 3)) rfl KS1.out (by unfold maxLen; omega) (by omega) ?_; intro D6 c6 w6 o6 g6 b6; simp only [Nat.zero_add, List.nil_append] at o6 g6 b6 ⊢; have HO6 := Lib.hid o6; have H6 := Lib.hid (grow_step (Touch.refl _ W5) g6 (fun q hq => by simp only [Value.ownBlock, Option.some.injEq] at hq; omega) b6); have e0 := (HB5.out.touch H6.out.1 id).cell 0; have e1 := (HB5.out.touch H6.out.1 id).cell 1; have e2 := (HB5.out.touch H6.out.1 id).cell 2; clear o6 g6 b6 r5)
            | (refine wpList_own_src _ rfl (.tmp 37) (.tmp 39) 35 35 rfl 49 (.agg #[.int .i64 0, .int .i64 0, .int .i64 0]) 3 24 Tryz.info49 Tryz.underlying35 rfl (.slice D6 k c6) k ((ksV ks).take (k * 3)) rfl (HO6.out.alloc _) (fun u hu => ksV_one ks u (List.mem_of_mem_take hu)) (.slice (some ⟨w6.heap.size, 0, none⟩) 1 1) 1 (kV x) rfl (by exact key_new w6 x) (by unfold maxLen; omega) (by omega) ?_; intro D7 c7 w7 o7 g7 b7; have HO7 := Lib.hid o7; have H7 := Lib.hid (grow_step H6.out.1 g7 H6.out.2 b7); have r7 : w7.cell? ⟨bn, 0, none⟩ = some (.slice (some ⟨g, 0, none⟩) ks.length c) := (HN5.out.on H7.out.1).rg.blk.cell 0; clear o7 g7 b7 e0 e1 e2)
            | (refine wpList_own_src _ rfl (.tmp 42) (.tmp 48) 35 35 rfl 49 (.agg #[.int .i64 0, .int .i64 0, .int .i64 0]) 3 24 Tryz.info49 Tryz.underlying35 rfl (.slice D7 (k + 1) c7) (k + 1) ((ksV ks).take (k * 3) ++ kV x) rfl HO7.out KONE.out (.slice (some ⟨g, k * 3, none⟩) (ks.length - k) (c - k)) (ks.length - k) ((ksV ks).drop (k * 3)) rfl (KS3.out w7 H7.out.1) (by unfold maxLen; omega) (by omega) ?_; intro D8 c8 w8 o8 g8 b8; have HO8 := Lib.hid o8; have H8 := Lib.hid (grow_step0 H7.out.1 g8 H7.out.2 b8); have r8 : w8.cell? ⟨bn, 0, none⟩ = some (.slice (some ⟨g, 0, none⟩) ks.length c) := (HN5.out.on H8.out.1).rg.blk.cell 0; have f8 := (HN5.out.on H8.out.1).rg.blk.frozen 0; clear o8 g8 b8 r7))
          all_goals
            go_end0
            refine ⟨rfl, _, HN5.out.spots H8.out.1 (HLEN.out) ?_ H8.out.2⟩
            rw [HEQ.out]
            exact HO8.out
end Go.Proofs.YtnbpmlbhigchnaaGreatDoor
