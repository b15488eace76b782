/- The wal claims' texts, several in one: Ctw. Conditions stand with each theorem. -/
import Derived.Test.YtlcmnihpfpmajaaGreatZa25
import Derived.Deep.RegionHeld3
/- A log's content with one record more: content.with. Conditions stand with it. -/
namespace Go.Proofs.YtlcmnihpfpmajaaGreat
open Go.RowKit
section
variable {w w' : World} {Q Q' : Nat → Prop} {v : Value} {rows : List (List UInt8)}
theorem RecsOf.add {w : World} {Q : Nat → Prop} {vs : List Value} {rows : List (List UInt8)} {A : Option Addr} {c : Nat} {b : List UInt8} (h : RecsOf w Q vs rows) (hb : Bs w A b.length c b) (hA : ∀ a, A = some a → 0 < b.length → Q a.block ∧ a.block < w.heap.size) : RecsOf w Q (vs ++ [.slice A b.length c]) (rows ++ [b]) := by
  refine ⟨by rw [List.length_append, List.length_append, h.len]; rfl, fun i x hx => ?_, fun u hu => ?_⟩
  · by_cases hi : i < rows.length
    · rw [List.getElem?_append_left hi] at hx
      rw [List.getElem?_append_left (by rw [h.len]; exact hi)]
      exact h.at_ i x hx
    · rw [List.getElem?_append_right (by omega)] at hx
      have h0 : i - rows.length = 0 := by have := (List.getElem?_eq_some_iff.1 hx).1; simp at this; omega
      rw [h0] at hx
      injection hx with hx
      subst hx
      rw [List.getElem?_append_right (by rw [h.len]; omega), h.len, h0]
      exact ⟨A, c, rfl, hb, hA⟩
  · rcases List.mem_append.1 hu with hu | hu
    · exact h.one u hu
    · rw [List.mem_singleton] at hu; rw [hu]; rfl
theorem box_new (X : World) (u : Value) (e : TypeId) : (X.alloc (.cells #[u] e)).cell? ⟨X.heap.size, 0, none⟩ = some u := (Blk.new X e #[u]).cell 0
theorem src_at {W : World} {k : Nat} {u : Value} (h : W.cell? ⟨k, 0, none⟩ = some u) (hu : u.oneCell' = true := by rfl) : Src Tryz.prog 1 33 (.slice (some ⟨k, 0, none⟩) 1 1) 1 [u] W := by
  refine Src.ofSlice W Tryz.underlying33 _ 1 1 [u] rfl (fun j x hj => ?_) (by simpa using hu)
  have h0 : j = 0 := by have := (List.getElem?_eq_some_iff.1 hj).1; simp at this; omega
  subst h0
  injection hj with hj
  rw [← hj, add_flat]
  exact h
theorem blk_grow {W W' : World} {row : Option Nat} {u : Value} {n g : Nat} {xs : List Value} {cs : Array Value} (hb : Blk W g 35 cs) (hg : W.grownBy W' row) (hr : row = none ∨ (row = u.ownBlock ∧ Own W 26 1 u n xs)) : Blk W' g 35 cs := by
  refine hb.grown hg fun e => ?_
  rcases hr with h | ⟨h, ho⟩
  · rw [h] at e; cases e
  · rw [h] at e
    first | exact ho.ne_blk hb (by decide) e | exact ho.ne_blk hb (by decide) e.symm
theorem blk_grow2 {w1 W W' : World} {row : Option Nat} {u : Value} {n g : Nat} {xs : List Value} {cs : Array Value} (hg : W.grownBy W' row) (hr : row = none ∨ (row = u.ownBlock ∧ Own W 26 1 u n xs)) (hb : Blk w1 g 35 cs) (hf : Fresh w1 W) : Blk W' g 35 cs ∧ Fresh w1 W :=
  ⟨blk_grow (hb.touch hf id) hg hr, hf⟩
theorem cw_end {w w1 wA wB W wC : World} {Q : Nat → Prop} {rows : List (List UInt8)} {vs : List Value} {n m cA2 cB cC : Nat} {BA BB BC : Option Addr} {xs : List UInt8} {row : Option Nat} {x : Value} (hf : Fresh w w1) (hg : W.grownBy wC row) (h1 : Fresh w1 W)
    (hr : row = none ∨ (row = (Value.slice BA n cA2).ownBlock ∧ Own W 26 1 (.slice BA n cA2) n vs)) (ho : (Value.slice BC (n + 1) cC).ownBlock = (Value.slice BA n cA2).ownBlock ∨ (Value.slice BC (n + 1) cC).ownBlock = some W.heap.size)
    (_hA : Oz wA 26 1 (.slice BA n cA2) n vs) (_hAW : Fresh wA W) (hB : Oz wB 5 1 (.slice BB m cB) m (u8s xs)) (hBW : Fresh wB W) (hC : Oz wC 26 1 (.slice BC (n + 1) cC) (n + 1) (vs ++ [.slice BB m cB]))
    (ga : ∀ k, (Value.slice BA n cA2).ownBlock = some k → w.heap.size ≤ k) (gb : ∀ k, (Value.slice BB m cB).ownBlock = some k → w.heap.size ≤ k) (hrec : RecsOf w Q vs rows) (hn : n = rows.length) (hxl : xs.length = m) (first : Nat) {cs : Array Value} (hb1 : Blk w1 (w.heap.size + 1) 35 cs) :
    Fresh w ((wC.setCell ⟨w.heap.size + 1, 0, none⟩ x).setCell ⟨w.heap.size + 1, 1, none⟩ (.slice BC (n + 1) cC)) ∧ ∃ v', Ending.returned (.agg #[.int .i64 (first : Int), .slice BC (n + 1) cC]) = .returned (.agg #[.int .i64 (first : Int), v']) ∧
      CM ((wC.setCell ⟨w.heap.size + 1, 0, none⟩ x).setCell ⟨w.heap.size + 1, 1, none⟩ (.slice BC (n + 1) cC)) (more Q w ((wC.setCell ⟨w.heap.size + 1, 0, none⟩ x).setCell ⟨w.heap.size + 1, 1, none⟩ (.slice BC (n + 1) cC))) v' (rows ++ [xs]) := by
  obtain ⟨wf, hwf⟩ : ∃ wf, wf = (wC.setCell ⟨w.heap.size + 1, 0, none⟩ x).setCell ⟨w.heap.size + 1, 1, none⟩ (.slice BC (n + 1) cC) := ⟨_, rfl⟩
  have hfW : Fresh w W := hf.trans h1 fun _ _ => id
  have hfC : Fresh w wC := hfW.grown hg fun k hk => by
    rcases hr with h | ⟨h, _⟩
    · rw [h] at hk; cases hk
    · rw [h] at hk; exact .inl (ga k hk)
  have hff : Fresh w wf := by rw [hwf]; exact ct_touch hfC (.inl (by omega)) _ _
  have hbW := (hB.fresh hBW).bs hxl
  have hzW := hb1.touch h1 id
  have hzC := blk_grow hzW hg hr
  rw [← hwf]
  have hT : Touch (fun k => k = w.heap.size + 1) wC wf := by rw [hwf]; exact ct_touch (Touch.refl (fun k => k = w.heap.size + 1) wC) (.inr rfl) _ _
  have hCo := hC.own (by omega)
  have hneC : ∀ k, (Value.slice BC (n + 1) cC).ownBlock = some k → k ≠ w.heap.size + 1 := fun k hk e => hCo.ne_blk hzC (by decide) (by rw [hk, e])
  have hW2 : Touch (fun k => row = some k ∨ k = w.heap.size + 1) W wf := ((Touch.refl (fun k => row = some k ∨ k = w.heap.size + 1) W).grown hg fun k hk => .inr (.inl hk)).trans hT fun k _ hk => .inr hk
  have hbf : Bs wf BB m cB xs := hbW.touch hW2 fun a ha h0 hk => by
    have ho2 := (hB.fresh hBW).own h0
    rcases hk with hk | hk
    · rcases hr with h | ⟨h, hoA⟩
      · rw [h] at hk; cases hk
      · rw [h] at hk
        exact ho2.ow.ne_ow hoA.ow (by decide) a.block (by rw [ha]; rfl) hk
    · exact ho2.ne_blk hzW (by decide) (by rw [ha, ← hk]; rfl)
  subst hxl
  refine ⟨hff, _, rfl, vs ++ [.slice BB xs.length cB], ?_, ?_, fun k hk _ => ?_⟩
  · have h := (hCo.rd).touch hT fun k hk _ e => hneC k hk e
    rw [List.length_append, ← hn]
    exact h
  · refine RecsOf.add ((hrec.touch hff fun _ _ => id).weak fun k hk => .inl hk) hbf fun a ha h0 => ?_
    have h2 := hbf.2.2.2 h0
    obtain ⟨b, o, e, hc⟩ := h2
    rw [ha] at e
    injection e with e
    have h3 := hc 0 _ (List.getElem?_eq_getElem h0)
    have h4 := World.block_lt_of_cell? _ _ h3
    have h5 : a.block = b := by rw [e]
    rw [h5]
    have h6 := gb b (by rw [ha, e]; rfl)
    exact ⟨.inr ⟨h6, h4⟩, h4⟩
  · have h1 := hCo.lt k hk
    have h2 := hT.size
    refine ⟨.inr ⟨?_, by omega⟩, by omega⟩
    rcases ho with e | e
    · exact ga k (e.symm.trans hk)
    · rw [hk] at e
      injection e with e
      have := hfW.size
      omega
set_option maxRecDepth 100000 in
set_option maxHeartbeats 4000000 in
theorem cwith_any {first : Nat} (h : CM w Q v rows) (hlt : ∀ k, Q k → k < w.heap.size) (hn : rows.length ≤ 1000000) {A : Option Addr} {m cA : Nat} {xs : List UInt8} (hx : Bs w A m cA xs) (hm : m ≤ 1000000000) :
    Calls Tryz.prog 22 #[.agg #[.int .i64 (first : Int), v], .slice A m cA] w fun e w' => Fresh w w' ∧ ∃ v', e = .returned (.agg #[.int .i64 (first : Int), v']) ∧ CM w' (more Q w w') v' (rows ++ [xs]) := by
  obtain ⟨n, hn⟩ : ∃ n, n = rows.length := ⟨_, rfl⟩
  have hxl : xs.length = m := hx.1
  obtain ⟨vs, hrd, hrec, hq⟩ := h
  obtain ⟨w1, hw1⟩ : ∃ w1, w1 = (w.alloc (.cells #[.int .i64 (first : Int), v] 35)).alloc (.cells #[.int .i64 0, .slice none 0 0] 35) := ⟨_, rfl⟩
  have hf1 : Fresh w w1 := by rw [hw1]; exact ((Touch.refl _ w).alloc _).alloc _
  have hb0 : Blk w1 w.heap.size 35 #[.int .i64 (first : Int), v] := by rw [hw1]; exact (Blk.new w _ _).alloc _
  have hb1 : Blk w1 (w.heap.size + 1) 35 #[.int .i64 0, .slice none 0 0] := by
    rw [hw1]
    have := Blk.new (w.alloc (.cells #[.int .i64 (first : Int), v] 35)) 35 #[.int .i64 0, .slice none 0 0]
    rw [alloc_size] at this
    exact this
  have hsz1 : w1.heap.size = w.heap.size + 2 := by rw [hw1, alloc_size, alloc_size]
  obtain ⟨cv, hcv⟩ : ∃ A0 c0, v = .slice A0 n c0 := by
    obtain ⟨A0, c0, e, _⟩ := hrd.form
    exact ⟨A0, c0, by rw [hn]; exact e⟩
  obtain ⟨c0, rfl⟩ := hcv
  rw [← hn] at hrd
  have HE := Lib.hid (show ∀ W, Fresh w1 W → W.cell? ⟨w.heap.size, 0, none⟩ = some (.int .i64 (first : Int)) ∧ W.cell? ⟨w.heap.size, 1, none⟩ = some (.slice cv n c0) ∧ W.cell? ⟨w.heap.size + 1, 0, none⟩ = some (.int .i64 0) ∧ W.cell? ⟨w.heap.size + 1, 1, none⟩ = some (.slice none 0 0) ∧ W.frozen? ⟨w.heap.size + 1, 0, none⟩ = false ∧ W.frozen? ⟨w.heap.size + 1, 1, none⟩ = false from fun W hW => ⟨(hb0.touch hW id).cell 0, (hb0.touch hW id).cell 1, (hb1.touch hW id).cell 0, (hb1.touch hW id).cell 1, (hb1.touch hW id).frozen 0, (hb1.touch hW id).frozen 1⟩)
  have HRD := Lib.hid hrd; have HREC := Lib.hid hrec; have HQ := Lib.hid hq; have HF1 := Lib.hid hf1; have HW1 := Lib.hid hw1; have HB1 := Lib.hid hb1; have HB0 := Lib.hid hb0; have HX := Lib.hid hx; have HN := Lib.hid hn; have HLT := Lib.hid hlt
  have hnb : n ≤ 1000000 := by omega
  have K1 := Lib.hid hrec.one
  clear hrd hrec hq hf1 hb0 hb1 hw1 hx hn hlt
  go_enter Tryz.func22, Tryz.ntmps22
  go_upto_region 1 with fail
  rw [← HW1.out]
  obtain ⟨e0, e1, e2, e3, e4, e5⟩ := HE.out w1 (Touch.refl _ _)
  go_region_held3 (fun W => W.cell? ⟨w.heap.size, 0, none⟩ = some (.int .i64 (first : Int)) ∧ W.cell? ⟨w.heap.size, 1, none⟩ = some (.slice cv n c0))
    (first | exact ⟨y0, y1⟩ | exact ⟨(HYS.out _ _).cell 0, (HYS.out _ _).cell 1⟩ | exact ⟨(HE.out _ (by repeat (first | exact Touch.refl _ _ | refine Touch.alloc ?_ _ | refine Touch.drew ?_ | refine Touch.trans ?_ HFA.out (fun _ _ => id) | refine Touch.trans ?_ HFB.out (fun _ _ => id)))).1, (HE.out _ (by repeat (first | exact Touch.refl _ _ | refine Touch.alloc ?_ _ | refine Touch.drew ?_ | refine Touch.trans ?_ HFA.out (fun _ _ => id) | refine Touch.trans ?_ HFB.out (fun _ _ => id)))).2.1⟩ | go_keep)
    (first
    | (refine step_cp_src _ rfl _ _ 33 33 rfl 26 (.slice none 0 0) 1 24 Tryz.info26 Tryz.underlying33 rfl (some ⟨_, 0, none⟩) rfl (.slice cv n c0) n vs rfl (Rd.src (HRD.out.fresh (by repeat (first | exact HF1.out | exact Touch.refl _ _ | refine Touch.alloc ?_ _ | refine Touch.drew ?_ | refine Touch.trans ?_ HFA.out (fun _ _ => id) | refine Touch.trans ?_ HFB.out (fun _ _ => id)))) Tryz.underlying33 K1.out) (by unfold maxLen; omega) (by omega) ?_; intro BA cA2 wA hA hfA hoA; have HA := Lib.hid hA; have HFA := Lib.hid hfA; have HOA := Lib.hid hoA; have q1 := (HE.out wA (by repeat (first | exact HF1.out | exact Touch.refl _ _ | refine Touch.alloc ?_ _ | refine Touch.drew ?_ | refine Touch.trans ?_ HFA.out (fun _ _ => id) | refine Touch.trans ?_ HFB.out (fun _ _ => id)))); clear hA hfA hoA; obtain ⟨q10, q11, q12, q13, q14, q15⟩ := q1)
    | (refine step_cp_src _ rfl _ _ 26 26 rfl 5 (.int .u8 0) 1 1 Tryz.info5 Tryz.underlying26 rfl (some ⟨_, 0, none⟩) rfl (.slice A m cA) m (u8s xs) rfl (Bs.src (HX.out.fresh (by repeat (first | exact HF1.out | exact Touch.refl _ _ | refine Touch.alloc ?_ _ | refine Touch.drew ?_ | refine Touch.trans ?_ HFA.out (fun _ _ => id) | refine Touch.trans ?_ HFB.out (fun _ _ => id)))) Tryz.underlying26) (by unfold maxLen; omega) (by omega) ?_; intro BB cB wB hB hfB hoB; have HB := Lib.hid hB; have HFB := Lib.hid hfB; have HOB := Lib.hid hoB; have q2 := (HE.out wB (by repeat (first | exact HF1.out | exact Touch.refl _ _ | refine Touch.alloc ?_ _ | refine Touch.drew ?_ | refine Touch.trans ?_ HFA.out (fun _ _ => id) | refine Touch.trans ?_ HFB.out (fun _ _ => id)))); clear hB hfB hoB; obtain ⟨q20, q21, q22, q23, q24, q25⟩ := q2)
    | (refine step_oz_src _ rfl _ _ 33 33 rfl 26 (.slice none 0 0) 1 24 Tryz.info26 Tryz.underlying33 rfl (.slice BA n cA2) n vs rfl (HA.out.fresh (by repeat (first | exact Touch.refl _ _ | refine Touch.alloc ?_ _ | refine Touch.drew ?_ | refine Touch.trans ?_ HFA.out (fun _ _ => id) | refine Touch.trans ?_ HFB.out (fun _ _ => id)))) K1.out (.slice (some ⟨_, 0, none⟩) 1 1) 1 [.slice BB m cB] rfl (src_at (by first | exact (box_new _ _ _) | exact Touch.cell (by repeat (first | exact Touch.refl _ _ | refine Touch.alloc ?_ _ | refine Touch.drew ?_ | refine Touch.trans ?_ HFA.out (fun _ _ => id) | refine Touch.trans ?_ HFB.out (fun _ _ => id))) (box_new _ _ _) id)) (by unfold maxLen; omega) (by omega) ?_; intro BC cC wC rowC hC gC hrC hoC; have HC := Lib.hid hC; have HGC := Lib.hid gC; have HRC := Lib.hid hrC; have HOC := Lib.hid hoC; have hz := blk_grow2 gC hrC HB1.out (by repeat (first | exact Touch.refl _ _ | refine Touch.alloc ?_ _ | refine Touch.drew ?_ | refine Touch.trans ?_ HFA.out (fun _ _ => id) | refine Touch.trans ?_ HFB.out (fun _ _ => id))); have HF0 := Lib.hid hz.2; have hz := hz.1; have hy := (blk_grow2 gC hrC HB0.out (by repeat (first | exact Touch.refl _ _ | refine Touch.alloc ?_ _ | refine Touch.drew ?_ | refine Touch.trans ?_ HFA.out (fun _ _ => id) | refine Touch.trans ?_ HFB.out (fun _ _ => id)))).1; have y0 : wC.cell? ⟨w.heap.size, 0, none⟩ = some (.int .i64 (first : Int)) := hy.cell 0; have y1 : wC.cell? ⟨w.heap.size, 1, none⟩ = some (.slice cv n c0) := hy.cell 1; have HZ := Lib.hid hz; have z0 : wC.cell? ⟨w.heap.size + 1, 0, none⟩ = some (.int .i64 0) := hz.cell 0; have z1 : wC.cell? ⟨w.heap.size + 1, 1, none⟩ = some (.slice none 0 0) := hz.cell 1; have z2 : wC.frozen? ⟨w.heap.size + 1, 0, none⟩ = false := hz.frozen 0; have z3 : wC.frozen? ⟨w.heap.size + 1, 1, none⟩ = false := hz.frozen 1; have HYS := Lib.hid (show ∀ a b, Blk ((wC.setCell ⟨w.heap.size + 1, 0, none⟩ a).setCell ⟨w.heap.size + 1, 1, none⟩ b) w.heap.size 35 #[.int .i64 (first : Int), .slice cv n c0] from fun a b => hy.touch (ct_touch (Touch.refl (fun k => k = w.heap.size + 1) wC) (.inr rfl) a b) (by omega)); clear hC gC hrC hoC hz hy))
  all_goals
    go_wp2_with fail
    refine bodyPost_ret (results_ct rfl _ _ _ _ rfl (ct_set HZ.out _ _) rfl) rfl ?_
    exact cw_end HF1.out HGC.out (by repeat (first | exact Touch.refl _ _ | refine Touch.alloc ?_ _ | refine Touch.drew ?_ | refine Touch.trans ?_ HFA.out (fun _ _ => id) | refine Touch.trans ?_ HFB.out (fun _ _ => id))) HRC.out HOC.out HA.out (by repeat (first | exact Touch.refl _ _ | refine Touch.alloc ?_ _ | refine Touch.drew ?_ | refine Touch.trans ?_ HFA.out (fun _ _ => id) | refine Touch.trans ?_ HFB.out (fun _ _ => id))) HB.out (by repeat (first | exact Touch.refl _ _ | refine Touch.alloc ?_ _ | refine Touch.drew ?_ | refine Touch.trans ?_ HFA.out (fun _ _ => id) | refine Touch.trans ?_ HFB.out (fun _ _ => id))) HC.out (by intro k hk; have s0 := HF1.out.size; have s1 := HFA.out.size; have s2 := HFB.out.size; simp only [World.size_alloc, World.size_drew] at s1 s2; rcases HOA.out with e | e <;> (rw [hk] at e; simp only [Value.ownBlock, Option.some.injEq, World.size_alloc, World.size_drew] at e; omega)) (by intro k hk; have s0 := HF1.out.size; have s1 := HFA.out.size; have s2 := HFB.out.size; simp only [World.size_alloc, World.size_drew] at s1 s2; rcases HOB.out with e | e <;> (rw [hk] at e; simp only [Value.ownBlock, Option.some.injEq, World.size_alloc] at e; omega)) HREC.out HN.out hxl _ HB1.out
end
end Go.Proofs.YtlcmnihpfpmajaaGreat
