/- The contract of what the ring's All returns: every spot told, in order. Conditions stand with it. -/
import Derived.Test.YtnbpmlbhigchnaaGreatDoorSeqO
namespace Go.Proofs.YtnbpmlbhigchnaaGreatDoor
open Go.RowKit
attribute [local go_sem] Oper.semAt_some

theorem Blk.own_ {A B : World} {row : Option Nat} {g : Nat} {t : TypeId} {cs : Array Value} (h : Blk A g t cs) (hg : A.grownBy B row) (hr : ∀ r, row = some r → ∃ o : Obj, A.heap[r]? = some o ∧ o.isCells = false) : Blk B g t cs := by
  refine h.grown hg fun e => ?_
  obtain ⟨o, ho, hc⟩ := hr g e.symm
  have := h.symm.trans ho
  injection this with this
  subst this
  simp [Obj.isCells] at hc
theorem own_own_ {A B : World} {row : Option Nat} {b : Nat} {e : TypeId} {sz n : Nat} {v : Value} {us : List Value} (h : A.ownsRow b e sz v n us) (hg : A.grownBy B row) (hr : ∀ r, row = some r → ∃ o : Obj, A.heap[r]? = some o ∧ o.isCells = false) : B.ownsRow b e sz v n us := by
  refine ⟨h.1, ?_⟩
  rcases h.2 with hnil | ⟨g, cap, cur, rfl, hb', hh, rest⟩
  · exact .inl hnil
  · exact .inr ⟨g, cap, cur, rfl, hb', Blk.own_ (t := e) hh hg hr, rest⟩
theorem Own.own_ {A B : World} {row : Option Nat} {e : TypeId} {sz n : Nat} {v : Value} {us : List Value} (h : Own A e sz v n us) (hg : A.grownBy B row) (hr : ∀ r, row = some r → ∃ o : Obj, A.heap[r]? = some o ∧ o.isCells = false) : Own B e sz v n us := by
  rcases h.2 with hnil | ⟨g, cap, cur, rfl, hh, rest⟩
  · exact ⟨h.1, .inl hnil⟩
  · exact ⟨h.1, .inr ⟨g, cap, cur, rfl, Blk.own_ (t := e) hh hg hr, rest⟩⟩
theorem putHr {W : World} {l : Nat} {o : Obj} (hl : W.heap[l]? = some o) (hc : o.isCells = false) : ∀ r, some l = some r → ∃ o : Obj, W.heap[r]? = some o ∧ o.isCells = false := fun r e => by cases e; exact ⟨o, hl, hc⟩
theorem keepsF {V W : World} (h : Fresh V W) : KeepsOthers V W := ⟨h.size, fun _ _ hk _ => h.heap hk id⟩
theorem keepsD (V : World) (q : Nat) : KeepsOthers V (V.drewN q) := ⟨Nat.le_refl _, fun _ _ h _ => h⟩
theorem keepsN (V : World) (q : Nat) (p : Addr) (u : Value) : KeepsOthers V ((V.drewN q).setCell p u) :=
  KeepsOthers.trans (⟨Nat.le_refl _, fun _ _ h _ => h⟩ : KeepsOthers V (V.drewN q)) (KeepsOthers.setCell _ _ _)
theorem bel_drewN (B : Nat) (V : World) : ∀ q, Below B V (V.drewN q)
  | 0 => Below.refl B V
  | q + 1 => (bel_drewN B V q).drew

/-- what a round of a loop over All keeps: every row but those of S -/
def NKp (S : Nat → Prop) (W W' : World) : Prop := ∀ k t cs, ¬ S k → Blk W k t cs → Blk W' k t cs
theorem NKp.trans_ {S : Nat → Prop} {A B C : World} (h : NKp S A B) (h' : NKp S B C) : NKp S A C := fun k t cs hk hb => h' k t cs hk (h k t cs hk hb)
theorem NKp.fresh {S : Nat → Prop} {A B : World} (h : Fresh A B) : NKp S A B := fun _ _ _ _ hb => hb.touch h id
theorem NKp.touch {S : Nat → Prop} {A B : World} (h : Touch S A B) : NKp S A B := fun _ _ _ hk hb => hb.touch h hk
theorem NKp.put {S : Nat → Prop} (W : World) (l : Nat) (o o' : Obj) (hl : W.heap[l]? = some o) (hc : o.isCells = false) : NKp S W (W.putObj l o') := fun _ _ _ _ hb => hb.own_ (grownBy_putObj' W l o') (putHr hl hc)
theorem NKp.own {S : Nat → Prop} {W W' : World} {e : TypeId} {sz n : Nat} {v : Value} {us : List Value} (h : NKp S W W') (ho : Own W e sz v n us) (hn : ∀ k, v.ownBlock = some k → ¬ S k) : Own W' e sz v n us := by
  rcases ho.2 with hnil | ⟨g, cap, cur, rfl, hh, rest⟩
  · exact ⟨ho.1, .inl hnil⟩
  · exact ⟨ho.1, .inr ⟨g, cap, cur, rfl, h g e cur (hn g rfl) hh, rest⟩⟩

theorem RG.own_ {A B : World} {row : Option Nat} {bn : Nat} {hv sv : Value} {hs : List Int} {sps : List Sp} (h : RG A bn hv sv hs sps) (hg : A.grownBy B row) (hr : ∀ r, row = some r → ∃ o : Obj, A.heap[r]? = some o ∧ o.isCells = false) : RG B bn hv sv hs sps :=
  ⟨h.blk.own_ hg hr, h.hrow.own_ hg hr, h.srow.own_ hg hr⟩
theorem NKp.rg {S : Nat → Prop} {W W' : World} {bn : Nat} {hv sv : Value} {hs : List Int} {sps : List Sp} (h : NKp S W W') (hR : RG W bn hv sv hs sps) (hn : ∀ k, rfoot bn hv sv k → ¬ S k) : RG W' bn hv sv hs sps :=
  ⟨h bn _ _ (hn bn (.inl rfl)) hR.blk, h.own hR.hrow fun k hk => hn k (.inr (.inl hk)), h.own hR.srow fun k hk => hn k (.inr (.inr hk))⟩
/-- All: a function bound to a new box that holds the ring -/
theorem allR_any (bn : Nat) (w : World) : Calls Tryz.prog 14 #[.pointer (some ⟨bn, 0, none⟩)] w fun e w' => e = .returned (.func (.func 34) #[] #[.pointer (some ⟨w.heap.size, 0, none⟩)]) ∧ w' = w.alloc (.cells #[.pointer (some ⟨bn, 0, none⟩)] 25) := by
  go_enter Tryz.func14, Tryz.ntmps14
  go_wp2_with fail
  go_ret
  exact ⟨rfl, rfl⟩

def spEnc (x : Sp) : Array Value := #[.complex .f64 x.x x.y, .int .i64 x.h]
def SpOk (sps : List Sp) (pre : List Sp) (x : Sp) (_ : World) : Prop := pre = sps.take pre.length ∧ sps[pre.length]? = some x

theorem take_more {sps pre : List Sp} {x : Sp} (h : pre = sps.take pre.length) (hx : sps[pre.length]? = some x) : pre ++ [x] = sps.take (pre ++ [x]).length := by
  rw [List.length_append, List.length_singleton, List.take_add_one, ← h, hx]
  rfl

set_option maxRecDepth 100000 in
set_option maxHeartbeats 4000000 in
theorem ring_told (m fb bn : Nat) (hv sv : Value) (hs : List Int) (sps : List Sp) (S : Nat → Prop) (w : World) (hm : 1 ≤ m) (hb : Blk w fb 25 #[.pointer (some ⟨bn, 0, none⟩)]) (hR : RG w bn hv sv hs sps) (hl : sps.length ≤ 1000000000)
    (hS : ∀ k, S k → k < w.heap.size) (hp : ∀ k, rfoot bn hv sv k → ¬ S k) :
    SeqO Fence.wide m Tryz.prog 34 #[.pointer (some ⟨fb, 0, none⟩)] spEnc (SpOk sps) (NKp S) (fun ys => ys = sps) (fun pre => pre = sps.take pre.length) sps.length w := fun l J Jx W hW hJ hJx hY h0 => by
  have hBW : Blk W fb 25 #[.pointer (some ⟨bn, 0, none⟩)] := (hW.block fb hb.lt).trans hb
  have hwW : Touch (fun _ => False) w W := Touch.ofBelow hW _
  have hRW : RG W bn hv sv hs sps := hR.fresh hwW
  have hsz := hW.size
  refine callsIn_of_wp Tryz.func34 rfl trivial ?_ rfl
  simp only [Tryz.ntmps34, List.size_toArray, List.length_cons, List.length_nil, Nat.reduceAdd, Nat.reduceSub, Array.replicate_succ, Array.replicate_zero, List.push_toArray, List.append_toArray, List.nil_append, List.cons_append]
  refine wpIn_wide.2 ?_
  obtain ⟨A, c, rfl, hc1, hc2, hA⟩ := hRW.srow.form
  unfold maxLen at hc2
  have HR0 := Lib.hid hRW; have HJ := Lib.hid hJ; have HY := Lib.hid hY; have HJ0 := Lib.hid h0; have HP := Lib.hid hp; have HS := Lib.hid hS; have HA := Lib.hid hA
  have c0 := hBW.cell 0
  have c1 := hRW.blk.cell 1
  simp only [List.getElem?_toArray, List.getElem?_cons_zero, List.getElem?_cons_succ] at c0 c1
  clear hb hR hBW hRW hJ hY h0 hp hW hwW hS hA
  go_wp2_with fail
  go_loopw [10] (fun i wr => ∃ pre : List Sp, pre.length ≤ sps.length ∧ i = .int .i64 pre.length ∧ pre = sps.take pre.length ∧ J pre wr ∧ RG wr bn hv (.slice A sps.length c) hs sps ∧ True) (fun i _ => sps.length - (intOf i).toNat)
  case atStart => exact ⟨[], Nat.zero_le _, rfl, rfl, HJ0.out, HR0.out, trivial⟩
  case round =>
    obtain ⟨pre, hpl, rfl, htk, hj, hr, hsw⟩ := hrel
    have HTK := Lib.hid htk; have HJR := Lib.hid hj; have HRR := Lib.hid hr
    obtain ⟨k, hk⟩ : ∃ k, k = pre.length := ⟨_, rfl⟩
    rw [← hk] at hpl ⊢
    have HK := Lib.hid hk
    clear htk hj hr hk c0 c1
    by_cases hlt : k < sps.length
    · obtain ⟨x, hx⟩ : ∃ x, sps[k]? = some x := ⟨_, List.getElem?_eq_getElem hlt⟩
      obtain ⟨g, rfl⟩ : ∃ g, A = some ⟨g, 0, none⟩ := by
        rcases HA.out with ⟨_, h0, _⟩ | hA
        · omega
        · exact hA
      have hc0 : wr.cell? ⟨g, k * 2, none⟩ = some (.complex .f64 x.x x.y) := by
        have := HRR.out.srow.cell (j := k * 2 + 0) (by omega)
        rw [Nat.add_zero] at this
        rw [this]
        exact flat_at Sp.enc 2 Sp.enc_len sps k 0 x hx (by omega)
      have hc1 : wr.cell? ⟨g, k * 2 + 1, none⟩ = some (.int .i64 x.h) := by
        rw [HRR.out.srow.cell (j := k * 2 + 1) (by omega)]
        exact flat_at Sp.enc 2 Sp.enc_len sps k 1 x hx (by omega)
      obtain ⟨W2, hW2⟩ : ∃ W2, W2 = (wr.alloc (.cells #[.complex .f64 0 0, .int .i64 0] 60)).setCell ⟨wr.heap.size, 0, none⟩ (.complex .f64 x.x x.y) := ⟨_, rfl⟩
      have hf2 : Fresh wr W2 := by rw [hW2]; exact ((Touch.refl _ wr).alloc _).setCell (p := ⟨wr.heap.size, 0, none⟩) (.inl (Nat.le_refl _)) _
      have hb2 : Blk W2 wr.heap.size 60 #[.complex .f64 x.x x.y, .int .i64 0] := by rw [hW2]; simpa using (Blk.new wr 60 #[.complex .f64 0 0, .int .i64 0]).set_ 0 (.complex .f64 x.x x.y)
      have kst : (store ⟨wr.heap.size, 0, none⟩ (.complex .f64 x.x x.y)).run Tryz.prog (wr.alloc (.cells #[.complex .f64 0 0, .int .i64 0] 60)) = .ok () W2 := by
        have h1 := (Blk.new wr 60 #[.complex .f64 0 0, .int .i64 0]).cell 0
        have h2 := (Blk.new wr 60 #[.complex .f64 0 0, .int .i64 0]).frozen 0
        simp only [List.getElem?_toArray, List.getElem?_cons_zero] at h1
        rw [run_store _ _ _ _ _ rfl, h1, h2, hW2]
        rfl
      have x0 := hb2.cell 0
      have x1 := hb2.cell 1
      have f1 := hb2.frozen 1
      simp only [List.getElem?_toArray, List.getElem?_cons_zero, List.getElem?_cons_succ] at x0 x1
      obtain ⟨W3, hW3⟩ : ∃ W3, W3 = W2.setCell ⟨wr.heap.size, 1, none⟩ (.int .i64 x.h) := ⟨_, rfl⟩
      have HW3 := Lib.hid hW3
      have hf3 : Fresh wr W3 := by rw [hW3]; exact hf2.setCell (p := ⟨wr.heap.size, 1, none⟩) (.inl (Nat.le_refl _)) _
      have hb3 : Blk W3 wr.heap.size 60 #[.complex .f64 x.x x.y, .int .i64 x.h] := by rw [hW3]; simpa using hb2.set_ 1 (.int .i64 x.h)
      have y0 := hb3.cell 0
      have y1 := hb3.cell 1
      simp only [List.getElem?_toArray, List.getElem?_cons_zero, List.getElem?_cons_succ] at y0 y1
      have HF3 := Lib.hid hf3
      have HX := Lib.hid hx
      have HJ3 := Lib.hid (HJ.out pre _ _ none HJR.out hf3.grown_ (fun r e => by cases e))
      have hy0 := HY.out pre x W3 HJ3.out ⟨HTK.out, by rw [← HK.out]; exact hx⟩ (by have := HK.out; omega)
      have HY0 := Lib.hid hy0
      clear hW2 hf2 hb2 hW3 hf3 hb3 hx hy0
      refine wpIn_wide (n := m).1 ?_
      gi_wp2
      rw [← HW3.out]
      obtain ⟨fn, tmps, assign, body, hy, hR⟩ := HY0.out
      dsimp only [spEnc] at hy
      have HRX := Lib.hid hR
      clear hR
      gi_wp2
      rw [hy]
      gi_wp2
      refine HRX.out.mono ?_
      rintro e W4 (⟨rfl, hJ3, hk3⟩ | ⟨rfl, hJx3⟩)
      · have HRW := Lib.hid (hk3.rg (HRR.out.fresh HF3.out) HP.out)
        have HJW := Lib.hid hJ3
        clear hk3 hJ3 HRX
        gi_wp2
        go_roundw
        case rel =>
          exact ⟨_, by simp; have := HK.out; omega, by have := HK.out; go_num, take_more HTK.out (by rw [← HK.out]; exact HX.out), HJW.out, HRW.out, trivial⟩
        case measure => simp [intOf] <;> omega
      · have HJW := Lib.hid hJx3
        clear hJx3 HRX
        gi_wp2
        refine bodyPost_ret (results_none rfl _ _ _) rfl ?_
        exact ⟨⟨_, rfl⟩, .inr ⟨_, take_more HTK.out (by rw [← HK.out]; exact HX.out), HJW.out⟩⟩
    · obtain rfl : k = sps.length := by omega
      go_wp2_with fail
      go_end0
      exact ⟨⟨_, rfl⟩, .inl ⟨pre, by rw [HTK.out, ← HK.out, List.take_length], HJR.out⟩⟩
end Go.Proofs.YtnbpmlbhigchnaaGreatDoor
