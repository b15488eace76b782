/- The contracts of the codec's Frames: what it hands back, and what that tells. Conditions stand with them. -/
import Derived.Test.YtdfhdanfigpbpaaUnf
import Derived.Test.YtdfhdanfigpbpaaSplE
import Derived.RangeFuncNested
import Derived.RangeFuncBound
import Derived.RangeFuncCalls
import Derived.RangeFuncLeaves
import Derived.Shelf.Abstract
import Derived.Shelf.RegionOpen
import Derived.WalkKit
import Derived.OwnWalkIn
import Derived.TacticsInMore
import Derived.LoopNIn
import Derived.LoopIn
import Derived.ScopeJumps
namespace Go.Proofs.Ytdfhdanfigpbpaa
open Go.RowKit Go.Shelf
attribute [local go_sem] Oper.semAt_some

/-- a scope that begins ahead of its one label, to which the run jumps back -/
theorem wp_scope_head {P : Program} {Q : Exit → Act → World → Prop} {a : Act} {w : World} {c0 R : Code} (l : Nat) (J : Act → World → Prop) (μ : Act → World → Nat) (hc : findLabel c0 l = none) (first : c0.wp P (Exit.then J (Exit.jump l J Q)) a w)
    (pass : ∀ a w, J a w → R.wp P (Exit.jump l (fun a' w' => J a' w' ∧ μ a' w' < μ a w) Q) a w) : (Code.scope (c0.seq ((Code.label l).seq R))).wp P Q a w := by
  refine wp_scope_jumps l J μ (rest := Code.skip.seq R) (by simp [findLabel, hc]) (wp_seq (Code.wp_mono (fun e a' w' q => ?_) first)) (fun a w h => wp_seq (wp_skip (pass a w h)))
  cases e with
  | normal =>
    refine wp_seq (wp_label (Code.wp_mono (fun e a2 w2 q2 => ?_) (pass a' w' q)))
    cases e with
    | goto l' => exact ⟨q2.1, q2.2.1⟩
    | _ => exact q2
  | _ => exact q

set_option maxRecDepth 20000 in
set_option maxHeartbeats 1000000 in
theorem frames_any (A : Option Addr) (n c : Nat) (xs : List UInt8) (w : World) (h : Bs w A n c xs) (hb : n ≤ 140737488355000) :
    Calls Try.prog 52 #[.slice A n c] w fun e w' => Fresh w w' ∧ e = .returned (.func (.func 102) #[] #[.pointer (some ⟨w.heap.size, 0, none⟩)]) ∧
      ∃ B c', Blk w' w.heap.size 24 #[.slice B n c'] ∧ Row w' (.slice B n c') xs ∧ ∀ a, B = some a → w.heap.size ≤ a.block := by
  obtain ⟨w0, hw0⟩ : ∃ w0, w0 = w.alloc (.cells #[.slice A n c] 24) := ⟨_, rfl⟩
  have HT0 := Lib.hid (show Fresh w w0 by rw [hw0]; exact (Touch.refl _ w).alloc _)
  have HB0 := Lib.hid (show Blk w0 w.heap.size 24 #[.slice A n c] by rw [hw0]; exact Blk.new _ _ _)
  have HK := Lib.hid (clone_any A n c xs w0 (h.fresh HT0.out) hb)
  have hsz : w0.heap.size = w.heap.size + 1 := by rw [hw0]; simp
  have hmf : ∀ (fn : Fn) (first cap : Array Value) (w : World), (Instr.makeFunc fn first cap).run Try.prog w = .ok (.func fn first cap) w := fun _ _ _ _ => rfl
  have HW0 := Lib.hid hw0
  clear hw0 h
  go_enter Try.func52, Try.ntmps52
  go_wp2_with fail
  rw [← HW0.out]
  refine HK.out.mono ?_
  rintro e w1 ⟨hf, B, c', rfl, hrow, hnew⟩
  have hB1 := HB0.out.touch hf id
  have hc1 := hB1.cell 0
  have hf1 := hB1.frozen 0
  simp only [List.getElem?_toArray, List.getElem?_cons_zero] at hc1
  obtain ⟨W, hW⟩ : ∃ W, W = w1.setCell ⟨w.heap.size, 0, none⟩ (.slice B n c') := ⟨_, rfl⟩
  have HBW := Lib.hid (show Blk W w.heap.size 24 #[.slice B n c'] by rw [hW]; exact hB1.set_ 0 (.slice B n c'))
  have HRW := Lib.hid (show Row W (.slice B n c') xs by rw [hW]; exact hrow.far (p := ⟨w.heap.size, 0, none⟩) (hrow.ne_blk hB1 (by decide)) _)
  have HTW := Lib.hid (show Fresh w W by rw [hW]; exact (HT0.out.trans hf fun _ _ h => h).setCell (p := ⟨w.heap.size, 0, none⟩) (.inl (Nat.le_refl _)) _)
  have HNW := Lib.hid (show ∀ a, B = some a → w.heap.size ≤ a.block from fun a ha => by have := hnew a ha; omega)
  have HW := Lib.hid hW
  clear hf hrow hnew hB1 hW
  go_wp2_with fail
  rw [← HW.out]
  refine bodyPost_ret (v := .func (.func 102) #[] #[.pointer (some ⟨w.heap.size, 0, none⟩)]) (by simp [results, Try.results52, go_sem]) rfl ?_
  exact ⟨HTW.out, rfl, B, c', HBW.out, HRW.out, HNW.out⟩

/-- what a round of a loop over Frames keeps -/
def FrKp (fb : Nat) (v : Value) (W W' : World) : Prop := ∀ k, (k = fb ∨ v.ownBlock = some k) → W'.heap[k]? = W.heap[k]?
theorem FrKp.row {fb : Nat} {v : Value} {xs : List UInt8} {W W' : World} (h : FrKp fb v W W') (hr : Row W v xs) : Row W' v xs := by
  refine ⟨hr.1, ?_⟩
  rcases hr.2 with hnil | ⟨g, cap, cur, rfl, hb', hg, rest⟩
  · exact .inl hnil
  · exact .inr ⟨g, cap, cur, rfl, hb', (h g (.inr rfl)).trans hg, rest⟩
theorem FrKp.blk {fb : Nat} {v : Value} {t : TypeId} {cs : Array Value} {W W' : World} (h : FrKp fb v W W') (hr : Blk W fb t cs) : Blk W' fb t cs := (h fb (.inl rfl)).trans hr
theorem Fresh.grown_ {w w' : World} (h : Fresh w w') : w.grownBy w' none := ⟨h.os, h.tape, h.output, h.size, fun k hk _ => h.block k hk id⟩

abbrev FrX := Int × Value
def frEnc (x : FrX) : Array Value := #[.int .i64 x.1, x.2]
def toInts (l : List Nat) : List Int := l.map Int.ofNat

theorem Row.fresh_ {w w' : World} {v : Value} {xs : List UInt8} (h : Row w v xs) (hf : Fresh w w') : Row w' v xs := by
  refine ⟨h.1, ?_⟩
  rcases h.2 with hnil | ⟨g, cap, cur, e, hb', hg, rest⟩
  · exact .inl hnil
  · exact .inr ⟨g, cap, cur, e, hb', (hf.block g (Array.getElem?_eq_some_iff.1 hg).1 id).trans hg, rest⟩
theorem offs_none {xs : List UInt8} {p f : Nat} (h : Enc.unframe (xs.drop p) = none) : Enc.offs xs (f + 1) p = [] := by simp [Enc.offs, h]
theorem offs_some {xs q : List UInt8} {p f k : Nat} (h : Enc.unframe (xs.drop p) = some (q, k)) : Enc.offs xs (f + 1) p = p :: Enc.offs xs f (p + k) := by simp [Enc.offs, h]

set_option maxRecDepth 100000 in
set_option maxHeartbeats 4000000 in
theorem frames_stops (m fb : Nat) (B : Option Addr) (n c : Nat) (xs : List UInt8) (w : World) (hm : 1 ≤ m) (hb : Blk w fb 24 #[.slice B n c]) (hr : Row w (.slice B n c) xs) (hn : n ≤ 1000000000) :
    SeqStopsK Fence.wide m Try.prog 102 #[.pointer (some ⟨fb, 0, none⟩)] frEnc (FrKp fb (.slice B n c)) (fun ys => ys.map (·.1) = toInts (Enc.offs xs (n + 1) 0)) (fun pre => ∃ rest, pre.map (·.1) ++ rest = toInts (Enc.offs xs (n + 1) 0)) (n + 1) w := fun l J Jx W hW hJ hJx hY h0 => by
  have hxl : xs.length = n := hr.bs.1
  have hnc := hr.bs.2.1
  have hcm := hr.bs.2.2.1
  unfold maxLen at hcm
  have hBW : Blk W fb 24 #[.slice B n c] := (hW.block fb hb.lt).trans hb
  have hRW : Row W (.slice B n c) xs := by
    refine ⟨hr.1, ?_⟩
    rcases hr.2 with hnil | ⟨g, cap, cur, e, hb', hg, rest⟩
    · exact .inl hnil
    · exact .inr ⟨g, cap, cur, e, hb', (hW.block g (Array.getElem?_eq_some_iff.1 hg).1).trans hg, rest⟩
  refine callsIn_of_wp Try.func102 rfl trivial ?_ rfl
  simp only [Try.ntmps102, List.size_toArray, List.length_cons, List.length_nil, Nat.reduceAdd, Nat.reduceSub, Array.replicate_succ, Array.replicate_zero, List.push_toArray, List.append_toArray, List.nil_append, List.cons_append]
  refine wpIn_wide.2 ?_
  have HR := Lib.hid hr; have HB0 := Lib.hid hBW; have HR0 := Lib.hid hRW; have HJ := Lib.hid hJ; have HY := Lib.hid hY; have HJ0 := Lib.hid h0
  clear hr hBW hRW hJ hJx hY h0 hb hW
  go_wp2_with fail
  refine wp_scope_head 0 (fun a' wr => ∃ (p : Nat) (u2 u4 u5 u6 u7 u8 u9 u10 u11 u12 u13 u14 u15 u16 u17 u18 u19 u20 u21 u22 u23 u24 u25 u26 : Value), a' = { tmps := #[.func (.yield l) #[] #[], .pointer (some ⟨fb, 0, none⟩), u2, .int .i64 p, u4, u5, u6, u7, u8, u9, u10, u11, u12, u13, u14, u15, u16, u17, u18, u19, u20, u21, u22, u23, u24, u25, u26], defers := [] } ∧
      ∃ (pre : List FrX) (f : Nat), J pre wr ∧ Blk wr fb 24 #[.slice B n c] ∧ Row wr (.slice B n c) xs ∧ pre.map (·.1) ++ toInts (Enc.offs xs f p) = toInts (Enc.offs xs (n + 1) 0) ∧ p ≤ n ∧ n < p + f ∧ pre.length ≤ p) (fun a' _ => n - (intOf (a'.tmps.getD 3 undef)).toNat) rfl ?_ ?_
  · go_wp2_with fail
    exact ⟨0, _, _, _, _, _, _, _, _, _, _, _, _, _, _, _, _, _, _, _, _, _, _, _, _, rfl, [], n + 1, HJ0.out, HB0.out, HR0.out, rfl, Nat.zero_le _, by omega, Nat.zero_le _⟩
  · rintro a1 wr ⟨p, u2, u4, u5, u6, u7, u8, u9, u10, u11, u12, u13, u14, u15, u16, u17, u18, u19, u20, u21, u22, u23, u24, u25, u26, rfl, pre, f, hJs, hbl, hrw, hof, hpn, hnf, hpl⟩
    refine wpIn_wide (n := m).1 ?_
    have hbs := hrw.bs
    have HC := Lib.hid (show ∀ B' c', (c = p → B' = B ∧ c' = 0) → (c ≠ p → B' = Option.map (fun x => x.add p) B ∧ c' = c - p) → CallsIn Fence.wide (m - 1) Try.prog 49 #[.slice B' (n - p) c'] wr (fun e w' => Fresh wr w' ∧ Unf w' e (Enc.unframe (xs.drop p))) from by
      intro B' c' e1 e2
      refine callsIn_wide.2 (unframe_any B' (n - p) c' (xs.drop p) wr ?_ (by omega))
      by_cases hcp : c = p
      · obtain ⟨rfl, rfl⟩ := e1 hcp
        exact ⟨by rw [List.length_drop]; omega, by omega, by unfold maxLen; omega, fun h => by omega⟩
      · obtain ⟨rfl, rfl⟩ := e2 hcp
        by_cases hn0 : n = 0
        · exact ⟨by rw [List.length_drop]; omega, by omega, by unfold maxLen; omega, fun h => by omega⟩
        · obtain ⟨b, o, rfl⟩ := hbs.at_ (by omega)
          have := hbs.drop_ (k := p) hpn
          have e : Option.map (fun x : Addr => x.add p) (some ⟨b, o, none⟩) = some ⟨b, o + p, none⟩ := by
            by_cases h0 : p = 0 <;> simp [Addr.add, h0]
          rw [e]
          exact this)
    have hc1 := hbl.cell 0
    simp only [List.getElem?_toArray, List.getElem?_cons_zero] at hc1
    have HBL := Lib.hid hbl; have HRW := Lib.hid hrw; have HJS := Lib.hid hJs
    obtain ⟨f, rfl⟩ : ∃ f', f = f' + 1 := ⟨f - 1, by omega⟩
    rcases hu : Enc.unframe (xs.drop p) with _ | ⟨pl, k⟩
    · rw [hu] at HC
      have HOF := Lib.hid (show pre.map (·.1) = toInts (Enc.offs xs (n + 1) 0) by rw [← hof, offs_none hu]; simp [toInts])
      clear hbl hrw hJs hof hu hbs
      by_cases hcp : c = p
      · gi_wp2
        refine ⟨trivial, (HC.out B 0 (fun _ => ⟨rfl, rfl⟩) (fun h => absurd hcp h)).mono ?_⟩
        rintro e w1 ⟨hf, rfl⟩
        have HJ1 := Lib.hid (HJ.out pre _ _ none HJS.out hf.grown_ (fun r e => by cases e))
        clear hf
        gi_wp2
        refine ⟨fun _ h => (by cases h), ?_⟩
        gi_wp2
        simp only [Exit.jump]
        refine bodyPost_ret (results_none rfl _ _ _) rfl ?_
        exact ⟨⟨_, rfl⟩, .inl ⟨pre, HOF.out, HJ1.out⟩⟩
      · gi_wp2
        refine ⟨trivial, (HC.out (Option.map (fun x => x.add p) B) (c - p) (fun h => absurd h hcp) (fun _ => ⟨rfl, rfl⟩)).mono ?_⟩
        rintro e w1 ⟨hf, rfl⟩
        have HJ1 := Lib.hid (HJ.out pre _ _ none HJS.out hf.grown_ (fun r e => by cases e))
        clear hf
        gi_wp2
        refine ⟨fun _ h => (by cases h), ?_⟩
        gi_wp2
        simp only [Exit.jump]
        refine bodyPost_ret (results_none rfl _ _ _) rfl ?_
        exact ⟨⟨_, rfl⟩, .inl ⟨pre, HOF.out, HJ1.out⟩⟩
    · rw [hu] at HC
      have hk := Enc.unframe_le hu
      rw [List.length_drop] at hk
      have HOF := Lib.hid (fun v : Value => show (pre ++ [(((p : Nat) : Int), v)]).map (·.1) ++ toInts (Enc.offs xs f (p + k)) = toInts (Enc.offs xs (n + 1) 0) by rw [← hof, offs_some hu]; simp [toInts])
      clear hbl hrw hJs hof hu hbs
      by_cases hcp : c = p
      · gi_wp2
        refine ⟨trivial, (HC.out B 0 (fun _ => ⟨rfl, rfl⟩) (fun h => absurd hcp h)).mono ?_⟩
        rintro e w1 ⟨hf, B1, c1, rfl, hb1⟩
        have HJ1 := Lib.hid (HJ.out pre _ _ none HJS.out hf.grown_ (fun r e => by cases e))
        have hy0 := HY.out pre (((p : Nat) : Int), .slice B1 pl.length c1) w1 HJ1.out (by omega)
        have HBL1 := Lib.hid (HBL.out.touch hf id)
        have HF1 := Lib.hid hf
        clear hf hb1
        have hw1 := HRW.out.fresh_ HF1.out
        have HRW1 := Lib.hid hw1
        clear hw1
        obtain ⟨fn, tmps, assign, body, hy, hR⟩ := hy0
        dsimp only [frEnc] at hy
        gi_wp2
        refine hR.mono ?_
        rintro e W3 (⟨rfl, hJ3, hk3⟩ | ⟨rfl, hJx3⟩)
        · have HF3 := Lib.hid hk3
          have HJ3 := Lib.hid hJ3
          clear hk3 hJ3 hR
          gi_wp2
          refine wpIn_goto ?_
          rw [show ((p : Int) + (k : Int)) = ((p + k : Nat) : Int) by omega]
          refine ⟨rfl, ⟨p + k, _, _, _, _, _, _, _, _, _, _, _, _, _, _, _, _, _, _, _, _, _, _, _, _, rfl, _, f, HJ3.out, HF3.out.blk HBL1.out, HF3.out.row HRW1.out, HOF.out _, by omega, by omega, by simp; omega⟩, ?_⟩
          · show n - ((p + k : Nat) : Int).toNat < n - ((p : Nat) : Int).toNat
            omega
        · have HJ3 := Lib.hid hJx3
          clear hJx3 hR
          gi_wp2
          simp only [Exit.jump]
          refine bodyPost_ret (results_none rfl _ _ _) rfl ?_
          exact ⟨⟨_, rfl⟩, .inr ⟨_, ⟨_, HOF.out _⟩, HJ3.out⟩⟩
      · gi_wp2
        refine ⟨trivial, (HC.out (Option.map (fun x => x.add p) B) (c - p) (fun h => absurd h hcp) (fun _ => ⟨rfl, rfl⟩)).mono ?_⟩
        rintro e w1 ⟨hf, B1, c1, rfl, hb1⟩
        have HJ1 := Lib.hid (HJ.out pre _ _ none HJS.out hf.grown_ (fun r e => by cases e))
        have hy0 := HY.out pre (((p : Nat) : Int), .slice B1 pl.length c1) w1 HJ1.out (by omega)
        have HBL1 := Lib.hid (HBL.out.touch hf id)
        have HF1 := Lib.hid hf
        clear hf hb1
        have hw1 := HRW.out.fresh_ HF1.out
        have HRW1 := Lib.hid hw1
        clear hw1
        obtain ⟨fn, tmps, assign, body, hy, hR⟩ := hy0
        dsimp only [frEnc] at hy
        gi_wp2
        refine hR.mono ?_
        rintro e W3 (⟨rfl, hJ3, hk3⟩ | ⟨rfl, hJx3⟩)
        · have HF3 := Lib.hid hk3
          have HJ3 := Lib.hid hJ3
          clear hk3 hJ3 hR
          gi_wp2
          refine wpIn_goto ?_
          rw [show ((p : Int) + (k : Int)) = ((p + k : Nat) : Int) by omega]
          refine ⟨rfl, ⟨p + k, _, _, _, _, _, _, _, _, _, _, _, _, _, _, _, _, _, _, _, _, _, _, _, _, rfl, _, f, HJ3.out, HF3.out.blk HBL1.out, HF3.out.row HRW1.out, HOF.out _, by omega, by omega, by simp; omega⟩, ?_⟩
          · show n - ((p + k : Nat) : Int).toNat < n - ((p : Nat) : Int).toNat
            omega
        · have HJ3 := Lib.hid hJx3
          clear hJx3 hR
          gi_wp2
          simp only [Exit.jump]
          refine bodyPost_ret (results_none rfl _ _ _) rfl ?_
          exact ⟨⟨_, rfl⟩, .inr ⟨_, ⟨_, HOF.out _⟩, HJ3.out⟩⟩
end Go.Proofs.Ytdfhdanfigpbpaa
