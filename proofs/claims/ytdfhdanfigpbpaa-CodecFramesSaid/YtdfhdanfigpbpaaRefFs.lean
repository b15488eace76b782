/- The contract of the reference's Frames. Conditions stand with it. -/
import Derived.Test.YtdfhdanfigpbpaaRefUn
import Derived.Test.YtdfhdanfigpbpaaOwn
import Derived.Test.YtdfhdanfigpbpaaFrmY
namespace Go.Proofs.Ytdfhdanfigpbpaa
open Go.RowKit

theorem Try.info3 : (Try.prog.info? 3).map (fun i => (i.zero, i.size, i.bytes)) = some (some (.int .i64 0), 1, 8) := by kernel_rfl
theorem Try.info24 : (Try.prog.info? 24).map (fun i => (i.zero, i.size, i.bytes)) = some (some (.slice none 0 0), 1, 24) := by kernel_rfl
def intsV (l : List Int) : List Value := l.map fun x => .int .i64 x
theorem intsV_one (l : List Int) : ∀ u ∈ intsV l, u.oneCell' = true := by
  intro u hu
  obtain ⟨x, _, rfl⟩ := List.mem_map.1 hu
  rfl
theorem intsV_get (l : List Int) (j : Nat) : (intsV l)[j]? = (l[j]?).map fun x => .int .i64 x := by simp [intsV]
theorem int_new (w : World) (a : Int) : Src Try.prog 1 77 (.slice (some ⟨w.heap.size, 0, none⟩) 1 1) 1 [.int .i64 a] (w.alloc (.cells #[.int .i64 a] 3)) := by
  refine Src.ofSlice _ Try.underlying77 _ _ _ _ rfl (fun j u hu => ?_) (by intro u hu; simp at hu; subst hu; rfl)
  have hb := Blk.new w 3 #[.int .i64 a]
  rw [add_flat, Nat.zero_add, hb.cell j, ← hu]
  simp
theorem bs_new (w : World) (A : Option Addr) (m c : Nat) : Src Try.prog 1 76 (.slice (some ⟨w.heap.size, 0, none⟩) 1 1) 1 [.slice A m c] (w.alloc (.cells #[.slice A m c] 24)) := by
  refine Src.ofSlice _ Try.underlying76 _ _ _ _ rfl (fun j u hu => ?_) (by intro u hu; simp at hu; subst hu; rfl)
  have hb := Blk.new w 24 #[.slice A m c]
  rw [add_flat, Nat.zero_add, hb.cell j, ← hu]
  simp
/-- rows of payloads -/
def PlRows (w : World) (v : Value) (ts : List (Int × List UInt8)) : Prop :=
  ∃ rs : List Value, rs.length = ts.length ∧ Own w 24 1 v ts.length rs ∧ (∀ u ∈ rs, u.oneCell' = true) ∧ ∀ (i : Nat) (u : Value) (t : Int × List UInt8), rs[i]? = some u → ts[i]? = some t → ∃ B c, u = .slice B t.2.length c ∧ Row w u t.2
theorem PlRows.fresh {w w' : World} {v : Value} {ts : List (Int × List UInt8)} (h : PlRows w v ts) (ht : Fresh w w') : PlRows w' v ts := by
  obtain ⟨rs, h1, h2, h3, h4⟩ := h
  refine ⟨rs, h1, h2.touch ht fun _ _ => id, h3, fun i u t hu ht' => ?_⟩
  obtain ⟨B, c, e, hr⟩ := h4 i u t hu ht'
  exact ⟨B, c, e, hr.touch ht fun _ _ => id⟩
/-- the row of another type grows -/
theorem PlRows.other {w w' : World} {v v' : Value} {ts : List (Int × List UInt8)} {e : TypeId} {n size : Nat} {xs : List Value} {o : Obj} (h : PlRows w v ts) (hv : Own w e size v' n xs) (h1 : e ≠ 24) (h2 : e ≠ 5) (hg : (w.alloc o).grownBy w' v'.ownBlock) : PlRows w' v ts := by
  have hT : Touch (fun k => v'.ownBlock = some k) w w' := ((Touch.refl _ w).alloc o).grown hg fun k hk => .inr hk
  obtain ⟨rs, q1, q2, q3, q4⟩ := h
  refine ⟨rs, q1, q2.touch hT fun k hk e => Own.ne_own hv q2 h1 k e hk, q3, fun i u t hu ht' => ?_⟩
  obtain ⟨B, c, e, hr⟩ := q4 i u t hu ht'
  exact ⟨B, c, e, hr.touch hT fun k hk e => Own.ne_own hv (Own.ofRow hr) h2 k e hk⟩
theorem plrows_push {w w' : World} {v : Value} {ts : List (Int × List UInt8)} {rs : List Value} {B B' : Option Addr} {c c' : Nat} {q : List UInt8} {p : Int} {o : Obj} (q1 : rs.length = ts.length) (q2 : Own w 24 1 v ts.length rs) (q3 : ∀ u ∈ rs, u.oneCell' = true) (q4 : ∀ (i : Nat) (u : Value) (t : Int × List UInt8), rs[i]? = some u → ts[i]? = some t → ∃ B c, u = .slice B t.2.length c ∧ Row w u t.2)
    (hr : Row w (.slice B q.length c) q) (hO : Own w' 24 1 (.slice B' (ts.length + 1) c') (ts.length + 1) (rs ++ [.slice B q.length c])) (hg : (w.alloc o).grownBy w' v.ownBlock) : PlRows w' (.slice B' (ts.length + 1) c') (ts ++ [(p, q)]) := by
  have hT : Touch (fun k => v.ownBlock = some k) w w' := ((Touch.refl _ w).alloc o).grown hg fun k hk => .inr hk
  have hrow : ∀ {u : Value} {xs : List UInt8}, Row w u xs → Row w' u xs := fun {u xs} hx => hx.touch hT fun k hk e => Own.ne_own q2 (Own.ofRow hx) (by decide) k e hk
  have hl : (ts ++ [(p, q)]).length = ts.length + 1 := by rw [List.length_append]; rfl
  refine ⟨rs ++ [.slice B q.length c], by rw [hl, List.length_append, q1]; rfl, by rw [hl]; exact hO, ?_, ?_⟩
  · intro u hu
    rcases List.mem_append.1 hu with hu | hu
    · exact q3 u hu
    · obtain rfl := List.mem_singleton.1 hu
      rfl
  · intro i u t hu ht
    rcases Nat.lt_or_ge i rs.length with hi | hi
    · rw [List.getElem?_append_left hi] at hu
      rw [List.getElem?_append_left (by omega)] at ht
      obtain ⟨B2, c2, rfl, h2⟩ := q4 i u t hu ht
      exact ⟨B2, c2, rfl, hrow h2⟩
    · rw [List.getElem?_append_right hi] at hu
      rw [List.getElem?_append_right (by omega)] at ht
      have h0 : i - rs.length = 0 := by
        rcases Nat.eq_zero_or_pos (i - rs.length) with h0 | h0
        · exact h0
        · rw [List.getElem?_eq_none (by simp; omega)] at hu; cases hu
      rw [h0] at hu
      rw [show i - ts.length = 0 by omega] at ht
      simp only [List.getElem?_cons_zero, Option.some.injEq] at hu ht
      subst hu ht
      exact ⟨B, c, rfl, hrow hr⟩
theorem told2_end {xs : List UInt8} {n f : Nat} (h : xs.length = n) : told2 xs f n = [] := by
  cases f with
  | zero => rfl
  | succ f =>
    have hd : xs.drop n = [] := List.drop_eq_nil_of_le (by omega)
    refine told2_none ?_
    rw [hd]
    rfl

set_option maxRecDepth 20000 in
set_option maxHeartbeats 4000000 in
theorem refframes_any (A : Option Addr) (n c : Nat) (xs : List UInt8) (w : World) (h : Bs w A n c xs) (hb : n ≤ 1000000) :
    Calls Try.prog 51 #[.slice A n c] w fun e w' => Fresh w w' ∧ ∃ P cp R cr, e = .returned (.tuple #[.slice P (told2 xs (n + 1) 0).length cp, .slice R (told2 xs (n + 1) 0).length cr]) ∧ Own w' 3 1 (.slice P (told2 xs (n + 1) 0).length cp) (told2 xs (n + 1) 0).length (intsV ((told2 xs (n + 1) 0).map (·.1))) ∧ PlRows w' (.slice R (told2 xs (n + 1) 0).length cr) (told2 xs (n + 1) 0) := by
  have hnc := h.2.1
  have hcm := h.2.2.1
  unfold maxLen at hcm
  have HXL := Lib.hid h.1
  have H := Lib.hid h
  clear h
  go_enter Try.func51, Try.ntmps51
  go_wp2_with fail
  go_loopw [4, 5, 6, 7, 8, 9] (fun vp vr i _ _ _ wr => ∃ (p f : Nat) (pre : List (Int × List UInt8)), p ≤ n ∧ i = .int .i64 p ∧ n < p + f ∧ pre ++ told2 xs f p = told2 xs (n + 1) 0 ∧ pre.length ≤ p ∧ Own wr 3 1 vp pre.length (intsV (pre.map (·.1))) ∧ PlRows wr vr pre ∧ Fresh w wr ∧ (∀ k, vp.ownBlock = some k → w.heap.size ≤ k) ∧ (∀ k, vr.ownBlock = some k → w.heap.size ≤ k)) (fun _ _ i _ _ _ _ => n - (intOf i).toNat)
  case atStart => exact ⟨0, n + 1, [], by omega, rfl, by omega, rfl, by simp, Own.nil_ _ _ _, ⟨[], rfl, Own.nil_ _ _ _, by simp, fun i u t hu => (by simp at hu)⟩, Touch.refl _ _, fun k hk => (by cases hk), fun k hk => (by cases hk)⟩
  case round =>
    obtain ⟨p, f, pre, hp, rfl, hnf, hof, hpl, hO, hR, hT, hN4, hN5⟩ := hrel
    have HOF := Lib.hid hof; have HO := Lib.hid hO; have HR := Lib.hid hR; have HT := Lib.hid hT; have HN4 := Lib.hid hN4; have HN5 := Lib.hid hN5
    clear hof hO hR hT hN4 hN5
    have hfin : ∀ W, Fresh wr W → pre = told2 xs (n + 1) 0 → Fresh w W ∧ ∃ P cp R cr, (Ending.returned (.tuple #[u4, u5])) = .returned (.tuple #[.slice P (told2 xs (n + 1) 0).length cp, .slice R (told2 xs (n + 1) 0).length cr]) ∧ Own W 3 1 (.slice P (told2 xs (n + 1) 0).length cp) (told2 xs (n + 1) 0).length (intsV ((told2 xs (n + 1) 0).map (·.1))) ∧ PlRows W (.slice R (told2 xs (n + 1) 0).length cr) (told2 xs (n + 1) 0) := by
      intro W hW e
      subst e
      obtain ⟨P, cp, e4, _⟩ := HO.out.form
      obtain ⟨rs, r1, r2, r3, r4⟩ := HR.out.fresh hW
      obtain ⟨R, cr, e5, _⟩ := r2.form
      refine ⟨HT.out.trans hW fun _ _ => id, P, cp, R, cr, by rw [e4, e5], ?_, ?_⟩
      · rw [← e4]
        exact HO.out.touch hW fun _ _ => id
      · rw [← e5]
        exact ⟨rs, r1, r2, r3, r4⟩
    have HFIN := Lib.hid hfin
    clear hfin
    by_cases hlt : p < n
    · obtain ⟨b, o, rfl⟩ := H.out.at_ (by omega)
      have hcp : ¬ c = p := by omega
      obtain ⟨f, rfl⟩ : ∃ f', f = f' + 1 := ⟨f - 1, by omega⟩
      have HU := Lib.hid (refunframe_any (some ⟨b, o + p, none⟩) (n - p) (c - p) (xs.drop p) wr ((H.out.fresh HT.out).drop_ (k := p) (by omega)) (by omega))
      rcases hu : Enc.unframe (xs.drop p) with _ | ⟨q, k⟩
      · have HPRE := Lib.hid (show pre = told2 xs (n + 1) 0 by rw [← HOF.out, told2_none hu]; simp)
        go_wp2_with fail
        refine HU.out.mono ?_
        rintro e w1 ⟨t1, he⟩
        rw [hu] at he
        subst he
        have HF := Lib.hid (HFIN.out w1 t1 HPRE.out)
        clear t1 hu HU
        go_wp2_with fail
        go_ret2
        exact HF.out
      · have hk := Enc.unframe_le hu
        rw [List.length_drop, HXL.out] at hk
        have HOF2 := Lib.hid (show (pre ++ [(((p : Nat) : Int), q)]) ++ told2 xs f (p + k) = told2 xs (n + 1) 0 by rw [← HOF.out, told2_some hu]; simp)
        go_wp2_with fail
        refine HU.out.mono ?_
        rintro e w1 ⟨t1, he⟩
        rw [hu] at he
        obtain ⟨B1, c1, rfl, hr1⟩ := he
        have HO1 := Lib.hid (HO.out.touch t1 fun _ _ => id); have HR1 := Lib.hid (HR.out.fresh t1); have HT1 := Lib.hid (HT.out.trans t1 fun _ _ => id); have HQ1 := Lib.hid hr1
        clear t1 hu HU HFIN hr1
        go_upto_region 8 with (at_builtin; refine wpList_own_src _ rfl _ _ 77 77 rfl 3 (.int .i64 0) 1 8 Try.info3 Try.underlying77 rfl u4 _ _ rfl (HO1.out.alloc _) (intsV_one _) (.slice (some ⟨w1.heap.size, 0, none⟩) 1 1) 1 [.int .i64 p] rfl (by exact int_new w1 p) (by unfold maxLen; omega) (by omega) ?_; intro B2 c2 w2 o2 g2 b2; have O2 := Lib.hid o2; have G2 := Lib.hid g2; have BB2 := Lib.hid b2; clear o2 g2 b2)
        have hR2 := HR1.out.other HO1.out (by decide) (by decide) G2.out
        have hQ2 : Row w2 (.slice B1 q.length c1) q := HQ1.out.touch (((Touch.refl (fun k => u4.ownBlock = some k) w1).alloc _).grown G2.out fun k hk => .inr hk) fun k hk e => Own.ne_own HO1.out (Own.ofRow HQ1.out) (by decide) k e hk
        have hT2 : Fresh w w2 := (HT1.out.alloc _).grown G2.out fun k hk => .inl (HN4.out k hk)
        have hn2 : ∀ k, (Value.slice B2 (pre.length + 1) c2).ownBlock = some k → w.heap.size ≤ k := by
          intro k hk
          rcases BB2.out with h | h
          · exact HN4.out k (h.symm.trans hk)
          · rw [hk, alloc_size] at h
            injection h with h
            have := HT1.out.size
            omega
        obtain ⟨rs, r1, r2, r3, r4⟩ := id hR2
        have HQ2 := Lib.hid hQ2; have HT2 := Lib.hid hT2; have HN2 := Lib.hid hn2; have R1 := Lib.hid r1; have R2 := Lib.hid r2; have R3 := Lib.hid r3; have R4 := Lib.hid r4
        clear hR2 hQ2 hT2 hn2 r1 r2 r3 r4
        go_wp2_with (at_builtin; refine wpList_own_src _ rfl _ _ 76 76 rfl 24 (.slice none 0 0) 1 24 Try.info24 Try.underlying76 rfl u5 _ _ rfl (R2.out.alloc _) R3.out (.slice (some ⟨w2.heap.size, 0, none⟩) 1 1) 1 [.slice B1 q.length c1] rfl (by exact bs_new w2 B1 q.length c1) (by unfold maxLen; omega) (by omega) ?_; intro B3 c3 w3 o3 g3 b3; have O3 := Lib.hid o3; have G3 := Lib.hid g3; have BB3 := Lib.hid b3; clear o3 g3 b3)
        have hP3 := plrows_push (p := ((p : Nat) : Int)) R1.out R2.out R3.out R4.out HQ2.out O3.out G3.out
        have hO3 : Own w3 3 1 (.slice B2 (pre.length + 1) c2) (pre.length + 1) (intsV (pre.map (·.1)) ++ [.int .i64 p]) := O2.out.touch (((Touch.refl (fun k => u5.ownBlock = some k) w2).alloc _).grown G3.out fun k hk => .inr hk) fun k hk e => Own.ne_own R2.out O2.out (by decide) k e hk
        have hT3 : Fresh w w3 := (HT2.out.alloc _).grown G3.out fun k hk => .inl (HN5.out k hk)
        have hn3 : ∀ k, (Value.slice B3 (pre.length + 1) c3).ownBlock = some k → w.heap.size ≤ k := by
          intro k hk
          rcases BB3.out with h | h
          · exact HN5.out k (h.symm.trans hk)
          · rw [hk, alloc_size] at h
            injection h with h
            have := HT2.out.size
            omega
        have hl : (pre ++ [(((p : Nat) : Int), q)]).length = pre.length + 1 := by rw [List.length_append]; rfl
        refine ⟨⟨p + k, f, pre ++ [(((p : Nat) : Int), q)], by omega, by simp, by omega, HOF2.out, by omega, ?_, hP3, hT3, HN2.out, hn3⟩, by simp [intOf] <;> omega⟩
        rw [hl]
        have e : intsV ((pre ++ [(((p : Nat) : Int), q)]).map (·.1)) = intsV (pre.map (·.1)) ++ [.int .i64 p] := by unfold intsV; simp
        rw [e]
        exact hO3
    · obtain rfl : p = n := by omega
      have HPRE := Lib.hid (show pre = told2 xs (p + 1) 0 by rw [← HOF.out, told2_end HXL.out]; simp)
      have HF := Lib.hid (HFIN.out wr (Touch.refl _ _) HPRE.out)
      go_wp2_with fail
      go_ret2
      exact HF.out
end Go.Proofs.Ytdfhdanfigpbpaa
