/- Rows of numbers that can be read; keep.Ints, keep.SpoilInts. Conditions stand with each. -/
import Derived.Test.YtnbpmlbhigchnaaGreatDoorLawA
namespace Go.Proofs.YtnbpmlbhigchnaaGreatDoor
open Go.RowKit

def IsInts (w : World) (A : Option Addr) (n c : Nat) (xs : List Int) : Prop :=
  xs.length = n ∧ n ≤ c ∧ c ≤ maxLen ∧ (0 < n → ∃ b o, A = some ⟨b, o, none⟩ ∧ ∀ j x, xs[j]? = some x → w.cell? ⟨b, o + j, none⟩ = some (.int .i64 x))
theorem IsInts.touch {w w' : World} {A : Option Addr} {n c : Nat} {xs : List Int} {S : Nat → Prop} (h : IsInts w A n c xs) (ht : Touch S w w') (hn : ∀ a, A = some a → 0 < n → ¬ S a.block) : IsInts w' A n c xs :=
  ⟨h.1, h.2.1, h.2.2.1, fun h0 => by
    obtain ⟨b, o, e, hc⟩ := h.2.2.2 h0
    exact ⟨b, o, e, fun j x hx => ht.cell (hc j x hx) (hn ⟨b, o, none⟩ e h0)⟩⟩
theorem IsInts.nil_ {w : World} (A : Option Addr) : IsInts w A 0 0 [] := ⟨rfl, Nat.le_refl _, by simp [maxLen], fun h => by omega⟩
def intsV (l : List Int) : List Value := l.map fun x => .int .i64 x
theorem intsV_one (l : List Int) : ∀ u ∈ intsV l, u.oneCell' = true := by
  intro u hu
  obtain ⟨x, _, rfl⟩ := List.mem_map.1 hu
  rfl
theorem intsV_length (l : List Int) : (intsV l).length = l.length := by simp [intsV]
theorem intsV_get (l : List Int) (j : Nat) : (intsV l)[j]? = (l[j]?).map fun x => .int .i64 x := by simp [intsV]
/-- ints of a call's own, as ints that can be read -/
theorem Own.ints {w : World} {A : Option Addr} {n c : Nat} {l : List Int} (h : Own w 3 1 (.slice A n c) n (intsV l)) : IsInts w A n c l := by
  obtain ⟨A', c', hv, hle, hm, hA⟩ := h.form
  injection hv with e1 _ e3
  subst e1 e3
  have hl : l.length = n := by have := h.1; rw [intsV_length] at this; omega
  refine ⟨hl, hle, hm, fun h0 => ?_⟩
  rcases hA with ⟨_, h2, _⟩ | ⟨g, rfl⟩
  · omega
  · refine ⟨g, 0, rfl, fun j x hx => ?_⟩
    have hj : j < n := by have := (List.getElem?_eq_some_iff.1 hx).1; omega
    have := h.cell (j := j) (by omega)
    rw [Nat.zero_add, this, intsV_get, hx]
    rfl

theorem intsV_iV (l : List Int) : intsV l = iV l := rfl
theorem IsInts.vs {w : World} {A : Option Addr} {n c : Nat} {l : List Int} (h : IsInts w A n c l) : Vs w 1 A n c (iV l) :=
  ⟨by rw [iV_len, h.1, Nat.mul_one], h.2.1, h.2.2.1, fun h0 => by
    obtain ⟨b, o, e, hc⟩ := h.2.2.2 h0
    refine ⟨b, o, e, fun j x hx => ?_⟩
    rw [← intsV_iV, intsV_get] at hx
    obtain ⟨y, hy, rfl⟩ := Option.map_eq_some_iff.1 hx
    exact hc j y hy⟩
theorem Vs.ints {w : World} {A : Option Addr} {n c : Nat} {l : List Int} (h : Vs w 1 A n c (iV l)) : IsInts w A n c l :=
  ⟨by have := h.1; rw [iV_len] at this; omega, h.2.1, h.2.2.1, fun h0 => by
    obtain ⟨b, o, e, hc⟩ := h.2.2.2 h0
    exact ⟨b, o, e, fun j x hx => hc j _ (by rw [← intsV_iV, intsV_get, hx]; rfl)⟩⟩
theorem Own.lit0 (w : World) (e : TypeId) (size : Nat) : Own (w.alloc (.cells #[] e)) e size (.slice (some ⟨w.heap.size, 0, none⟩) 0 0) 0 [] :=
  ⟨by simp, .inr ⟨w.heap.size, 0, #[], rfl, heap_alloc_new w _, Nat.le_refl _, Nat.zero_le _, by simp, by simp⟩⟩
theorem IsInts.src {P : Program} {w : World} {A : Option Addr} {n c : Nat} {xs : List Int} {t e' : TypeId} (h : IsInts w A n c xs) (ht : P.underlying t = some (.slice e')) : Src P 1 t (.slice A n c) n (intsV xs) w := by
  have hl := h.1
  subst hl
  by_cases h0 : xs = []
  · subst h0
    cases A with
    | none => exact Src.ofNil w ht c
    | some a => exact Src.ofSlice w ht a 0 c [] (by simp) (by simp) (by simp)
  · obtain ⟨b, o, rfl, hc⟩ := h.2.2.2 (List.length_pos_iff.2 h0)
    refine Src.ofSlice w ht _ _ _ _ (by rw [intsV_length]; omega) (fun j u hu => ?_) (intsV_one xs)
    rw [intsV_get] at hu
    obtain ⟨y, hy, rfl⟩ := Option.map_eq_some_iff.1 hu
    rw [add_flat]
    exact hc j y hy

set_option maxRecDepth 20000 in
set_option maxHeartbeats 1000000 in
theorem cloneI_any (A : Option Addr) (n c : Nat) (l : List Int) (w : World) (h : IsInts w A n c l) (hl : n ≤ 1000000) :
    Calls Tryz.prog 28 #[.slice A n c] w fun e w' => Fresh w w' ∧ ∃ B c', e = .returned (.slice B n c') ∧ Own w' 3 1 (.slice B n c') n (intsV l) ∧ ∀ k, (Value.slice B n c').ownBlock = some k → w.heap.size ≤ k := by
  have q36 : ∀ (w : World) (a : Option Addr) (n c n' c' : Nat), (binOp .eql 22 (.slice a n c) (.slice none n' c')).run Tryz.prog w = .ok (.bool a.isNone) w := fun w a n c n' c' => Lib.run_eql_slice_nil w _ _ a n c n' c' Tryz.underlying22
  have H := Lib.hid h
  have hn := h.1
  cases A with
  | none =>
    have h0 : n = 0 := by
      rcases Nat.eq_zero_or_pos n with e | e
      · exact e
      · obtain ⟨b, o, e', _⟩ := h.2.2.2 e
        cases e'
    subst h0
    have hu : l = [] := List.eq_nil_of_length_eq_zero hn
    subst hu
    clear h
    go_enter Tryz.func28, Tryz.ntmps28
    go_wp2_with fail
    go_ret
    exact ⟨Touch.refl _ _, none, 0, rfl, Own.nil_ _ _ _, fun _ h => by cases h⟩
  | some a =>
    clear h
    go_enter Tryz.func28, Tryz.ntmps28
    go_wp2_with (at_builtin; refine wpList_own_src _ rfl _ _ 22 22 rfl 3 (.int .i64 0) 1 8 Tryz.info3 Tryz.underlying22 rfl (.slice (some ⟨w.heap.size, 0, none⟩) 0 0) 0 [] rfl (Own.lit0 _ _ _) (by simp) (.slice (some a) n c) n (intsV l) rfl (IsInts.src (H.out.touch ((Touch.refl (fun _ => False) w).alloc _) fun _ _ _ => id) Tryz.underlying22) (by unfold maxLen; omega) (by omega) ?_; intro B1 c1 w1 o1 g1 b1; simp only [Nat.zero_add, List.nil_append] at o1 g1 b1 ⊢; have HO := Lib.hid o1; have HG := Lib.hid g1; have HB := Lib.hid b1; clear o1 g1 b1)
    go_ret
    have hT : Fresh w w1 := ((Touch.refl _ w).alloc _).grown HG.out fun k hk => .inl (by simp only [Value.ownBlock, Option.some.injEq] at hk; omega)
    refine ⟨hT, B1, c1, rfl, HO.out, fun k hk => ?_⟩
    rcases HB.out with h | h
    · rw [hk] at h; simp only [Value.ownBlock, Option.some.injEq] at h; omega
    · rw [hk, alloc_size] at h; injection h with h; omega

set_option maxRecDepth 20000 in
set_option maxHeartbeats 1000000 in
theorem ints_any (w : World) (A B : Option Addr) (n c c' : Nat) (l : List Int) (ha : IsInts w A n c l) (hb : IsInts w B n c' l) :
    Calls Tryz.prog 6 #[.slice A n c, .slice B n c'] w fun e w' => e = .returned (.bool true) ∧ ∃ q, w' = w.drewN q := by
  obtain rfl := ha.1
  have h1 := ha.2.1
  have h2 := ha.2.2.1
  have h3 := hb.2.1
  have h4 := hb.2.2.1
  unfold maxLen at h2 h4
  have HA := Lib.hid ha; have HB := Lib.hid hb
  clear ha hb
  go_enter Tryz.func6, Tryz.ntmps6
  go_wp2_with fail
  go_loopw [5] (fun i wr => ∃ j : Nat, j ≤ l.length ∧ i = .int .i64 j ∧ ∃ q, wr = w.drewN q) (fun i _ => l.length - (intOf i).toNat)
  case atStart => exact ⟨0, by omega, rfl, 0, rfl⟩
  case round =>
    obtain ⟨j, hj, rfl, q, rfl⟩ := hrel
    by_cases hlt : j < l.length
    · obtain ⟨b, o, rfl, hc⟩ := HA.out.2.2.2 (by omega)
      obtain ⟨b', o', rfl, hc'⟩ := HB.out.2.2.2 (by omega)
      obtain ⟨x, hx⟩ : ∃ x, l[j]? = some x := ⟨l[j], List.getElem?_eq_getElem hlt⟩
      have k1 : ∀ q', (w.drewN q').cell? ⟨b, o + j, none⟩ = some (.int .i64 x) := fun _ => hc j x hx
      have k2 : ∀ q', (w.drewN q').cell? ⟨b', o' + j, none⟩ = some (.int .i64 x) := fun _ => hc' j x hx
      clear hc hc' hx
      go_wp2_with fail
      go_quiet (fail)
      go_wp2_with fail
      refine ⟨⟨j + 1, by omega, by simp, _, rfl⟩, by simp [intOf] <;> omega⟩
    · have : j = l.length := by omega
      subst this
      go_wp2_with fail
      go_ret
      exact ⟨rfl, q, rfl⟩

set_option maxRecDepth 20000 in
set_option maxHeartbeats 1000000 in
theorem spoilInts_any (w : World) (A : Option Addr) (n c : Nat) (l : List Int) (h : Own w 3 1 (.slice A n c) n (intsV l)) (hm : n ≤ 1000000000) :
    Calls Tryz.prog 9 #[.slice A n c] w fun e w' => e = .returned (.tuple #[]) ∧ Touch (fun k => (Value.slice A n c).ownBlock = some k) w w' := by
  have hl : l.length = n := by have := h.1; rw [intsV_length] at this; omega
  obtain ⟨A', c', hv, hle, hcm, hA⟩ := h.form
  injection hv with e1 _ e3
  subst e1 e3
  unfold maxLen at hcm
  have H := Lib.hid h; have HA := Lib.hid hA; have HL := Lib.hid hl
  clear h hA hl
  go_enter Tryz.func9, Tryz.ntmps9
  go_wp2_with fail
  go_loopw [2] (fun i wr => ∃ j : Nat, j ≤ n ∧ i = .int .i64 j ∧ (∃ xs : List Int, xs.length = n ∧ Own wr 3 1 (.slice A n c) n (intsV xs)) ∧ Touch (fun k => (Value.slice A n c).ownBlock = some k) w wr) (fun i _ => n - (intOf i).toNat)
  case atStart => exact ⟨0, by omega, rfl, ⟨l, HL.out, H.out⟩, Touch.refl _ _⟩
  case round =>
    obtain ⟨j, hj, rfl, ⟨xs, hxl, hr⟩, ht⟩ := hrel
    by_cases hlt : j < n
    · obtain ⟨g, rfl⟩ : ∃ g, A = some ⟨g, 0, none⟩ := by
        rcases HA.out with ⟨_, h0, _⟩ | hA
        · omega
        · exact hA
      have hcell := hr.cell (j := j) (by omega)
      have hfro := hr.frozen j
      obtain ⟨y, hy⟩ : ∃ y, xs[j]? = some y := ⟨xs[j]'(by omega), List.getElem?_eq_getElem (by omega)⟩
      rw [intsV_get, hy] at hcell
      simp only [Option.map_some] at hcell
      have HST := Lib.hid (hr.stored j (.int .i64 (-77)))
      have HT := Lib.hid (ht.setCell (p := ⟨g, j, none⟩) (.inr rfl) (.int .i64 (-77)))
      have HXL := Lib.hid hxl
      clear hr ht hxl hy
      go_wp2_with fail
      refine ⟨⟨j + 1, by omega, by simp, ⟨xs.set j (-77), by rw [List.length_set, HXL.out], ?_⟩, HT.out⟩, by simp [intOf] <;> omega⟩
      rw [show intsV (xs.set j (-77)) = (intsV xs).set j (.int .i64 (-77)) from List.map_set]
      exact HST.out
    · have : j = n := by omega
      subst this
      have HR := Lib.hid hr
      have HT := Lib.hid ht
      clear hr ht hxl
      go_wp2_with fail
      go_loopw [0, 3] (fun v i w2 => ∃ k : Nat, k ≤ 10 ∧ i = .int .i64 k ∧ (∃ zs : List Int, zs.length = j + k ∧ Own w2 3 1 v (j + k) (intsV zs)) ∧ Touch (fun k => (Value.slice A j c).ownBlock = some k) w w2 ∧ (∀ q, v.ownBlock = some q → (Value.slice A j c).ownBlock = some q ∨ w.heap.size ≤ q)) (fun _ i _ => 10 - (intOf i).toNat)
      case atStart => exact ⟨0, by omega, rfl, ⟨xs, by have := HR.out.1; rw [intsV_length] at this; omega, HR.out⟩, HT.out, fun q h => .inl h⟩
      case round =>
        obtain ⟨k, hk, rfl, ⟨zs, hzl, hr2⟩, ht2, ho2⟩ := hrel
        by_cases hlt2 : k < 10
        · have HR2 := Lib.hid hr2
          have HT2 := Lib.hid ht2
          have HO2 := Lib.hid ho2
          have HZ := Lib.hid hzl
          clear hr2 ht2 ho2 hzl
          go_wp2_with (at_builtin; refine wpList_own_src _ rfl _ _ 22 22 rfl 3 (.int .i64 0) 1 8 Tryz.info3 Tryz.underlying22 rfl u0 _ _ rfl (HR2.out.alloc _) (intsV_one _) (.slice (some ⟨wr.heap.size, 0, none⟩) 1 1) 1 [.int .i64 (-78)] rfl (by exact int_new wr (-78)) (by unfold maxLen; omega) (by omega) ?_; intro B2 c2 w2 o2 g2 b2; have HT3 := Lib.hid ((HT2.out.alloc _).grown g2 (fun q hq => (HO2.out q hq).symm)); have HO3 := Lib.hid o2; have HB3 := Lib.hid b2; clear o2 g2 b2)
          go_roundw
          case rel =>
            refine ⟨k + 1, by omega, by simp, ⟨zs ++ [-78], by rw [List.length_append, HZ.out, List.length_singleton]; omega, ?_⟩, HT3.out, ?_⟩
            · unfold intsV
              rw [List.map_append]
              exact HO3.out
            · intro q hq
              rcases HB3.out with h | h
              · exact HO2.out q (h.symm.trans hq)
              · rw [hq, alloc_size] at h
                injection h with h
                have := HT2.out.size
                exact .inr (by omega)
          case measure => simp [intOf] <;> omega
        · have : k = 10 := by omega
          subst this
          have HT2 := Lib.hid ht2
          clear hr2 ht2 ho2 hzl
          go_wp2_with fail
          go_end0
          exact ⟨rfl, HT2.out⟩
end Go.Proofs.YtnbpmlbhigchnaaGreatDoor
