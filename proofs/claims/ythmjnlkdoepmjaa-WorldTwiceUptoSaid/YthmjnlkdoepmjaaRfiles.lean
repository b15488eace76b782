/- The contracts of Files of the document's disk, of keep.Ints and keep.SpoilInts. Conditions stand with each. -/
import Derived.Test.YthmjnlkdoepmjaaRsync
import Derived.Test.YthmjnlkdoepmjaaCrash2
namespace Go.Proofs.Ythmjnlkdoepmjaa
open Go.RowKit

theorem Try.info3 : (Try.prog.info? 3).map (fun i => (i.zero, i.size, i.bytes)) = some (some (.int .i64 0), 1, 8) := by kernel_rfl
def intsV (l : List Int) : List Value := l.map fun x => .int .i64 x
theorem intsV_one (l : List Int) : ∀ u ∈ intsV l, u.oneCell' = true := by
  intro u hu
  obtain ⟨x, _, rfl⟩ := List.mem_map.1 hu
  rfl
theorem intsV_length (l : List Int) : (intsV l).length = l.length := by simp [intsV]
theorem intsV_get (l : List Int) (j : Nat) : (intsV l)[j]? = (l[j]?).map fun x => .int .i64 x := by simp [intsV]
theorem int_new (w : World) (a : Int) : Src Try.prog 1 23 (.slice (some ⟨w.heap.size, 0, none⟩) 1 1) 1 [.int .i64 a] (w.alloc (.cells #[.int .i64 a] 3)) := by
  refine Src.ofSlice _ Try.underlying23 _ _ _ _ rfl (fun j u hu => ?_) (by intro u hu; simp at hu; subst hu; rfl)
  have hb := Blk.new w 3 #[.int .i64 a]
  rw [add_flat, Nat.zero_add, hb.cell j, ← hu]
  simp
/-- ints of a call's own, as ints that can be read -/
theorem Own.ints {w : World} {A : Option Addr} {n c : Nat} {l : List Int} (h : Own w 3 1 (.slice A n c) n (intsV l)) : IsInts w A n c l := by
  obtain ⟨A', c', hv, hle, hm, hA⟩ := h.form
  injection hv with e1 _ e3
  subst e1 e3
  have hl : l.length = n := by have := h.1; rw [intsV_length] at this; omega
  refine ⟨hl, hle, hm, fun h0 => ?_⟩
  rcases hA with ⟨_, h2, _⟩ | ⟨g, rfl⟩
  · omega
  · refine ⟨g, 0, rfl, fun j x hx => ?_⟩
    have hj : j < n := by have := (List.getElem?_eq_some_iff.1 hx).1; omega
    have := h.cell (j := j) (by omega)
    rw [Nat.zero_add, this, intsV_get, hx]
    rfl

set_option maxRecDepth 20000 in
set_option maxHeartbeats 1000000 in
theorem rfiles_any (w : World) (bd : Nat) (lv fv : Value) (fs : List RF) (r : Rk) (h : RDK w bd lv fv fs r) (hm : fs.length ≤ 1000000000) :
    Calls Try.prog 63 #[.pointer (some ⟨bd, 0, none⟩)] w fun e w' => Fresh w w' ∧ ∃ B c, e = .returned (.slice B fs.length c) ∧ Own w' 3 1 (.slice B fs.length c) fs.length (intsV (r.fs.map Fl.n)) ∧ ∀ k, (Value.slice B fs.length c).ownBlock = some k → w.heap.size ≤ k := by
  obtain ⟨A, c, rfl, hle, hcm, hA⟩ := h.lform
  have hfl : r.fs.map Fl.n = fs.map RF.n := by rw [h.fls, List.map_map]; rfl
  rw [hfl]
  have H := Lib.hid h; have HA := Lib.hid hA
  unfold maxLen at hcm
  clear h hA hfl
  go_enter Try.func63, Try.ntmps63
  go_wp2_with fail
  go_loopw [3, 4] (fun v i wr => ∃ j : Nat, j ≤ fs.length ∧ i = .int .i64 j ∧ Own wr 3 1 v j (intsV ((fs.take j).map RF.n)) ∧ (∀ k, v.ownBlock = some k → w.heap.size ≤ k) ∧ Fresh w wr) (fun _ i _ => fs.length - (intOf i).toNat)
  case atStart => exact ⟨0, by omega, rfl, Own.nil_ _ _ _, fun k hk => (by cases hk), Touch.refl _ _⟩
  case round =>
    obtain ⟨j, hj, rfl, hO, hN, hT⟩ := hrel
    have hR := H.out.fresh hT
    have hc0 : wr.cell? ⟨bd, 0, none⟩ = some (.slice A fs.length c) := hR.blk.cell 0
    by_cases hlt : j < fs.length
    · obtain ⟨g, rfl⟩ := HA.out (by omega)
      obtain ⟨f, hf⟩ : ∃ f, fs[j]? = some f := ⟨fs[j], List.getElem?_eq_getElem hlt⟩
      have hcj : wr.cell? ⟨g, j * 3, none⟩ = some (.int .i64 f.n) := hR.lcell hf 0 (by omega)
      have htk : (fs.take (j + 1)).map RF.n = (fs.take j).map RF.n ++ [f.n] := by
        obtain ⟨_, rfl⟩ := List.getElem?_eq_some_iff.1 hf
        rw [List.take_succ_eq_append_getElem hlt, List.map_append]
        rfl
      have HO := Lib.hid hO; have HN := Lib.hid hN; have HT := Lib.hid hT; have HTK := Lib.hid htk
      clear hO hN hT hR htk hf
      go_wp2_with (at_builtin; refine wpList_own_src _ rfl _ _ 23 23 rfl 3 (.int .i64 0) 1 8 Try.info3 Try.underlying23 rfl u3 _ _ rfl (HO.out.alloc _) (intsV_one _) (.slice (some ⟨wr.heap.size, 0, none⟩) 1 1) 1 [.int .i64 f.n] rfl (by exact int_new wr f.n) (by unfold maxLen; omega) (by omega) ?_; intro B1 c1 w1 o1 g1 b1; have hT1 := Lib.hid ((HT.out.alloc _).grown g1 (fun k hk => .inl (HN.out k hk))); have hO1 := Lib.hid o1; have hB1 := Lib.hid b1; clear o1 g1 b1)
      refine ⟨⟨j + 1, by omega, by simp, ?_, ?_, hT1.out⟩, by simp [intOf] <;> omega⟩
      · rw [HTK.out]
        unfold intsV
        rw [List.map_append]
        exact hO1.out
      · intro k hk
        rcases hB1.out with h | h
        · exact HN.out k (h.symm.trans hk)
        · rw [hk, alloc_size] at h
          injection h with h
          have := HT.out.size
          omega
    · have : j = fs.length := by omega
      subst this
      rw [List.take_length] at hO
      obtain ⟨B, c', rfl, _, _, _⟩ := hO.form
      have HO := Lib.hid hO; have HN := Lib.hid hN; have HT := Lib.hid hT
      clear hO hN hT hR
      go_wp2_with fail
      go_ret
      exact ⟨HT.out, B, c', rfl, HO.out, HN.out⟩

set_option maxRecDepth 20000 in
set_option maxHeartbeats 1000000 in
theorem ints_any (w : World) (A B : Option Addr) (n c c' : Nat) (l : List Int) (ha : IsInts w A n c l) (hb : IsInts w B n c' l) :
    Calls Try.prog 31 #[.slice A n c, .slice B n c'] w fun e w' => e = .returned (.bool true) ∧ ∃ q, w' = w.drewN q := by
  obtain rfl := ha.1
  have h1 := ha.2.1
  have h2 := ha.2.2.1
  have h3 := hb.2.1
  have h4 := hb.2.2.1
  unfold maxLen at h2 h4
  have HA := Lib.hid ha; have HB := Lib.hid hb
  clear ha hb
  go_enter Try.func31, Try.ntmps31
  go_wp2_with fail
  go_loopw [5] (fun i wr => ∃ j : Nat, j ≤ l.length ∧ i = .int .i64 j ∧ ∃ q, wr = w.drewN q) (fun i _ => l.length - (intOf i).toNat)
  case atStart => exact ⟨0, by omega, rfl, 0, rfl⟩
  case round =>
    obtain ⟨j, hj, rfl, q, rfl⟩ := hrel
    by_cases hlt : j < l.length
    · obtain ⟨b, o, rfl, hc⟩ := HA.out.2.2.2 (by omega)
      obtain ⟨b', o', rfl, hc'⟩ := HB.out.2.2.2 (by omega)
      obtain ⟨x, hx⟩ : ∃ x, l[j]? = some x := ⟨l[j], List.getElem?_eq_getElem hlt⟩
      have k1 : ∀ q', (w.drewN q').cell? ⟨b, o + j, none⟩ = some (.int .i64 x) := fun _ => hc j x hx
      have k2 : ∀ q', (w.drewN q').cell? ⟨b', o' + j, none⟩ = some (.int .i64 x) := fun _ => hc' j x hx
      clear hc hc' hx
      go_wp2_with fail
      go_quiet (fail)
      go_wp2_with fail
      refine ⟨⟨j + 1, by omega, by simp, _, rfl⟩, by simp [intOf] <;> omega⟩
    · have : j = l.length := by omega
      subst this
      go_wp2_with fail
      go_ret
      exact ⟨rfl, q, rfl⟩

set_option maxRecDepth 20000 in
set_option maxHeartbeats 1000000 in
theorem spoilInts_any (w : World) (A : Option Addr) (n c : Nat) (l : List Int) (h : Own w 3 1 (.slice A n c) n (intsV l)) (hm : n ≤ 1000000000) :
    Calls Try.prog 64 #[.slice A n c] w fun e w' => e = .returned (.tuple #[]) ∧ Touch (fun k => (Value.slice A n c).ownBlock = some k) w w' := by
  have hl : l.length = n := by have := h.1; rw [intsV_length] at this; omega
  obtain ⟨A', c', hv, hle, hcm, hA⟩ := h.form
  injection hv with e1 _ e3
  subst e1 e3
  unfold maxLen at hcm
  have H := Lib.hid h; have HA := Lib.hid hA; have HL := Lib.hid hl
  clear h hA hl
  go_enter Try.func64, Try.ntmps64
  go_wp2_with fail
  go_loopw [2] (fun i wr => ∃ j : Nat, j ≤ n ∧ i = .int .i64 j ∧ (∃ xs : List Int, xs.length = n ∧ Own wr 3 1 (.slice A n c) n (intsV xs)) ∧ Touch (fun k => (Value.slice A n c).ownBlock = some k) w wr) (fun i _ => n - (intOf i).toNat)
  case atStart => exact ⟨0, by omega, rfl, ⟨l, HL.out, H.out⟩, Touch.refl _ _⟩
  case round =>
    obtain ⟨j, hj, rfl, ⟨xs, hxl, hr⟩, ht⟩ := hrel
    by_cases hlt : j < n
    · obtain ⟨g, rfl⟩ : ∃ g, A = some ⟨g, 0, none⟩ := by
        rcases HA.out with ⟨_, h0, _⟩ | hA
        · omega
        · exact hA
      have hcell := hr.cell (j := j) (by omega)
      have hfro := hr.frozen j
      obtain ⟨y, hy⟩ : ∃ y, xs[j]? = some y := ⟨xs[j]'(by omega), List.getElem?_eq_getElem (by omega)⟩
      rw [intsV_get, hy] at hcell
      simp only [Option.map_some] at hcell
      have HST := Lib.hid (hr.stored j (.int .i64 (-77)))
      have HT := Lib.hid (ht.setCell (p := ⟨g, j, none⟩) (.inr rfl) (.int .i64 (-77)))
      have HXL := Lib.hid hxl
      clear hr ht hxl hy
      go_wp2_with fail
      refine ⟨⟨j + 1, by omega, by simp, ⟨xs.set j (-77), by rw [List.length_set, HXL.out], ?_⟩, HT.out⟩, by simp [intOf] <;> omega⟩
      rw [show intsV (xs.set j (-77)) = (intsV xs).set j (.int .i64 (-77)) from List.map_set]
      exact HST.out
    · have : j = n := by omega
      subst this
      have HR := Lib.hid hr
      have HT := Lib.hid ht
      clear hr ht hxl
      go_wp2_with fail
      go_loopw [0, 3] (fun v i w2 => ∃ k : Nat, k ≤ 10 ∧ i = .int .i64 k ∧ (∃ zs : List Int, zs.length = j + k ∧ Own w2 3 1 v (j + k) (intsV zs)) ∧ Touch (fun k => (Value.slice A j c).ownBlock = some k) w w2 ∧ (∀ q, v.ownBlock = some q → (Value.slice A j c).ownBlock = some q ∨ w.heap.size ≤ q)) (fun _ i _ => 10 - (intOf i).toNat)
      case atStart => exact ⟨0, by omega, rfl, ⟨xs, by have := HR.out.1; rw [intsV_length] at this; omega, HR.out⟩, HT.out, fun q h => .inl h⟩
      case round =>
        obtain ⟨k, hk, rfl, ⟨zs, hzl, hr2⟩, ht2, ho2⟩ := hrel
        by_cases hlt2 : k < 10
        · have HR2 := Lib.hid hr2
          have HT2 := Lib.hid ht2
          have HO2 := Lib.hid ho2
          have HZ := Lib.hid hzl
          clear hr2 ht2 ho2 hzl
          go_wp2_with (at_builtin; refine wpList_own_src _ rfl _ _ 23 23 rfl 3 (.int .i64 0) 1 8 Try.info3 Try.underlying23 rfl u0 _ _ rfl (HR2.out.alloc _) (intsV_one _) (.slice (some ⟨wr.heap.size, 0, none⟩) 1 1) 1 [.int .i64 (-78)] rfl (by exact int_new wr (-78)) (by unfold maxLen; omega) (by omega) ?_; intro B2 c2 w2 o2 g2 b2; have HT3 := Lib.hid ((HT2.out.alloc _).grown g2 (fun q hq => (HO2.out q hq).symm)); have HO3 := Lib.hid o2; have HB3 := Lib.hid b2; clear o2 g2 b2)
          go_roundw
          case rel =>
            refine ⟨k + 1, by omega, by simp, ⟨zs ++ [-78], by rw [List.length_append, HZ.out, List.length_singleton]; omega, ?_⟩, HT3.out, ?_⟩
            · unfold intsV
              rw [List.map_append]
              exact HO3.out
            · intro q hq
              rcases HB3.out with h | h
              · exact HO2.out q (h.symm.trans hq)
              · rw [hq, alloc_size] at h
                injection h with h
                have := HT2.out.size
                exact .inr (by omega)
          case measure => simp [intOf] <;> omega
        · have : k = 10 := by omega
          subst this
          have HT2 := Lib.hid ht2
          clear hr2 ht2 ho2 hzl
          go_wp2_with fail
          go_end0
          exact ⟨rfl, HT2.out⟩
end Go.Proofs.Ythmjnlkdoepmjaa
