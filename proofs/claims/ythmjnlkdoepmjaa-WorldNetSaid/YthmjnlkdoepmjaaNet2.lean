/- slices.Clone and slices.Delete at parcels. Conditions stand with each. -/
import Derived.Test.YthmjnlkdoepmjaaNet
namespace Go.Proofs.Ythmjnlkdoepmjaa
open Go.RowKit

set_option maxRecDepth 20000 in
set_option maxHeartbeats 1000000 in
theorem cloneP_any (rv : Value) (n : Nat) (us : List Value) (w : World) (h : Own w 65 3 rv n us) (h1 : ∀ u ∈ us, u.oneCell' = true) (hl : n ≤ 1000000) :
    Calls Try.prog 72 #[rv] w fun e w' => Fresh w w' ∧ ∃ B c, e = .returned (.slice B n c) ∧ Own w' 65 3 (.slice B n c) n us ∧ ∀ k, (Value.slice B n c).ownBlock = some k → w.heap.size ≤ k := by
  have q73 : ∀ (w : World) (a : Option Addr) (n c n' c' : Nat), (binOp .eql 73 (.slice a n c) (.slice none n' c')).run Try.prog w = .ok (.bool a.isNone) w := fun w a n c n' c' => Lib.run_eql_slice_nil w _ _ a n c n' c' Try.underlying73
  obtain ⟨A, c, rfl, hc1, hc2, hA⟩ := h.form
  have H := Lib.hid h
  have H1 := Lib.hid h1
  clear h h1
  rcases hA with ⟨rfl, rfl, rfl⟩ | ⟨g, rfl⟩
  · have hu : us = [] := List.eq_nil_of_length_eq_zero (by rw [H.out.1])
    subst hu
    go_enter Try.func72, Try.ntmps72
    go_wp2_with fail
    go_ret
    exact ⟨Touch.refl _ _, none, 0, rfl, Own.nil_ _ _ _, fun _ h => by cases h⟩
  · go_enter Try.func72, Try.ntmps72
    go_wp2_with (at_builtin; refine wpList_own_src _ rfl _ _ 73 73 rfl 65 (.agg #[.int .i64 0, .int .i64 0, .slice none 0 0]) 3 40 Try.info65 Try.underlying73 rfl (.slice (some ⟨w.heap.size, 0, none⟩) 0 0) 0 [] rfl (Own.lit0 _ _ _) (by simp) (.slice (some ⟨g, 0, none⟩) n c) n us rfl (Own.src (H.out.alloc _) Try.underlying73 H1.out) (by unfold maxLen; omega) (by omega) ?_; intro B1 c1 w1 o1 g1 b1; simp only [Nat.zero_add, List.nil_append] at o1 g1 b1 ⊢; have HO := Lib.hid o1; have HG := Lib.hid g1; have HB := Lib.hid b1; clear o1 g1 b1)
    go_ret
    have hT : Fresh w w1 := ((Touch.refl _ w).alloc _).grown HG.out fun k hk => .inl (by simp only [Value.ownBlock, Option.some.injEq] at hk; omega)
    refine ⟨hT, B1, c1, rfl, HO.out, fun k hk => ?_⟩
    rcases HB.out with h | h
    · rw [hk] at h; simp only [Value.ownBlock, Option.some.injEq] at h; omega
    · rw [hk, alloc_size] at h; injection h with h; omega

/-- an append that finds room stays where it is -/
theorem run_own_room {P : Program} (w : World) (t tx ty e : TypeId) (i : TypeInfo) (size : Nat) (ht : P.underlying t = some (.slice e)) (hi : P.info? e = some i) (hsize : i.size = size)
    (g c n : Nat) (xs : List Value) (hown : Own w e size (.slice (some ⟨g, 0, none⟩) n c) n xs) (x : Value) (m : Nat) (news : List Value) (hs : Src P size tx x m news w) (hroom : n + m ≤ c) :
    (Builtin.append_ #[t, tx] ty #[.slice (some ⟨g, 0, none⟩) n c, x]).run P w = .ok (.slice (some ⟨g, 0, none⟩) (n + m) c) (w.setCells g (n * size) news) := by
  subst hsize
  obtain ⟨cur, hg, hnc, hcm, hcs, htake⟩ := hown.parts
  by_cases h0 : m = 0
  · subst h0
    have hn : news = [] := List.eq_nil_of_length_eq_zero (by have := hs.newsLen; omega)
    subst hn
    exact run_append_nothing w t tx ty e i ht hi _ n c hnc x hs
  · have hr : (n + m) * i.size ≤ c * i.size := Nat.mul_le_mul_right _ hroom
    rw [Nat.add_mul] at hr
    have hfit : n * i.size + news.length ≤ cur.size := by rw [hs.newsLen]; omega
    have hrun := run_append_room_src (P := P) w t tx ty e i ht hi g 0 n c x m news hs hroom (fun j hj => by
      rw [cell_of_row w g _ cur e (0, 0) hg, Array.getElem?_eq_getElem (by omega)]; rfl) (fun j _ => frozen_of_row w g _ cur e hg)
    rw [Nat.zero_add] at hrun
    exact hrun
theorem put_list {α : Type} (xs vs cur : List α) (o N : Nat) (hx : cur.take N = xs) (ho : o + vs.length ≤ N) (hN : N ≤ cur.length) : (cur.take o ++ vs ++ cur.drop (o + vs.length)).take N = xs.take o ++ vs ++ xs.drop (o + vs.length) := by
  subst hx
  rw [List.take_take, Nat.min_eq_left (by omega), List.drop_take, List.append_assoc, List.take_append, List.take_append, List.append_assoc]
  rw [List.take_take, Nat.min_eq_right (by omega), List.take_of_length_le (l := vs) (by simp; omega)]
  congr 2
  rw [List.length_take]
  congr 1
  omega
theorem own_put {w : World} {e : TypeId} {size g n c : Nat} {xs : List Value} (h : Own w e size (.slice (some ⟨g, 0, none⟩) n c) n xs) (o : Nat) (vs : List Value) (ho : o + vs.length ≤ n * size) :
    Own (w.setCells g o vs) e size (.slice (some ⟨g, 0, none⟩) n c) n (xs.take o ++ vs ++ xs.drop (o + vs.length)) := by
  obtain ⟨cur, hg, h1, h2, h3, h4⟩ := h.parts
  have e2 : n * size ≤ c * size := Nat.mul_le_mul_right _ h1
  refine ⟨by simp [h.1]; omega, .inr ⟨g, c, _, rfl, heap_setCells_self g e (0, 0) vs o w cur hg (by omega), h1, h2, ?_, ?_⟩⟩
  · simp only [List.size_toArray, List.length_append, List.length_take, List.length_drop, Array.length_toList]
    omega
  · exact put_list xs vs cur.toList o (n * size) h4 ho (by simp; omega)

theorem step_own_room {P : Program} (w : World) {ops : Array Oper} {o : Oper} {a : Act} {K : Act → World → Prop} {Q : Exit → Act → World → Prop} {E : Prop} (hgd : o.guard = none) (s x : Operand) (t tx : TypeId)
    (ho : o.op = .call { callee := .builtin .append, args := #[s, x], argTypes := #[t, tx] })
    (e : TypeId) (z : Value) (size bytes : Nat) (hinfo : (P.info? e).map (fun i => (i.zero, i.size, i.bytes)) = some (some z, size, bytes)) (ht : P.underlying t = some (.slice e))
    (g c n : Nat) (xs : List Value) (hv : a.eval s = .slice (some ⟨g, 0, none⟩) n c) (hown : Own w e size (.slice (some ⟨g, 0, none⟩) n c) n xs) (y : Value) (m : Nat) (news : List Value) (hx : a.eval x = y) (hs : Src P size tx y m news w) (hroom : n + m ≤ c)
    (h : K (a.put o.dst (.slice (some ⟨g, 0, none⟩) (n + m) c)) (w.setCells g (n * size) news)) :
    if Region.wanted o (yielded ops a.tmps) = true then Oper.wp P o a w K Q else E := by
  have hw : Region.wanted o (yielded ops a.tmps) = true := by simp [Region.wanted, hgd]
  rw [if_pos hw]
  obtain ⟨i, hi, _, hs1, _⟩ := info_parts hinfo
  have hr := run_own_room (P := P) w t tx o.type e i size ht hi hs1 g c n xs hown y m news hs hroom
  unfold Oper.wp execOp
  simp only [ho, resolve, invoke, builtin, Sem.run_bind, Sem.run_pure, Result.andThen_ok, List.map_toArray, List.map_cons, List.map_nil, hv, hx, hr]
  exact h
theorem zeroParcel (w : World) : (zeroValue 65).run Try.prog w = .ok (.agg #[.int .i64 0, .int .i64 0, .slice none 0 0]) w := by kernel_rfl
theorem clear_parcel (w : World) (g n c k c' : Nat) (xs : List Value) (h : Own w 65 3 (.slice (some ⟨g, 0, none⟩) n c) n xs) (hk : k + 1 = n) (ty : TypeId) :
    (Builtin.clear_ #[73] ty #[.slice (some ⟨g, k * 3, none⟩) 1 c']).run Try.prog w = .ok (.tuple #[]) (w.setCells g (k * 3) [.int .i64 0, .int .i64 0, .slice none 0 0]) := by
  have hst := run_storeCells_cells (P := Try.prog) g (k * 3) [.int .i64 0, .int .i64 0, .slice none 0 0] 0 w (fun j hj => by
    simp only [List.length_cons, List.length_nil] at hj
    have := h.cell (j := k * 3 + j) (by omega)
    rw [Nat.add_zero, this, List.getElem?_eq_getElem (by have := h.1; omega)]
    rfl) (fun j _ => h.frozen _) (by intro u hu; simp at hu; rcases hu with rfl | rfl | rfl <;> rfl)
  rw [Nat.add_zero] at hst
  have hz : (Builtin.zeroCells (Value.agg #[.int .i64 0, .int .i64 0, .slice none 0 0]).cells 1).toList = [.int .i64 0, .int .i64 0, .slice none 0 0] := by kernel_rfl
  simp [Builtin.clear_, run_underlying Try.underlying73, hz, hst]

set_option maxRecDepth 20000 in
set_option maxHeartbeats 2000000 in
theorem deleteP_any (g n c i : Nat) (us : List Value) (w : World) (h : Own w 65 3 (.slice (some ⟨g, 0, none⟩) n c) n us) (h1 : ∀ u ∈ us, u.oneCell' = true) (hl : n ≤ 1000000) (hi : i < n) :
    Calls Try.prog 70 #[.slice (some ⟨g, 0, none⟩) n c, .int .i64 i, .int .i64 ((i : Int) + 1)] w fun e w' => Touch (fun k => k = g) w w' ∧ e = .returned (.slice (some ⟨g, 0, none⟩) (n - 1) c) ∧ Own w' 65 3 (.slice (some ⟨g, 0, none⟩) (n - 1) c) (n - 1) (us.take (i * 3) ++ us.drop ((i + 1) * 3)) := by
  obtain ⟨cur, hg, hnc, hcm, hcs, htk⟩ := h.parts
  obtain ⟨k, rfl⟩ : ∃ k, n = k + 1 := ⟨n - 1, by omega⟩
  have H := Lib.hid h
  have H1 := Lib.hid h1
  unfold maxLen at hcm
  have hne : (((i : Int)) == (i : Int) + 1) = false := by simp <;> omega
  have b1 : (i : Int) ≤ (i : Int) + 1 := by omega
  clear h h1 hg hcs htk
  go_enter Try.func70, Try.ntmps70
  go_wp2_with fail
  by_cases hc : i + 1 < c
  · have hic : i ≤ c := by omega
    have hik : i ≤ k := by omega
    have hcn : ¬ c = i + 1 := by omega
    have hikI : (0 : Int) ≤ (i : Int) + 1 := by omega
    go_region_law ((refine step_own_room w.drew rfl (.tmp 22) (.tmp 25) 73 73 rfl 65 (.agg #[.int .i64 0, .int .i64 0, .slice none 0 0]) 3 40 Try.info65 Try.underlying73 g c i (us.take (i * 3)) rfl (Own.cut (H.out.drew) (by omega) (by omega) (Nat.le_refl _)) _ (k - i) (us.drop ((i + 1) * 3)) rfl (by exact Own.dropSrc H.out.drew Try.underlying73 H1.out (by omega) _ _ (by omega)) (by omega) ?_))
    obtain ⟨w2, hw2⟩ : ∃ w2, w2 = w.drew.setCells g (i * 3) (us.drop ((i + 1) * 3)) := ⟨_, rfl⟩
    rw [← hw2]
    have hlen := H.out.1
    have O2 := own_put H.out.drew (i * 3) (us.drop ((i + 1) * 3)) (by rw [List.length_drop]; omega)
    have T2 : Touch (fun k => k = g) w w2 := by rw [hw2]; exact touch_setCells (S := fun k => k = g) ((Touch.refl (fun k => k = g) w).drew) rfl _ _
    rw [← hw2] at O2
    have hcl : ∀ ty, (Builtin.clear_ #[73] ty #[.slice (some ⟨g, k * 3, none⟩) 1 (c - k)]).run Try.prog w2 = .ok (.tuple #[]) (w2.setCells g (k * 3) [.int .i64 0, .int .i64 0, .slice none 0 0]) := fun ty => clear_parcel w2 g (k + 1) c k (c - k) _ O2 rfl ty
    have hkc : k ≤ c := by omega
    have hck : ¬ c = k := by omega
    have hk1 : k + 1 - k = 1 := by omega
    have HO2 := Lib.hid O2; have HT2 := Lib.hid T2; have HLEN := Lib.hid hlen
    clear hw2 O2 T2 hlen
    go_wp2_with fail
    go_ret
    refine ⟨touch_setCells HT2.out rfl _ _, rfl, ?_⟩
    have := own_tail HO2.out (k := k) (Nat.le_succ _) [.int .i64 0, .int .i64 0, .slice none 0 0] (by rw [hk1]; rfl)
    rw [List.take_append_of_le_length (by rw [List.length_append, List.length_take, List.length_drop, HLEN.out]; omega), List.take_of_length_le (by rw [List.length_append, List.length_take, List.length_drop, HLEN.out]; omega)] at this
    exact this
  · obtain rfl : i = k := by omega
    obtain rfl : c = i + 1 := by omega
    have hic : i ≤ i + 1 := by omega
    have hikI : (0 : Int) ≤ (i : Int) + 1 := by omega
    go_region_law ((refine step_own_room w.drew rfl (.tmp 22) (.tmp 25) 73 73 rfl 65 (.agg #[.int .i64 0, .int .i64 0, .slice none 0 0]) 3 40 Try.info65 Try.underlying73 g (i + 1) i (us.take (i * 3)) rfl (Own.cut (H.out.drew) (by omega) (by omega) (Nat.le_refl _)) _ 0 (us.drop ((i + 1) * 3)) rfl (by have := Own.dropSrc0 H.out.drew Try.underlying73 (k := i + 1) (Nat.le_refl _) ⟨g, 0, none⟩ 0 0 (by omega); exact this) (by omega) ?_))
    obtain ⟨w2, hw2⟩ : ∃ w2, w2 = w.drew.setCells g (i * 3) (us.drop ((i + 1) * 3)) := ⟨_, rfl⟩
    rw [← hw2]
    have hlen := H.out.1
    have O2 := own_put H.out.drew (i * 3) (us.drop ((i + 1) * 3)) (by rw [List.length_drop]; omega)
    have T2 : Touch (fun k => k = g) w w2 := by rw [hw2]; exact touch_setCells (S := fun k => k = g) ((Touch.refl (fun k => k = g) w).drew) rfl _ _
    rw [← hw2] at O2
    have hcl : ∀ ty, (Builtin.clear_ #[73] ty #[.slice (some ⟨g, i * 3, none⟩) 1 1]).run Try.prog w2 = .ok (.tuple #[]) (w2.setCells g (i * 3) [.int .i64 0, .int .i64 0, .slice none 0 0]) := fun ty => clear_parcel w2 g (i + 1) (i + 1) i 1 _ O2 rfl ty
    have hkc : i ≤ i + 1 := by omega
    have hck : ¬ i + 1 = i := by omega
    have hk1 : i + 1 - i = 1 := by omega
    have HO2 := Lib.hid O2; have HT2 := Lib.hid T2; have HLEN := Lib.hid hlen
    clear hw2 O2 T2 hlen
    go_wp2_with fail
    go_ret
    refine ⟨touch_setCells HT2.out rfl _ _, rfl, ?_⟩
    have := own_tail HO2.out (k := i) (Nat.le_succ _) [.int .i64 0, .int .i64 0, .slice none 0 0] (by rw [hk1]; rfl)
    rw [List.take_append_of_le_length (by rw [List.length_append, List.length_take, List.length_drop, HLEN.out]; omega), List.take_of_length_le (by rw [List.length_append, List.length_take, List.length_drop, HLEN.out]; omega)] at this
    exact this
end Go.Proofs.Ythmjnlkdoepmjaa
