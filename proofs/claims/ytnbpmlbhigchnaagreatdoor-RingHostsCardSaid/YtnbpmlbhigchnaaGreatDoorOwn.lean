/- Rows of the call's own whose block may be longer than their capacity; append onto such a row out of whatever source. No condition. -/
import Derived.Test.YtnbpmlbhigchnaaGreatDoorBase
import Derived.Deep.Upon
import Derived.Laws.OwnMore
import Derived.Laws.BytesArg
namespace Go.Proofs.YtnbpmlbhigchnaaGreatDoor
open Go.RowKit

theorem alloc_size (w : World) (o : Obj) : (w.alloc o).heap.size = w.heap.size + 1 := by simp
theorem add_flat (b o j : Nat) : (⟨b, o, none⟩ : Addr).add j = ⟨b, o + j, none⟩ := by unfold Addr.add; split <;> simp_all

def Own (w : World) (e : TypeId) (size : Nat) (v : Value) (n : Nat) (xs : List Value) : Prop :=
  xs.length = n * size ∧ ((v = .slice none 0 0 ∧ n = 0) ∨
    ∃ g cap cur, v = .slice (some ⟨g, 0, none⟩) n cap ∧ w.heap[g]? = some (.cells cur e (0, 0)) ∧ n ≤ cap ∧ cap ≤ maxLen ∧ cap * size ≤ cur.size ∧ cur.toList.take (n * size) = xs)
section
variable {w w' : World} {e : TypeId} {size n : Nat} {v : Value} {xs : List Value}
theorem Own.ofRow {base : Nat} (h : w.ownsRow base e size v n xs) : Own w e size v n xs := by
  refine ⟨h.1, ?_⟩
  rcases h.2 with h | ⟨g, cap, cur, rfl, _, hg, h1, h2, h3, h4⟩
  · exact .inl h
  · exact .inr ⟨g, cap, cur, rfl, hg, h1, h2, by omega, h4⟩
theorem Own.nil_ (w : World) (e : TypeId) (size : Nat) : Own w e size (.slice none 0 0) 0 [] := ⟨by simp, .inl ⟨rfl, rfl⟩⟩
theorem Own.lt (h : Own w e size v n xs) : ∀ k, v.ownBlock = some k → k < w.heap.size := by
  intro k hk
  rcases h.2 with ⟨rfl, _⟩ | ⟨g, cap, cur, rfl, hg, _⟩
  · simp [Value.ownBlock] at hk
  · simp only [Value.ownBlock, Option.some.injEq] at hk
    subst hk
    exact (Array.getElem?_eq_some_iff.1 hg).1
theorem Own.heap (h : Own w e size v n xs) (hb : ∀ k, v.ownBlock = some k → w'.heap[k]? = w.heap[k]?) : Own w' e size v n xs := by
  refine ⟨h.1, ?_⟩
  rcases h.2 with h | ⟨g, cap, cur, rfl, hg, rest⟩
  · exact .inl h
  · exact .inr ⟨g, cap, cur, rfl, (hb g rfl).trans hg, rest⟩
theorem Own.touch {S : Nat → Prop} (h : Own w e size v n xs) (hb : Touch S w w') (hn : ∀ k, v.ownBlock = some k → ¬ S k) : Own w' e size v n xs :=
  h.heap fun k hk => hb.block k (h.lt k hk) (hn k hk)
theorem Own.alloc (h : Own w e size v n xs) (o : Obj) : Own (w.alloc o) e size v n xs := h.heap fun k hk => Below.heap_alloc w o k (h.lt k hk)
theorem Own.drew (h : Own w e size v n xs) : Own w.drew e size v n xs := h
theorem Own.drewN (h : Own w e size v n xs) (j : Nat) : Own (w.drewN j) e size v n xs := h
theorem Own.far (h : Own w e size v n xs) {p : Addr} (hp : v.ownBlock ≠ some p.block) (u : Value) : Own (w.setCell p u) e size v n xs :=
  h.heap fun k hk => Below.heap_setCell w p u k (fun e => hp (by rw [hk, e]))
theorem Own.grown {row : Option Nat} (h : Own w e size v n xs) (hg : w.grownBy w' row) (hn : ∀ k, v.ownBlock = some k → some k ≠ row) : Own w' e size v n xs :=
  h.heap fun k hk => hg.block k (h.lt k hk) (hn k hk)
theorem Own.ne_blk {g : Nat} {t : TypeId} {cs : Array Value} (h : Own w e size v n xs) (hg : Blk w g t cs) (hne : e ≠ t) : v.ownBlock ≠ some g := by
  rcases h.2 with ⟨rfl, _⟩ | ⟨g', cap, cur, rfl, hh, _⟩
  · simp [Value.ownBlock]
  · intro he
    have : g' = g := by simpa [Value.ownBlock] using he
    subst this
    exact Blk.ne_ (t := e) hh hg hne rfl
theorem Own.form (h : Own w e size v n xs) : ∃ A c, v = .slice A n c ∧ n ≤ c ∧ c ≤ maxLen ∧ ((A = none ∧ n = 0 ∧ c = 0) ∨ ∃ g, A = some ⟨g, 0, none⟩) := by
  rcases h.2 with ⟨rfl, rfl⟩ | ⟨g, cap, cur, rfl, _, h1, h2, _⟩
  · exact ⟨none, 0, rfl, Nat.le_refl _, by simp [maxLen], .inl ⟨rfl, rfl, rfl⟩⟩
  · exact ⟨_, cap, rfl, h1, h2, .inr ⟨g, rfl⟩⟩
theorem Own.parts {g c : Nat} (h : Own w e size (.slice (some ⟨g, 0, none⟩) n c) n xs) : ∃ cur, w.heap[g]? = some (.cells cur e (0, 0)) ∧ n ≤ c ∧ c ≤ maxLen ∧ c * size ≤ cur.size ∧ cur.toList.take (n * size) = xs := by
  rcases h.2 with ⟨h, _⟩ | ⟨g', cap, cur, hv, rest⟩
  · cases h
  · injection hv with h1 h2 h3
    injection h1 with h1
    injection h1 with h1
    subst h1 h3
    exact ⟨cur, rest⟩
theorem Own.cell {g c : Nat} (h : Own w e size (.slice (some ⟨g, 0, none⟩) n c) n xs) {j : Nat} (hj : j < n * size) : w.cell? ⟨g, j, none⟩ = xs[j]? := by
  obtain ⟨cur, hg, h1, h2, h3, h4⟩ := h.parts
  rw [cell_of_row w g j cur e (0, 0) hg, ← h4, List.getElem?_take, if_pos hj]
  simp
theorem Own.frozen {g c : Nat} (h : Own w e size (.slice (some ⟨g, 0, none⟩) n c) n xs) (j : Nat) : w.frozen? ⟨g, j, none⟩ = false := by
  obtain ⟨cur, hg, _⟩ := h.parts
  exact frozen_of_row w g j cur e hg
theorem Own.stored {g c : Nat} (h : Own w e size (.slice (some ⟨g, 0, none⟩) n c) n xs) (j : Nat) (u : Value) : Own (w.setCell ⟨g, j, none⟩ u) e size (.slice (some ⟨g, 0, none⟩) n c) n (xs.set j u) := by
  obtain ⟨cur, hg, h1, h2, h3, h4⟩ := h.parts
  refine ⟨by rw [List.length_set]; exact h.1, .inr ⟨g, c, cur.setIfInBounds j u, rfl, ?_, h1, h2, by simpa using h3, ?_⟩⟩
  · simp [World.setCell, Array.getElem?_modify, hg]
  · rw [Array.toList_setIfInBounds, List.take_set, h4]
theorem Own.cut {g c : Nat} (h : Own w e size (.slice (some ⟨g, 0, none⟩) n c) n xs) {k c' : Nat} (hk : k ≤ n) (hc : k ≤ c') (hc' : c' ≤ c) : Own w e size (.slice (some ⟨g, 0, none⟩) k c') k (xs.take (k * size)) := by
  obtain ⟨cur, hg, h1, h2, h3, h4⟩ := h.parts
  have hks : k * size ≤ n * size := Nat.mul_le_mul_right _ hk
  refine ⟨by rw [List.length_take, h.1]; omega, .inr ⟨g, c', cur, rfl, hg, hc, Nat.le_trans hc' h2, Nat.le_trans (Nat.mul_le_mul_right _ hc') h3, ?_⟩⟩
  rw [← h4, List.take_take, Nat.min_eq_left hks]
theorem Own.src {P : Program} {t e' : TypeId} (h : Own w e size v n xs) (ht : P.underlying t = some (.slice e')) (h1 : ∀ u ∈ xs, u.oneCell' = true) : Src P size t v n xs w := by
  rcases h.2 with ⟨rfl, hn⟩ | ⟨g, cap, cur, rfl, hg, h2, h3, h4, h5⟩
  · subst hn
    have : xs = [] := List.eq_nil_of_length_eq_zero (by have := h.1; omega)
    subst this
    exact Src.ofNil w ht 0
  · refine Src.ofSlice w ht _ _ _ _ h.1 (fun j u hu => ?_) h1
    have hj : j < n * size := by have := (List.getElem?_eq_some_iff.1 hu).1; have := h.1; omega
    rw [add_flat, Nat.zero_add, h.cell hj]
    exact hu
end

theorem tape_setCells (g : Nat) : ∀ (vs : List Value) (o : Nat) (w : World), (w.setCells g o vs).tape = w.tape
  | [], _, _ => rfl
  | v :: r, o, w => by rw [World.setCells, tape_setCells g r]; rfl
theorem size_setCells (g : Nat) : ∀ (vs : List Value) (o : Nat) (w : World), (w.setCells g o vs).heap.size = w.heap.size
  | [], _, _ => rfl
  | v :: r, o, w => by rw [World.setCells, size_setCells g r]; simp [World.setCell]
theorem heap_setCells_self (g : Nat) (e : TypeId) (f : Nat × Nat) : ∀ (vs : List Value) (o : Nat) (w : World) (cur : Array Value), w.heap[g]? = some (.cells cur e f) → o + vs.length ≤ cur.size →
    (w.setCells g o vs).heap[g]? = some (.cells (cur.toList.take o ++ vs ++ cur.toList.drop (o + vs.length)).toArray e f)
  | [], o, w, cur, hg, _ => by
    rw [World.setCells, hg]
    simp
  | v :: r, o, w, cur, hg, hs => by
    simp only [List.length_cons] at hs
    have h1 : (w.setCell ⟨g, o, none⟩ v).heap[g]? = some (.cells (cur.setIfInBounds o v) e f) := by
      simp [World.setCell, Array.getElem?_modify, hg]
    rw [World.setCells, heap_setCells_self g e f r (o + 1) _ _ h1 (by simp; omega)]
    congr 3
    have hl : o < cur.toList.length := by simp; omega
    rw [Array.toList_setIfInBounds, List.set_eq_take_append_cons_drop, if_pos hl]
    have e1 : (cur.toList.take o).length = o := by simp; omega
    have e2 : (cur.toList.take o).drop (o + 1 + r.length) = [] := List.drop_eq_nil_of_le (by omega)
    rw [List.take_append, List.drop_append, e1, List.take_of_length_le (l := cur.toList.take o) (by omega), e2]
    rw [show o + 1 - o = 1 by omega, show o + 1 + r.length - o = r.length + 1 by omega]
    simp only [List.take_succ_cons, List.take_zero, List.drop_succ_cons, List.nil_append, List.append_assoc, List.cons_append, List.drop_drop, List.length_cons]
    rw [show o + 1 + r.length = o + (r.length + 1) by omega]

section
variable {P : Program}
theorem run_own_src (w : World) (t tx ty e : TypeId) (i : TypeInfo) (z : Value) (size bytes : Nat) (ht : P.underlying t = some (.slice e)) (hi : P.info? e = some i) (hz : i.zero = some z) (hsize : i.size = size) (hby : i.bytes = bytes) (hzs : z.cells.size = size)
    (v : Value) (n : Nat) (xs : List Value) (hown : Own w e size v n xs) (h1 : ∀ u ∈ xs, u.oneCell' = true) (x : Value) (m : Nat) (news : List Value) (hs : Src P size tx x m news w) (h63 : n + m ≤ maxLen) (hbytes : (n + m) * bytes ≤ 140737488355328) :
    ∃ B c' w', (Builtin.append_ #[t, tx] ty #[v, x]).run P w = .ok (.slice B (n + m) c') w' ∧ Own w' e size (.slice B (n + m) c') (n + m) (xs ++ news) ∧ w.grownBy w' v.ownBlock ∧
      ((Value.slice B (n + m) c').ownBlock = v.ownBlock ∨ (Value.slice B (n + m) c').ownBlock = some w.heap.size) := by
  subst hsize
  subst hby
  have hlen : (xs ++ news).length = (n + m) * i.size := by rw [List.length_append, hown.1, hs.newsLen, Nat.add_mul]
  have hm63 : ((n + m : Nat) : Int) ≤ 9223372036854775807 := by unfold maxLen at h63; omega
  have grow : ∀ (A : Option Addr) (c : Nat), c < n + m → (Builtin.firstCells i.size n (.slice A n c)).run P w.drew = .ok xs.toArray w.drew →
      ∃ B c' w', (Builtin.append_ #[t, tx] ty #[.slice A n c, x]).run P w = .ok (.slice B (n + m) c') w' ∧ Own w' e i.size (.slice B (n + m) c') (n + m) (xs ++ news) ∧ w.grownBy w' (Value.slice A n c).ownBlock ∧
        ((Value.slice B (n + m) c').ownBlock = (Value.slice A n c).ownBlock ∨ (Value.slice B (n + m) c').ownBlock = some w.heap.size) := by
    intro A c hc hold
    have hrun := run_append_grow_src (P := P) w t tx ty e i z ht hi hz A n c xs hold x m news hs hc hm63 (growslice_fits hc hbytes)
    have hge := grownCap_ge w (n + m) c e
    have hcm := grownCap_le_maxLen w (n + m) c e h63
    refine ⟨_, _, _, hrun, ⟨hlen, .inr ⟨w.heap.size, _, _, rfl, heap_alloc_new w.drew _, hge, hcm, ?_, ?_⟩⟩, ⟨rfl, rfl, rfl, by simp, fun k hk _ => Below.heap_alloc w.drew _ k hk⟩, .inr rfl⟩
    · rw [Array.size_append, List.size_toArray, hlen, size_zeroCells, hzs, ← Nat.add_mul]
      exact Nat.le_of_eq (by congr 1; omega)
    · rw [Array.toList_append, ← hlen]
      exact List.take_left
  by_cases h0 : m = 0
  · subst h0
    have hn : news = [] := List.eq_nil_of_length_eq_zero (by have := hs.newsLen; omega)
    subst hn
    obtain ⟨A, c, rfl, hle, _⟩ := hown.form
    exact ⟨A, c, w, run_append_nothing w t tx ty e i ht hi A n c hle x hs, by simpa using hown, ⟨rfl, rfl, rfl, Nat.le_refl _, fun _ _ _ => rfl⟩, .inl rfl⟩
  · rcases hown.2 with ⟨rfl, rfl⟩ | ⟨g, cap, cur, rfl, hg, hnc, hcm, hcs, htake⟩
    · have hx : xs = [] := List.eq_nil_of_length_eq_zero (by have := hown.1; omega)
      subst hx
      exact grow none 0 (by omega) (run_firstCells_none w.drew i.size 0 0 0)
    · by_cases hroom : n + m ≤ cap
      · have hr : (n + m) * i.size ≤ cap * i.size := Nat.mul_le_mul_right _ hroom
        rw [Nat.add_mul] at hr
        have hfit : n * i.size + news.length ≤ cur.size := by rw [hs.newsLen]; omega
        have hrun := run_append_room_src (P := P) w t tx ty e i ht hi g 0 n cap x m news hs hroom (fun j hj => by
          rw [cell_of_row w g _ cur e (0, 0) hg, Array.getElem?_eq_getElem (by omega)]; rfl) (fun j _ => frozen_of_row w g _ cur e hg)
        rw [Nat.zero_add] at hrun
        refine ⟨_, _, _, hrun, ⟨hlen, .inr ⟨g, cap, _, rfl, heap_setCells_self g e (0, 0) news (n * i.size) w cur hg hfit, hroom, hcm, ?_, ?_⟩⟩, ⟨?_, ?_, ?_, ?_, fun k hk hne => ?_⟩, .inl rfl⟩
        · simp only [List.size_toArray, List.length_append, List.length_take, List.length_drop, Array.length_toList]
          omega
        · rw [htake, ← hlen]
          exact List.take_left
        · exact World.os_setCells w g _ news
        · exact tape_setCells g news _ w
        · exact World.output_setCells w g _ news
        · exact Nat.le_of_eq (size_setCells g news _ w).symm
        · exact World.heap_setCells_other w g _ news hk (fun e => hne (by rw [e]; rfl))
      · have hold := (hown.src (P := P) (t := t) ht h1).cellsD
        exact grow _ cap (by omega) hold
theorem wp_own_src (w : World) {o : Oper} {a : Act} {K : Act → World → Prop} {Q : Exit → Act → World → Prop} (s x : Operand) (t tx : TypeId)
    (ho : o.op = .call { callee := .builtin .append, args := #[s, x], argTypes := #[t, tx] })
    (e : TypeId) (z : Value) (size bytes : Nat) (hinfo : (P.info? e).map (fun i => (i.zero, i.size, i.bytes)) = some (some z, size, bytes)) (ht : P.underlying t = some (.slice e)) (hzs : z.cells.size = size)
    (v : Value) (n : Nat) (xs : List Value) (hv : a.eval s = v) (hown : Own w e size v n xs) (h1 : ∀ u ∈ xs, u.oneCell' = true) (y : Value) (m : Nat) (news : List Value) (hx : a.eval x = y) (hs : Src P size tx y m news w) (h63 : n + m ≤ maxLen) (hbytes : (n + m) * bytes ≤ 140737488355328)
    (h : ∀ B c' w', Own w' e size (.slice B (n + m) c') (n + m) (xs ++ news) → w.grownBy w' v.ownBlock → ((Value.slice B (n + m) c').ownBlock = v.ownBlock ∨ (Value.slice B (n + m) c').ownBlock = some w.heap.size) → K (a.put o.dst (.slice B (n + m) c')) w') : o.wp P a w K Q := by
  obtain ⟨i, hi, hz, hs1, hb1⟩ := info_parts hinfo
  obtain ⟨B, c', w', hr, h2, h3, h4⟩ := run_own_src (P := P) w t tx o.type e i z size bytes ht hi hz hs1 hb1 hzs v n xs hown h1 y m news hs h63 hbytes
  unfold Oper.wp execOp
  simp only [ho, resolve, invoke, builtin, Sem.run_bind, Sem.run_pure, Result.andThen_ok, List.map_toArray, List.map_cons, List.map_nil, hv, hx, hr]
  exact h B c' w' h2 h3 h4
theorem wpList_own_src (w : World) {ops : Array Oper} {rest : List Oper} {o : Oper} {a : Act} {Q : Exit → Act → World → Prop} (hgd : o.guard = none) (s x : Operand) (t tx : TypeId)
    (ho : o.op = .call { callee := .builtin .append, args := #[s, x], argTypes := #[t, tx] })
    (e : TypeId) (z : Value) (size bytes : Nat) (hinfo : (P.info? e).map (fun i => (i.zero, i.size, i.bytes)) = some (some z, size, bytes)) (ht : P.underlying t = some (.slice e)) (hzs : z.cells.size = size)
    (v : Value) (n : Nat) (xs : List Value) (hv : a.eval s = v) (hown : Own w e size v n xs) (h1 : ∀ u ∈ xs, u.oneCell' = true) (y : Value) (m : Nat) (news : List Value) (hx : a.eval x = y) (hs : Src P size tx y m news w) (h63 : n + m ≤ maxLen) (hbytes : (n + m) * bytes ≤ 140737488355328)
    (h : ∀ B c' w', Own w' e size (.slice B (n + m) c') (n + m) (xs ++ news) → w.grownBy w' v.ownBlock → ((Value.slice B (n + m) c').ownBlock = v.ownBlock ∨ (Value.slice B (n + m) c').ownBlock = some w.heap.size) → wpList P ops Q rest (a.put o.dst (.slice B (n + m) c')) w') : wpList P ops Q (o :: rest) a w :=
  wpList_plain hgd fun _ hK => wp_own_src w s x t tx ho e z size bytes hinfo ht hzs v n xs hv hown h1 y m news hx hs h63 hbytes fun B c' w' h2 h3 h4 => hK _ _ (h B c' w' h2 h3 h4)
/-- the same in a region that draws -/
theorem step_own_src (w : World) {ops : Array Oper} {o : Oper} {a : Act} {K : Act → World → Prop} {Q : Exit → Act → World → Prop} {E : Prop} (hgd : o.guard = none) (s x : Operand) (t tx : TypeId)
    (ho : o.op = .call { callee := .builtin .append, args := #[s, x], argTypes := #[t, tx] })
    (e : TypeId) (z : Value) (size bytes : Nat) (hinfo : (P.info? e).map (fun i => (i.zero, i.size, i.bytes)) = some (some z, size, bytes)) (ht : P.underlying t = some (.slice e)) (hzs : z.cells.size = size)
    (v : Value) (n : Nat) (xs : List Value) (hv : a.eval s = v) (hown : Own w e size v n xs) (h1 : ∀ u ∈ xs, u.oneCell' = true) (y : Value) (m : Nat) (news : List Value) (hx : a.eval x = y) (hs : Src P size tx y m news w) (h63 : n + m ≤ maxLen) (hbytes : (n + m) * bytes ≤ 140737488355328)
    (h : ∀ B c' w', Own w' e size (.slice B (n + m) c') (n + m) (xs ++ news) → w.grownBy w' v.ownBlock → ((Value.slice B (n + m) c').ownBlock = v.ownBlock ∨ (Value.slice B (n + m) c').ownBlock = some w.heap.size) → K (a.put o.dst (.slice B (n + m) c')) w') :
    if Region.wanted o (yielded ops a.tmps) = true then Oper.wp P o a w K Q else E := by
  have hw : Region.wanted o (yielded ops a.tmps) = true := by simp [Region.wanted, hgd]
  rw [if_pos hw]
  exact wp_own_src w s x t tx ho e z size bytes hinfo ht hzs v n xs hv hown h1 y m news hx hs h63 hbytes h
end

/-- Bytes of the call's own. -/
def Raw (w : World) (v : Value) (xs : List UInt8) : Prop := Own w 5 1 v xs.length (u8s xs)
theorem Raw.bs {w : World} {A : Option Addr} {n c : Nat} {xs : List UInt8} (hl : xs.length = n) (h : Raw w (.slice A n c) xs) : Bs w A n c xs := by
  subst hl
  unfold Raw at h
  obtain ⟨A', c', hv, hle, hm, hA⟩ := h.form
  injection hv with e1 _ e3
  subst e1 e3
  refine ⟨rfl, hle, hm, fun h0 => ?_⟩
  rcases hA with ⟨_, h2, _⟩ | ⟨g, rfl⟩
  · omega
  · refine ⟨g, 0, rfl, fun j x hx => ?_⟩
    have hj : j < xs.length := (List.getElem?_eq_some_iff.1 hx).1
    have := h.cell (j := j) (by omega)
    rw [Nat.zero_add, this, u8s_get, hx]
    rfl
theorem Raw.ofRow {w : World} {v : Value} {xs : List UInt8} (h : Row w v xs) : Raw w v xs := Own.ofRow h
theorem Bs.src {P : Program} {w : World} {A : Option Addr} {n c : Nat} {xs : List UInt8} {t e' : TypeId} (h : Bs w A n c xs) (ht : P.underlying t = some (.slice e')) : Src P 1 t (.slice A n c) n (u8s xs) w := by
  have hl := h.1
  subst hl
  by_cases h0 : xs = []
  · subst h0
    cases A with
    | none => exact Src.ofNil w ht c
    | some a => exact Src.ofSlice w ht a 0 c [] (by simp) (by simp) (by simp)
  · obtain ⟨b, o, rfl, hc⟩ := h.2.2.2 (List.length_pos_iff.2 h0)
    refine Src.ofSlice w ht _ _ _ _ (by rw [u8s_length]; omega) (fun j u hu => ?_) (u8s_one xs)
    rw [u8s_get] at hu
    obtain ⟨y, hy, rfl⟩ := Option.map_eq_some_iff.1 hu
    rw [add_flat]
    exact hc j y hy
end Go.Proofs.YtnbpmlbhigchnaaGreatDoor
