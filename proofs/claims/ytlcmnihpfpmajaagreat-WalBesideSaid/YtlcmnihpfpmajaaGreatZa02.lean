/- The wal claims' texts, several in one: Own, Keep. Conditions stand with each theorem. -/
import Derived.Test.YtlcmnihpfpmajaaGreatZa01
import Derived.Deep.Upon
import Derived.Laws.OwnMore
import Derived.Laws.BytesArg
import Derived.WalkSpells
/- Rows of the call's own whose block may be longer than their capacity; append onto such a row out of whatever source. No condition. -/
namespace Go.Proofs.YtlcmnihpfpmajaaGreat
open Go.RowKit

theorem alloc_size (w : World) (o : Obj) : (w.alloc o).heap.size = w.heap.size + 1 := by simp
theorem add_flat (b o j : Nat) : (⟨b, o, none⟩ : Addr).add j = ⟨b, o + j, none⟩ := by unfold Addr.add; split <;> simp_all

def Own (w : World) (e : TypeId) (size : Nat) (v : Value) (n : Nat) (xs : List Value) : Prop :=
  xs.length = n * size ∧ ((v = .slice none 0 0 ∧ n = 0) ∨
    ∃ g cap cur, v = .slice (some ⟨g, 0, none⟩) n cap ∧ w.heap[g]? = some (.cells cur e (0, 0)) ∧ n ≤ cap ∧ cap ≤ maxLen ∧ cap * size ≤ cur.size ∧ cur.toList.take (n * size) = xs)
section
variable {w w' : World} {e : TypeId} {size n : Nat} {v : Value} {xs : List Value}
theorem Own.ofRow {base : Nat} (h : w.ownsRow base e size v n xs) : Own w e size v n xs := by
  refine ⟨h.1, ?_⟩
  rcases h.2 with h | ⟨g, cap, cur, rfl, _, hg, h1, h2, h3, h4⟩
  · exact .inl h
  · exact .inr ⟨g, cap, cur, rfl, hg, h1, h2, by omega, h4⟩
theorem Own.nil_ (w : World) (e : TypeId) (size : Nat) : Own w e size (.slice none 0 0) 0 [] := ⟨by simp, .inl ⟨rfl, rfl⟩⟩
theorem Own.lt (h : Own w e size v n xs) : ∀ k, v.ownBlock = some k → k < w.heap.size := by
  intro k hk
  rcases h.2 with ⟨rfl, _⟩ | ⟨g, cap, cur, rfl, hg, _⟩
  · simp [Value.ownBlock] at hk
  · simp only [Value.ownBlock, Option.some.injEq] at hk
    subst hk
    exact (Array.getElem?_eq_some_iff.1 hg).1
theorem Own.heap (h : Own w e size v n xs) (hb : ∀ k, v.ownBlock = some k → w'.heap[k]? = w.heap[k]?) : Own w' e size v n xs := by
  refine ⟨h.1, ?_⟩
  rcases h.2 with h | ⟨g, cap, cur, rfl, hg, rest⟩
  · exact .inl h
  · exact .inr ⟨g, cap, cur, rfl, (hb g rfl).trans hg, rest⟩
theorem Own.touch {S : Nat → Prop} (h : Own w e size v n xs) (hb : Touch S w w') (hn : ∀ k, v.ownBlock = some k → ¬ S k) : Own w' e size v n xs :=
  h.heap fun k hk => hb.block k (h.lt k hk) (hn k hk)
theorem Own.alloc (h : Own w e size v n xs) (o : Obj) : Own (w.alloc o) e size v n xs := h.heap fun k hk => Below.heap_alloc w o k (h.lt k hk)
theorem Own.drew (h : Own w e size v n xs) : Own w.drew e size v n xs := h
theorem Own.drewN (h : Own w e size v n xs) (j : Nat) : Own (w.drewN j) e size v n xs := h
theorem Own.far (h : Own w e size v n xs) {p : Addr} (hp : v.ownBlock ≠ some p.block) (u : Value) : Own (w.setCell p u) e size v n xs :=
  h.heap fun k hk => Below.heap_setCell w p u k (fun e => hp (by rw [hk, e]))
theorem Own.grown {row : Option Nat} (h : Own w e size v n xs) (hg : w.grownBy w' row) (hn : ∀ k, v.ownBlock = some k → some k ≠ row) : Own w' e size v n xs :=
  h.heap fun k hk => hg.block k (h.lt k hk) (hn k hk)
theorem Own.ne_blk {g : Nat} {t : TypeId} {cs : Array Value} (h : Own w e size v n xs) (hg : Blk w g t cs) (hne : e ≠ t) : v.ownBlock ≠ some g := by
  rcases h.2 with ⟨rfl, _⟩ | ⟨g', cap, cur, rfl, hh, _⟩
  · simp [Value.ownBlock]
  · intro he
    have : g' = g := by simpa [Value.ownBlock] using he
    subst this
    exact Blk.ne_ (t := e) hh hg hne rfl
theorem Own.form (h : Own w e size v n xs) : ∃ A c, v = .slice A n c ∧ n ≤ c ∧ c ≤ maxLen ∧ ((A = none ∧ n = 0 ∧ c = 0) ∨ ∃ g, A = some ⟨g, 0, none⟩) := by
  rcases h.2 with ⟨rfl, rfl⟩ | ⟨g, cap, cur, rfl, _, h1, h2, _⟩
  · exact ⟨none, 0, rfl, Nat.le_refl _, by simp [maxLen], .inl ⟨rfl, rfl, rfl⟩⟩
  · exact ⟨_, cap, rfl, h1, h2, .inr ⟨g, rfl⟩⟩
theorem Own.parts {g c : Nat} (h : Own w e size (.slice (some ⟨g, 0, none⟩) n c) n xs) : ∃ cur, w.heap[g]? = some (.cells cur e (0, 0)) ∧ n ≤ c ∧ c ≤ maxLen ∧ c * size ≤ cur.size ∧ cur.toList.take (n * size) = xs := by
  rcases h.2 with ⟨h, _⟩ | ⟨g', cap, cur, hv, rest⟩
  · cases h
  · injection hv with h1 h2 h3
    injection h1 with h1
    injection h1 with h1
    subst h1 h3
    exact ⟨cur, rest⟩
theorem Own.cell {g c : Nat} (h : Own w e size (.slice (some ⟨g, 0, none⟩) n c) n xs) {j : Nat} (hj : j < n * size) : w.cell? ⟨g, j, none⟩ = xs[j]? := by
  obtain ⟨cur, hg, h1, h2, h3, h4⟩ := h.parts
  rw [cell_of_row w g j cur e (0, 0) hg, ← h4, List.getElem?_take, if_pos hj]
  simp
theorem Own.frozen {g c : Nat} (h : Own w e size (.slice (some ⟨g, 0, none⟩) n c) n xs) (j : Nat) : w.frozen? ⟨g, j, none⟩ = false := by
  obtain ⟨cur, hg, _⟩ := h.parts
  exact frozen_of_row w g j cur e hg
theorem Own.stored {g c : Nat} (h : Own w e size (.slice (some ⟨g, 0, none⟩) n c) n xs) (j : Nat) (u : Value) : Own (w.setCell ⟨g, j, none⟩ u) e size (.slice (some ⟨g, 0, none⟩) n c) n (xs.set j u) := by
  obtain ⟨cur, hg, h1, h2, h3, h4⟩ := h.parts
  refine ⟨by rw [List.length_set]; exact h.1, .inr ⟨g, c, cur.setIfInBounds j u, rfl, ?_, h1, h2, by simpa using h3, ?_⟩⟩
  · simp [World.setCell, Array.getElem?_modify, hg]
  · rw [Array.toList_setIfInBounds, List.take_set, h4]
theorem Own.cut {g c : Nat} (h : Own w e size (.slice (some ⟨g, 0, none⟩) n c) n xs) {k c' : Nat} (hk : k ≤ n) (hc : k ≤ c') (hc' : c' ≤ c) : Own w e size (.slice (some ⟨g, 0, none⟩) k c') k (xs.take (k * size)) := by
  obtain ⟨cur, hg, h1, h2, h3, h4⟩ := h.parts
  have hks : k * size ≤ n * size := Nat.mul_le_mul_right _ hk
  refine ⟨by rw [List.length_take, h.1]; omega, .inr ⟨g, c', cur, rfl, hg, hc, Nat.le_trans hc' h2, Nat.le_trans (Nat.mul_le_mul_right _ hc') h3, ?_⟩⟩
  rw [← h4, List.take_take, Nat.min_eq_left hks]
theorem Own.src {P : Program} {t e' : TypeId} (h : Own w e size v n xs) (ht : P.underlying t = some (.slice e')) (h1 : ∀ u ∈ xs, u.oneCell' = true) : Src P size t v n xs w := by
  rcases h.2 with ⟨rfl, hn⟩ | ⟨g, cap, cur, rfl, hg, h2, h3, h4, h5⟩
  · subst hn
    have : xs = [] := List.eq_nil_of_length_eq_zero (by have := h.1; omega)
    subst this
    exact Src.ofNil w ht 0
  · refine Src.ofSlice w ht _ _ _ _ h.1 (fun j u hu => ?_) h1
    have hj : j < n * size := by have := (List.getElem?_eq_some_iff.1 hu).1; have := h.1; omega
    rw [add_flat, Nat.zero_add, h.cell hj]
    exact hu
end

theorem tape_setCells (g : Nat) : ∀ (vs : List Value) (o : Nat) (w : World), (w.setCells g o vs).tape = w.tape
  | [], _, _ => rfl
  | v :: r, o, w => by rw [World.setCells, tape_setCells g r]; rfl
theorem size_setCells (g : Nat) : ∀ (vs : List Value) (o : Nat) (w : World), (w.setCells g o vs).heap.size = w.heap.size
  | [], _, _ => rfl
  | v :: r, o, w => by rw [World.setCells, size_setCells g r]; simp [World.setCell]
theorem heap_setCells_self (g : Nat) (e : TypeId) (f : Nat × Nat) : ∀ (vs : List Value) (o : Nat) (w : World) (cur : Array Value), w.heap[g]? = some (.cells cur e f) → o + vs.length ≤ cur.size →
    (w.setCells g o vs).heap[g]? = some (.cells (cur.toList.take o ++ vs ++ cur.toList.drop (o + vs.length)).toArray e f)
  | [], o, w, cur, hg, _ => by
    rw [World.setCells, hg]
    simp
  | v :: r, o, w, cur, hg, hs => by
    simp only [List.length_cons] at hs
    have h1 : (w.setCell ⟨g, o, none⟩ v).heap[g]? = some (.cells (cur.setIfInBounds o v) e f) := by
      simp [World.setCell, Array.getElem?_modify, hg]
    rw [World.setCells, heap_setCells_self g e f r (o + 1) _ _ h1 (by simp; omega)]
    congr 3
    have hl : o < cur.toList.length := by simp; omega
    rw [Array.toList_setIfInBounds, List.set_eq_take_append_cons_drop, if_pos hl]
    have e1 : (cur.toList.take o).length = o := by simp; omega
    have e2 : (cur.toList.take o).drop (o + 1 + r.length) = [] := List.drop_eq_nil_of_le (by omega)
    rw [List.take_append, List.drop_append, e1, List.take_of_length_le (l := cur.toList.take o) (by omega), e2]
    rw [show o + 1 - o = 1 by omega, show o + 1 + r.length - o = r.length + 1 by omega]
    simp only [List.take_succ_cons, List.take_zero, List.drop_succ_cons, List.nil_append, List.append_assoc, List.cons_append, List.drop_drop, List.length_cons]
    rw [show o + 1 + r.length = o + (r.length + 1) by omega]

section
variable {P : Program}
theorem run_own_src (w : World) (t tx ty e : TypeId) (i : TypeInfo) (z : Value) (size bytes : Nat) (ht : P.underlying t = some (.slice e)) (hi : P.info? e = some i) (hz : i.zero = some z) (hsize : i.size = size) (hby : i.bytes = bytes) (hzs : z.cells.size = size)
    (v : Value) (n : Nat) (xs : List Value) (hown : Own w e size v n xs) (h1 : ∀ u ∈ xs, u.oneCell' = true) (x : Value) (m : Nat) (news : List Value) (hs : Src P size tx x m news w) (h63 : n + m ≤ maxLen) (hbytes : (n + m) * bytes ≤ 140737488355328) :
    ∃ B c' w', (Builtin.append_ #[t, tx] ty #[v, x]).run P w = .ok (.slice B (n + m) c') w' ∧ Own w' e size (.slice B (n + m) c') (n + m) (xs ++ news) ∧ w.grownBy w' v.ownBlock ∧
      ((Value.slice B (n + m) c').ownBlock = v.ownBlock ∨ (Value.slice B (n + m) c').ownBlock = some w.heap.size) := by
  subst hsize
  subst hby
  have hlen : (xs ++ news).length = (n + m) * i.size := by rw [List.length_append, hown.1, hs.newsLen, Nat.add_mul]
  have hm63 : ((n + m : Nat) : Int) ≤ 9223372036854775807 := by unfold maxLen at h63; omega
  have grow : ∀ (A : Option Addr) (c : Nat), c < n + m → (Builtin.firstCells i.size n (.slice A n c)).run P w.drew = .ok xs.toArray w.drew →
      ∃ B c' w', (Builtin.append_ #[t, tx] ty #[.slice A n c, x]).run P w = .ok (.slice B (n + m) c') w' ∧ Own w' e i.size (.slice B (n + m) c') (n + m) (xs ++ news) ∧ w.grownBy w' (Value.slice A n c).ownBlock ∧
        ((Value.slice B (n + m) c').ownBlock = (Value.slice A n c).ownBlock ∨ (Value.slice B (n + m) c').ownBlock = some w.heap.size) := by
    intro A c hc hold
    have hrun := run_append_grow_src (P := P) w t tx ty e i z ht hi hz A n c xs hold x m news hs hc hm63 (growslice_fits hc hbytes)
    have hge := grownCap_ge w (n + m) c e
    have hcm := grownCap_le_maxLen w (n + m) c e h63
    refine ⟨_, _, _, hrun, ⟨hlen, .inr ⟨w.heap.size, _, _, rfl, heap_alloc_new w.drew _, hge, hcm, ?_, ?_⟩⟩, ⟨rfl, rfl, rfl, by simp, fun k hk _ => Below.heap_alloc w.drew _ k hk⟩, .inr rfl⟩
    · rw [Array.size_append, List.size_toArray, hlen, size_zeroCells, hzs, ← Nat.add_mul]
      exact Nat.le_of_eq (by congr 1; omega)
    · rw [Array.toList_append, ← hlen]
      exact List.take_left
  by_cases h0 : m = 0
  · subst h0
    have hn : news = [] := List.eq_nil_of_length_eq_zero (by have := hs.newsLen; omega)
    subst hn
    obtain ⟨A, c, rfl, hle, _⟩ := hown.form
    exact ⟨A, c, w, run_append_nothing w t tx ty e i ht hi A n c hle x hs, by simpa using hown, ⟨rfl, rfl, rfl, Nat.le_refl _, fun _ _ _ => rfl⟩, .inl rfl⟩
  · rcases hown.2 with ⟨rfl, rfl⟩ | ⟨g, cap, cur, rfl, hg, hnc, hcm, hcs, htake⟩
    · have hx : xs = [] := List.eq_nil_of_length_eq_zero (by have := hown.1; omega)
      subst hx
      exact grow none 0 (by omega) (run_firstCells_none w.drew i.size 0 0 0)
    · by_cases hroom : n + m ≤ cap
      · have hr : (n + m) * i.size ≤ cap * i.size := Nat.mul_le_mul_right _ hroom
        rw [Nat.add_mul] at hr
        have hfit : n * i.size + news.length ≤ cur.size := by rw [hs.newsLen]; omega
        have hrun := run_append_room_src (P := P) w t tx ty e i ht hi g 0 n cap x m news hs hroom (fun j hj => by
          rw [cell_of_row w g _ cur e (0, 0) hg, Array.getElem?_eq_getElem (by omega)]; rfl) (fun j _ => frozen_of_row w g _ cur e hg)
        rw [Nat.zero_add] at hrun
        refine ⟨_, _, _, hrun, ⟨hlen, .inr ⟨g, cap, _, rfl, heap_setCells_self g e (0, 0) news (n * i.size) w cur hg hfit, hroom, hcm, ?_, ?_⟩⟩, ⟨?_, ?_, ?_, ?_, fun k hk hne => ?_⟩, .inl rfl⟩
        · simp only [List.size_toArray, List.length_append, List.length_take, List.length_drop, Array.length_toList]
          omega
        · rw [htake, ← hlen]
          exact List.take_left
        · exact World.os_setCells w g _ news
        · exact tape_setCells g news _ w
        · exact World.output_setCells w g _ news
        · exact Nat.le_of_eq (size_setCells g news _ w).symm
        · exact World.heap_setCells_other w g _ news hk (fun e => hne (by rw [e]; rfl))
      · have hold := (hown.src (P := P) (t := t) ht h1).cellsD
        exact grow _ cap (by omega) hold
theorem wp_own_src (w : World) {o : Oper} {a : Act} {K : Act → World → Prop} {Q : Exit → Act → World → Prop} (s x : Operand) (t tx : TypeId)
    (ho : o.op = .call { callee := .builtin .append, args := #[s, x], argTypes := #[t, tx] })
    (e : TypeId) (z : Value) (size bytes : Nat) (hinfo : (P.info? e).map (fun i => (i.zero, i.size, i.bytes)) = some (some z, size, bytes)) (ht : P.underlying t = some (.slice e)) (hzs : z.cells.size = size)
    (v : Value) (n : Nat) (xs : List Value) (hv : a.eval s = v) (hown : Own w e size v n xs) (h1 : ∀ u ∈ xs, u.oneCell' = true) (y : Value) (m : Nat) (news : List Value) (hx : a.eval x = y) (hs : Src P size tx y m news w) (h63 : n + m ≤ maxLen) (hbytes : (n + m) * bytes ≤ 140737488355328)
    (h : ∀ B c' w', Own w' e size (.slice B (n + m) c') (n + m) (xs ++ news) → w.grownBy w' v.ownBlock → ((Value.slice B (n + m) c').ownBlock = v.ownBlock ∨ (Value.slice B (n + m) c').ownBlock = some w.heap.size) → K (a.put o.dst (.slice B (n + m) c')) w') : o.wp P a w K Q := by
  obtain ⟨i, hi, hz, hs1, hb1⟩ := info_parts hinfo
  obtain ⟨B, c', w', hr, h2, h3, h4⟩ := run_own_src (P := P) w t tx o.type e i z size bytes ht hi hz hs1 hb1 hzs v n xs hown h1 y m news hs h63 hbytes
  unfold Oper.wp execOp
  simp only [ho, resolve, invoke, builtin, Sem.run_bind, Sem.run_pure, Result.andThen_ok, List.map_toArray, List.map_cons, List.map_nil, hv, hx, hr]
  exact h B c' w' h2 h3 h4
theorem wpList_own_src (w : World) {ops : Array Oper} {rest : List Oper} {o : Oper} {a : Act} {Q : Exit → Act → World → Prop} (hgd : o.guard = none) (s x : Operand) (t tx : TypeId)
    (ho : o.op = .call { callee := .builtin .append, args := #[s, x], argTypes := #[t, tx] })
    (e : TypeId) (z : Value) (size bytes : Nat) (hinfo : (P.info? e).map (fun i => (i.zero, i.size, i.bytes)) = some (some z, size, bytes)) (ht : P.underlying t = some (.slice e)) (hzs : z.cells.size = size)
    (v : Value) (n : Nat) (xs : List Value) (hv : a.eval s = v) (hown : Own w e size v n xs) (h1 : ∀ u ∈ xs, u.oneCell' = true) (y : Value) (m : Nat) (news : List Value) (hx : a.eval x = y) (hs : Src P size tx y m news w) (h63 : n + m ≤ maxLen) (hbytes : (n + m) * bytes ≤ 140737488355328)
    (h : ∀ B c' w', Own w' e size (.slice B (n + m) c') (n + m) (xs ++ news) → w.grownBy w' v.ownBlock → ((Value.slice B (n + m) c').ownBlock = v.ownBlock ∨ (Value.slice B (n + m) c').ownBlock = some w.heap.size) → wpList P ops Q rest (a.put o.dst (.slice B (n + m) c')) w') : wpList P ops Q (o :: rest) a w :=
  wpList_plain hgd fun _ hK => wp_own_src w s x t tx ho e z size bytes hinfo ht hzs v n xs hv hown h1 y m news hx hs h63 hbytes fun B c' w' h2 h3 h4 => hK _ _ (h B c' w' h2 h3 h4)
/-- the same in a region that draws -/
theorem step_own_src (w : World) {ops : Array Oper} {o : Oper} {a : Act} {K : Act → World → Prop} {Q : Exit → Act → World → Prop} {E : Prop} (hgd : o.guard = none) (s x : Operand) (t tx : TypeId)
    (ho : o.op = .call { callee := .builtin .append, args := #[s, x], argTypes := #[t, tx] })
    (e : TypeId) (z : Value) (size bytes : Nat) (hinfo : (P.info? e).map (fun i => (i.zero, i.size, i.bytes)) = some (some z, size, bytes)) (ht : P.underlying t = some (.slice e)) (hzs : z.cells.size = size)
    (v : Value) (n : Nat) (xs : List Value) (hv : a.eval s = v) (hown : Own w e size v n xs) (h1 : ∀ u ∈ xs, u.oneCell' = true) (y : Value) (m : Nat) (news : List Value) (hx : a.eval x = y) (hs : Src P size tx y m news w) (h63 : n + m ≤ maxLen) (hbytes : (n + m) * bytes ≤ 140737488355328)
    (h : ∀ B c' w', Own w' e size (.slice B (n + m) c') (n + m) (xs ++ news) → w.grownBy w' v.ownBlock → ((Value.slice B (n + m) c').ownBlock = v.ownBlock ∨ (Value.slice B (n + m) c').ownBlock = some w.heap.size) → K (a.put o.dst (.slice B (n + m) c')) w') :
    if Region.wanted o (yielded ops a.tmps) = true then Oper.wp P o a w K Q else E := by
  have hw : Region.wanted o (yielded ops a.tmps) = true := by simp [Region.wanted, hgd]
  rw [if_pos hw]
  exact wp_own_src w s x t tx ho e z size bytes hinfo ht hzs v n xs hv hown h1 y m news hx hs h63 hbytes h
end

/-- Bytes of the call's own. -/
def Raw (w : World) (v : Value) (xs : List UInt8) : Prop := Own w 5 1 v xs.length (u8s xs)
theorem Raw.bs {w : World} {A : Option Addr} {n c : Nat} {xs : List UInt8} (hl : xs.length = n) (h : Raw w (.slice A n c) xs) : Bs w A n c xs := by
  subst hl
  unfold Raw at h
  obtain ⟨A', c', hv, hle, hm, hA⟩ := h.form
  injection hv with e1 _ e3
  subst e1 e3
  refine ⟨rfl, hle, hm, fun h0 => ?_⟩
  rcases hA with ⟨_, h2, _⟩ | ⟨g, rfl⟩
  · omega
  · refine ⟨g, 0, rfl, fun j x hx => ?_⟩
    have hj : j < xs.length := (List.getElem?_eq_some_iff.1 hx).1
    have := h.cell (j := j) (by omega)
    rw [Nat.zero_add, this, u8s_get, hx]
    rfl
theorem Raw.ofRow {w : World} {v : Value} {xs : List UInt8} (h : Row w v xs) : Raw w v xs := Own.ofRow h
theorem Bs.src {P : Program} {w : World} {A : Option Addr} {n c : Nat} {xs : List UInt8} {t e' : TypeId} (h : Bs w A n c xs) (ht : P.underlying t = some (.slice e')) : Src P 1 t (.slice A n c) n (u8s xs) w := by
  have hl := h.1
  subst hl
  by_cases h0 : xs = []
  · subst h0
    cases A with
    | none => exact Src.ofNil w ht c
    | some a => exact Src.ofSlice w ht a 0 c [] (by simp) (by simp) (by simp)
  · obtain ⟨b, o, rfl, hc⟩ := h.2.2.2 (List.length_pos_iff.2 h0)
    refine Src.ofSlice w ht _ _ _ _ (by rw [u8s_length]; omega) (fun j u hu => ?_) (u8s_one xs)
    rw [u8s_get] at hu
    obtain ⟨y, hy, rfl⟩ := Option.map_eq_some_iff.1 hu
    rw [add_flat]
    exact hc j y hy
end Go.Proofs.YtlcmnihpfpmajaaGreat

/- The contracts of the helpers of the laws: clip, SpoilBytes, Lend, Intact. Conditions stand with each. -/
namespace Go.Proofs.YtlcmnihpfpmajaaGreat
open Go.RowKit

theorem Tryz.info5 : (Tryz.prog.info? 5).map (fun i => (i.zero, i.size, i.bytes)) = some (some (.int .u8 0), 1, 1) := by kernel_rfl
/-- bytes that can be read, as a string -/
theorem run_convert_Bs {P : Program} {w : World} {A : Option Addr} {n c : Nat} {xs : List UInt8} (src dst : TypeId) (hs : P.underlying src = some (.slice 5)) (he : P.underlying 5 = some (.int .u8)) (hd : P.underlying dst = some .string)
    (h : Bs w A n c xs) : (convert src dst (.slice A n c)).run P w = .ok (.string ⟨xs.toArray⟩) w := by
  have hl := h.1
  have hnil : xs = [] → ∀ ad, (convert src dst (.slice (some ad) n c)).run P w = .ok (.string ⟨xs.toArray⟩) w := by
    intro e ad
    subst e
    have hn : n = 0 := by simpa using hl.symm
    subst hn
    rw [run_convert_bytes_string w src dst _ _ 0 c hs he hd, run_bytesToString w _ 0 c [] (by simp [loadCells, loadCellsFrom])]
    rfl
  rcases Nat.eq_zero_or_pos n with h0 | h0
  · have e : xs = [] := List.eq_nil_of_length_eq_zero (by omega)
    cases A with
    | none =>
      subst e
      exact run_convert_bytes_nil w src 5 hs he n c dst hd
    | some ad => exact hnil e ad
  · obtain ⟨b, o, rfl⟩ := h.at_ h0
    have := run_convert_bytes_arg (P := P) w src 5 hs he b o n c (xs.map fun x => (x.toNat : Int)) (by simpa using hl) (by
      intro i hi
      rw [h.cellAt hi]
      have hi' : i < xs.length := by omega
      simp [List.getD_eq_getElem?_getD, hi']) dst hd
    rw [this]
    congr 2
    simp [strOfNums, Function.comp_def]


section
variable {P : Program} {w : World}
/-- append(s, xs...) where s is of the call's own, and xs is read. -/
theorem run_row_bs (t ty : TypeId) (hinfo : (P.info? 5).map (fun i => (i.zero, i.size, i.bytes)) = some (some (.int .u8 0), 1, 1)) (ht : P.underlying t = some (.slice 5))
    (v : Value) (xs : List UInt8) (hown : Row w v xs) (A : Option Addr) (m c : Nat) (ys : List UInt8) (hs : Bs w A m c ys) (hb : xs.length + ys.length ≤ 140737488355328) :
    ∃ B c' w', (Builtin.append_ #[t, t] ty #[v, .slice A m c]).run P w = .ok (.slice B (xs.length + ys.length) c') w' ∧ Row w' (.slice B (xs.length + ys.length) c') (xs ++ ys) ∧ w.grownBy w' v.ownBlock ∧
      ((Value.slice B (xs.length + ys.length) c').ownBlock = v.ownBlock ∨ (Value.slice B (xs.length + ys.length) c').ownBlock = some w.heap.size) := by
  obtain ⟨i, hi, hz, hs1, hb1⟩ := info_parts hinfo
  have hl := hs.1
  subst hl
  by_cases h0 : ys = []
  · subst h0
    obtain ⟨B, c', hv, hle, hcm, _⟩ := hown.form
    subst hv
    have hsrc : Src P i.size t (.slice A 0 c) 0 [] w := by
      cases A with
      | none => exact Src.ofNil w ht c
      | some a => exact Src.ofSlice w ht a 0 c [] (by simp) (by simp) (by simp)
    refine ⟨B, c', w, ?_, ?_, ⟨rfl, rfl, rfl, Nat.le_refl _, fun _ _ _ => rfl⟩, .inl rfl⟩
    · exact run_append_nothing w t t ty 5 i ht hi B xs.length c' hle _ hsrc
    · simp only [List.append_nil, List.length_nil, Nat.add_zero]; exact hown
  · have hpos : 0 < ys.length := List.length_pos_iff.2 h0
    obtain ⟨b, o, rfl, hc⟩ := hs.2.2.2 hpos
    have hnews' : ∀ j u, (u8s ys)[j]? = some u → w.cell? ((⟨b, o, none⟩ : Addr).add j) = some u := by
      intro j u hu
      rw [u8s_get] at hu
      obtain ⟨y, hy, rfl⟩ := Option.map_eq_some_iff.1 hu
      rw [add_flat]
      exact hc j y hy
    obtain ⟨v', w', hr, h1, h2, _, h4⟩ := run_append_own_at (P := P) w 0 t ty 5 i (.int .u8 0) 1 1 ht hi hz hs1 hb1 rfl (by decide) v xs.length (u8s xs) hown ⟨b, o, none⟩ ys.length c (u8s ys) (by rw [u8s_length]; omega) hnews' (u8s_one ys) (by unfold maxLen; omega) (by omega) (Nat.zero_le _)
    have hrow : Row w' v' (xs ++ ys) := by
      unfold Row
      rw [List.length_append, u8s_append]
      exact h1
    obtain ⟨B, c', hv, _⟩ := hrow.form
    rw [List.length_append] at hv
    subst hv
    exact ⟨B, c', w', hr, hrow, h2, h4⟩
theorem wp_row_bs {o : Oper} {a : Act} {K : Act → World → Prop} {Q : Exit → Act → World → Prop} (s x : Operand) (t : TypeId)
    (ho : o.op = .call { callee := .builtin .append, args := #[s, x], argTypes := #[t, t] })
    (hinfo : (P.info? 5).map (fun i => (i.zero, i.size, i.bytes)) = some (some (.int .u8 0), 1, 1)) (ht : P.underlying t = some (.slice 5))
    (v : Value) (xs : List UInt8) (hs : a.eval s = v) (hown : Row w v xs) (A : Option Addr) (m c : Nat) (ys : List UInt8) (hx : a.eval x = .slice A m c) (hbs : Bs w A m c ys) (hb : xs.length + ys.length ≤ 140737488355328)
    (h : ∀ B c' w', Row w' (.slice B (xs.length + ys.length) c') (xs ++ ys) → w.grownBy w' v.ownBlock → ((Value.slice B (xs.length + ys.length) c').ownBlock = v.ownBlock ∨ (Value.slice B (xs.length + ys.length) c').ownBlock = some w.heap.size) → K (a.put o.dst (.slice B (xs.length + ys.length) c')) w') : o.wp P a w K Q := by
  obtain ⟨B, c', w', hr, h1, h2, h3⟩ := run_row_bs (w := w) t o.type hinfo ht v xs hown A m c ys hbs hb
  unfold Oper.wp execOp
  simp only [ho, resolve, invoke, builtin, Sem.run_bind, Sem.run_pure, Result.andThen_ok, List.map_toArray, List.map_cons, List.map_nil, hs, hx, hr]
  exact h B c' w' h1 h2 h3
theorem wpList_row_bs {ops : Array Oper} {rest : List Oper} {o : Oper} {a : Act} {Q : Exit → Act → World → Prop} (hgd : o.guard = none) (s x : Operand) (t : TypeId)
    (ho : o.op = .call { callee := .builtin .append, args := #[s, x], argTypes := #[t, t] })
    (hinfo : (P.info? 5).map (fun i => (i.zero, i.size, i.bytes)) = some (some (.int .u8 0), 1, 1)) (ht : P.underlying t = some (.slice 5))
    (v : Value) (xs : List UInt8) (hs : a.eval s = v) (hown : Row w v xs) (A : Option Addr) (m c : Nat) (ys : List UInt8) (hx : a.eval x = .slice A m c) (hbs : Bs w A m c ys) (hb : xs.length + ys.length ≤ 140737488355328)
    (h : ∀ B c' w', Row w' (.slice B (xs.length + ys.length) c') (xs ++ ys) → w.grownBy w' v.ownBlock → ((Value.slice B (xs.length + ys.length) c').ownBlock = v.ownBlock ∨ (Value.slice B (xs.length + ys.length) c').ownBlock = some w.heap.size) → wpList P ops Q rest (a.put o.dst (.slice B (xs.length + ys.length) c')) w') : wpList P ops Q (o :: rest) a w :=
  wpList_plain hgd fun _ hK => wp_row_bs s x t ho hinfo ht v xs hs hown A m c ys hx hbs hb fun B c' w' h1 h2 h3 => hK _ _ (h B c' w' h1 h2 h3)
/-- the same in a region that draws -/
theorem step_row_bs {ops : Array Oper} {o : Oper} {a : Act} {K : Act → World → Prop} {Q : Exit → Act → World → Prop} {E : Prop} (hgd : o.guard = none) (s x : Operand) (t : TypeId)
    (ho : o.op = .call { callee := .builtin .append, args := #[s, x], argTypes := #[t, t] })
    (hinfo : (P.info? 5).map (fun i => (i.zero, i.size, i.bytes)) = some (some (.int .u8 0), 1, 1)) (ht : P.underlying t = some (.slice 5))
    (v : Value) (xs : List UInt8) (hs : a.eval s = v) (hown : Row w v xs) (A : Option Addr) (m c : Nat) (ys : List UInt8) (hx : a.eval x = .slice A m c) (hbs : Bs w A m c ys) (hb : xs.length + ys.length ≤ 140737488355328)
    (h : ∀ B c' w', Row w' (.slice B (xs.length + ys.length) c') (xs ++ ys) → w.grownBy w' v.ownBlock → ((Value.slice B (xs.length + ys.length) c').ownBlock = v.ownBlock ∨ (Value.slice B (xs.length + ys.length) c').ownBlock = some w.heap.size) → K (a.put o.dst (.slice B (xs.length + ys.length) c')) w') :
    if Region.wanted o (yielded ops a.tmps) = true then Oper.wp P o a w K Q else E := by
  have hw : Region.wanted o (yielded ops a.tmps) = true := by simp [Region.wanted, hgd]
  rw [if_pos hw]
  exact wp_row_bs s x t ho hinfo ht v xs hs hown A m c ys hx hbs hb h
end
/-- a literal of bytes, just laid -/
theorem Row.lit {w : World} (xs : List UInt8) (cs : Array Value) (hcs : cs.toList = u8s xs) (hl : xs.length ≤ 1000) : Row (w.alloc (.cells cs 5)) (.slice (some ⟨w.heap.size, 0, none⟩) xs.length xs.length) xs := by
  have h := World.ownsRow_lit (base := 0) (e := 5) (size := 1) w cs xs.length (Nat.zero_le _) (by unfold maxLen; omega) (by have := congrArg List.length hcs; rw [u8s_length] at this; simpa using this)
  unfold Row
  rw [← hcs]
  exact h

set_option maxRecDepth 20000 in
theorem clip_any (A : Option Addr) (n c : Nat) (xs : List UInt8) (w : World) (h : Bs w A n c xs) :
    Calls Tryz.prog 20 #[.slice A n c] w fun e w' => w' = w ∧ ∃ m, m ≤ n ∧ m ≤ 200 ∧ e = .returned (.slice A m c) ∧ Bs w A m c (xs.take m) := by
  have hm := h.2.2.1
  have hnc := h.2.1
  unfold maxLen at hm
  have H := Lib.hid h
  clear h
  by_cases hb : 200 < n
  · go_enter Tryz.func20, Tryz.ntmps20
    go_wp2_with fail
    go_ret
    exact ⟨rfl, 200, by omega, by omega, rfl, H.out.take (by omega)⟩
  · go_enter Tryz.func20, Tryz.ntmps20
    go_wp2_with fail
    go_ret
    refine ⟨rfl, n, Nat.le_refl _, by omega, rfl, ?_⟩
    exact H.out.take (Nat.le_refl _)

/-- what Lend lends: a copy of its own, and four bytes behind it -/
def marks : List UInt8 := [201, 202, 203, 204]
def Lent (w : World) (A : Option Addr) (n c : Nat) (xs : List UInt8) : Prop := xs.length = n ∧ Row w (.slice A (n + 4) c) (xs ++ marks)
theorem Lent.bs {w : World} {A : Option Addr} {n c : Nat} {xs : List UInt8} (h : Lent w A n c xs) : Bs w A n c xs := by
  have h1 := (Row.bs h.2).take (k := n) (by omega)
  rwa [← h.1, List.take_left, h.1] at h1

set_option maxRecDepth 20000 in
set_option maxHeartbeats 1000000 in
theorem lend_any (A : Option Addr) (n c : Nat) (xs : List UInt8) (w : World) (h : Bs w A n c xs) (hb : n ≤ 140737488355000) :
    Calls Tryz.prog 34 #[.slice A n c] w fun e w' => Fresh w w' ∧ ∃ B c', e = .returned (.slice B n c') ∧ Lent w' B n c' xs ∧ (∀ a, B = some a → w.heap.size ≤ a.block) := by
  have hm := h.2.2.1
  have hnc := h.2.1
  unfold maxLen at hm
  obtain rfl := h.1
  have H := Lib.hid h
  clear h
  go_enter Tryz.func34, Tryz.ntmps34
  go_wp2_with (first
    | (at_builtin; refine wpList_row_bs rfl _ _ 26 rfl Tryz.info5 Tryz.underlying26 (.slice (some ⟨w.heap.size, 0, none⟩) 0 0) [] rfl (Row.lit [] #[] rfl (by simp)) A xs.length c xs rfl (H.out.alloc _) (by simp only [List.length_nil]; omega) ?_; intro B1 c1 w1 r1 g1 o1; simp only [List.length_nil, Nat.zero_add, List.nil_append] at r1 g1 o1)
    | (at_builtin; refine wpList_row_bs rfl _ _ 26 rfl Tryz.info5 Tryz.underlying26 _ xs rfl (r1.alloc _) (some ⟨w1.heap.size, 0, none⟩) 4 4 marks rfl (Row.bs (Row.lit marks #[.int .u8 201, .int .u8 202, .int .u8 203, .int .u8 204] rfl (by decide))) (by simp only [marks, List.length_cons, List.length_nil]; omega) ?_; intro B2 c2 w2 r2 g2 o2; simp only [show marks.length = 4 from rfl] at r2 g2 o2 ⊢; have hc2 := (Row.bs r2).2.1; have hc3 := (Row.bs r2).2.2.1; unfold maxLen at hc3))
  have hw1 : w.heap.size ≤ w1.heap.size := by
    have := g1.size
    simp only [alloc_size] at this
    omega
  have hT1 : Fresh w w1 := ((Touch.refl _ w).alloc _).grown g1 (fun k hk => .inl (by
    simp only [Value.ownBlock, Option.some.injEq] at hk
    omega))
  have hN1 : ∀ k, (Value.slice B1 xs.length c1).ownBlock = some k → w.heap.size ≤ k := by
    intro k hk
    rcases o1 with h | h
    · rw [h] at hk
      simp only [Value.ownBlock, Option.some.injEq] at hk
      omega
    · rw [h] at hk
      simp only [alloc_size, Option.some.injEq] at hk
      omega
  have hT2 : Fresh w w2 := (hT1.alloc _).grown g2 (fun k hk => .inl (hN1 k hk))
  have hN2 : ∀ a, B2 = some a → w.heap.size ≤ a.block := by
    rintro a rfl
    rcases o2 with h | h
    · exact hN1 _ (h.symm.trans rfl)
    · simp only [Value.ownBlock, alloc_size, Option.some.injEq] at h
      omega
  clear o1 o2 g1 g2 r1 hw1 hN1 hT1
  go_ret
  exact ⟨hT2, B2, c2, rfl, ⟨rfl, r2⟩, hN2⟩

set_option maxRecDepth 20000 in
set_option maxHeartbeats 1000000 in
theorem spoil_any (xs : List UInt8) (v : Value) (w : World) (h : Row w v xs) (hb : xs.length ≤ 140737488355000) :
    Calls Tryz.prog 28 #[v] w fun e w' => e = .returned (.tuple #[]) ∧ Touch (fun k => v.ownBlock = some k) w w' := by
  obtain ⟨A, c, rfl, hle, hcm, hg⟩ := h.form
  unfold maxLen at hcm
  have H := Lib.hid h
  have HG := Lib.hid hg
  clear h hg
  go_enter Tryz.func28, Tryz.ntmps28
  go_wp2_with fail
  go_loopw [2] (fun i wr => ∃ j : Nat, j ≤ xs.length ∧ i = .int .i64 j ∧ (∃ ys, ys.length = xs.length ∧ Row wr (.slice A xs.length c) ys) ∧ Touch (fun k => (Value.slice A xs.length c).ownBlock = some k) w wr) (fun i _ => xs.length - (intOf i).toNat)
  case atStart => exact ⟨0, by omega, rfl, ⟨xs, rfl, H.out⟩, Touch.refl _ _⟩
  case round =>
    obtain ⟨j, hj, rfl, ⟨ys, hyl, hr⟩, ht⟩ := hrel
    by_cases hlt : j < xs.length
    · obtain ⟨g, rfl⟩ := HG.out (by intro h; rw [h] at hlt; simp at hlt)
      have hr' : wr.ownsRow 0 5 1 (.slice (some ⟨g, 0, none⟩) xs.length c) xs.length (u8s ys) := by rw [← hyl]; unfold Row at hr; rw [hyl] at hr ⊢; exact hr
      have hcell := hr'.cellAt j (by omega)
      have hfro := hr'.frozenAt j
      rw [u8s_get, List.getElem?_eq_getElem (by omega)] at hcell
      simp only [Option.map_some] at hcell
      have hlx := (ys[j]'(by omega)).toNat_lt
      have hst := fun u => (hr'.stored j u).1
      generalize (ys[j]'(by omega)).toNat = y at hcell hlx
      have hxor : ∃ z : UInt8, bits .xor .u8 (y : Int) 255 = (z.toNat : Int) := by
        refine ⟨UInt8.ofNat (y ^^^ 255), ?_⟩
        rw [show (255 : Int) = ((255 : Nat) : Int) from rfl, u8_xor_nat y 255 (by omega) (by omega)]
        have : y ^^^ 255 < 2 ^ 8 := Nat.xor_lt_two_pow (by omega) (by omega)
        simp only [UInt8.toNat_ofNat']
        omega
      obtain ⟨z, hxor⟩ := hxor
      have hst := hst (.int .u8 (z.toNat : Int))
      have HST := Lib.hid hst
      have HT := Lib.hid (ht.setCell (p := ⟨g, j, none⟩) (.inr rfl) (.int .u8 (z.toNat : Int)))
      clear hst hr hr' ht
      go_wp2_with fail
      refine ⟨⟨j + 1, by omega, by simp, ⟨ys.set j z, by rw [List.length_set, hyl], ?_⟩, HT.out⟩, by simp [intOf] <;> omega⟩
      have h1 := HST.out
      unfold Row
      rw [List.length_set, hyl, show u8s (ys.set j z) = (u8s ys).set j (.int .u8 (z.toNat : Int)) from List.map_set]
      exact h1
    · have : j = xs.length := by omega
      subst this
      have HR := Lib.hid hr
      have HT := Lib.hid ht
      have HYL := Lib.hid hyl
      clear hr ht hyl
      go_wp2_with fail
      go_loopw [0, 3] (fun v i w2 => ∃ k : Nat, k ≤ 40 ∧ i = .int .i64 k ∧ (∃ zs, zs.length = xs.length + k ∧ Row w2 v zs) ∧ Touch (fun k => (Value.slice A xs.length c).ownBlock = some k) w w2 ∧ (∀ q, v.ownBlock = some q → (Value.slice A xs.length c).ownBlock = some q ∨ w.heap.size ≤ q)) (fun _ i _ => 40 - (intOf i).toNat)
      case atStart => exact ⟨0, by omega, rfl, ⟨ys, HYL.out, HR.out⟩, HT.out, fun q h => .inl h⟩
      case round =>
        obtain ⟨k, hk, rfl, ⟨zs, hzl, hr2⟩, ht2, ho2⟩ := hrel
        by_cases hlt2 : k < 40
        · have HR2 := Lib.hid hr2
          have HT2 := Lib.hid ht2
          have HO2 := Lib.hid ho2
          have HZ := Lib.hid hzl
          clear hr2 ht2 ho2 hzl
          go_wp2_with (at_builtin; refine wpList_row_bs rfl _ _ 26 rfl Tryz.info5 Tryz.underlying26 u0 zs rfl (HR2.out.alloc _) (some ⟨wr.heap.size, 0, none⟩) 1 1 [85] rfl (Row.bs (Row.lit [85] #[.int .u8 85] rfl (by decide))) (by rw [HZ.out, List.length_singleton]; omega) ?_; intro B2 c2 w2 r2 g2 o2)
          have hT3 : Touch (fun k => (Value.slice A xs.length c).ownBlock = some k) w w2 := (HT2.out.alloc _).grown g2 (fun q hq => (HO2.out q hq).symm)
          have hO3 : ∀ q, (Value.slice B2 (zs.length + [(85 : UInt8)].length) c2).ownBlock = some q → (Value.slice A xs.length c).ownBlock = some q ∨ w.heap.size ≤ q := by
            intro q hq
            rcases o2 with h | h
            · rw [h] at hq; exact HO2.out q hq
            · rw [h] at hq
              have := HT2.out.size
              simp only [alloc_size, Option.some.injEq] at hq
              exact .inr (by omega)
          have HT3 := Lib.hid hT3
          have HO3 := Lib.hid hO3
          have HR3 := Lib.hid r2
          clear hT3 hO3 r2 g2 o2
          go_roundw
          case rel =>
            refine ⟨k + 1, by omega, by simp, ⟨_, ?_, HR3.out⟩, HT3.out, HO3.out⟩
            rw [List.length_append, HZ.out, List.length_singleton]; omega
          case measure => simp [intOf] <;> omega
        · have : k = 40 := by omega
          subst this
          have HT2 := Lib.hid ht2
          clear hr2 ht2 ho2 hzl
          go_wp2_with fail
          go_end0
          exact ⟨rfl, HT2.out⟩
theorem bytes_append (xs ys : List UInt8) : (⟨xs.toArray⟩ : ByteArray) ++ ⟨ys.toArray⟩ = ⟨(xs ++ ys).toArray⟩ := by
  apply ByteArray.ext
  simp
theorem bytes_toList (zs : List UInt8) : (⟨zs.toArray⟩ : ByteArray).toList = zs := by simp [ByteArray.toList_eq]
theorem str_beq (xs ys : List UInt8) : ((⟨xs.toArray⟩ : ByteArray).toList == (⟨ys.toArray⟩ : ByteArray).toList) = decide (xs = ys) := by
  have h : ∀ zs : List UInt8, (⟨zs.toArray⟩ : ByteArray).toList = zs := by intro zs; simp [ByteArray.toList_eq]
  rw [h, h]
  by_cases e : xs = ys <;> simp [e]

set_option maxRecDepth 20000 in
set_option maxHeartbeats 1000000 in
theorem intact_any (A B : Option Addr) (n c cb : Nat) (xs : List UInt8) (w : World) (h : Bs w A n c xs) (hl : Lent w B n cb xs) (hb : n ≤ 140737488355000) :
    Calls Tryz.prog 35 #[.slice B n cb, .slice A n c] w fun e w' => e = .returned (.bool true) ∧ Touch (fun k => (Value.slice B n cb).ownBlock = some k) w w' := by
  obtain rfl := h.1
  have hm := (Row.bs hl.2).2.1
  have hm2 := (Row.bs hl.2).2.2.1
  unfold maxLen at hm2
  have hcv1 := run_convert_Bs (P := Tryz.prog) 26 9 Tryz.underlying26 Tryz.underlying5 Tryz.underlying9 (Row.bs hl.2)
  have hcv2 := run_convert_Bs (P := Tryz.prog) 26 9 Tryz.underlying26 Tryz.underlying5 Tryz.underlying9 h
  have heq : (xs ++ marks == ((⟨xs.toArray⟩ : ByteArray) ++ ⟨#[201, 202, 203, 204]⟩).toList) = true := by
    rw [show (⟨#[201, 202, 203, 204]⟩ : ByteArray) = ⟨marks.toArray⟩ from rfl, bytes_append, bytes_toList]
    simp
  obtain ⟨g, rfl⟩ : ∃ g, B = some ⟨g, 0, none⟩ := by
    obtain ⟨A', c', hv, _, _, hg⟩ := hl.2.form
    obtain ⟨g, hg⟩ := hg (by simp [marks])
    injection hv with h1 h2 h3
    exact ⟨g, h1.trans hg⟩
  have H := Lib.hid hl
  have HEQ := Lib.hid heq
  clear hl h heq
  go_enter Tryz.func35, Tryz.ntmps35
  go_wp2_with fail
  go_loopw [7] (fun i wr => ∃ j : Nat, j ≤ xs.length + 4 ∧ i = .int .i64 j ∧ (∃ ys, ys.length = xs.length + 4 ∧ Row wr (.slice (some ⟨g, 0, none⟩) (xs.length + 4) cb) ys) ∧ Touch (fun k => (Value.slice (some ⟨g, 0, none⟩) xs.length cb).ownBlock = some k) w wr) (fun i _ => xs.length + 4 - (intOf i).toNat)
  case atStart => exact ⟨0, by omega, rfl, ⟨xs ++ marks, by simp [marks], H.out.2⟩, Touch.refl _ _⟩
  case round =>
    obtain ⟨j, hj, rfl, ⟨ys, hyl, hr⟩, ht⟩ := hrel
    by_cases hlt : j < xs.length + 4
    · have hr' : wr.ownsRow 0 5 1 (.slice (some ⟨g, 0, none⟩) (xs.length + 4) cb) (xs.length + 4) (u8s ys) := by unfold Row at hr; rw [hyl] at hr; exact hr
      have hcell := hr'.cellAt j (by omega)
      have hfro := hr'.frozenAt j
      rw [u8s_get, List.getElem?_eq_getElem (by omega)] at hcell
      simp only [Option.map_some] at hcell
      have HST := Lib.hid (hr'.stored j (.int .u8 ((85 : UInt8).toNat : Int))).1
      have HT := Lib.hid (ht.setCell (p := ⟨g, j, none⟩) (.inr rfl) (.int .u8 ((85 : UInt8).toNat : Int)))
      clear hr hr' ht
      go_wp2_with fail
      refine ⟨⟨j + 1, by omega, by simp, ⟨ys.set j 85, by rw [List.length_set, hyl], ?_⟩, HT.out⟩, by simp [intOf] <;> omega⟩
      have h1 := HST.out
      unfold Row
      rw [List.length_set, hyl, show u8s (ys.set j 85) = (u8s ys).set j (.int .u8 ((85 : UInt8).toNat : Int)) from List.map_set]
      exact h1
    · have : j = xs.length + 4 := by omega
      subst this
      have HT := Lib.hid ht
      clear ht hr
      go_wp2_with fail
      go_ret
      exact ⟨congrArg (fun b => Ending.returned (.bool b)) HEQ.out, HT.out⟩
end Go.Proofs.YtlcmnihpfpmajaaGreat
