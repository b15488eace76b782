/- The wal claims' texts, several in one: Fun, Row, Met. Conditions stand with each theorem. -/
import Derived.Test.YtlcmnihpfpmajaaGreatZa16
import Derived.Test.YtlcmnihpfpmajaaGreatZa17
/- meta, framed, numbers, the reader's next. Conditions stand with each. -/
namespace Go.Proofs.YtlcmnihpfpmajaaGreat
open Go.RowKit

theorem Own.bs {w : World} {A : Option Addr} {n c : Nat} {l : List UInt8} (h : Own w 5 1 (.slice A n c) n (u8s l)) : Bs w A n c l := by
  obtain ⟨A', c', hv, hle, hm, hA⟩ := h.form
  injection hv with e1 _ e3
  subst e1 e3
  have hl : l.length = n := by have := h.1; rw [u8s_length] at this; omega
  refine ⟨hl, hle, hm, fun h0 => ?_⟩
  rcases hA with ⟨_, h2, _⟩ | ⟨g, rfl⟩
  · omega
  · refine ⟨g, 0, rfl, fun j x hx => ?_⟩
    have hj : j < n := by have := (List.getElem?_eq_some_iff.1 hx).1; omega
    rw [Nat.zero_add, h.cell (j := j) (by omega), u8s_get, hx]
    rfl
theorem grow_step {W w1 w2 : World} {o : Obj} {row : Option Nat} {v : Value} (hf : Fresh W w1) (hg : (w1.alloc o).grownBy w2 row) (hr : ∀ q, row = some q → W.heap.size ≤ q) (hb : v.ownBlock = row ∨ v.ownBlock = some (w1.alloc o).heap.size) : Fresh W w2 ∧ ∀ q, v.ownBlock = some q → W.heap.size ≤ q := by
  refine ⟨(hf.alloc o).grown hg fun q hq => .inl (hr q hq), fun q hq => ?_⟩
  rcases hb with h | h
  · exact hr q (h.symm.trans hq)
  · rw [hq, World.size_alloc] at h
    injection h with h
    have := hf.size
    omega
theorem grow_step0 {W w1 w2 : World} {row : Option Nat} {v : Value} (hf : Fresh W w1) (hg : w1.grownBy w2 row) (hr : ∀ q, row = some q → W.heap.size ≤ q) (hb : v.ownBlock = row ∨ v.ownBlock = some w1.heap.size) : Fresh W w2 ∧ ∀ q, v.ownBlock = some q → W.heap.size ≤ q := by
  refine ⟨hf.grown hg fun q hq => .inl (hr q hq), fun q hq => ?_⟩
  rcases hb with h | h
  · exact hr q (h.symm.trans hq)
  · rw [hq] at h
    injection h with h
    have := hf.size
    omega
section
variable {P : Program}
/-- append onto a row of bytes of which only its cells are known -/
theorem run_fb_src (w : World) (t tx ty e : TypeId) (i : TypeInfo) (ht : P.underlying t = some (.slice e)) (hi : P.info? e = some i) (hz : i.zero = some (.int .u8 0)) (hs1 : i.size = 1) (hb1 : i.bytes = 1)
    {g cap : Nat} {l ys : List UInt8} (h : Fb w g cap l) (x : Value) (m : Nat) (hs : Src P 1 tx x m (u8s ys) w) (h63 : l.length + m ≤ 140737488355328) :
    ∃ g' c' w', (Builtin.append_ #[t, tx] ty #[.slice (some ⟨g, 0, none⟩) l.length cap, x]).run P w = .ok (.slice (some ⟨g', 0, none⟩) (l.length + m) c') w' ∧ Bs w' (some ⟨g', 0, none⟩) (l.length + m) c' (l ++ ys) ∧ w.grownBy w' (some g) ∧ (g' = g ∨ g' = w.heap.size) := by
  obtain ⟨hc, hth, hle, hmx⟩ := h
  have hym : ys.length = m := by have := hs.newsLen; rw [u8s_length] at this; omega
  have hlen : (l ++ ys).length = l.length + m := by rw [List.length_append, hym]
  have hs' : Src P i.size tx x m (u8s ys) w := by rw [hs1]; exact hs
  by_cases hroom : l.length + m ≤ cap
  · have hrun := run_append_room_src (P := P) w t tx ty e i ht hi g 0 l.length cap x m (u8s ys) hs' hroom
      (fun j hj => by rw [u8s_length, hym] at hj; rw [hs1, Nat.mul_one, Nat.add_assoc]; exact (hth (l.length + j) (by omega)).1) (fun j hj => by rw [u8s_length, hym] at hj; rw [hs1, Nat.mul_one, Nat.add_assoc]; exact (hth (l.length + j) (by omega)).2)
    rw [Nat.zero_add, hs1, Nat.mul_one] at hrun
    refine ⟨g, cap, _, hrun, ⟨hlen, hroom, hmx, fun _ => ⟨g, 0, rfl, fun j y hy => ?_⟩⟩, ⟨World.os_setCells w g _ _, tape_setCells g _ _ w, World.output_setCells w g _ _, Nat.le_of_eq (size_setCells g _ _ w).symm, fun k hk hne => World.heap_setCells_other w g _ _ hk (fun e => hne (by rw [e]))⟩, .inl rfl⟩
    rw [Nat.zero_add]
    by_cases hj : j < l.length
    · rw [List.getElem?_append_left hj] at hy
      rw [World.cell?_setCells_out g _ _ w ⟨g, j, none⟩ (fun _ _ => .inl hj)]
      exact hc j y hy
    · rw [List.getElem?_append_right (by omega)] at hy
      have hjl : j - l.length < (u8s ys).length := by rw [u8s_length]; exact (List.getElem?_eq_some_iff.1 hy).1
      have h1 := World.cell?_setCells_in g (u8s ys) l.length w (fun q hq => by
        rw [u8s_length, hym] at hq
        have := (hth (l.length + q) (by omega)).1
        rwa [Nat.zero_add] at this) (j - l.length) hjl
      rw [show l.length + (j - l.length) = j by omega] at h1
      rw [h1, ← List.getElem?_eq_getElem hjl, u8s_get, hy]
      rfl
  · have hold : (Builtin.firstCells i.size l.length (.slice (some ⟨g, 0, none⟩) l.length cap)).run P w.drew = .ok (u8s l).toArray w.drew := by
      have hsrc : Src P 1 t (.slice (some ⟨g, 0, none⟩) l.length cap) l.length (u8s l) w.drew := by
        refine Src.ofSlice w.drew ht _ _ _ _ (by rw [u8s_length, Nat.mul_one]) (fun j u hu => ?_) (u8s_one l)
        rw [u8s_get] at hu
        obtain ⟨y, hy, rfl⟩ := Option.map_eq_some_iff.1 hu
        rw [add_flat, Nat.zero_add]
        exact hc j y hy
      have := hsrc.cells
      rw [hs1]
      exact this
    have hrun := run_append_grow_src (P := P) w t tx ty e i (.int .u8 0) ht hi hz (some ⟨g, 0, none⟩) l.length cap (u8s l) hold x m (u8s ys) hs' (by omega) (by omega) (growslice_fits (by omega) (by rw [hb1]; omega))
    refine ⟨w.heap.size, _, _, hrun, ⟨hlen, grownCap_ge w (l.length + m) cap e, grownCap_le_maxLen w (l.length + m) cap e (by unfold maxLen; omega), fun _ => ⟨w.heap.size, 0, rfl, fun j y hy => ?_⟩⟩, ⟨rfl, rfl, rfl, by simp, fun k hk _ => Below.heap_alloc w.drew _ k hk⟩, .inr rfl⟩
    have hj : j < (l ++ ys).length := (List.getElem?_eq_some_iff.1 hy).1
    have hb := (show Blk (w.drew.alloc (.cells ((u8s l ++ u8s ys).toArray ++ Builtin.zeroCells (Value.int .u8 0).cells (grownCap w (l.length + m) cap e - (l.length + m))) e)) w.heap.size e _ from heap_alloc_new w.drew _)
    rw [Nat.zero_add, hb.cell j, Array.getElem?_append_left (by rw [List.size_toArray, ← u8s_append, u8s_length]; exact hj), List.getElem?_toArray, ← u8s_append, u8s_get, hy]
    rfl
theorem wpList_fb_src (w : World) {ops : Array Oper} {rest : List Oper} {o : Oper} {a : Act} {Q : Exit → Act → World → Prop} (hgd : o.guard = none) (s x : Operand) (t tx : TypeId)
    (ho : o.op = .call { callee := .builtin .append, args := #[s, x], argTypes := #[t, tx] })
    (e : TypeId) (hinfo : (P.info? e).map (fun i => (i.zero, i.size, i.bytes)) = some (some (.int .u8 0), 1, 1)) (ht : P.underlying t = some (.slice e))
    {g cap : Nat} {l ys : List UInt8} (hv : a.eval s = .slice (some ⟨g, 0, none⟩) l.length cap) (h : Fb w g cap l) (y : Value) (m : Nat) (hx : a.eval x = y) (hs : Src P 1 tx y m (u8s ys) w) (h63 : l.length + m ≤ 140737488355328)
    (hk : ∀ g' c' w', Bs w' (some ⟨g', 0, none⟩) (l.length + m) c' (l ++ ys) → w.grownBy w' (some g) → (g' = g ∨ g' = w.heap.size) → wpList P ops Q rest (a.put o.dst (.slice (some ⟨g', 0, none⟩) (l.length + m) c')) w') : wpList P ops Q (o :: rest) a w :=
  wpList_plain hgd fun K hK => by
    obtain ⟨i, hi, hz, hs1, hb1⟩ := info_parts hinfo
    obtain ⟨g', c', w', hr, h2, h3, h4⟩ := run_fb_src (P := P) w t tx o.type e i ht hi hz hs1 hb1 h y m hs h63
    unfold Oper.wp execOp
    simp only [ho, resolve, invoke, builtin, Sem.run_bind, Sem.run_pure, Result.andThen_ok, List.map_toArray, List.map_cons, List.map_nil, hv, hx, hr]
    exact hK _ _ (hk g' c' w' h2 h3 h4)
end
end Go.Proofs.YtlcmnihpfpmajaaGreat

/- Rows of the call's own that begin anywhere in their block; append onto such a row. No condition. -/
namespace Go.Proofs.YtlcmnihpfpmajaaGreat
open Go.RowKit

def Ow (w : World) (e : TypeId) (size : Nat) (v : Value) (n : Nat) (xs : List Value) : Prop :=
  xs.length = n * size ∧ ((v = .slice none 0 0 ∧ n = 0) ∨
    ∃ g o cap cur, v = .slice (some ⟨g, o * size, none⟩) n cap ∧ w.heap[g]? = some (.cells cur e (0, 0)) ∧ n ≤ cap ∧ cap ≤ maxLen ∧ o * size + cap * size ≤ cur.size ∧ (cur.toList.drop (o * size)).take (n * size) = xs)
section
variable {w w' : World} {e : TypeId} {size n : Nat} {v : Value} {xs : List Value}
theorem Own.ow (h : Own w e size v n xs) : Ow w e size v n xs := by
  refine ⟨h.1, h.2.imp id ?_⟩
  rintro ⟨g, cap, cur, rfl, h1, h2, h3, h4, h5⟩
  exact ⟨g, 0, cap, cur, by rw [Nat.zero_mul], h1, h2, h3, by omega, by rw [Nat.zero_mul, List.drop_zero]; exact h5⟩
theorem Ow.nil_ (w : World) (e : TypeId) (size : Nat) : Ow w e size (.slice none 0 0) 0 [] := ⟨by simp, .inl ⟨rfl, rfl⟩⟩
theorem Ow.lt (h : Ow w e size v n xs) : ∀ k, v.ownBlock = some k → k < w.heap.size := by
  intro k hk
  rcases h.2 with ⟨rfl, _⟩ | ⟨g, o, cap, cur, rfl, hg, _⟩
  · simp [Value.ownBlock] at hk
  · simp only [Value.ownBlock, Option.some.injEq] at hk
    subst hk
    exact (Array.getElem?_eq_some_iff.1 hg).1
theorem Ow.heap (h : Ow w e size v n xs) (hb : ∀ k, v.ownBlock = some k → w'.heap[k]? = w.heap[k]?) : Ow w' e size v n xs := by
  refine ⟨h.1, ?_⟩
  rcases h.2 with h | ⟨g, o, cap, cur, rfl, hg, rest⟩
  · exact .inl h
  · exact .inr ⟨g, o, cap, cur, rfl, (hb g rfl).trans hg, rest⟩
theorem Ow.touch {S : Nat → Prop} (h : Ow w e size v n xs) (hb : Touch S w w') (hn : ∀ k, v.ownBlock = some k → ¬ S k) : Ow w' e size v n xs :=
  h.heap fun k hk => hb.block k (h.lt k hk) (hn k hk)
theorem Ow.fresh (h : Ow w e size v n xs) (hb : Fresh w w') : Ow w' e size v n xs := h.touch hb fun _ _ => id
theorem Ow.alloc (h : Ow w e size v n xs) (o : Obj) : Ow (w.alloc o) e size v n xs := h.heap fun k hk => Below.heap_alloc w o k (h.lt k hk)
theorem Ow.drew (h : Ow w e size v n xs) : Ow w.drew e size v n xs := h
theorem Ow.drewN (h : Ow w e size v n xs) (j : Nat) : Ow (w.drewN j) e size v n xs := h
theorem Ow.far (h : Ow w e size v n xs) {p : Addr} (hp : v.ownBlock ≠ some p.block) (u : Value) : Ow (w.setCell p u) e size v n xs :=
  h.heap fun k hk => Below.heap_setCell w p u k (fun e => hp (by rw [hk, e]))
theorem Ow.grown {row : Option Nat} (h : Ow w e size v n xs) (hg : w.grownBy w' row) (hn : ∀ k, v.ownBlock = some k → some k ≠ row) : Ow w' e size v n xs :=
  h.heap fun k hk => hg.block k (h.lt k hk) (hn k hk)
theorem Ow.ne_blk {g : Nat} {t : TypeId} {cs : Array Value} (h : Ow w e size v n xs) (hg : Blk w g t cs) (hne : e ≠ t) : v.ownBlock ≠ some g := by
  rcases h.2 with ⟨rfl, _⟩ | ⟨g', o, cap, cur, rfl, hh, _⟩
  · simp [Value.ownBlock]
  · intro he
    have : g' = g := by simpa [Value.ownBlock] using he
    subst this
    exact Blk.ne_ (t := e) hh hg hne rfl
theorem Ow.ne_ow {e' : TypeId} {s' n' : Nat} {v' : Value} {xs' : List Value} (h : Ow w e size v n xs) (h' : Ow w e' s' v' n' xs') (hne : e ≠ e') : ∀ k, v.ownBlock = some k → v'.ownBlock ≠ some k := by
  intro k hk
  rcases h.2 with ⟨rfl, _⟩ | ⟨g, o, cap, cur, rfl, hg, _⟩
  · simp [Value.ownBlock] at hk
  · simp only [Value.ownBlock, Option.some.injEq] at hk
    subst hk
    exact h'.ne_blk (t := e) (cs := cur) hg (Ne.symm hne)
theorem Ow.form (h : Ow w e size v n xs) : ∃ A c, v = .slice A n c ∧ n ≤ c ∧ c ≤ maxLen ∧ ((A = none ∧ n = 0 ∧ c = 0) ∨ ∃ g o, A = some ⟨g, o * size, none⟩) := by
  rcases h.2 with ⟨rfl, rfl⟩ | ⟨g, o, cap, cur, rfl, _, h1, h2, _⟩
  · exact ⟨none, 0, rfl, Nat.le_refl _, by simp [maxLen], .inl ⟨rfl, rfl, rfl⟩⟩
  · exact ⟨_, cap, rfl, h1, h2, .inr ⟨g, o, rfl⟩⟩
theorem Ow.parts {a : Addr} {c : Nat} (h : Ow w e size (.slice (some a) n c) n xs) : ∃ o cur, a = ⟨a.block, o * size, none⟩ ∧ w.heap[a.block]? = some (.cells cur e (0, 0)) ∧ n ≤ c ∧ c ≤ maxLen ∧ o * size + c * size ≤ cur.size ∧ (cur.toList.drop (o * size)).take (n * size) = xs := by
  rcases h.2 with ⟨h, _⟩ | ⟨g', o, cap, cur, hv, rest⟩
  · cases h
  · injection hv with h1 h2 h3
    injection h1 with h1
    subst h1 h3
    exact ⟨o, cur, rfl, rest⟩
theorem Ow.cell {g q c : Nat} (h : Ow w e size (.slice (some ⟨g, q, none⟩) n c) n xs) {j : Nat} (hj : j < n * size) : w.cell? ⟨g, q + j, none⟩ = xs[j]? := by
  obtain ⟨o, cur, ha, hg, h1, h2, h3, h4⟩ := h.parts
  injection ha with _ ha
  rw [cell_of_row w g (q + j) cur e (0, 0) hg, ← h4, List.getElem?_take, if_pos hj, List.getElem?_drop, ← ha]
  simp
theorem Ow.frozen {g q c : Nat} (h : Ow w e size (.slice (some ⟨g, q, none⟩) n c) n xs) (j : Nat) : w.frozen? ⟨g, j, none⟩ = false := by
  obtain ⟨o, cur, _, hg, _⟩ := h.parts
  exact frozen_of_row w g j cur e hg
theorem Ow.stored {g q c : Nat} (h : Ow w e size (.slice (some ⟨g, q, none⟩) n c) n xs) {j : Nat} (_hj : j < n * size) (u : Value) : Ow (w.setCell ⟨g, q + j, none⟩ u) e size (.slice (some ⟨g, q, none⟩) n c) n (xs.set j u) := by
  obtain ⟨o, cur, ha, hg, h1, h2, h3, h4⟩ := h.parts
  injection ha with _ ha
  subst ha
  refine ⟨by rw [List.length_set]; exact h.1, .inr ⟨g, o, c, cur.setIfInBounds (o * size + j) u, rfl, ?_, h1, h2, by simpa using h3, ?_⟩⟩
  · simp [World.setCell, Array.getElem?_modify, hg]
  · rw [Array.toList_setIfInBounds, List.drop_set, if_neg (by omega), show o * size + j - o * size = j by omega, List.take_set, h4]
/-- a row without its first elements -/
theorem Ow.drop {g q c : Nat} (h : Ow w e size (.slice (some ⟨g, q, none⟩) n c) n xs) {k : Nat} (hk : k ≤ n) : Ow w e size (.slice (some ⟨g, q + k * size, none⟩) (n - k) (c - k)) (n - k) (xs.drop (k * size)) := by
  obtain ⟨o, cur, ha, hg, h1, h2, h3, h4⟩ := h.parts
  injection ha with _ ha
  subst ha
  have hks : (n - k) * size = n * size - k * size := Nat.sub_mul n k size
  have hkc : (c - k) * size = c * size - k * size := Nat.sub_mul c k size
  have hkn : k * size ≤ n * size := Nat.mul_le_mul_right _ hk
  have hnc : n * size ≤ c * size := Nat.mul_le_mul_right _ h1
  refine ⟨by rw [List.length_drop, h.1, hks], .inr ⟨g, o + k, c - k, cur, by rw [Nat.add_mul], hg, by omega, by omega, ?_, ?_⟩⟩
  · rw [Nat.add_mul, hkc]; omega
  · rw [← h4, hks, Nat.add_mul, ← List.drop_drop, List.drop_take]
theorem Ow.empty {g q c c' : Nat} (h : Ow w e size (.slice (some ⟨g, q, none⟩) n c) n xs) (hc : c' ≤ c) : Ow w e size (.slice (some ⟨g, q, none⟩) 0 c') 0 [] := by
  obtain ⟨o, cur, ha, hg, h1, h2, h3, h4⟩ := h.parts
  injection ha with _ ha
  subst ha
  exact ⟨by simp, .inr ⟨g, o, c', cur, rfl, hg, Nat.zero_le _, by omega, by have := Nat.mul_le_mul_right size hc; omega, by simp⟩⟩
theorem Ow.src {P : Program} {t e' : TypeId} (h : Ow w e size v n xs) (ht : P.underlying t = some (.slice e')) (h1 : ∀ u ∈ xs, u.oneCell' = true) : Src P size t v n xs w := by
  rcases h.2 with ⟨rfl, hn⟩ | ⟨g, o, cap, cur, rfl, hg, h2, h3, h4, h5⟩
  · subst hn
    have : xs = [] := List.eq_nil_of_length_eq_zero (by have := h.1; omega)
    subst this
    exact Src.ofNil w ht 0
  · refine Src.ofSlice w ht _ _ _ _ h.1 (fun j u hu => ?_) h1
    have hj : j < n * size := by have := (List.getElem?_eq_some_iff.1 hu).1; have := h.1; omega
    rw [add_flat, h.cell hj]
    exact hu
end
section
variable {P : Program}
theorem run_ow_src (w : World) (t tx ty e : TypeId) (i : TypeInfo) (z : Value) (size bytes : Nat) (ht : P.underlying t = some (.slice e)) (hi : P.info? e = some i) (hz : i.zero = some z) (hsize : i.size = size) (hby : i.bytes = bytes) (hzs : z.cells.size = size)
    (v : Value) (n : Nat) (xs : List Value) (hown : Ow w e size v n xs) (h1 : ∀ u ∈ xs, u.oneCell' = true) (x : Value) (m : Nat) (news : List Value) (hs : Src P size tx x m news w) (h63 : n + m ≤ maxLen) (hbytes : (n + m) * bytes ≤ 140737488355328) :
    ∃ B c' w', (Builtin.append_ #[t, tx] ty #[v, x]).run P w = .ok (.slice B (n + m) c') w' ∧ Ow w' e size (.slice B (n + m) c') (n + m) (xs ++ news) ∧ w.grownBy w' v.ownBlock ∧
      ((Value.slice B (n + m) c').ownBlock = v.ownBlock ∨ (Value.slice B (n + m) c').ownBlock = some w.heap.size) := by
  subst hsize
  subst hby
  have hlen : (xs ++ news).length = (n + m) * i.size := by rw [List.length_append, hown.1, hs.newsLen, Nat.add_mul]
  have hm63 : ((n + m : Nat) : Int) ≤ 9223372036854775807 := by unfold maxLen at h63; omega
  have grow : ∀ (A : Option Addr) (c : Nat), c < n + m → (Builtin.firstCells i.size n (.slice A n c)).run P w.drew = .ok xs.toArray w.drew →
      ∃ B c' w', (Builtin.append_ #[t, tx] ty #[.slice A n c, x]).run P w = .ok (.slice B (n + m) c') w' ∧ Ow w' e i.size (.slice B (n + m) c') (n + m) (xs ++ news) ∧ w.grownBy w' (Value.slice A n c).ownBlock ∧
        ((Value.slice B (n + m) c').ownBlock = (Value.slice A n c).ownBlock ∨ (Value.slice B (n + m) c').ownBlock = some w.heap.size) := by
    intro A c hc hold
    have hrun := run_append_grow_src (P := P) w t tx ty e i z ht hi hz A n c xs hold x m news hs hc hm63 (growslice_fits hc hbytes)
    have hge := grownCap_ge w (n + m) c e
    have hcm := grownCap_le_maxLen w (n + m) c e h63
    refine ⟨_, _, _, hrun, Own.ow ⟨hlen, .inr ⟨w.heap.size, _, _, rfl, heap_alloc_new w.drew _, hge, hcm, ?_, ?_⟩⟩, ⟨rfl, rfl, rfl, by simp, fun k hk _ => Below.heap_alloc w.drew _ k hk⟩, .inr rfl⟩
    · rw [Array.size_append, List.size_toArray, hlen, size_zeroCells, hzs, ← Nat.add_mul]
      exact Nat.le_of_eq (by congr 1; omega)
    · rw [Array.toList_append, ← hlen]
      exact List.take_left
  by_cases h0 : m = 0
  · subst h0
    have hn : news = [] := List.eq_nil_of_length_eq_zero (by have := hs.newsLen; omega)
    subst hn
    obtain ⟨A, c, rfl, hle, _⟩ := hown.form
    exact ⟨A, c, w, run_append_nothing w t tx ty e i ht hi A n c hle x hs, by simpa using hown, ⟨rfl, rfl, rfl, Nat.le_refl _, fun _ _ _ => rfl⟩, .inl rfl⟩
  · rcases hown.2 with ⟨rfl, rfl⟩ | ⟨g, o, cap, cur, rfl, hg, hnc, hcm, hcs, htake⟩
    · have hx : xs = [] := List.eq_nil_of_length_eq_zero (by have := hown.1; omega)
      subst hx
      exact grow none 0 (by omega) (run_firstCells_none w.drew i.size 0 0 0)
    · by_cases hroom : n + m ≤ cap
      · have hr : (n + m) * i.size ≤ cap * i.size := Nat.mul_le_mul_right _ hroom
        rw [Nat.add_mul] at hr
        have hfit : o * i.size + n * i.size + news.length ≤ cur.size := by rw [hs.newsLen]; omega
        have hrun := run_append_room_src (P := P) w t tx ty e i ht hi g (o * i.size) n cap x m news hs hroom (fun j hj => by
          rw [cell_of_row w g _ cur e (0, 0) hg, Array.getElem?_eq_getElem (by omega)]; rfl) (fun j _ => frozen_of_row w g _ cur e hg)
        refine ⟨_, _, _, hrun, ⟨hlen, .inr ⟨g, o, cap, _, rfl, heap_setCells_self g e (0, 0) news (o * i.size + n * i.size) w cur hg hfit, hroom, hcm, ?_, ?_⟩⟩, ⟨?_, ?_, ?_, ?_, fun k hk hne => ?_⟩, .inl rfl⟩
        · simp only [List.size_toArray, List.length_append, List.length_take, List.length_drop, Array.length_toList]
          omega
        · have hol : o * i.size + n * i.size ≤ cur.toList.length := by rw [Array.length_toList]; omega
          have hto : (cur.toList.take (o * i.size + n * i.size)).drop (o * i.size) = xs := by
            rw [List.drop_take, show o * i.size + n * i.size - o * i.size = n * i.size by omega, htake]
          show List.take ((n + m) * i.size) (List.drop (o * i.size) (cur.toList.take (o * i.size + n * i.size) ++ news ++ cur.toList.drop (o * i.size + n * i.size + news.length))) = xs ++ news
          rw [List.append_assoc, List.drop_append_of_le_length (by rw [List.length_take]; omega), hto, ← List.append_assoc, ← hlen]
          exact List.take_left
        · exact World.os_setCells w g _ news
        · exact tape_setCells g news _ w
        · exact World.output_setCells w g _ news
        · exact Nat.le_of_eq (size_setCells g news _ w).symm
        · exact World.heap_setCells_other w g _ news hk (fun e => hne (by rw [e]; rfl))
      · have hold := (hown.src (P := P) (t := t) ht h1).cellsD
        exact grow _ cap (by omega) hold
theorem wp_ow_src (w : World) {o : Oper} {a : Act} {K : Act → World → Prop} {Q : Exit → Act → World → Prop} (s x : Operand) (t tx : TypeId)
    (ho : o.op = .call { callee := .builtin .append, args := #[s, x], argTypes := #[t, tx] })
    (e : TypeId) (z : Value) (size bytes : Nat) (hinfo : (P.info? e).map (fun i => (i.zero, i.size, i.bytes)) = some (some z, size, bytes)) (ht : P.underlying t = some (.slice e)) (hzs : z.cells.size = size)
    (v : Value) (n : Nat) (xs : List Value) (hv : a.eval s = v) (hown : Ow w e size v n xs) (h1 : ∀ u ∈ xs, u.oneCell' = true) (y : Value) (m : Nat) (news : List Value) (hx : a.eval x = y) (hs : Src P size tx y m news w) (h63 : n + m ≤ maxLen) (hbytes : (n + m) * bytes ≤ 140737488355328)
    (h : ∀ B c' w', Ow w' e size (.slice B (n + m) c') (n + m) (xs ++ news) → w.grownBy w' v.ownBlock → ((Value.slice B (n + m) c').ownBlock = v.ownBlock ∨ (Value.slice B (n + m) c').ownBlock = some w.heap.size) → K (a.put o.dst (.slice B (n + m) c')) w') : o.wp P a w K Q := by
  obtain ⟨i, hi, hz, hs1, hb1⟩ := info_parts hinfo
  obtain ⟨B, c', w', hr, h2, h3, h4⟩ := run_ow_src (P := P) w t tx o.type e i z size bytes ht hi hz hs1 hb1 hzs v n xs hown h1 y m news hs h63 hbytes
  unfold Oper.wp execOp
  simp only [ho, resolve, invoke, builtin, Sem.run_bind, Sem.run_pure, Result.andThen_ok, List.map_toArray, List.map_cons, List.map_nil, hv, hx, hr]
  exact h B c' w' h2 h3 h4
theorem wpList_ow_src (w : World) {ops : Array Oper} {rest : List Oper} {o : Oper} {a : Act} {Q : Exit → Act → World → Prop} (hgd : o.guard = none) (s x : Operand) (t tx : TypeId)
    (ho : o.op = .call { callee := .builtin .append, args := #[s, x], argTypes := #[t, tx] })
    (e : TypeId) (z : Value) (size bytes : Nat) (hinfo : (P.info? e).map (fun i => (i.zero, i.size, i.bytes)) = some (some z, size, bytes)) (ht : P.underlying t = some (.slice e)) (hzs : z.cells.size = size)
    (v : Value) (n : Nat) (xs : List Value) (hv : a.eval s = v) (hown : Ow w e size v n xs) (h1 : ∀ u ∈ xs, u.oneCell' = true) (y : Value) (m : Nat) (news : List Value) (hx : a.eval x = y) (hs : Src P size tx y m news w) (h63 : n + m ≤ maxLen) (hbytes : (n + m) * bytes ≤ 140737488355328)
    (h : ∀ B c' w', Ow w' e size (.slice B (n + m) c') (n + m) (xs ++ news) → w.grownBy w' v.ownBlock → ((Value.slice B (n + m) c').ownBlock = v.ownBlock ∨ (Value.slice B (n + m) c').ownBlock = some w.heap.size) → wpList P ops Q rest (a.put o.dst (.slice B (n + m) c')) w') : wpList P ops Q (o :: rest) a w :=
  wpList_plain hgd fun _ hK => wp_ow_src w s x t tx ho e z size bytes hinfo ht hzs v n xs hv hown h1 y m news hx hs h63 hbytes fun B c' w' h2 h3 h4 => hK _ _ (h B c' w' h2 h3 h4)
end
end Go.Proofs.YtlcmnihpfpmajaaGreat

/- wal.meta and wal.framed. Conditions stand with each. -/
namespace Go.Proofs.YtlcmnihpfpmajaaGreat
open Go.RowKit

theorem u8_new (w : World) (k : UInt8) : Src Tryz.prog 1 26 (.slice (some ⟨w.heap.size, 0, none⟩) 1 1) 1 (u8s [k]) (w.alloc (.cells #[.int .u8 (k.toNat : Int)] 5)) := by
  refine Src.ofSlice _ Tryz.underlying26 _ _ _ _ rfl (fun j u hu => ?_) (u8s_one _)
  rw [add_flat, Nat.zero_add, (Blk.new w 5 #[.int .u8 (k.toNat : Int)]).cell j, ← hu]
  simp [u8s]
theorem u8_newV (w : World) (b : UInt8) (V : Int) (hV : V = (b.toNat : Int)) : Src Tryz.prog 1 26 (.slice (some ⟨w.heap.size, 0, none⟩) 1 1) 1 (u8s [b]) (w.alloc (.cells #[.int .u8 V] 5)) := by
  rw [hV]
  exact u8_new w b
theorem own_one (w : World) (k : UInt8) : Own (w.alloc (.cells #[.int .u8 (k.toNat : Int)] 5)) 5 1 (.slice (some ⟨w.heap.size, 0, none⟩) 1 1) 1 (u8s [k]) :=
  ⟨rfl, .inr ⟨w.heap.size, 1, #[.int .u8 (k.toNat : Int)], rfl, heap_alloc_new w _, Nat.le_refl _, by unfold maxLen; omega, Nat.le_refl _, rfl⟩⟩
theorem metaP_take {k : UInt8} {l : List Nat} {j n : Nat} (h : l[j]? = some n) : metaP k (l.take (j + 1)) = metaP k (l.take j) ++ be8 n := by
  unfold metaP
  rw [List.take_add_one, h]
  simp
/-- ints that can be read, none negative -/
def natsV (l : List Nat) : List Int := l.map fun n : Nat => (n : Int)

set_option maxRecDepth 20000 in
set_option maxHeartbeats 2000000 in
theorem meta_any (k : UInt8) (A : Option Addr) (c : Nat) (l : List Nat) (w : World) (h : IsInts w A l.length c (natsV l)) (hl : l.length ≤ 100) (hn : ∀ n ∈ l, n < 9223372036854775808) :
    Calls Tryz.prog 47 #[.int .u8 (k.toNat : Int), .slice A l.length c] w fun e w' => Fresh w w' ∧ ∃ g cap, e = .returned (.slice (some ⟨g, 0, none⟩) (metaF k l).length cap) ∧ w.heap.size ≤ g ∧ Fb w' g cap (metaF k l) := by
  have hc1 := h.2.1
  have hc2 := h.2.2.1
  unfold maxLen at hc2
  have H := Lib.hid h; have HN := Lib.hid hn
  clear h hn
  go_enter Tryz.func47, Tryz.ntmps47
  go_wp2_with fail
  go_loopw [5, 13] (fun v i wr => ∃ j : Nat, j ≤ l.length ∧ i = .int .i64 j ∧ Own wr 5 1 v (metaP k (l.take j)).length (u8s (metaP k (l.take j))) ∧ (∀ q, v.ownBlock = some q → w.heap.size ≤ q) ∧ Fresh w wr) (fun _ i _ => l.length - (intOf i).toNat)
  case atStart => exact ⟨0, Nat.zero_le _, rfl, own_one w k, fun q hq => by (simp only [Value.ownBlock, Option.some.injEq] at hq; omega), (Touch.refl _ w).alloc _⟩
  case round =>
    obtain ⟨j, hj, rfl, hO, hB, hF⟩ := hrel
    have HO := Lib.hid hO; have HB := Lib.hid hB; have HF := Lib.hid hF
    obtain ⟨OA, oc, rfl, ho1, ho2, _⟩ := hO.form
    unfold maxLen at ho2
    clear hO hB hF
    by_cases hlt : j < l.length
    · obtain ⟨b, o, rfl, hcs⟩ := H.out.2.2.2 (by omega)
      obtain ⟨n, hnj⟩ : ∃ n, l[j]? = some n := ⟨_, List.getElem?_eq_getElem hlt⟩
      have cx : wr.cell? ⟨b, o + j, none⟩ = some (.int .i64 (n : Int)) := HF.out.cell (hcs j n (by unfold natsV; rw [List.getElem?_map, hnj]; rfl)) id
      have hn63 : n < 9223372036854775808 := HN.out n (List.mem_of_getElem? hnj)
      have HT := Lib.hid (metaP_take (k := k) hnj)
      have hpl : (metaP k (l.take j)).length ≤ 801 := by rw [metaP_len, List.length_take]; omega
      obtain ⟨xs, hxs⟩ : ∃ xs, xs = metaP k (l.take j) := ⟨_, rfl⟩
      rw [← hxs] at HO HT HB hpl ho1
      rw [← hxs]
      clear hcs hnj hxs
      go_wp2_with fail
      go_loopw [5, 8] (fun v i wr => ∃ t : Nat, t ≤ 8 ∧ i = .int .i64 (56 - 8 * (t : Int)) ∧ Own wr 5 1 v (xs ++ (be8 n).take t).length (u8s (xs ++ (be8 n).take t)) ∧ (∀ q, v.ownBlock = some q → w.heap.size ≤ q) ∧ Fresh w wr) (fun _ i _ => (intOf i + 8).toNat)
      case atStart => exact ⟨0, Nat.zero_le _, rfl, by simpa using HO.out, HB.out, HF.out⟩
      case round =>
        clear HO HB HF cx ho1 ho2
        obtain ⟨t, ht, rfl, hO, hB, hF⟩ := hrel
        have HO := Lib.hid hO; have HB := Lib.hid hB; have HF := Lib.hid hF
        obtain ⟨OA, oc, rfl, ho1, ho2, _⟩ := hO.form
        unfold maxLen at ho2
        clear hO hB hF
        by_cases ht8 : t = 8
        · subst ht8
          have HE := Lib.hid (show xs ++ (be8 n).take 8 = metaP k (l.take (j + 1)) by rw [HT.out]; rfl)
          rw [HE.out] at HO HB
          rw [HE.out]
          go_wp2_with fail
          go_roundw
          case rel => exact ⟨j + 1, by omega, by go_num, HO.out, HB.out, HF.out⟩
          case measure => simp [intOf] <;> omega
        · obtain ⟨ys, hys⟩ : ∃ ys, ys = xs ++ (be8 n).take t := ⟨_, rfl⟩
          have hyl : ys.length ≤ 809 := by rw [hys, List.length_append, List.length_take]; omega
          have HYT := Lib.hid (show xs ++ (be8 n).take (t + 1) = ys ++ [(be8 n).getD t 0] by
            rw [hys, List.append_assoc, List.take_add_one, List.getD_eq_getElem?_getD, List.getElem?_eq_getElem (by rw [be8_len]; omega)]
            rfl)
          rw [← hys] at HO HB ho1
          rw [← hys]
          clear hys
          have h8 : t = 0 ∨ t = 1 ∨ t = 2 ∨ t = 3 ∨ t = 4 ∨ t = 5 ∨ t = 6 ∨ t = 7 := by omega
          rcases h8 with h8 | h8 | h8 | h8 | h8 | h8 | h8 | h8
          · have HT8 := Lib.hid h8
            rw [show (56 - 8 * (t : Int)) = 56 by omega]
            clear h8
            go_wp2_with (at_builtin; refine wpList_own_src _ rfl _ _ 26 26 rfl 5 (.int .u8 0) 1 1 Tryz.info5 Tryz.underlying26 rfl (.slice OA ys.length oc) ys.length (u8s ys) rfl (HO.out.alloc _) (u8s_one ys) (.slice (some ⟨wr.heap.size, 0, none⟩) 1 1) 1 (u8s [(be8 n).getD t 0]) rfl (u8_newV _ _ _ (by rw [HT8.out]; simp [be8] <;> omega)) (by unfold maxLen; omega) (by omega) ?_; intro D c4 w4 o4 g4 b4; have HO4 := Lib.hid o4; have HG4 := Lib.hid (grow_step HF.out g4 HB.out b4); clear o4 g4 b4)
            go_roundw
            case rel => exact ⟨t + 1, by omega, by (rw [HT8.out]; rfl), by (rw [HYT.out, List.length_append, u8s_append]; exact HO4.out), HG4.out.2, HG4.out.1⟩
            case measure => simp [intOf] <;> omega
          · have HT8 := Lib.hid h8
            rw [show (56 - 8 * (t : Int)) = 48 by omega]
            clear h8
            go_wp2_with (at_builtin; refine wpList_own_src _ rfl _ _ 26 26 rfl 5 (.int .u8 0) 1 1 Tryz.info5 Tryz.underlying26 rfl (.slice OA ys.length oc) ys.length (u8s ys) rfl (HO.out.alloc _) (u8s_one ys) (.slice (some ⟨wr.heap.size, 0, none⟩) 1 1) 1 (u8s [(be8 n).getD t 0]) rfl (u8_newV _ _ _ (by rw [HT8.out]; simp [be8] <;> omega)) (by unfold maxLen; omega) (by omega) ?_; intro D c4 w4 o4 g4 b4; have HO4 := Lib.hid o4; have HG4 := Lib.hid (grow_step HF.out g4 HB.out b4); clear o4 g4 b4)
            go_roundw
            case rel => exact ⟨t + 1, by omega, by (rw [HT8.out]; rfl), by (rw [HYT.out, List.length_append, u8s_append]; exact HO4.out), HG4.out.2, HG4.out.1⟩
            case measure => simp [intOf] <;> omega
          · have HT8 := Lib.hid h8
            rw [show (56 - 8 * (t : Int)) = 40 by omega]
            clear h8
            go_wp2_with (at_builtin; refine wpList_own_src _ rfl _ _ 26 26 rfl 5 (.int .u8 0) 1 1 Tryz.info5 Tryz.underlying26 rfl (.slice OA ys.length oc) ys.length (u8s ys) rfl (HO.out.alloc _) (u8s_one ys) (.slice (some ⟨wr.heap.size, 0, none⟩) 1 1) 1 (u8s [(be8 n).getD t 0]) rfl (u8_newV _ _ _ (by rw [HT8.out]; simp [be8] <;> omega)) (by unfold maxLen; omega) (by omega) ?_; intro D c4 w4 o4 g4 b4; have HO4 := Lib.hid o4; have HG4 := Lib.hid (grow_step HF.out g4 HB.out b4); clear o4 g4 b4)
            go_roundw
            case rel => exact ⟨t + 1, by omega, by (rw [HT8.out]; rfl), by (rw [HYT.out, List.length_append, u8s_append]; exact HO4.out), HG4.out.2, HG4.out.1⟩
            case measure => simp [intOf] <;> omega
          · have HT8 := Lib.hid h8
            rw [show (56 - 8 * (t : Int)) = 32 by omega]
            clear h8
            go_wp2_with (at_builtin; refine wpList_own_src _ rfl _ _ 26 26 rfl 5 (.int .u8 0) 1 1 Tryz.info5 Tryz.underlying26 rfl (.slice OA ys.length oc) ys.length (u8s ys) rfl (HO.out.alloc _) (u8s_one ys) (.slice (some ⟨wr.heap.size, 0, none⟩) 1 1) 1 (u8s [(be8 n).getD t 0]) rfl (u8_newV _ _ _ (by rw [HT8.out]; simp [be8] <;> omega)) (by unfold maxLen; omega) (by omega) ?_; intro D c4 w4 o4 g4 b4; have HO4 := Lib.hid o4; have HG4 := Lib.hid (grow_step HF.out g4 HB.out b4); clear o4 g4 b4)
            go_roundw
            case rel => exact ⟨t + 1, by omega, by (rw [HT8.out]; rfl), by (rw [HYT.out, List.length_append, u8s_append]; exact HO4.out), HG4.out.2, HG4.out.1⟩
            case measure => simp [intOf] <;> omega
          · have HT8 := Lib.hid h8
            rw [show (56 - 8 * (t : Int)) = 24 by omega]
            clear h8
            go_wp2_with (at_builtin; refine wpList_own_src _ rfl _ _ 26 26 rfl 5 (.int .u8 0) 1 1 Tryz.info5 Tryz.underlying26 rfl (.slice OA ys.length oc) ys.length (u8s ys) rfl (HO.out.alloc _) (u8s_one ys) (.slice (some ⟨wr.heap.size, 0, none⟩) 1 1) 1 (u8s [(be8 n).getD t 0]) rfl (u8_newV _ _ _ (by rw [HT8.out]; simp [be8] <;> omega)) (by unfold maxLen; omega) (by omega) ?_; intro D c4 w4 o4 g4 b4; have HO4 := Lib.hid o4; have HG4 := Lib.hid (grow_step HF.out g4 HB.out b4); clear o4 g4 b4)
            go_roundw
            case rel => exact ⟨t + 1, by omega, by (rw [HT8.out]; rfl), by (rw [HYT.out, List.length_append, u8s_append]; exact HO4.out), HG4.out.2, HG4.out.1⟩
            case measure => simp [intOf] <;> omega
          · have HT8 := Lib.hid h8
            rw [show (56 - 8 * (t : Int)) = 16 by omega]
            clear h8
            go_wp2_with (at_builtin; refine wpList_own_src _ rfl _ _ 26 26 rfl 5 (.int .u8 0) 1 1 Tryz.info5 Tryz.underlying26 rfl (.slice OA ys.length oc) ys.length (u8s ys) rfl (HO.out.alloc _) (u8s_one ys) (.slice (some ⟨wr.heap.size, 0, none⟩) 1 1) 1 (u8s [(be8 n).getD t 0]) rfl (u8_newV _ _ _ (by rw [HT8.out]; simp [be8] <;> omega)) (by unfold maxLen; omega) (by omega) ?_; intro D c4 w4 o4 g4 b4; have HO4 := Lib.hid o4; have HG4 := Lib.hid (grow_step HF.out g4 HB.out b4); clear o4 g4 b4)
            go_roundw
            case rel => exact ⟨t + 1, by omega, by (rw [HT8.out]; rfl), by (rw [HYT.out, List.length_append, u8s_append]; exact HO4.out), HG4.out.2, HG4.out.1⟩
            case measure => simp [intOf] <;> omega
          · have HT8 := Lib.hid h8
            rw [show (56 - 8 * (t : Int)) = 8 by omega]
            clear h8
            go_wp2_with (at_builtin; refine wpList_own_src _ rfl _ _ 26 26 rfl 5 (.int .u8 0) 1 1 Tryz.info5 Tryz.underlying26 rfl (.slice OA ys.length oc) ys.length (u8s ys) rfl (HO.out.alloc _) (u8s_one ys) (.slice (some ⟨wr.heap.size, 0, none⟩) 1 1) 1 (u8s [(be8 n).getD t 0]) rfl (u8_newV _ _ _ (by rw [HT8.out]; simp [be8] <;> omega)) (by unfold maxLen; omega) (by omega) ?_; intro D c4 w4 o4 g4 b4; have HO4 := Lib.hid o4; have HG4 := Lib.hid (grow_step HF.out g4 HB.out b4); clear o4 g4 b4)
            go_roundw
            case rel => exact ⟨t + 1, by omega, by (rw [HT8.out]; rfl), by (rw [HYT.out, List.length_append, u8s_append]; exact HO4.out), HG4.out.2, HG4.out.1⟩
            case measure => simp [intOf] <;> omega
          · have HT8 := Lib.hid h8
            rw [show (56 - 8 * (t : Int)) = 0 by omega]
            clear h8
            go_wp2_with (at_builtin; refine wpList_own_src _ rfl _ _ 26 26 rfl 5 (.int .u8 0) 1 1 Tryz.info5 Tryz.underlying26 rfl (.slice OA ys.length oc) ys.length (u8s ys) rfl (HO.out.alloc _) (u8s_one ys) (.slice (some ⟨wr.heap.size, 0, none⟩) 1 1) 1 (u8s [(be8 n).getD t 0]) rfl (u8_newV _ _ _ (by rw [HT8.out]; simp [be8] <;> omega)) (by unfold maxLen; omega) (by omega) ?_; intro D c4 w4 o4 g4 b4; have HO4 := Lib.hid o4; have HG4 := Lib.hid (grow_step HF.out g4 HB.out b4); clear o4 g4 b4)
            go_roundw
            case rel => exact ⟨t + 1, by omega, by (rw [HT8.out]; rfl), by (rw [HYT.out, List.length_append, u8s_append]; exact HO4.out), HG4.out.2, HG4.out.1⟩
            case measure => simp [intOf] <;> omega
    · obtain rfl : j = l.length := by omega
      rw [List.take_length] at HO HB ho1
      rw [List.take_length]
      have hml : (metaP k l).length ≤ 801 := by rw [metaP_len]; omega
      have KF := Lib.hid (frame_any OA (metaP k l).length oc (metaP k l) wr (Own.bs HO.out) (by omega))
      go_wp2_with fail
      refine KF.out.mono ?_
      rintro e w4 ⟨hf4, g, cap, rfl, hg, hfb⟩
      have HF4 := Lib.hid (HF.out.trans hf4 fun _ _ => id)
      have HFB := Lib.hid hfb
      have hsz := HF.out.size
      have HG := Lib.hid (show w.heap.size ≤ g by omega)
      clear hf4 hfb hg KF
      go_wp2_with fail
      go_ret
      refine ⟨HF4.out, g, cap, ?_, HG.out, HFB.out⟩
      rw [metaF, Enc.frame_len]
      rfl
theorem int1_new (w : World) (n : Nat) : IsInts (w.alloc (.cells #[.int .i64 (n : Int)] 3)) (some ⟨w.heap.size, 0, none⟩) 1 1 (natsV [n]) :=
  ⟨rfl, Nat.le_refl _, by unfold maxLen; omega, fun _ => ⟨w.heap.size, 0, rfl, fun j x hx => by
    have hb := Blk.new w 3 #[.int .i64 (n : Int)]
    rw [Nat.zero_add, hb.cell j]
    simp only [natsV, List.map_cons, List.map_nil] at hx
    cases j with
    | zero => simp at hx; simp [hx]
    | succ j => simp at hx⟩⟩
set_option maxRecDepth 20000 in
set_option maxHeartbeats 2000000 in
theorem framed_any (i : Nat) (hi : i < 9223372036854775808) (A : Option Addr) (n c : Nat) (b : List UInt8) (w : World) (h : Bs w A n c b) (hn : n ≤ 100000000) :
    Calls Tryz.prog 42 #[.int .i64 i, .slice A n c] w fun e w' => Fresh w w' ∧ ∃ g c', e = .returned (.slice (some ⟨g, 0, none⟩) (It.put i b).enc.length c') ∧ w.heap.size ≤ g ∧ Bs w' (some ⟨g, 0, none⟩) (It.put i b).enc.length c' (It.put i b).enc := by
  have hbl := h.1
  have KM := Lib.hid (meta_any 114 (some ⟨w.heap.size, 0, none⟩) 1 [i] (w.alloc (.cells #[.int .i64 (i : Int)] 3)) (int1_new w i) (by simp) (by simpa using hi))
  have H := Lib.hid h
  clear h
  go_enter Tryz.func42, Tryz.ntmps42
  go_wp2_with fail
  refine KM.out.mono ?_
  rintro e w1 ⟨hf1, g, cap, rfl, hg, hfb⟩
  have HF1 := Lib.hid (((Touch.refl (fun _ => False) w).alloc _).trans hf1 fun _ _ => id)
  have KF := Lib.hid (frame_any A n c b w1 (H.out.fresh HF1.out) (by omega))
  have HG := Lib.hid (show w.heap.size ≤ g by rw [World.size_alloc] at hg; omega)
  have HB1 := Lib.hid hfb
  clear hf1 hg hfb KM
  go_wp2_with fail
  refine KF.out.mono ?_
  rintro e w2 ⟨hf2, g2, cap2, rfl, hg2, hfb2⟩
  have hth := HB1.out.2.1
  have HB2 := Lib.hid (show Fb w2 g cap (metaF 114 [i]) from ⟨fun j x hx => hf2.cell (HB1.out.1 j x hx) id, fun j hj => by
    obtain ⟨h1, h2⟩ := hth j hj
    obtain ⟨u, hu⟩ := Option.isSome_iff_exists.1 h1
    refine ⟨by rw [hf2.cell hu id]; rfl, ?_⟩
    rw [hf2.frozen (World.block_lt_of_cell? w1 _ hu) id]
    exact h2, HB1.out.2.2.1, HB1.out.2.2.2⟩)
  have hbs := hfb2.bs
  rw [Enc.frame_len, hbl] at hbs
  have HS := Lib.hid (Bs.src hbs (t := 26) (e' := 5) Tryz.underlying26)
  have HF2 := Lib.hid (HF1.out.trans hf2 fun _ _ => id)
  have hml : (metaF 114 [i]).length = 17 := by rw [metaF_len]; rfl
  have HML := Lib.hid hml
  clear hf2 hg2 hfb2 hth hbs KF HB1
  go_wp2_with (at_builtin; refine wpList_fb_src _ rfl _ _ 26 26 rfl 5 Tryz.info5 Tryz.underlying26 rfl HB2.out (.slice (some ⟨g2, 0, none⟩) (n + 8) cap2) (n + 8) rfl HS.out (by omega) ?_; intro g3 c3 w3 h3 hg3 he3; have H3 := Lib.hid h3; have HG3 := Lib.hid hg3; have HE3 := Lib.hid he3; clear h3 hg3 he3)
  go_ret
  have he : (It.put i b).enc = metaF 114 [i] ++ Enc.frame b := rfl
  have hlen : (It.put i b).enc.length = (metaF 114 [i]).length + (n + 8) := by rw [he, List.length_append, Enc.frame_len, hbl]
  refine ⟨HF2.out.grown HG3.out fun q hq => .inl (by injection hq with hq; rw [← hq]; exact HG.out), g3, c3, by rw [hlen, hml]; rfl, ?_, by rw [hlen, he]; exact H3.out⟩
  rcases HE3.out with h | h
  · rw [h]; exact HG.out
  · rw [h]; exact HF2.out.size
end Go.Proofs.YtlcmnihpfpmajaaGreat
