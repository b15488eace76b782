/- The wal claims' texts, several in one: Ctv. Conditions stand with each theorem. -/
import Derived.Test.YtlcmnihpfpmajaaGreatZa22
import Derived.Test.YtlcmnihpfpmajaaGreatZa24
import Derived.Deep.RegionHeld
import Derived.Deep.RegionLaw
/- A log's content as the law keeps it: next, cut, with. Conditions stand with each. -/
namespace Go.Proofs.YtlcmnihpfpmajaaGreat
open Go.RowKit

/-- a row of the call's own, or an empty slice of anywhere -/
def Oz (w : World) (e : TypeId) (size : Nat) (v : Value) (n : Nat) (xs : List Value) : Prop := Own w e size v n xs ∨ ∃ A, v = .slice A 0 0 ∧ n = 0 ∧ xs = []
/-- a row that is only read -/
def Rd (w : World) (v : Value) (n : Nat) (xs : List Value) : Prop :=
  xs.length = n ∧ ∃ A c, v = .slice A n c ∧ n ≤ c ∧ c ≤ maxLen ∧ ((A = none ∧ n = 0 ∧ c = 0) ∨ ∃ g o, A = some ⟨g, o, none⟩ ∧ ∀ j u, xs[j]? = some u → w.cell? ⟨g, o + j, none⟩ = some u)
section
variable {P : Program} {w w' : World} {e : TypeId} {size n : Nat} {v : Value} {xs : List Value}
theorem run_cp_src (w : World) (t tx ty e : TypeId) (i : TypeInfo) (z : Value) (size bytes : Nat) (ht : P.underlying t = some (.slice e)) (hi : P.info? e = some i) (hz : i.zero = some z) (hsize : i.size = size) (hby : i.bytes = bytes) (hzs : z.cells.size = size)
    (A : Option Addr) (x : Value) (m : Nat) (news : List Value) (hs : Src P size tx x m news w) (h63 : m ≤ maxLen) (hbytes : m * bytes ≤ 140737488355328) :
    ∃ B c' w', (Builtin.append_ #[t, tx] ty #[.slice A 0 0, x]).run P w = .ok (.slice B m c') w' ∧ Oz w' e size (.slice B m c') m news ∧ w.grownBy w' none ∧
      ((Value.slice B m c').ownBlock = (Value.slice A 0 0).ownBlock ∨ (Value.slice B m c').ownBlock = some w.heap.size) := by
  subst hsize
  subst hby
  by_cases h0 : m = 0
  · subst h0
    have hn : news = [] := List.eq_nil_of_length_eq_zero (by have := hs.newsLen; omega)
    subst hn
    exact ⟨A, 0, w, run_append_nothing w t tx ty e i ht hi A 0 0 (Nat.le_refl _) x hs, .inr ⟨A, rfl, rfl, rfl⟩, ⟨rfl, rfl, rfl, Nat.le_refl _, fun _ _ _ => rfl⟩, .inl rfl⟩
  · have hlen : news.length = m * i.size := hs.newsLen
    have hm63 : ((0 + m : Nat) : Int) ≤ 9223372036854775807 := by unfold maxLen at h63; omega
    have hold : (Builtin.firstCells i.size 0 (.slice A 0 0)).run P w.drew = .ok ([] : List Value).toArray w.drew := by
      cases A with
      | none => exact run_firstCells_none w.drew i.size 0 0 0
      | some a => exact (Src.ofSlice w ht a 0 0 [] (by simp) (by simp) (by simp) : Src P i.size t _ 0 [] w).cellsD
    have hrun := run_append_grow_src (P := P) w t tx ty e i z ht hi hz A 0 0 [] hold x m news hs (by omega) hm63 (growslice_fits (by omega) (by rw [Nat.zero_add]; exact hbytes))
    have hge := grownCap_ge w (0 + m) 0 e
    have hcm := grownCap_le_maxLen w (0 + m) 0 e (by rw [Nat.zero_add]; exact h63)
    rw [Nat.zero_add] at hrun hge hcm
    rw [List.nil_append] at hrun
    refine ⟨_, _, _, hrun, .inl ⟨hlen, .inr ⟨w.heap.size, _, _, rfl, heap_alloc_new w.drew _, hge, hcm, ?_, ?_⟩⟩, ⟨rfl, rfl, rfl, by simp, fun k hk _ => Below.heap_alloc w.drew _ k hk⟩, .inr rfl⟩
    · rw [Array.size_append, List.size_toArray, hlen, size_zeroCells, hzs, ← Nat.add_mul]
      exact Nat.le_of_eq (by congr 1; omega)
    · rw [Array.toList_append, ← hlen]
      exact List.take_left
theorem run_oz_src (w : World) (t tx ty e : TypeId) (i : TypeInfo) (z : Value) (size bytes : Nat) (ht : P.underlying t = some (.slice e)) (hi : P.info? e = some i) (hz : i.zero = some z) (hsize : i.size = size) (hby : i.bytes = bytes) (hzs : z.cells.size = size)
    (v : Value) (n : Nat) (xs : List Value) (hown : Oz w e size v n xs) (h1 : ∀ u ∈ xs, u.oneCell' = true) (x : Value) (m : Nat) (news : List Value) (hs : Src P size tx x m news w) (h63 : n + m ≤ maxLen) (hbytes : (n + m) * bytes ≤ 140737488355328) :
    ∃ B c' w' row, (Builtin.append_ #[t, tx] ty #[v, x]).run P w = .ok (.slice B (n + m) c') w' ∧ Oz w' e size (.slice B (n + m) c') (n + m) (xs ++ news) ∧ w.grownBy w' row ∧ (row = none ∨ (row = v.ownBlock ∧ Own w e size v n xs)) ∧
      ((Value.slice B (n + m) c').ownBlock = v.ownBlock ∨ (Value.slice B (n + m) c').ownBlock = some w.heap.size) := by
  rcases hown with hown | ⟨A, rfl, rfl, rfl⟩
  · obtain ⟨B, c', w', h2, h3, h4, h5⟩ := run_own_src w t tx ty e i z size bytes ht hi hz hsize hby hzs v n xs hown h1 x m news hs h63 hbytes
    exact ⟨B, c', w', _, h2, .inl h3, h4, .inr ⟨rfl, hown⟩, h5⟩
  · rw [Nat.zero_add] at h63 hbytes ⊢
    rw [List.nil_append]
    obtain ⟨B, c', w', h2, h3, h4, h5⟩ := run_cp_src w t tx ty e i z size bytes ht hi hz hsize hby hzs A x m news hs h63 hbytes
    exact ⟨B, c', w', none, h2, h3, h4, .inl rfl, h5⟩
theorem step_oz_src (w : World) {ops : Array Oper} {o : Oper} {a : Act} {K : Act → World → Prop} {Q : Exit → Act → World → Prop} {E : Prop} (hgd : o.guard = none) (s x : Operand) (t tx : TypeId)
    (ho : o.op = .call { callee := .builtin .append, args := #[s, x], argTypes := #[t, tx] })
    (e : TypeId) (z : Value) (size bytes : Nat) (hinfo : (P.info? e).map (fun i => (i.zero, i.size, i.bytes)) = some (some z, size, bytes)) (ht : P.underlying t = some (.slice e)) (hzs : z.cells.size = size)
    (v : Value) (n : Nat) (xs : List Value) (hv : a.eval s = v) (hown : Oz w e size v n xs) (h1 : ∀ u ∈ xs, u.oneCell' = true) (y : Value) (m : Nat) (news : List Value) (hx : a.eval x = y) (hs : Src P size tx y m news w) (h63 : n + m ≤ maxLen) (hbytes : (n + m) * bytes ≤ 140737488355328)
    (h : ∀ B c' w' row, Oz w' e size (.slice B (n + m) c') (n + m) (xs ++ news) → w.grownBy w' row → (row = none ∨ (row = v.ownBlock ∧ Own w e size v n xs)) → ((Value.slice B (n + m) c').ownBlock = v.ownBlock ∨ (Value.slice B (n + m) c').ownBlock = some w.heap.size) → K (a.put o.dst (.slice B (n + m) c')) w') :
    if Region.wanted o (yielded ops a.tmps) = true then Oper.wp P o a w K Q else E := by
  have hw : Region.wanted o (yielded ops a.tmps) = true := by simp [Region.wanted, hgd]
  rw [if_pos hw]
  obtain ⟨i, hi, hz, hs1, hb1⟩ := info_parts hinfo
  obtain ⟨B, c', w', row, hr, h2, h3, h5, h4⟩ := run_oz_src (P := P) w t tx o.type e i z size bytes ht hi hz hs1 hb1 hzs v n xs hown h1 y m news hs h63 hbytes
  unfold Oper.wp execOp
  simp only [ho, resolve, invoke, builtin, Sem.run_bind, Sem.run_pure, Result.andThen_ok, List.map_toArray, List.map_cons, List.map_nil, hv, hx, hr]
  exact h B c' w' row h2 h3 h5 h4
/-- onto an empty slice: a copy -/
theorem step_cp_src (w : World) {ops : Array Oper} {o : Oper} {a : Act} {K : Act → World → Prop} {Q : Exit → Act → World → Prop} {E : Prop} (hgd : o.guard = none) (s x : Operand) (t tx : TypeId)
    (ho : o.op = .call { callee := .builtin .append, args := #[s, x], argTypes := #[t, tx] })
    (e : TypeId) (z : Value) (size bytes : Nat) (hinfo : (P.info? e).map (fun i => (i.zero, i.size, i.bytes)) = some (some z, size, bytes)) (ht : P.underlying t = some (.slice e)) (hzs : z.cells.size = size)
    (A : Option Addr) (hv : a.eval s = .slice A 0 0) (y : Value) (m : Nat) (news : List Value) (hx : a.eval x = y) (hs : Src P size tx y m news w) (h63 : m ≤ maxLen) (hbytes : m * bytes ≤ 140737488355328)
    (h : ∀ B c' w', Oz w' e size (.slice B m c') m news → Fresh w w' → ((Value.slice B m c').ownBlock = (Value.slice A 0 0).ownBlock ∨ (Value.slice B m c').ownBlock = some w.heap.size) → K (a.put o.dst (.slice B m c')) w') :
    if Region.wanted o (yielded ops a.tmps) = true then Oper.wp P o a w K Q else E := by
  have hw : Region.wanted o (yielded ops a.tmps) = true := by simp [Region.wanted, hgd]
  rw [if_pos hw]
  obtain ⟨i, hi, hz, hs1, hb1⟩ := info_parts hinfo
  obtain ⟨B, c', w', hr, h2, h3, h4⟩ := run_cp_src (P := P) w t tx o.type e i z size bytes ht hi hz hs1 hb1 hzs A y m news hs h63 hbytes
  unfold Oper.wp execOp
  simp only [ho, resolve, invoke, builtin, Sem.run_bind, Sem.run_pure, Result.andThen_ok, List.map_toArray, List.map_cons, List.map_nil, hv, hx, hr]
  exact h B c' w' h2 ((Touch.refl _ w).grown h3 fun k hk => by cases hk) h4
theorem Oz.fresh (h : Oz w e size v n xs) (hb : Fresh w w') : Oz w' e size v n xs := h.imp (fun h => h.touch hb fun _ _ => id) id
theorem Oz.own (h : Oz w e size v n xs) (h0 : 0 < n) : Own w e size v n xs := by
  rcases h with h | ⟨_, _, h, _⟩
  · exact h
  · omega
theorem Oz.bs {A : Option Addr} {c : Nat} {l : List UInt8} (hl : l.length = n) (h : Oz w 5 1 (.slice A n c) n (u8s l)) : Bs w A n c l := by
  rcases h with h | ⟨B, hB, rfl, h2⟩
  · exact Own.bs h
  · injection hB with hB _ hC
    subst hB hC
    exact ⟨hl, Nat.le_refl _, Nat.zero_le _, fun h => by omega⟩
theorem Rd.form (h : Rd w v n xs) : ∃ A c, v = .slice A n c ∧ n ≤ c ∧ c ≤ maxLen ∧ ((A = none ∧ n = 0 ∧ c = 0) ∨ ∃ g o, A = some ⟨g, o, none⟩) := by
  obtain ⟨_, A, c, h1, h2, h3, h4⟩ := h
  exact ⟨A, c, h1, h2, h3, h4.imp id fun ⟨g, o, e, _⟩ => ⟨g, o, e⟩⟩
theorem Rd.cell {g o c : Nat} (h : Rd w (.slice (some ⟨g, o, none⟩) n c) n xs) {j : Nat} {u : Value} (hj : xs[j]? = some u) : w.cell? ⟨g, o + j, none⟩ = some u := by
  obtain ⟨_, A, c, h1, h2, h3, h4⟩ := h
  injection h1 with h1 _ _
  rcases h4 with ⟨e, _⟩ | ⟨g', o', e, hc⟩
  · rw [e] at h1; cases h1
  · rw [← h1] at e
    injection e with e
    injection e with e1 e2 _
    subst e1 e2
    exact hc j u hj
theorem Rd.touch {S : Nat → Prop} (h : Rd w v n xs) (hb : Touch S w w') (hn : ∀ k, v.ownBlock = some k → 0 < n → ¬ S k) : Rd w' v n xs := by
  obtain ⟨hl, A, c, rfl, h2, h3, h4⟩ := h
  refine ⟨hl, A, c, rfl, h2, h3, h4.imp id ?_⟩
  rintro ⟨g, o, rfl, hc⟩
  refine ⟨g, o, rfl, fun j u hu => ?_⟩
  have h0 := hc j u hu
  exact hb.cell h0 (hn g rfl (by have := (List.getElem?_eq_some_iff.1 hu).1; omega))
theorem Rd.fresh (h : Rd w v n xs) (hb : Fresh w w') : Rd w' v n xs := h.touch hb fun _ _ _ => id
theorem Rd.drop {g o c : Nat} (h : Rd w (.slice (some ⟨g, o, none⟩) n c) n xs) {k : Nat} (hk : k ≤ n) : Rd w (.slice (some ⟨g, o + k, none⟩) (n - k) (c - k)) (n - k) (xs.drop k) := by
  have hc := @Rd.cell w n xs g o c h
  obtain ⟨hl, A, c', h1, h2, h3, _⟩ := h
  injection h1 with _ _ h1
  subst h1
  exact ⟨by rw [List.length_drop, hl], _, _, rfl, by omega, by omega, .inr ⟨g, o + k, rfl, fun j u hu => by rw [List.getElem?_drop] at hu; rw [Nat.add_assoc]; exact hc hu⟩⟩
theorem Rd.none_ {w : World} {A : Option Addr} {c : Nat} (hA : (A = none ∧ c = 0) ∨ ∃ g o, A = some ⟨g, o, none⟩) (hc : c ≤ maxLen) : Rd w (.slice A 0 c) 0 [] :=
  ⟨rfl, A, c, rfl, Nat.zero_le _, hc, hA.imp (fun h => ⟨h.1, rfl, h.2⟩) fun ⟨g, o, e⟩ => ⟨g, o, e, fun j u hu => by simp at hu⟩⟩
theorem Rd.src {t e' : TypeId} (h : Rd w v n xs) (ht : P.underlying t = some (.slice e')) (h1 : ∀ u ∈ xs, u.oneCell' = true) : Src P 1 t v n xs w := by
  obtain ⟨hl, A, c, rfl, h2, h3, h4⟩ := h
  rcases h4 with ⟨rfl, rfl, rfl⟩ | ⟨g, o, rfl, hc⟩
  · have : xs = [] := List.eq_nil_of_length_eq_zero hl
    subst this
    exact Src.ofNil w ht 0
  · exact Src.ofSlice w ht _ _ _ _ (by omega) (fun j u hu => by rw [add_flat]; exact hc j u hu) h1
theorem Own.rd (h : Own w e 1 v n xs) : Rd w v n xs := by
  obtain ⟨A, c, rfl, h2, h3, h4⟩ := h.form
  have hl : xs.length = n := by have := h.1; omega
  refine ⟨hl, A, c, rfl, h2, h3, ?_⟩
  rcases h4 with h4 | ⟨g, rfl⟩
  · exact .inl h4
  · refine .inr ⟨g, 0, rfl, fun j u hu => ?_⟩
    have hj := (List.getElem?_eq_some_iff.1 hu).1
    rw [Nat.zero_add, h.cell (j := j) (by omega)]
    exact hu
end
/-- a content's rows in memory: they lie in blocks of Q, and are only read -/
def CM (w : World) (Q : Nat → Prop) (v : Value) (rows : List (List UInt8)) : Prop := ∃ vs, Rd w v rows.length vs ∧ RecsOf w Q vs rows ∧ ∀ k, v.ownBlock = some k → 0 < rows.length → Q k ∧ k < w.heap.size
section
variable {w w' : World} {Q Q' : Nat → Prop} {v : Value} {rows : List (List UInt8)}
theorem CM.nil_ (w : World) (Q : Nat → Prop) : CM w Q (.slice none 0 0) [] := ⟨[], Rd.none_ (.inl ⟨rfl, rfl⟩) (Nat.zero_le _), ⟨rfl, fun i b hb => by simp at hb, fun u hu => by simp at hu⟩, fun k hk => by simp [Value.ownBlock] at hk⟩
theorem CM.touch {S : Nat → Prop} (h : CM w Q v rows) (hb : Touch S w w') (hn : ∀ k, Q k → ¬ S k) : CM w' Q v rows := by
  obtain ⟨vs, h1, h2, h3⟩ := h
  exact ⟨vs, h1.touch hb fun k hk h0 => hn k (h3 k hk h0).1, h2.touch hb hn, fun k hk h0 => ⟨(h3 k hk h0).1, Nat.lt_of_lt_of_le (h3 k hk h0).2 hb.size⟩⟩
theorem CM.fresh (h : CM w Q v rows) (hb : Fresh w w') : CM w' Q v rows := h.touch hb fun _ _ => id
theorem CM.weak (h : CM w Q v rows) (hq : ∀ k, Q k → Q' k) : CM w Q' v rows := by
  obtain ⟨vs, h1, h2, h3⟩ := h
  exact ⟨vs, h1, h2.weak hq, fun k hk h0 => ⟨hq k (h3 k hk h0).1, (h3 k hk h0).2⟩⟩
theorem CM.form (h : CM w Q v rows) : ∃ A c, v = .slice A rows.length c ∧ rows.length ≤ c ∧ c ≤ maxLen ∧ ((A = none ∧ rows.length = 0 ∧ c = 0) ∨ ∃ g o, A = some ⟨g, o, none⟩) := by
  obtain ⟨vs, h1, _⟩ := h
  exact h1.form
theorem CM.one {v : Value} (h : CM w Q v rows) : v.oneCell' = true := by
  obtain ⟨A, c, rfl, _⟩ := h.form
  rfl
theorem CM.drop {g o c : Nat} (h : CM w Q (.slice (some ⟨g, o, none⟩) rows.length c) rows) {k : Nat} (hk : k ≤ rows.length) : CM w Q (.slice (some ⟨g, o + k, none⟩) (rows.length - k) (c - k)) (rows.drop k) := by
  obtain ⟨vs, h1, h2, h3⟩ := h
  have hl : (rows.drop k).length = rows.length - k := List.length_drop
  rw [← hl]
  refine ⟨vs.drop k, by rw [hl]; exact h1.drop hk, ⟨by rw [List.length_drop, List.length_drop, h2.len], fun i b hb => ?_, fun u hu => h2.one u (List.mem_of_mem_drop hu)⟩, fun q hq h0 => h3 q hq (by omega)⟩
  rw [List.getElem?_drop] at hb ⊢
  exact h2.at_ _ b hb
theorem CM.none_ {A : Option Addr} {c : Nat} (hA : (A = none ∧ c = 0) ∨ ∃ g o, A = some ⟨g, o, none⟩) (hc : c ≤ maxLen) : CM w Q (.slice A 0 c) [] :=
  ⟨[], Rd.none_ hA hc, ⟨rfl, fun i b hb => by simp at hb, fun u hu => by simp at hu⟩, fun k hk h0 => by simp at h0⟩
theorem ct_desc : ∃ fs, Tryz.prog.underlying 35 = some (.struct fs) := by
  have h : isStr (Tryz.prog.underlying 35) = true := by kernel_rfl
  generalize Tryz.prog.underlying 35 = o at *
  cases o with
  | none => cases h
  | some d => cases d <;> first | exact ⟨_, rfl⟩ | cases h
theorem results_ct {fn : Func} (h : fn.results = #[.cell 4 35]) (tmps : Array Value) (w : World) (g : Nat) (cs : Array Value)
    (hp : tmps.getD 4 undef = .pointer (some ⟨g, 0, none⟩)) (hg : Blk w g 35 cs) (hs : cs.size = 2) :
    (results fn tmps).run Tryz.prog w = .ok (.agg cs) w := by
  obtain ⟨fs, hu⟩ := ct_desc
  have hi : (Tryz.prog.info? 35).map (·.size) = some cs.size := by rw [hs]; kernel_rfl
  exact results_cell_row h tmps w g 35 cs (0, 0) _ hp hg hu rfl hi
theorem ct_set {w : World} {g : Nat} {a0 a1 : Value} (h : Blk w g 35 #[a0, a1]) (b0 b1 : Value) : Blk ((w.setCell ⟨g, 0, none⟩ b0).setCell ⟨g, 1, none⟩ b1) g 35 #[b0, b1] := by
  have := (h.set_ 0 b0).set_ 1 b1
  simpa using this
theorem ct_touch {S : Nat → Prop} {W w : World} {g : Nat} (h : Touch S W w) (hg : W.heap.size ≤ g ∨ S g) (b0 b1 : Value) : Touch S W ((w.setCell ⟨g, 0, none⟩ b0).setCell ⟨g, 1, none⟩ b1) := (h.setCell hg b0).setCell hg b1
set_option maxRecDepth 20000 in
theorem cnext_any {first n c : Nat} {A : Option Addr} (w : World) (h : first + n ≤ 4611686018427387904) :
    Calls Tryz.prog 21 #[.agg #[.int .i64 (first : Int), .slice A n c]] w fun e w' => Fresh w w' ∧ e = .returned (.int .i64 ((first + n : Nat) : Int)) := by
  have hwr : IntKind.i64.wrap ((first : Int) + (n : Int)) = (first : Int) + (n : Int) := IntWalk.i64_in _ (by omega)
  have HE := Lib.hid (show ((first + n : Nat) : Int) = (first : Int) + (n : Int) by omega)
  clear h
  go_enter Tryz.func21, Tryz.ntmps21
  go_wp2_with fail
  go_ret
  exact ⟨(Touch.refl _ w).alloc _, by rw [HE.out]; rfl⟩
theorem ct_cut_min {first : Nat} {rows : List (List UInt8)} {before : Int} (h : before ≤ (first : Int)) : (⟨first, rows⟩ : Ct).cut (min before ((⟨first, rows⟩ : Ct).next : Int)).toNat = ⟨first, rows⟩ := by
  unfold Ct.cut
  rw [if_neg (by dsimp only; omega)]
theorem ct_cut_at {first : Nat} {rows : List (List UInt8)} {before : Int} {k : Nat} (_h : (first : Int) < before) (hk : ((first + k : Nat) : Int) = min before ((⟨first, rows⟩ : Ct).next : Int)) : (⟨first, rows⟩ : Ct).cut (min before ((⟨first, rows⟩ : Ct).next : Int)).toNat = ⟨first + k, rows.drop k⟩ := by
  rw [← hk]
  unfold Ct.cut
  rw [Int.toNat_natCast]
  by_cases h0 : first < first + k
  · rw [if_pos h0]
    dsimp only
    rw [Nat.add_sub_cancel_left]
  · have : k = 0 := by omega
    subst this
    rw [if_neg h0]
    rfl
set_option maxRecDepth 20000 in
set_option maxHeartbeats 1000000 in
theorem ccut_any {first : Nat} (h : CM w Q v rows) (hb : first + rows.length ≤ 4611686018427387904) (before : Int) :
    Calls Tryz.prog 24 #[.agg #[.int .i64 (first : Int), v], .int .i64 before] w fun e w' => Fresh w w' ∧ ∃ v', e = .returned (.agg #[.int .i64 (((⟨first, rows⟩ : Ct).cut (min before ((⟨first, rows⟩ : Ct).next : Int)).toNat).first : Int), v']) ∧ CM w' Q v' ((⟨first, rows⟩ : Ct).cut (min before ((⟨first, rows⟩ : Ct).next : Int)).toNat).rows := by
  obtain ⟨n, hn⟩ : ∃ n, n = rows.length := ⟨_, rfl⟩
  have hnext : ((⟨first, rows⟩ : Ct).next : Int) = (first : Int) + (n : Int) := by rw [hn]; unfold Ct.next; dsimp only; omega
  obtain ⟨A, c, rfl, hnc, hcm, hA⟩ := h.form
  rw [← hn] at hnc hA h ⊢
  unfold maxLen at hcm
  obtain ⟨w1, hw1⟩ : ∃ w1, w1 = (w.alloc (.cells #[.int .i64 (first : Int), .slice A n c] 35)).alloc (.cells #[.int .i64 0, .slice none 0 0] 35) := ⟨_, rfl⟩
  have hf1 : Fresh w w1 := by rw [hw1]; exact ((Touch.refl _ w).alloc _).alloc _
  have hb0 : Blk w1 w.heap.size 35 #[.int .i64 (first : Int), .slice A n c] := by rw [hw1]; exact (Blk.new w _ _).alloc _
  have hb1 : Blk w1 (w.heap.size + 1) 35 #[.int .i64 0, .slice none 0 0] := by
    rw [hw1]
    have := Blk.new (w.alloc (.cells #[.int .i64 (first : Int), .slice A n c] 35)) 35 #[.int .i64 0, .slice none 0 0]
    rw [alloc_size] at this
    exact this
  have hz : Blk w1 (w.heap.size + 1) 35 #[.int .i64 0, .slice none 0 0] := hb1
  have e0 : ∀ W, Fresh w1 W → W.cell? ⟨w.heap.size, 0, none⟩ = some (.int .i64 (first : Int)) := fun W hW => (hb0.touch hW id).cell 0
  have e1 : ∀ W, Fresh w1 W → W.cell? ⟨w.heap.size, 1, none⟩ = some (.slice A n c) := fun W hW => (hb0.touch hW id).cell 1
  have H := Lib.hid h; have HF1 := Lib.hid hf1; have HW1 := Lib.hid hw1; have HZ := Lib.hid hb1; have HN := Lib.hid hn; have HNX := Lib.hid hnext; have HE0 := Lib.hid e0; have HE1 := Lib.hid e1
  have HZS := Lib.hid (show ∀ W, Fresh w1 W → W.cell? ⟨w.heap.size + 1, 0, none⟩ = some (.int .i64 0) ∧ W.cell? ⟨w.heap.size + 1, 1, none⟩ = some (.slice none 0 0) ∧ W.frozen? ⟨w.heap.size + 1, 0, none⟩ = false ∧ W.frozen? ⟨w.heap.size + 1, 1, none⟩ = false from fun W hW => ⟨(hb1.touch hW id).cell 0, (hb1.touch hW id).cell 1, (hb1.touch hW id).frozen 0, (hb1.touch hW id).frozen 1⟩)
  obtain ⟨z0, z1, z2, z3⟩ := HZS.out w1 (Touch.refl _ _)
  have c0 := e0 w1 (Touch.refl _ _)
  have c1 := e1 w1 (Touch.refl _ _)
  have hnb : first + n ≤ 4611686018427387904 := by rw [hn]; exact hb
  clear h hf1 hb0 hb1 hz hn hnext e0 e1 hw1 hb
  by_cases hle : before ≤ (first : Int)
  · have hled : decide (before ≤ (first : Int)) = true := decide_eq_true hle
    have HR := Lib.hid (ct_cut_min (rows := rows) hle)
    go_enter Tryz.func24, Tryz.ntmps24
    go_upto_region 1 with fail
    rw [← HW1.out]
    go_wp2_with fail
    refine bodyPost_ret (results_ct rfl _ _ _ _ rfl (ct_set HZ.out _ _) rfl) rfl ?_
    rw [HR.out]
    exact ⟨ct_touch HF1.out (.inl (by omega)) _ _, _, rfl, H.out.fresh (ct_touch HF1.out (.inl (by omega)) _ _)⟩
  · have hled : decide (before ≤ (first : Int)) = false := decide_eq_false hle
    have KN := Lib.hid (show ∀ W, Fresh w1 W → Calls Tryz.prog 21 #[.agg #[.int .i64 (first : Int), .slice A n c]] W fun e w' => Fresh w1 w' ∧ e = .returned (.int .i64 ((first : Int) + (n : Int))) from fun W hW => (cnext_any W (by omega)).mono fun e w' ⟨q1, q2⟩ => ⟨hW.trans q1 fun _ _ => id, by rw [q2]; rfl⟩)
    have hfin : ∀ (k : Nat), k ≤ n → ((first + k : Nat) : Int) = min before ((⟨first, rows⟩ : Ct).next : Int) → (⟨first, rows⟩ : Ct).cut (min before ((⟨first, rows⟩ : Ct).next : Int)).toNat = ⟨first + k, rows.drop k⟩ := fun k hk he => ct_cut_at (by omega) he
    have HFIN := Lib.hid hfin
    clear hfin
    have hcut : ∀ (k : Nat), k ≤ n → ∃ A2, (A = none → A2 = none ∧ k = 0) ∧ (∀ g o, A = some ⟨g, o, none⟩ → A2 = if c = k then some ⟨g, o, none⟩ else some ⟨g, o + k, none⟩) ∧ CM w Q (.slice A2 (n - k) (c - k)) (rows.drop k) := by
      intro k hk
      rcases hA with ⟨h1, h2, h3⟩ | ⟨g, o, h1⟩
      · have : rows.drop k = [] := by rw [List.drop_eq_nil_iff, ← HN.out]; omega
        subst h1
        refine ⟨none, fun _ => ⟨rfl, by omega⟩, fun g o h => (by cases h), ?_⟩
        rw [this, h2, h3, Nat.zero_sub]
        exact CM.nil_ w Q
      · subst h1
        refine ⟨if c = k then some ⟨g, o, none⟩ else some ⟨g, o + k, none⟩, fun h => (by cases h), fun g' o' h => (by injection h with h; injection h with h1 h2; rw [h1, h2]), ?_⟩
        have h4 := H.out
        by_cases hck : c = k
        · have : rows.drop k = [] := by rw [List.drop_eq_nil_iff, ← HN.out]; omega
          rw [if_pos hck, this, show n - k = 0 by omega, show c - k = 0 by omega]
          exact CM.none_ (.inr ⟨g, o, rfl⟩) (Nat.zero_le _)
        · rw [if_neg hck]
          rw [HN.out] at h4 hk ⊢
          exact h4.drop hk
    have HCUT := Lib.hid hcut
    clear hcut
    by_cases hbig : (first : Int) + (n : Int) < before
    · have hbd : decide ((first : Int) + (n : Int) < before) = true := decide_eq_true hbig
      go_enter Tryz.func24, Tryz.ntmps24
      go_upto_region 1 with fail
      rw [← HW1.out]
      go_wp2_with fail
      refine (KN.out w1 (Touch.refl _ _)).mono ?_
      rintro e w2 ⟨hf2, rfl⟩
      have d0 := HE0.out w2 hf2
      have d1 := HE1.out w2 hf2
      have HF2 := Lib.hid hf2
      go_wp2_with fail
      refine (KN.out w2 HF2.out).mono ?_
      rintro e w3 ⟨hf3, rfl⟩
      have HF3 := Lib.hid hf3
      have f0 := HE0.out w3 hf3
      have f1 := HE1.out w3 hf3
      clear d0 d1 c0 c1 z0 z1 z2 z3 hf2 hf3
      have hwk : IntKind.i64.wrap ((first : Int) + (n : Int) - (first : Int)) = (n : Int) := by rw [IntWalk.i64_in _ (by omega)]; omega
      have hkn1 : ¬ (n : Int) < (n : Int) := by omega
      have hkn2 : (n : Int) ≤ (n : Int) := by omega
      obtain ⟨A2, hA2a, hA2b, hcm2⟩ := HCUT.out n (by omega)
      have HCM2 := Lib.hid hcm2
      have HR := Lib.hid (HFIN.out n (by omega) (by have := HNX.out; omega))
      obtain ⟨z0, z1, z2, z3⟩ := HZS.out w3 HF3.out
      have HB := Lib.hid (HZ.out.touch HF3.out id)
      have HT := Lib.hid (HF1.out.trans HF3.out fun _ _ => id)
      have hsz : w.heap.size ≤ w.heap.size + 1 := by omega
      clear hcm2
      rcases hA with ⟨h1, h2, h3⟩ | ⟨g, o, h1⟩
      · subst h1
        obtain ⟨rfl, hk0⟩ := hA2a rfl
        clear hA2a hA2b
        have hcm3 := HCM2.out
        simp only [h2, h3, Nat.zero_sub] at hcm3
        have HCM3 := Lib.hid hcm3
        clear hcm3 HCM2
        go_wp2_with fail
        refine bodyPost_ret (results_ct rfl _ _ _ _ rfl (ct_set HB.out _ _) rfl) rfl ?_
        rw [HR.out]
        exact ⟨ct_touch HT.out (.inl hsz) _ _, .slice none 0 0, by simp [h2], by rw [h2]; exact HCM3.out.fresh (ct_touch HT.out (.inl hsz) _ _)⟩
      · subst h1
        have hA2 := hA2b g o rfl
        clear hA2a hA2b
        by_cases hck : c = n
        · rw [if_pos hck] at hA2
          subst hA2
          subst hck
          have hcm3 := HCM2.out
          simp only [Nat.sub_eq_zero_of_le hnc] at hcm3
          have HCM3 := Lib.hid hcm3
          clear hcm3 HCM2
          go_wp2_with fail
          refine bodyPost_ret (results_ct rfl _ _ _ _ rfl (ct_set HB.out _ _) rfl) rfl ?_
          rw [HR.out]
          exact ⟨ct_touch HT.out (.inl hsz) _ _, _, rfl, HCM3.out.fresh (ct_touch HT.out (.inl hsz) _ _)⟩
        · rw [if_neg hck] at hA2
          subst hA2
          have hcm3 := HCM2.out
          simp only [Nat.sub_self] at hcm3
          have HCM3 := Lib.hid hcm3
          clear hcm3 HCM2
          go_wp2_with fail
          refine bodyPost_ret (results_ct rfl _ _ _ _ rfl (ct_set HB.out _ _) rfl) rfl ?_
          rw [HR.out]
          exact ⟨ct_touch HT.out (.inl hsz) _ _, _, rfl, HCM3.out.fresh (ct_touch HT.out (.inl hsz) _ _)⟩
    · have hbd : decide ((first : Int) + (n : Int) < before) = false := decide_eq_false hbig
      obtain ⟨k, hk⟩ : ∃ k : Nat, before = (first : Int) + (k : Int) := ⟨(before - first).toNat, by omega⟩
      subst hk
      go_enter Tryz.func24, Tryz.ntmps24
      go_upto_region 1 with fail
      rw [← HW1.out]
      go_wp2_with fail
      refine (KN.out w1 (Touch.refl _ _)).mono ?_
      rintro e w2 ⟨hf2, rfl⟩
      have HF2 := Lib.hid hf2
      have f0 := HE0.out w2 hf2
      have f1 := HE1.out w2 hf2
      clear c0 c1 z0 z1 z2 z3 hf2
      have hwk : IntKind.i64.wrap ((first : Int) + (k : Int) - (first : Int)) = (k : Int) := by rw [IntWalk.i64_in _ (by omega)]; omega
      have hkn1 : ¬ (n : Int) < (k : Int) := by omega
      have hkn2 : (k : Int) ≤ (n : Int) := by omega
      obtain ⟨A2, hA2a, hA2b, hcm2⟩ := HCUT.out k (by omega)
      have HCM2 := Lib.hid hcm2
      have HR := Lib.hid (HFIN.out k (by omega) (by have := HNX.out; omega))
      obtain ⟨z0, z1, z2, z3⟩ := HZS.out w2 HF2.out
      have HB := Lib.hid (HZ.out.touch HF2.out id)
      have HT := Lib.hid (HF1.out.trans HF2.out fun _ _ => id)
      have hsz : w.heap.size ≤ w.heap.size + 1 := by omega
      clear hcm2
      rcases hA with ⟨h1, h2, h3⟩ | ⟨g, o, h1⟩
      · subst h1
        obtain ⟨rfl, hk0⟩ := hA2a rfl
        exact absurd hle (by omega)
      · subst h1
        have hA2 := hA2b g o rfl
        clear hA2a hA2b
        by_cases hck : c = k
        · rw [if_pos hck] at hA2
          subst hA2
          subst hck
          have hcm3 := HCM2.out
          simp only [Nat.sub_self, Nat.sub_eq_zero_of_le hnc] at hcm3
          have HCM3 := Lib.hid hcm3
          clear hcm3 HCM2
          go_wp2_with fail
          refine bodyPost_ret (results_ct rfl _ _ _ _ rfl (ct_set HB.out _ _) rfl) rfl ?_
          rw [HR.out]
          exact ⟨ct_touch HT.out (.inl hsz) _ _, _, rfl, HCM3.out.fresh (ct_touch HT.out (.inl hsz) _ _)⟩
        · rw [if_neg hck] at hA2
          subst hA2
          have hcm3 := HCM2.out
          have HCM3 := Lib.hid hcm3
          clear hcm3 HCM2
          go_wp2_with fail
          refine bodyPost_ret (results_ct rfl _ _ _ _ rfl (ct_set HB.out _ _) rfl) rfl ?_
          rw [HR.out]
          exact ⟨ct_touch HT.out (.inl hsz) _ _, _, rfl, HCM3.out.fresh (ct_touch HT.out (.inl hsz) _ _)⟩
end
end Go.Proofs.YtlcmnihpfpmajaaGreat
