/- The contracts of the codec's pen: each writes its bytes behind those that are there, or panics with a stop. -/
import Derived.Test.YtdfhdanfigpbpaaEnc
import Derived.BigQuiet
import Derived.Deep.QuietTactic
import Derived.BigRegion
import Derived.Deep.RegionLaw
import Derived.Lib.AppendStr
namespace Go.Proofs.Ytdfhdanfigpbpaa
open Go.RowKit

theorem Try.info5 : (Try.prog.info? 5).map (fun i => (i.zero, i.size, i.bytes)) = some (some (.int .u8 0), 1, 1) := by kernel_rfl

section
open Go.Lib
variable {P : Program} (w : World)
/-- append of a string's bytes onto a row of the call's own: where the new row lies (after the library's own proof, arm for arm) -/
theorem run_append_str_at (base : Nat) (t u ty e : TypeId) (i : TypeInfo) (ht : P.underlying t = some (.slice e)) (hu : P.underlying u = some .string) (hi : P.info? e = some i) (hz : i.zero = some (.int .u8 0))
    (hsize : i.size = 1) (hby : i.bytes = 1)
    (v : Value) (n : Nat) (xs : List Value) (hown : w.ownsRow base e 1 v n xs) (s : ByteArray)
    (h63 : n + s.size ≤ maxLen) (hbytes : n + s.size ≤ 140737488355328) (hbase : base ≤ w.heap.size) :
    ∃ v' w', (Builtin.append_ #[t, u] ty #[v, .string s]).run P w = .ok v' w' ∧ w'.ownsRow base e 1 v' (n + s.size) (xs ++ strCells s) ∧ w.grownBy w' v.ownBlock ∧
      (v'.ownBlock = v.ownBlock ∨ v'.ownBlock = some w.heap.size) := by
  have hsmall : n + s.size ≤ 9223372036854775807 := by simp only [maxLen] at h63; omega
  have hxl : xs.length = n := by simpa using hown.1
  have hlen : (xs ++ strCells s).length = (n + s.size) * 1 := by rw [List.length_append, hxl, strCells_length, Nat.mul_one]
  have grown : ∀ (old : Nat), old < n + s.size → ∀ (row : Option Nat),
      (w.drew.alloc (.cells (xs.toArray ++ (strCells s).toArray ++ Builtin.zeroCells (Value.int .u8 0).cells (grownCap w (n + s.size) old e - (n + s.size))) e)).ownsRow base e 1
        (.slice (some ⟨w.heap.size, 0, none⟩) (n + s.size) (grownCap w (n + s.size) old e)) (n + s.size) (xs ++ strCells s) ∧
      w.grownBy (w.drew.alloc (.cells (xs.toArray ++ (strCells s).toArray ++ Builtin.zeroCells (Value.int .u8 0).cells (grownCap w (n + s.size) old e - (n + s.size))) e)) row := by
    intro old ho row
    have hge := grownCap_ge w (n + s.size) old e
    have hcm : grownCap w (n + s.size) old e ≤ maxLen := grownCap_le_maxLen w (n + s.size) old e h63
    refine ⟨⟨hlen, .inr ⟨w.heap.size, _, _, rfl, hbase, heap_alloc_new w.drew _, hge, hcm, ?_, ?_⟩⟩, ⟨rfl, rfl, rfl, by simp, fun k hk _ => Below.heap_alloc w.drew _ k hk⟩⟩
    · have hz1 : (Value.int IntKind.u8 0).cells.size = 1 := rfl
      simp only [Array.size_append, List.size_toArray, size_zeroCells, hz1, hxl, strCells_length]
      omega
    · simp only [Array.toList_append, List.append_assoc]
      rw [← List.append_assoc, ← hlen]
      exact List.take_left
  rcases hown.2 with ⟨rfl, rfl⟩ | ⟨g, cap, cur, rfl, hbg, hg, hnc, hcm, hcs, htake⟩
  · have hx : xs = [] := List.eq_nil_of_length_eq_zero hxl
    subst hx
    by_cases hm : s.size = 0
    · have hn : strCells s = [] := List.eq_nil_of_length_eq_zero (by rw [strCells_length]; exact hm)
      refine ⟨.slice none 0 0, w, ?_, by rw [hm, hn]; exact World.ownsRow_nil w base e 1, ⟨rfl, rfl, rfl, Nat.le_refl _, fun _ _ _ => rfl⟩, .inl rfl⟩
      have hf := run_firstCells_string (P := P) w 1 s
      rw [hm] at hf
      simp [Builtin.append_, run_underlying ht, run_underlying hu, sizeOf, typeInfo, hi, hsize, Builtin.lenOf, hm, hf]
    · have hr := run_append_nil_string (P := P) w t u ty e i (.int .u8 0) ht hu hi hz s (by omega) (by omega) (by rw [hby]; omega)
      have hgr := grown 0 (by omega) (Value.ownBlock (.slice none 0 0))
      simp only [Nat.zero_add, List.nil_append, Array.empty_append] at hgr ⊢
      have e1 : (s.data.map fun b => Value.int .u8 b.toNat) = (strCells s).toArray := by
        apply Array.ext'
        simp [strCells]
      rw [e1] at hr
      exact ⟨_, _, hr, hgr.1, hgr.2, .inr rfl⟩
  · by_cases hroom : n + s.size ≤ cap
    · have hcs' : cur.size = cap := by simpa using hcs
      have hr := run_append_room_string (P := P) w t u ty e i ht hu hi hsize g n cap cur hg s hroom (by omega)
      refine ⟨_, _, hr, ⟨hlen, .inr ⟨g, cap, _, rfl, hbg, setRow_heap w g cur _ e _ hg, hroom, hcm, ?_, ?_⟩⟩, ⟨rfl, rfl, rfl, by simp, fun k _ hk => setRow_other w g k _ (fun e => hk (by simp [Value.ownBlock, e]))⟩, .inl rfl⟩
      · simp only [List.size_toArray, List.length_append, List.length_take, List.length_drop, Array.length_toList, strCells_length]
        omega
      · have ht' : cur.toList.take n = xs := by simpa using htake
        rw [ht', ← hlen]
        exact List.take_left
    · have holds : ∀ j u, xs[j]? = some u → w.cell? ((⟨g, 0, none⟩ : Addr).add j) = some u := hown.cells (g := g) rfl
      have hr := run_append_grow_string (P := P) w t u ty e i (.int .u8 0) ht hu hi hz ⟨g, 0, none⟩ n cap xs (by rw [hsize]; simpa using hxl) holds s (by omega) (by omega) (by rw [hby]; exact growslice_fits (by omega) (by omega))
      have hgr := grown cap (by omega) (Value.ownBlock (.slice (some ⟨g, 0, none⟩) n cap))
      exact ⟨_, _, hr, hgr.1, hgr.2, .inr rfl⟩

theorem wp_row_str {o : Oper} {a : Act} {K : Act → World → Prop} {Q : Exit → Act → World → Prop} (s x : Operand) (t u : TypeId)
    (ho : o.op = .call { callee := .builtin .append, args := #[s, x], argTypes := #[t, u] })
    (hinfo : (P.info? 5).map (fun i => (i.zero, i.size, i.bytes)) = some (some (.int .u8 0), 1, 1)) (ht : P.underlying t = some (.slice 5)) (hu : P.underlying u = some .string)
    (v : Value) (xs : List UInt8) (hs : a.eval s = v) (hown : Row w v xs) (y : ByteArray) (hx : a.eval x = .string y) (hb : xs.length + y.size ≤ 140737488355328)
    (h : ∀ A c' w', Row w' (.slice A (xs.length + y.size) c') (xs ++ y.data.toList) → w.grownBy w' v.ownBlock → ((Value.slice A (xs.length + y.size) c').ownBlock = v.ownBlock ∨ (Value.slice A (xs.length + y.size) c').ownBlock = some w.heap.size) → K (a.put o.dst (.slice A (xs.length + y.size) c')) w') : o.wp P a w K Q := by
  obtain ⟨i, hi, hz, hs1, hb1⟩ := info_parts hinfo
  have hyl : y.size = y.data.toList.length := by rw [Array.length_toList]; rfl
  obtain ⟨v', w', hr, h1, h2, h4⟩ := run_append_str_at (P := P) w 0 t u o.type 5 i ht hu hi hz hs1 hb1 v xs.length (u8s xs) hown y (by unfold maxLen; omega) hb (Nat.zero_le _)
  have hrow : Row w' v' (xs ++ y.data.toList) := by
    unfold Row
    rw [List.length_append, u8s_append, ← hyl]
    exact h1
  obtain ⟨A, c', hv, _⟩ := hrow.form
  rw [List.length_append, ← hyl] at hv
  subst hv
  unfold Oper.wp execOp
  simp only [ho, resolve, invoke, builtin, Sem.run_bind, Sem.run_pure, Result.andThen_ok, List.map_toArray, List.map_cons, List.map_nil, hs, hx, hr]
  exact h A c' w' hrow h2 h4
theorem wpList_row_str {ops : Array Oper} {rest : List Oper} {o : Oper} {a : Act} {Q : Exit → Act → World → Prop} (hgd : o.guard = none) (s x : Operand) (t u : TypeId)
    (ho : o.op = .call { callee := .builtin .append, args := #[s, x], argTypes := #[t, u] })
    (hinfo : (P.info? 5).map (fun i => (i.zero, i.size, i.bytes)) = some (some (.int .u8 0), 1, 1)) (ht : P.underlying t = some (.slice 5)) (hu : P.underlying u = some .string)
    (v : Value) (xs : List UInt8) (hs : a.eval s = v) (hown : Row w v xs) (y : ByteArray) (hx : a.eval x = .string y) (hb : xs.length + y.size ≤ 140737488355328)
    (h : ∀ A c' w', Row w' (.slice A (xs.length + y.size) c') (xs ++ y.data.toList) → w.grownBy w' v.ownBlock → ((Value.slice A (xs.length + y.size) c').ownBlock = v.ownBlock ∨ (Value.slice A (xs.length + y.size) c').ownBlock = some w.heap.size) → wpList P ops Q rest (a.put o.dst (.slice A (xs.length + y.size) c')) w') : wpList P ops Q (o :: rest) a w :=
  wpList_plain hgd fun _ hK => wp_row_str w s x t u ho hinfo ht hu v xs hs hown y hx hb fun A c' w' h1 h2 h3 => hK _ _ (h A c' w' h1 h2 h3)
end

section
variable {P : Program} (w : World)
/-- append of bytes that lie in memory onto a row of bytes of the call's own -/
theorem wp_row {o : Oper} {a : Act} {K : Act → World → Prop} {Q : Exit → Act → World → Prop} (s x : Operand) (t : TypeId)
    (ho : o.op = .call { callee := .builtin .append, args := #[s, x], argTypes := #[t, t] })
    (hinfo : (P.info? 5).map (fun i => (i.zero, i.size, i.bytes)) = some (some (.int .u8 0), 1, 1)) (ht : P.underlying t = some (.slice 5))
    (v : Value) (xs : List UInt8) (hs : a.eval s = v) (hown : Row w v xs) (g : Nat) (m c : Nat) (ys : List UInt8) (hx : a.eval x = .slice (some ⟨g, 0, none⟩) m c) (hl : ys.length = m)
    (hnews : ∀ j y, ys[j]? = some y → w.cell? ⟨g, j, none⟩ = some (.int .u8 (y.toNat : Int))) (hb : xs.length + ys.length ≤ 140737488355328)
    (h : ∀ A c' w', Row w' (.slice A (xs.length + ys.length) c') (xs ++ ys) → w.grownBy w' v.ownBlock → ((Value.slice A (xs.length + ys.length) c').ownBlock = v.ownBlock ∨ (Value.slice A (xs.length + ys.length) c').ownBlock = some w.heap.size) → K (a.put o.dst (.slice A (xs.length + ys.length) c')) w') : o.wp P a w K Q := by
  obtain ⟨i, hi, hz, hs1, hb1⟩ := info_parts hinfo
  subst hl
  have hnews' : ∀ j u, (u8s ys)[j]? = some u → w.cell? ((⟨g, 0, none⟩ : Addr).add j) = some u := by
    intro j u hu
    rw [u8s_get] at hu
    obtain ⟨y, hy, rfl⟩ := Option.map_eq_some_iff.1 hu
    have hadd : (⟨g, 0, none⟩ : Addr).add j = ⟨g, j, none⟩ := by unfold Addr.add; split <;> simp_all
    rw [hadd]
    exact hnews j y hy
  obtain ⟨v', w', hr, h1, h2, _, h4⟩ := run_append_own_at (P := P) w 0 t o.type 5 i (.int .u8 0) 1 1 ht hi hz hs1 hb1 rfl (by decide) v xs.length (u8s xs) hown ⟨g, 0, none⟩ ys.length c (u8s ys) (by rw [u8s_length]; omega) hnews' (u8s_one ys) (by unfold maxLen; omega) (by omega) (Nat.zero_le _)
  have hrow : Row w' v' (xs ++ ys) := by
    unfold Row
    rw [List.length_append, u8s_append]
    exact h1
  obtain ⟨A, c', hv, _⟩ := hrow.form
  rw [List.length_append] at hv
  subst hv
  unfold Oper.wp execOp
  simp only [ho, resolve, invoke, builtin, Sem.run_bind, Sem.run_pure, Result.andThen_ok, List.map_toArray, List.map_cons, List.map_nil, hs, hx, hr]
  exact h A c' w' hrow h2 h4
theorem wpList_row {ops : Array Oper} {rest : List Oper} {o : Oper} {a : Act} {Q : Exit → Act → World → Prop} (hgd : o.guard = none) (s x : Operand) (t : TypeId)
    (ho : o.op = .call { callee := .builtin .append, args := #[s, x], argTypes := #[t, t] })
    (hinfo : (P.info? 5).map (fun i => (i.zero, i.size, i.bytes)) = some (some (.int .u8 0), 1, 1)) (ht : P.underlying t = some (.slice 5))
    (v : Value) (xs : List UInt8) (hs : a.eval s = v) (hown : Row w v xs) (g : Nat) (m c : Nat) (ys : List UInt8) (hx : a.eval x = .slice (some ⟨g, 0, none⟩) m c) (hl : ys.length = m)
    (hnews : ∀ j y, ys[j]? = some y → w.cell? ⟨g, j, none⟩ = some (.int .u8 (y.toNat : Int))) (hb : xs.length + ys.length ≤ 140737488355328)
    (h : ∀ A c' w', Row w' (.slice A (xs.length + ys.length) c') (xs ++ ys) → w.grownBy w' v.ownBlock → ((Value.slice A (xs.length + ys.length) c').ownBlock = v.ownBlock ∨ (Value.slice A (xs.length + ys.length) c').ownBlock = some w.heap.size) → wpList P ops Q rest (a.put o.dst (.slice A (xs.length + ys.length) c')) w') : wpList P ops Q (o :: rest) a w :=
  wpList_plain hgd fun _ hK => wp_row w s x t ho hinfo ht v xs hs hown g m c ys hx hl hnews hb fun A c' w' h1 h2 h3 => hK _ _ (h A c' w' h1 h2 h3)
theorem step_row {ops : Array Oper} {o : Oper} {a : Act} {K : Act → World → Prop} {Q : Exit → Act → World → Prop} {E : Prop} (hgd : o.guard = none) (s x : Operand) (t : TypeId)
    (ho : o.op = .call { callee := .builtin .append, args := #[s, x], argTypes := #[t, t] })
    (hinfo : (P.info? 5).map (fun i => (i.zero, i.size, i.bytes)) = some (some (.int .u8 0), 1, 1)) (ht : P.underlying t = some (.slice 5))
    (v : Value) (xs : List UInt8) (hs : a.eval s = v) (hown : Row w v xs) (g : Nat) (m c : Nat) (ys : List UInt8) (hx : a.eval x = .slice (some ⟨g, 0, none⟩) m c) (hl : ys.length = m)
    (hnews : ∀ j y, ys[j]? = some y → w.cell? ⟨g, j, none⟩ = some (.int .u8 (y.toNat : Int))) (hb : xs.length + ys.length ≤ 140737488355328)
    (h : ∀ A c' w', Row w' (.slice A (xs.length + ys.length) c') (xs ++ ys) → w.grownBy w' v.ownBlock → ((Value.slice A (xs.length + ys.length) c').ownBlock = v.ownBlock ∨ (Value.slice A (xs.length + ys.length) c').ownBlock = some w.heap.size) → K (a.put o.dst (.slice A (xs.length + ys.length) c')) w') :
    if Region.wanted o (yielded ops a.tmps) = true then Oper.wp P o a w K Q else E := by
  have hw : Region.wanted o (yielded ops a.tmps) = true := by simp [Region.wanted, hgd]
  rw [if_pos hw]
  exact wp_row w s x t ho hinfo ht v xs hs hown g m c ys hx hl hnews hb h
end

/-- the one byte that 'append(s, x)' lays in a block of its own first -/
theorem new_u8 (w : World) (e : TypeId) (n : Int) (y : UInt8) (h : n = (y.toNat : Int)) : ∀ j z, [y][j]? = some z → (w.alloc (.cells #[.int .u8 n] e)).cell? ⟨w.heap.size, j, none⟩ = some (.int .u8 (z.toNat : Int)) := by
  intro j z hz
  have hB := Blk.new w e #[.int .u8 n]
  cases j with
  | zero => simp only [List.getElem?_cons_zero, Option.some.injEq] at hz; subst hz; rw [hB.cell 0, h]; rfl
  | succ j => simp at hz
theorem new_u8d (w : World) (e : TypeId) (n : Int) (y : UInt8) (h : n = (y.toNat : Int)) : ∀ j z, [y][j]? = some z → (w.alloc (.cells #[.int .u8 n] e)).drew.cell? ⟨w.heap.size, j, none⟩ = some (.int .u8 (z.toNat : Int)) := new_u8 w e n y h
theorem ofNat_u8 (n : Nat) : (((UInt8.ofNat n).toNat : Nat) : Int) = (n : Int) % 256 := by simp

/-- A pen at block bp that has written xs. -/
def Pen (w : World) (bp : Nat) (v : Value) (xs : List UInt8) : Prop := Blk w bp 116 #[v] ∧ Row w v xs
/-- Only the pen and its row, and what is new. -/
def PenS (bp : Nat) (v : Value) (k : Nat) : Prop := k = bp ∨ v.ownBlock = some k
structure PenGo (bp : Nat) (v : Value) (w : World) (v' : Value) (w' : World) : Prop where
  touch : Touch (PenS bp v) w w'
  own : v'.ownBlock = v.ownBlock ∨ ∀ k, v'.ownBlock = some k → w.heap.size ≤ k
theorem PenGo.refl (bp : Nat) (v : Value) (w : World) : PenGo bp v w v w := ⟨Touch.refl _ _, .inl rfl⟩
theorem PenGo.subS {bp : Nat} {v v1 : Value} {w w1 : World} (h : PenGo bp v w v1 w1) : ∀ i, i < w.heap.size → PenS bp v1 i → PenS bp v i := by
  intro i hi hs
  rcases hs with hs | hs
  · exact .inl hs
  · rcases h.own with e | e
    · exact .inr (by rw [← e]; exact hs)
    · have := e i hs; omega
theorem PenGo.trans {bp : Nat} {v v1 v2 : Value} {w w1 w2 : World} (h : PenGo bp v w v1 w1) (k : PenGo bp v1 w1 v2 w2) : PenGo bp v w v2 w2 := by
  refine ⟨h.touch.trans k.touch h.subS, ?_⟩
  rcases k.own with e | e
  · rw [e]; exact h.own
  · exact .inr fun i hi => Nat.le_trans h.touch.size (e i hi)
/-- behind 'p.raw = append(p.raw, ..)': the row has grown, the pen's cell is stored -/
theorem pen_app {w w1 w2 : World} {bp : Nat} {v : Value} {xs zs : List UInt8} {A : Option Addr} {n c : Nat} (hp : Pen w bp v xs) (ht : Touch (PenS bp v) w w1) (hB : Blk w1 bp 116 #[v]) (hr : Row w2 (.slice A n c) zs)
    (hg : w1.grownBy w2 v.ownBlock) (ho : (Value.slice A n c).ownBlock = v.ownBlock ∨ (Value.slice A n c).ownBlock = some w1.heap.size) :
    Pen (w2.setCell ⟨bp, 0, none⟩ (.slice A n c)) bp (.slice A n c) zs ∧ PenGo bp v w (.slice A n c) (w2.setCell ⟨bp, 0, none⟩ (.slice A n c)) := by
  have hne : v.ownBlock ≠ some bp := hp.2.ne_blk hp.1 (by decide)
  have hB2 : Blk w2 bp 116 #[v] := hB.grown hg (fun e => hne e.symm)
  have hne2 : (Value.slice A n c).ownBlock ≠ some bp := hr.ne_blk hB2 (by decide)
  refine ⟨⟨?_, hr.far hne2 _⟩, ?_, ?_⟩
  · have := hB2.set_ 0 (.slice A n c)
    simpa using this
  · exact (ht.grown hg (fun k hk => .inr (.inr hk))).setCell (p := ⟨bp, 0, none⟩) (.inr (.inl rfl)) _
  · rcases ho with e | e
    · exact .inl e
    · refine .inr fun k hk => ?_
      rw [e] at hk
      injection hk with hk
      have := ht.size
      omega

/-- What a pen's method does: bytes behind those that are there, or a stop. -/
def stop0 : PanicEntry := { v := .iface 118 (.agg #[.int .i64 0]), recovered := false }
def PenEnd (bp : Nat) (v : Value) (xs : List UInt8) (w : World) (r : Enc.Enc) (e : Ending) (w' : World) : Prop :=
  match r with
  | some ys => e = .returned (.tuple #[]) ∧ ∃ v', Pen w' bp v' (xs ++ ys) ∧ PenGo bp v w v' w'
  | none => e = .panicked [stop0] ∧ Touch (PenS bp v) w w'

set_option maxRecDepth 20000 in
set_option maxHeartbeats 1000000 in
theorem number_no (bp : Nat) (v : Value) (xs : List UInt8) (n lo hi : Int) (w : World) (h : n < lo ∨ hi < n) :
    Calls Try.prog 55 #[.pointer (some ⟨bp, 0, none⟩), .int .i64 n, .int .i64 lo, .int .i64 hi] w (PenEnd bp v xs w none) := by
  rcases h with h | h
  · go_enter Try.func55, Try.ntmps55
    go_wp2
    exact ⟨rfl, rfl, Touch.refl _ _⟩
  · go_enter Try.func55, Try.ntmps55
    go_wp2
    all_goals exact ⟨rfl, rfl, Touch.refl _ _⟩
theorem shr_byte (n k : Nat) : IntKind.u8.wrap ((n : Int) / 2 ^ (8 * (k : Int)).toNat) = (((UInt8.ofNat (n / 2 ^ (8 * k))).toNat : Nat) : Int) := by
  rw [ofNat_u8, IntKind.wrap_u8, show (8 * (k : Int)).toNat = 8 * k from by omega]
  simp only [Int.natCast_ediv, Int.natCast_pow, Int.cast_ofNat_Int]
set_option maxRecDepth 20000 in
set_option maxHeartbeats 1000000 in
theorem number_yes (bp : Nat) (v : Value) (xs : List UInt8) (n : Nat) (lo hi : Int) (w : World) (h1 : lo ≤ (n : Int)) (h2 : (n : Int) ≤ hi) (h3 : hi ≤ 4503599627370496)
    (hp : Pen w bp v xs) (hb : xs.length ≤ 140737488355000) :
    Calls Try.prog 55 #[.pointer (some ⟨bp, 0, none⟩), .int .i64 n, .int .i64 lo, .int .i64 hi] w (PenEnd bp v xs w (some (Enc.numB n))) := by
  have hc := hp.1.cell 0
  have hf := hp.1.frozen 0
  simp only [List.getElem?_toArray, List.getElem?_cons_zero] at hc
  have hns := Enc.nsz_7 (n := n) (by omega)
  have HP := Lib.hid hp; clear hp
  go_enter Try.func55, Try.ntmps55
  go_wp2
  go_loop [8] (fun s => ∃ k : Nat, k ≤ Enc.nsz n ∧ s = .int .i64 k) (fun s => 7 - (intOf s).toNat)
  case atStart => exact ⟨0, by omega, rfl⟩
  case round =>
    obtain ⟨k, hk, rfl⟩ := hrel
    have hiff := Enc.lt_nsz n k
    by_cases hlt : k < Enc.nsz n
    · have hpos : 0 < (n : Int) / 2 ^ (8 * k) := by
        have := hiff.1 hlt
        exact_mod_cast this
      clear hiff
      go_wp2
      go_round
      case rel => exact ⟨k + 1, by omega, by go_num⟩
      case measure => simp [intOf]; omega
    · have hpos : ¬ 0 < (n : Int) / 2 ^ (8 * k) := by
        have := fun h => hlt (hiff.2 h)
        intro h; apply this; exact_mod_cast h
      obtain rfl : k = Enc.nsz n := by omega
      clear hiff
      have hnu : ((Enc.nsz n : Nat) : Int) = (((UInt8.ofNat (Enc.nsz n)).toNat : Nat) : Int) := by rw [ofNat_u8]; omega
      have HNU := Lib.hid hnu; clear hnu
      have hne : v.ownBlock ≠ some bp := HP.out.2.ne_blk HP.out.1 (by decide)
      have HNE := Lib.hid hne; clear hne
      go_wp2_with (at_builtin; (refine wpList_row _ rfl _ _ 24 rfl Try.info5 Try.underlying24 v xs rfl (HP.out.2.alloc _) w.heap.size 1 1 [UInt8.ofNat (Enc.nsz n)] rfl rfl (new_u8 w _ _ _ HNU.out) (by simp only [List.length_singleton]; omega) ?_); intro A1 c1 w1 hr1 hg1 ho1; have hB1 := (HP.out.1.alloc (.cells #[.int .u8 (Enc.nsz n : Int)] 5)).grown hg1 (fun e => HNE.out e.symm); have hc1 := hB1.cell 0; have hf1 := hB1.frozen 0; simp only [List.getElem?_toArray, List.getElem?_cons_zero] at hc1)
      have hpa := pen_app HP.out ((Touch.refl _ w).alloc _) (HP.out.1.alloc _) hr1 hg1 ho1
      clear hf1 hc1 hB1 ho1 hg1 hr1
      generalize hwx : w1.setCell { block := bp, off := 0 } (Value.slice A1 (xs.length + [UInt8.ofNat (Enc.nsz n)].length) c1) = wx at *
      clear hwx
      go_loopw [8] (fun s wr => ∃ j : Nat, j ≤ Enc.nsz n ∧ s = .int .i64 j ∧ ∃ (ys : List UInt8) (u : Value), xs ++ Enc.numB n = ys ++ Enc.be j n ∧ ys.length ≤ xs.length + 9 ∧ Pen wr bp u ys ∧ PenGo bp v w u wr) (fun s _ => (intOf s).toNat)
      case atStart => exact ⟨_, Nat.le_refl _, rfl, xs ++ [UInt8.ofNat (Enc.nsz n)], _, by simp [Enc.numB], by simp, hpa.1, hpa.2⟩
      case round =>
        obtain ⟨j, hj, rfl, ys, u, hys, hyl, hpu, hgu⟩ := hrel
        have hcu := hpu.1.cell 0
        have hfu := hpu.1.frozen 0
        simp only [List.getElem?_toArray, List.getElem?_cons_zero] at hcu
        have HPU := Lib.hid hpu; clear hpu
        have HYS := Lib.hid hys; clear hys
        rcases Nat.eq_zero_or_pos j with h0 | h0
        · subst h0
          go_wp2
          go_end0
          refine ⟨rfl, u, ?_, hgu⟩
          have h0 := HYS.out
          simp only [Enc.be, List.append_nil] at h0
          rw [h0]
          exact HPU.out
        · obtain ⟨k, rfl⟩ : ∃ k, j = k + 1 := ⟨j - 1, by omega⟩
          go_wp2
          have hcu2 : ∀ o, (wr.alloc o).cell? ⟨bp, 0, none⟩ = some u := fun o => (HPU.out.1.alloc o).cell 0
          have hneu : u.ownBlock ≠ some bp := HPU.out.2.ne_blk HPU.out.1 (by decide)
          have HNU2 := Lib.hid hneu; clear hneu
          have hmul : IntKind.i64.wrap (8 * (k : Int)) = 8 * (k : Int) := IntWalk.i64_in _ (by omega)
          have hsh := shift_shr IntKind.i64 IntKind.i64 (n : Int) (8 * (k : Int)) (by omega) (by simp [IntKind.bits]; omega)
          simp only [show ((8 : Int) * (k : Int)).toNat = 8 * k from by omega] at hsh
          go_region_law ((refine step_row _ rfl _ _ 24 rfl Try.info5 Try.underlying24 u ys rfl (by exact HPU.out.2.drew.alloc _) wr.heap.size 1 1 [UInt8.ofNat (n / 2 ^ (8 * k))] rfl rfl ?_ (by simp only [List.length_singleton]; omega) ?_; exact new_u8d _ _ _ _ (shr_byte n k); intro A2 c2 w2 hr2 hg2 ho2; have hB2 : Blk w2 bp 116 #[u] := (HPU.out.1.alloc _).drew.grown hg2 (fun e => HNU2.out e.symm); have hc2 := hB2.cell 0; have hf2 := hB2.frozen 0; simp only [List.getElem?_toArray, List.getElem?_cons_zero] at hc2))
          all_goals
            have hpb := pen_app HPU.out (((Touch.refl _ wr).alloc _).drew) (HPU.out.1.alloc _).drew hr2 hg2 ho2
            clear hf2 hc2 hB2 ho2 hg2 hr2
            go_roundw
            case rel =>
              repeat apply Exists.intro
              refine ⟨⟨k, by omega, rfl, ys ++ [UInt8.ofNat (n / 2 ^ (8 * k))], _, ?_, ?_, hpb.1, hgu.trans hpb.2⟩, rfl⟩
              · rw [HYS.out]; simp [Enc.be]
              · have h0 := congrArg List.length HYS.out
                simp only [List.length_append, Enc.numB_length, Enc.be_length] at h0
                simp only [List.length_append, List.length_singleton]; omega
            case measure => simp [intOf] <;> omega

theorem number_any (bp : Nat) (v : Value) (xs : List UInt8) (n lo hi : Int) (w : World) (h1 : 0 ≤ lo) (h3 : hi ≤ 4503599627370496) (hp : Pen w bp v xs) (hb : xs.length ≤ 140737488355000) :
    Calls Try.prog 55 #[.pointer (some ⟨bp, 0, none⟩), .int .i64 n, .int .i64 lo, .int .i64 hi] w (PenEnd bp v xs w (Enc.number n lo hi)) := by
  unfold Enc.number
  by_cases h : n < lo ∨ hi < n
  · rw [if_pos h]
    exact number_no bp v xs n lo hi w h
  · rw [if_neg h]
    obtain ⟨m, rfl⟩ := Int.eq_ofNat_of_zero_le (show 0 ≤ n by omega)
    rw [Int.toNat_natCast]
    exact number_yes bp v xs m lo hi w (by omega) (by omega) h3 hp hb
end Go.Proofs.Ytdfhdanfigpbpaa
