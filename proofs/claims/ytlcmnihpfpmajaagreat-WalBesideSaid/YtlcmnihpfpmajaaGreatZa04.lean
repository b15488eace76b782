/- The wal claims' texts, several in one: Map, Disk. Conditions stand with each theorem. -/
import Derived.Test.YtlcmnihpfpmajaaGreatZa02
import Derived.Test.YtlcmnihpfpmajaaGreatZa03
import Derived.Maps.OwnSet
import Derived.Maps.OwnOps
/- A map of ints to pointers that the call has made: what it holds, as a rising list; its three operations. No condition but those that stand with each. -/
namespace Go.Proofs.YtlcmnihpfpmajaaGreat
open Go.RowKit Go.Maps

/-- a pointer to a block's head, as a datum -/
def pR (v : Value) : Option (DataW Unit × List MemPlace) :=
  match v with
  | .pointer (some ⟨g, 0, none⟩) => some (.lit (.int .i64 g), [])
  | .pointer none => some (.nil, [])
  | _ => none
theorem pR_some (g : Nat) : pR (.pointer (some ⟨g, 0, none⟩)) = some (.lit (.int .i64 g), []) := rfl
theorem pR_none : pR (.pointer none) = some (.nil, []) := rfl
theorem pR_inv {v : Value} {g : Nat} {ps : List MemPlace} (h : pR v = some (.lit (.int .i64 g), ps)) : v = .pointer (some ⟨g, 0, none⟩) := by
  unfold pR at h
  split at h
  · simp only [Option.some.injEq, Prod.mk.injEq, DataW.lit.injEq, Lit.int.injEq, true_and] at h
    have : _ = g := Int.ofNat.inj h.1
    subst this
    rfl
  · simp at h
  · cases h
theorem pR_nil {v : Value} {ps : List MemPlace} (h : pR v = some (.nil, ps)) : v = .pointer none := by
  unfold pR at h
  split at h
  · simp at h
  · rfl
  · cases h
/-- what the map reads as -/
def ents (es : List (Int × Nat)) : List (Lit × DataW Unit) := es.map fun p => (.int .i64 p.1, .lit (.int .i64 p.2))
def insE (n : Int) (g : Nat) : List (Int × Nat) → List (Int × Nat)
  | [] => [(n, g)]
  | p :: r => if n < p.1 then (n, g) :: p :: r else p :: insE n g r
theorem ents_ins (n : Int) (g : Nat) (es : List (Int × Nat)) : ents (insE n g es) = DataW.insert (.int .i64 n, .lit (.int .i64 g)) (ents es) := by
  induction es with
  | nil => rfl
  | cons p r ih =>
    unfold insE
    show ents (if _ then _ else _) = DataW.insert _ ((Lit.int .i64 p.1, DataW.lit (.int .i64 p.2)) :: ents r)
    unfold DataW.insert
    by_cases h : n < p.1
    · rw [if_pos h, if_pos (by simpa [Lit.before] using h)]
      rfl
    · rw [if_neg h, if_neg (by simpa [Lit.before] using h), ← ih]
      rfl
theorem ents_filter (n : Int) (es : List (Int × Nat)) : (ents es).filter (fun p => !p.1.sameKey (.int .i64 n)) = ents (es.filter fun p => decide (p.1 ≠ n)) := by
  induction es with
  | nil => rfl
  | cons p r ih =>
    show List.filter _ ((Lit.int .i64 p.1, DataW.lit (.int .i64 p.2)) :: ents r) = _
    by_cases h : p.1 = n
    · rw [List.filter_cons_of_neg (by simp [Lit.sameKey, h]), List.filter_cons_of_neg (by simp [h]), ih]
    · rw [List.filter_cons_of_pos (by simp [Lit.sameKey, h]), List.filter_cons_of_pos (by simp [h]), ih]
      rfl
theorem ents_at (n : Int) (es : List (Int × Nat)) (z : DataW Unit) : (DataW.map (ents es)).atKey (.int .i64 n) z = match es.find? (fun p => decide (p.1 = n)) with | some p => .lit (.int .i64 p.2) | none => z := by
  have h : (ents es).find? (fun p => p.1.sameKey (.int .i64 n)) = (es.find? (fun p => decide (p.1 = n))).map fun p => (.int .i64 p.1, .lit (.int .i64 p.2)) := by
    unfold ents
    rw [List.find?_map]
    congr 2
    funext p
    simp [Lit.sameKey]
  unfold DataW.atKey
  simp only [h]
  cases es.find? (fun p => decide (p.1 = n)) <;> rfl

/-- Block b is a map of ints to pointers that holds es. -/
def IMap (w : World) (b : Nat) (es : List (Int × Nat)) : Prop := w.ownsMap Tryz.prog 3 pR b es.length (.map (ents es))
section
variable {w w' : World} {b : Nat} {es : List (Int × Nat)}
theorem IMap.lt (h : IMap w b es) : b < w.heap.size := World.ownsMap.lt h
theorem IMap.heap (h : IMap w b es) (hb : w'.heap[b]? = w.heap[b]?) : IMap w' b es := by
  obtain ⟨es', clock, h1, rest⟩ := h
  exact ⟨es', clock, hb.trans h1, rest⟩
theorem IMap.new (w : World) : IMap (w.alloc (.map #[] 0)) w.heap.size [] := World.ownsMap_made w _ _ _
theorem IMap.norm {n : Nat} {es : List (Int × Nat)} (h : w.ownsMap Tryz.prog 3 pR b n (.map (ents es))) : IMap w b es := by
  obtain ⟨es', clock, hb, F, hs, hD⟩ := h
  refine ⟨es', clock, hb, F, ?_, hD⟩
  injection hD with hD
  have := congrArg List.length hD
  rw [length_sorted, List.length_map] at this
  unfold ents at this
  rw [List.length_map] at this
  simpa using Nat.le_of_eq this.symm
theorem key_int : Keyed Tryz.prog 3 := int_keyed (q := .i64) Tryz.underlying3
theorem keyOf_int {n : Int} (h : (Lit.int .i64 n).wf = true) : keyOf Tryz.prog 3 (.int .i64 n) = some (.int .i64 n) := keyOf_int_mk Tryz.underlying3 h
theorem i64_wf {n : Int} (h1 : -9223372036854775808 ≤ n) (h2 : n ≤ 9223372036854775807) : (Lit.int .i64 n).wf = true := by
  simp only [Lit.wf, Bool.and_eq_true, decide_eq_true_eq]
  exact ⟨h1, h2⟩
theorem zeroFile (w : World) : (zeroValue 77).run Tryz.prog w = .ok (.pointer none) w := by kernel_rfl
def entV (es : List (Int × Nat)) (n : Int) : Value := match es.find? (fun p => decide (p.1 = n)) with | some p => .pointer (some ⟨p.2, 0, none⟩) | none => .pointer none
theorem IMap.look (h : IMap w b es) {n : Int} (hn : (Lit.int .i64 n).wf = true) : (Instr.lookup 78 (.map (some b)) (.int .i64 n) false).run Tryz.prog w = .ok (entV es n) w := by
  obtain ⟨v, ps, hrun, hv⟩ := World.ownsMap.lookup (H := Unit) h key_int Tryz.underlying78 (zeroFile w) pR_none (keyOf_int hn)
  rw [hrun]
  rw [ents_at] at hv
  unfold entV
  cases hf : es.find? (fun p => decide (p.1 = n)) with
  | some p => rw [hf] at hv; rw [pR_inv hv]
  | none => rw [hf] at hv; rw [pR_nil hv]
theorem IMap.put (h : IMap w b es) {n : Int} (hn : (Lit.int .i64 n).wf = true) (g : Nat) (hm : es.length < maxLen) :
    ∃ w', (Instr.mapUpdate 78 (.map (some b)) (.int .i64 n) (.pointer (some ⟨g, 0, none⟩))).run Tryz.prog w = .ok () w' ∧ IMap w' b (insE n g (es.filter fun p => decide (p.1 ≠ n))) ∧ w.grownBy w' (some b) := by
  obtain ⟨w', hrun, hown, hg⟩ := World.ownsMap.update (H := Unit) h key_int Tryz.underlying78 hm (keyOf_int hn) (pR_some g)
  refine ⟨w', hrun, IMap.norm (n := es.length + 1) ?_, hg⟩
  rw [ents_ins, ← ents_filter]
  exact hown
theorem IMap.del (h : IMap w b es) {n : Int} (hn : (Lit.int .i64 n).wf = true) (ty : TypeId) :
    ∃ w', (Builtin.delete_ #[78, 3] ty #[.map (some b), .int .i64 n]).run Tryz.prog w = .ok (.tuple #[]) w' ∧ IMap w' b (es.filter fun p => decide (p.1 ≠ n)) ∧ w.mapTurned w' b := by
  obtain ⟨w', hrun, hown, hg⟩ := World.ownsMap.drop (H := Unit) h key_int Tryz.underlying78 (keyOf_int hn) ty
  refine ⟨w', hrun, IMap.norm (n := es.length) ?_, hg⟩
  rw [← ents_filter]
  exact hown
end
end Go.Proofs.YtlcmnihpfpmajaaGreat

/- What a disk is in memory; the contracts of the calls that only read it, of NewDisk and of Stop. Conditions stand with each. -/
namespace Go.Proofs.YtlcmnihpfpmajaaGreat
open Go.RowKit

theorem ret_int {k : IntKind} {a b : Int} (h : a = b) : Ending.returned (.int k a) = .returned (.int k b) := by rw [h]
/-- a file, and where it lies -/
structure FR where
  n : Int
  raw : List UInt8
  kept : Nat
  g : Nat
  v : Value
def FR.fl (f : FR) : Fl := ⟨f.n, f.raw, f.kept⟩
def fltCells (l : List (Int × Int)) : List Value := l.flatMap fun f => [.int .i64 f.1, .int .i64 f.2]
theorem fltCells_length (l : List (Int × Int)) : (fltCells l).length = l.length * 2 := by
  induction l with
  | nil => rfl
  | cons a r ih => simp [fltCells] at ih ⊢; omega
theorem fltCells_one (l : List (Int × Int)) : ∀ u ∈ fltCells l, u.oneCell' = true := by
  intro u hu
  obtain ⟨x, _, hx⟩ := List.mem_flatMap.1 hu
  simp at hx
  rcases hx with rfl | rfl <;> rfl
structure FileAt (w : World) (f : FR) : Prop where
  blk : Blk w f.g 111 #[f.v, .int .i64 f.kept]
  row : Raw w f.v f.raw
  le : f.kept ≤ f.raw.length
  some_ : f.raw ≠ []
  key : (Lit.int .i64 f.n).wf = true
theorem FileAt.heap {w w' : World} {f : FR} (h : FileAt w f) (hg : w'.heap[f.g]? = w.heap[f.g]?) (hv : ∀ k, f.v.ownBlock = some k → w'.heap[k]? = w.heap[k]?) : FileAt w' f :=
  ⟨hg.trans h.blk, Own.heap h.row hv, h.le, h.some_, h.key⟩
theorem FileAt.addr {w : World} {f : FR} (h : FileAt w f) : ∃ b c, f.v = .slice (some ⟨b, 0, none⟩) f.raw.length c ∧ f.raw.length ≤ c ∧ c ≤ maxLen := by
  obtain ⟨A, c, hv, h1, h2, h3⟩ := Own.form h.row
  rcases h3 with ⟨_, h4, _⟩ | ⟨g, rfl⟩
  · exact absurd (List.eq_nil_of_length_eq_zero h4) h.some_
  · exact ⟨g, c, hv, h1, h2⟩
structure DK (w : World) (bd bm : Nat) (fv : Value) (fs : List FR) (d : Dk) : Prop where
  fls : d.fs = fs.map FR.fl
  blk : Blk w bd 81 #[.map (some bm), .int .i64 d.ops, fv, .bool d.stopped, .int .i64 d.stop]
  map : IMap w bm (fs.map fun f => (f.n, f.g))
  flt : Own w 105 2 fv d.faults.length (fltCells d.faults)
  file : ∀ f ∈ fs, FileAt w f
  apart : fs.Pairwise fun a b => a.n < b.n ∧ a.g ≠ b.g ∧ a.v.ownBlock ≠ b.v.ownBlock
/-- the disk's blocks -/
def foot (bd bm : Nat) (fv : Value) (fs : List FR) (k : Nat) : Prop := k = bd ∨ k = bm ∨ fv.ownBlock = some k ∨ ∃ f ∈ fs, k = f.g ∨ f.v.ownBlock = some k
theorem DK.lt {w : World} {bd bm : Nat} {fv : Value} {fs : List FR} {d : Dk} (h : DK w bd bm fv fs d) : ∀ k, foot bd bm fv fs k → k < w.heap.size := by
  rintro k (rfl | rfl | hk | ⟨f, hf, rfl | hk⟩)
  · exact h.blk.lt
  · exact h.map.lt
  · exact h.flt.lt k hk
  · exact (h.file f hf).blk.lt
  · exact Own.lt (h.file f hf).row k hk
theorem DK.touch {w w' : World} {bd bm : Nat} {fv : Value} {fs : List FR} {d : Dk} {S : Nat → Prop} (h : DK w bd bm fv fs d) (hb : Touch S w w') (hn : ∀ k, foot bd bm fv fs k → ¬ S k) : DK w' bd bm fv fs d := by
  have hk : ∀ k, foot bd bm fv fs k → w'.heap[k]? = w.heap[k]? := fun k hk => hb.block k (h.lt k hk) (hn k hk)
  exact ⟨h.fls, (hk bd (.inl rfl)).trans h.blk, h.map.heap (hk bm (.inr (.inl rfl))), h.flt.heap fun k e => hk k (.inr (.inr (.inl e))),
    fun f hf => (h.file f hf).heap (hk _ (.inr (.inr (.inr ⟨f, hf, .inl rfl⟩)))) fun k e => hk k (.inr (.inr (.inr ⟨f, hf, .inr e⟩))), h.apart⟩
theorem DK.fresh {w w' : World} {bd bm : Nat} {fv : Value} {fs : List FR} {d : Dk} (h : DK w bd bm fv fs d) (hb : Fresh w w') : DK w' bd bm fv fs d := h.touch hb fun _ _ => id
/-- A disk in memory, within the blocks S. -/
def Disk (w : World) (S : Nat → Prop) (bd : Nat) (d : Dk) : Prop := ∃ bm fv fs, DK w bd bm fv fs d ∧ (∀ k, foot bd bm fv fs k → S k) ∧ ∀ k, S k → k < w.heap.size
theorem Disk.touch {w w' : World} {S T : Nat → Prop} {bd : Nat} {d : Dk} (h : Disk w S bd d) (hb : Touch T w w') (hn : ∀ k, S k → ¬ T k) : Disk w' S bd d := by
  obtain ⟨bm, fv, fs, h1, h2, h3⟩ := h
  exact ⟨bm, fv, fs, h1.touch hb fun k hk => hn k (h2 k hk), h2, fun k hk => Nat.lt_of_lt_of_le (h3 k hk) hb.size⟩
theorem Disk.fresh {w w' : World} {S : Nat → Prop} {bd : Nat} {d : Dk} (h : Disk w S bd d) (hb : Fresh w w') : Disk w' S bd d := h.touch hb fun _ _ => id
/-- S, and what is new -/
def more (S : Nat → Prop) (w w' : World) (k : Nat) : Prop := S k ∨ (w.heap.size ≤ k ∧ k < w'.heap.size)
theorem DK.disk {w w' : World} {S : Nat → Prop} {bd bm : Nat} {fv : Value} {fs : List FR} {d : Dk} (h : DK w' bd bm fv fs d) (h1 : ∀ k, foot bd bm fv fs k → S k ∨ w.heap.size ≤ k) (h2 : ∀ k, S k → k < w.heap.size) (hs : w.heap.size ≤ w'.heap.size) : Disk w' (more S w w') bd d :=
  ⟨bm, fv, fs, h, fun k hk => (h1 k hk).elim .inl fun e => .inr ⟨e, h.lt k hk⟩, fun k hk => hk.elim (fun e => Nat.lt_of_lt_of_le (h2 k e) hs) (·.2)⟩

theorem find_fr (fs : List FR) (n : Int) : (fs.map fun f => (f.n, f.g)).find? (fun p => decide (p.1 = n)) = (fs.find? fun f => decide (f.n = n)).map fun f => (f.n, f.g) := by
  rw [List.find?_map]
  rfl
theorem find_fl (fs : List FR) (n : Int) : Fl.at_ (fs.map FR.fl) n = (fs.find? fun f => decide (f.n = n)).map FR.fl := by
  unfold Fl.at_
  rw [List.find?_map]
  rfl
theorem entV_some {fs : List FR} {n : Int} {f : FR} (h : fs.find? (fun f => decide (f.n = n)) = some f) : entV (fs.map fun f => (f.n, f.g)) n = .pointer (some ⟨f.g, 0, none⟩) := by
  unfold entV
  rw [find_fr, h]
  rfl
theorem entV_none {fs : List FR} {n : Int} (h : fs.find? (fun f => decide (f.n = n)) = none) : entV (fs.map fun f => (f.n, f.g)) n = .pointer none := by
  unfold entV
  rw [find_fr, h]
  rfl
theorem find_mem {fs : List FR} {n : Int} {f : FR} (h : fs.find? (fun f => decide (f.n = n)) = some f) : f ∈ fs ∧ f.n = n := ⟨List.mem_of_find?_eq_some h, by simpa using List.find?_some h⟩

set_option maxRecDepth 20000 in
set_option maxHeartbeats 1000000 in
/-- bytes.Clone -/
theorem clone_any (A : Option Addr) (n c : Nat) (xs : List UInt8) (w : World) (h : Bs w A n c xs) (hb : n ≤ 140737488355000) :
    Calls Tryz.prog 43 #[.slice A n c] w fun e w' => Fresh w w' ∧ ∃ B c', e = .returned (.slice B n c') ∧ Row w' (.slice B n c') xs ∧ (∀ a, B = some a → w.heap.size ≤ a.block) := by
  have q22 : ∀ (w : World) (a : Option Addr) (n c n' c' : Nat), (binOp .eql 26 (.slice a n c) (.slice none n' c')).run Tryz.prog w = .ok (.bool a.isNone) w := fun w a n c n' c' => Lib.run_eql_slice_nil w _ _ a n c n' c' Tryz.underlying26
  have hm := h.2.2.1
  have hnc := h.2.1
  unfold maxLen at hm
  obtain rfl := h.1
  cases A with
  | none =>
    have hl : xs = [] := by
      rcases Nat.eq_zero_or_pos xs.length with h0 | h0
      · exact List.eq_nil_of_length_eq_zero h0
      · obtain ⟨b, o, e⟩ := h.at_ h0
        cases e
    have HL := Lib.hid hl
    clear h hl
    go_enter Tryz.func43, Tryz.ntmps43
    go_wp2_with fail
    go_ret
    refine ⟨Touch.refl _ _, none, 0, ?_, ?_, fun _ h => by cases h⟩
    · rw [HL.out]; rfl
    · rw [HL.out]; exact Row.nil_ _
  | some a =>
    have H := Lib.hid h
    clear h
    go_enter Tryz.func43, Tryz.ntmps43
    go_wp2_with (at_builtin; refine wpList_row_bs rfl _ _ 26 rfl Tryz.info5 Tryz.underlying26 (.slice (some ⟨w.heap.size, 0, none⟩) 0 0) [] rfl (Row.lit [] #[] rfl (by simp)) (some a) xs.length c xs rfl (H.out.alloc _) (by simp only [List.length_nil]; omega) ?_; intro B1 c1 w1 r1 g1 o1; simp only [List.length_nil, Nat.zero_add, List.nil_append] at r1 g1 o1)
    have hT1 : Fresh w w1 := ((Touch.refl _ w).alloc _).grown g1 (fun k hk => .inl (by simp only [Value.ownBlock, Option.some.injEq] at hk; omega))
    have hN1 : ∀ a, B1 = some a → w.heap.size ≤ a.block := by
      rintro a rfl
      rcases o1 with h | h
      · simp only [Value.ownBlock, Option.some.injEq] at h
        omega
      · simp only [Value.ownBlock, alloc_size, Option.some.injEq] at h
        omega
    clear o1 g1
    have R1 := Lib.hid r1
    clear r1
    go_wp2_with fail
    go_ret
    exact ⟨hT1, B1, c1, rfl, R1.out, hN1⟩

set_option maxRecDepth 20000 in
theorem newDisk_any (w : World) : Calls Tryz.prog 33 #[] w fun e w' => Fresh w w' ∧ ∃ bd, e = .returned (.pointer (some ⟨bd, 0, none⟩)) ∧ Disk w' (fun k => w.heap.size ≤ k ∧ k < w'.heap.size) bd Dk.new := by
  have hmm := @run_makeMap Tryz.prog
  go_enter Tryz.func33, Tryz.ntmps33
  go_wp2_with fail
  go_ret
  refine ⟨((Touch.refl _ w).alloc _).alloc _, w.heap.size + 1, by simp, w.heap.size, .slice none 0 0, [], ⟨rfl, ?_, ?_, Own.nil_ _ _ _, by simp, List.Pairwise.nil⟩, ?_, fun k hk => hk.2⟩
  · have := Blk.new (w.alloc (.map #[] 0)) 81 #[.map (some w.heap.size), .int .i64 0, .slice none 0 0, .bool false, .int .i64 0]
    rw [alloc_size] at this
    exact this
  · exact (IMap.new w).heap (Below.heap_alloc _ _ _ (by simp))
  · rintro k (rfl | rfl | hk | ⟨f, hf, _⟩)
    · simp
    · exact ⟨Nat.le_refl _, by simp only [alloc_size]; omega⟩
    · cases hk
    · cases hf

set_option maxRecDepth 20000 in
theorem ops_any (w : World) (bd bm : Nat) (fv : Value) (fs : List FR) (d : Dk) (h : DK w bd bm fv fs d) : Calls Tryz.prog 17 #[.pointer (some ⟨bd, 0, none⟩)] w fun e w' => w = w' ∧ e = .returned (.int .i64 d.ops) := by
  have hc := h.blk.cell 1
  simp only [List.getElem?_toArray, List.getElem?_cons_zero, List.getElem?_cons_succ] at hc
  clear h
  go_enter Tryz.func17, Tryz.ntmps17
  go_wp2_with fail
  go_ret
  exact ⟨rfl, rfl⟩

set_option maxRecDepth 20000 in
theorem later_any (w : World) (bd bm : Nat) (fv : Value) (fs : List FR) (d : Dk) (after : Int) (h : DK w bd bm fv fs d) (ho : d.ops ≤ 9223372036854775807) (ha : after ≤ 9223372036854775807) : Calls Tryz.prog 58 #[.pointer (some ⟨bd, 0, none⟩), .int .i64 after] w fun e w' => w = w' ∧ e = .returned (.int .i64 (d.later after)) := by
  have hc := h.blk.cell 1
  simp only [List.getElem?_toArray, List.getElem?_cons_zero, List.getElem?_cons_succ] at hc
  have hl : d.later after = if 9223372036854775807 - (d.ops : Int) < max after 0 then -1 else d.ops + max after 0 := rfl
  generalize d.ops = o at *
  generalize d.later after = l at *
  clear h
  by_cases h0 : after < 0
  · have hmx : max after 0 = 0 := by omega
    rw [hmx, if_neg (by omega)] at hl
    have H := Lib.hid hl
    clear hl hmx
    go_enter Tryz.func58, Tryz.ntmps58
    go_wp2_with fail
    go_ret
    exact ⟨rfl, ret_int (by rw [H.out]; simp)⟩
  · have hmx : max after 0 = after := by omega
    rw [hmx] at hl
    by_cases h1 : 9223372036854775807 - (o : Int) < after
    · rw [if_pos h1] at hl
      have H := Lib.hid hl
      clear hl hmx
      go_enter Tryz.func58, Tryz.ntmps58
      go_wp2_with fail
      go_ret
      exact ⟨rfl, ret_int H.out.symm⟩
    · rw [if_neg h1] at hl
      have H := Lib.hid hl
      clear hl hmx
      go_enter Tryz.func58, Tryz.ntmps58
      go_wp2_with fail
      go_ret
      exact ⟨rfl, ret_int H.out.symm⟩

set_option maxRecDepth 20000 in
theorem kept_any (w : World) (bd bm : Nat) (fv : Value) (fs : List FR) (d : Dk) (n : Int) (h : DK w bd bm fv fs d) (hn : (Lit.int .i64 n).wf = true) : Calls Tryz.prog 80 #[.pointer (some ⟨bd, 0, none⟩), .int .i64 n] w fun e w' => w = w' ∧ e = .returned (.int .i64 (d.kept n)) := by
  have hc := h.blk.cell 0
  simp only [List.getElem?_toArray, List.getElem?_cons_zero] at hc
  have hlk := h.map.look hn
  have hk : d.kept n = match (fs.find? fun f => decide (f.n = n)).map FR.fl with | some f => f.kept | none => 0 := by unfold Dk.kept; rw [h.fls, find_fl]; rfl
  cases hf : fs.find? (fun f => decide (f.n = n)) with
  | none =>
    rw [entV_none hf] at hlk
    rw [hf] at hk
    have HK := Lib.hid hk
    clear h hk hf
    go_enter Tryz.func80, Tryz.ntmps80
    go_wp2_with fail
    go_ret
    exact ⟨rfl, by rw [HK.out]; rfl⟩
  | some f =>
    rw [entV_some hf] at hlk
    rw [hf] at hk
    have hc2 := (h.file f (find_mem hf).1).blk.cell 1
    simp only [List.getElem?_toArray, List.getElem?_cons_zero, List.getElem?_cons_succ] at hc2
    have HK := Lib.hid hk
    clear h hk hf
    go_enter Tryz.func80, Tryz.ntmps80
    go_wp2_with fail
    go_ret
    exact ⟨rfl, by rw [HK.out]; rfl⟩

set_option maxRecDepth 20000 in
theorem read_any (w : World) (bd bm : Nat) (fv : Value) (fs : List FR) (d : Dk) (n : Int) (h : DK w bd bm fv fs d) (hn : (Lit.int .i64 n).wf = true) (hb : ∀ f ∈ fs, f.raw.length ≤ 140737488355000) :
    Calls Tryz.prog 54 #[.pointer (some ⟨bd, 0, none⟩), .int .i64 n] w fun e w' => Fresh w w' ∧ ∃ B c, e = .returned (.slice B (d.read n).length c) ∧ Row w' (.slice B (d.read n).length c) (d.read n) ∧ ∀ a, B = some a → w.heap.size ≤ a.block := by
  have hc := h.blk.cell 0
  simp only [List.getElem?_toArray, List.getElem?_cons_zero] at hc
  have hlk := h.map.look hn
  have hk : d.read n = match (fs.find? fun f => decide (f.n = n)).map FR.fl with | some f => f.raw | none => [] := by unfold Dk.read; rw [h.fls, find_fl]; rfl
  cases hf : fs.find? (fun f => decide (f.n = n)) with
  | none =>
    rw [entV_none hf] at hlk
    rw [hf] at hk
    have hk : d.read n = [] := hk
    rw [hk]
    clear h hk hf
    go_enter Tryz.func54, Tryz.ntmps54
    go_wp2_with fail
    go_ret
    exact ⟨Touch.refl _ _, none, 0, rfl, Row.nil_ _, fun _ h => by cases h⟩
  | some f =>
    rw [entV_some hf] at hlk
    rw [hf] at hk
    have hk : d.read n = f.raw := hk
    rw [hk]
    have hF := h.file f (find_mem hf).1
    have hc2 := hF.blk.cell 0
    simp only [List.getElem?_toArray, List.getElem?_cons_zero] at hc2
    obtain ⟨b, c, hv, h1, h2⟩ := hF.addr
    rw [hv] at hc2
    have hrow := hF.row
    rw [hv] at hrow
    have HC := Lib.hid (clone_any _ _ _ _ w (Raw.bs rfl hrow) (hb f (find_mem hf).1))
    clear h hk hf hb hF hv hrow
    go_enter Tryz.func54, Tryz.ntmps54
    go_wp2_with fail
    refine HC.out.mono ?_
    rintro e w1 ⟨hf1, B, c1, rfl, hr1, hn1⟩
    have R1 := Lib.hid hr1
    clear hr1 HC
    go_wp2_with fail
    go_ret
    exact ⟨hf1, B, c1, rfl, R1.out, hn1⟩
end Go.Proofs.YtlcmnihpfpmajaaGreat
