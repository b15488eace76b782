/- The wal claims' texts, several in one: Lose. Conditions stand with each theorem. -/
import Derived.Test.YtlcmnihpfpmajaaGreatZa06
import Derived.BigRegion
import Derived.Deep.RegionLaw
/- The contracts of the disk's add. Conditions stand with each. -/
namespace Go.Proofs.YtlcmnihpfpmajaaGreat
open Go.RowKit

/-- a file stands ready to be appended to -/
structure Ready (W : World) (bd bm : Nat) (n : Int) (g : Nat) (v : Value) (raw : List UInt8) (kept : Nat) : Prop where
  disk : ∃ cs, Blk W bd 81 cs ∧ cs[0]? = some (.map (some bm))
  map : ∃ es, IMap W bm es ∧ entV es n = .pointer (some ⟨g, 0, none⟩)
  file : Blk W g 111 #[v, .int .i64 kept]
  row : Raw W v raw
theorem Ready.facts {W : World} {bd bm : Nat} {n : Int} {g : Nat} {v : Value} {raw : List UInt8} {kept : Nat} (h : Ready W bd bm n g v raw kept) (hn : (Lit.int .i64 n).wf = true) :
    (Instr.lookup 78 (.map (some bm)) (.int .i64 n) false).run Tryz.prog W = .ok (.pointer (some ⟨g, 0, none⟩)) W ∧ W.cell? ⟨bd, 0, none⟩ = some (.map (some bm)) ∧ W.cell? ⟨g, 0, none⟩ = some v ∧ W.frozen? ⟨g, 0, none⟩ = false := by
  obtain ⟨cs, h1, h2⟩ := h.disk
  obtain ⟨es, h3, h4⟩ := h.map
  have := h3.look hn
  rw [h4] at this
  exact ⟨this, (h1.cell 0).trans h2, h.file.cell 0, h.file.frozen 0⟩
theorem Ready.after {W W1 : World} {bd bm : Nat} {n : Int} {g : Nat} {v : Value} {raw : List UInt8} {kept : Nat} (h : Ready W bd bm n g v raw kept) (hn : (Lit.int .i64 n).wf = true) (hg : W.grownBy W1 v.ownBlock) :
    (Instr.lookup 78 (.map (some bm)) (.int .i64 n) false).run Tryz.prog W1 = .ok (.pointer (some ⟨g, 0, none⟩)) W1 ∧ W1.cell? ⟨bd, 0, none⟩ = some (.map (some bm)) ∧ W1.cell? ⟨g, 0, none⟩ = some v ∧ W1.frozen? ⟨g, 0, none⟩ = false := by
  obtain ⟨cs, h1, h2⟩ := h.disk
  obtain ⟨es, h3, h4⟩ := h.map
  have hm1 := (h3.heap (hg.block _ h3.lt (fun e => h3.ne_own h.row e.symm))).look hn
  rw [h4] at hm1
  have hd1 := h1.grown hg (fun e => Own.ne_blk h.row h1 (by decide) e.symm)
  have hf1 := h.file.grown hg (fun e => Own.ne_blk h.row h.file (by decide) e.symm)
  exact ⟨hm1, (hd1.cell 0).trans h2, hf1.cell 0, hf1.frozen 0⟩
/-- what an append leaves -/
def Added (W : World) (g : Nat) (v : Value) (raw xs : List UInt8) (kept : Nat) (W' : World) : Prop :=
  Touch (fun k => k = g ∨ v.ownBlock = some k) W W' ∧ ∃ v', Blk W' g 111 #[v', .int .i64 kept] ∧ Raw W' v' (raw ++ xs) ∧ (v'.ownBlock = v.ownBlock ∨ v'.ownBlock = some W.heap.size)
theorem Ready.added {W W1 : World} {bd bm : Nat} {n : Int} {g : Nat} {v : Value} {raw xs : List UInt8} {kept : Nat} (h : Ready W bd bm n g v raw kept) {B : Option Addr} {m c : Nat} (hm : xs.length = m) (ho : Own W1 5 1 (.slice B (raw.length + m) c) (raw.length + m) (u8s raw ++ u8s xs)) (hg : W.drew.grownBy W1 v.ownBlock)
    (hb : (Value.slice B (raw.length + m) c).ownBlock = v.ownBlock ∨ (Value.slice B (raw.length + m) c).ownBlock = some W.drew.heap.size) : Added W g v raw xs kept (W1.setCell ⟨g, 0, none⟩ (.slice B (raw.length + m) c)) := by
  subst hm
  have hf1 := h.file.drew.grown hg (fun e => Own.ne_blk h.row h.file (by decide) e.symm)
  refine ⟨((Touch.refl _ W).drew.grown hg fun k hk => .inr (.inr hk)).setCell (p := ⟨g, 0, none⟩) (.inr (.inl rfl)) _, _, hf1.set_ 0 _, ?_, hb⟩
  unfold Raw
  rw [List.length_append, u8s_append]
  exact ho.far (p := ⟨g, 0, none⟩) (ho.ne_blk hf1 (by decide)) _

set_option maxRecDepth 20000 in
set_option maxHeartbeats 4000000 in
theorem add_old (w : World) (bd bm : Nat) (n : Int) (g : Nat) (v : Value) (raw : List UInt8) (kept : Nat) (A : Option Addr) (m c : Nat) (xs : List UInt8) (h : Ready w bd bm n g v raw kept) (hn : (Lit.int .i64 n).wf = true) (hx : Bs w A m c xs) (hx0 : xs ≠ []) (hb : raw.length + xs.length ≤ 140737488355000) :
    Calls Tryz.prog 94 #[.pointer (some ⟨bd, 0, none⟩), .int .i64 n, .slice A m c] w fun e w' => e = .returned (.tuple #[]) ∧ Added w g v raw xs kept w' := by
  have hml : xs.length = m := hx.1
  have hm0 : 0 < m := by have := List.length_pos_iff.2 hx0; omega
  obtain ⟨hlk, hc, hfc, hff⟩ := h.facts hn
  have hlkd := ((show Ready w.drew bd bm n g v raw kept from ⟨h.disk, h.map, h.file, h.row⟩).facts hn).1
  have hm0' : ((m : Int) == 0) = false := by simp; omega
  obtain ⟨b, cc, rfl, hl1, hl2, _⟩ := Own.form h.row
  have HAFTER := Lib.hid (fun w1 => (show Ready w.drew bd bm n g _ raw kept from ⟨h.disk, h.map, h.file, h.row⟩).after (W1 := w1) hn)
  have H := Lib.hid h; have HX := Lib.hid hx; have HML := Lib.hid hml
  unfold maxLen at hl2
  clear h hx hml
  go_enter Tryz.func94, Tryz.ntmps94
  go_wp2_with fail
  go_region_law ((refine step_own_src _ rfl _ _ 26 26 rfl 5 (.int .u8 0) 1 1 Tryz.info5 Tryz.underlying26 rfl (.slice b raw.length cc) raw.length (u8s raw) rfl (by exact Own.drew H.out.row) (u8s_one _) (.slice A m c) m (u8s xs) rfl (Bs.src (by exact HX.out.drew) Tryz.underlying26) (by unfold maxLen; have := HML.out; omega) (by have := HML.out; omega) ?_; intro B1 c1 w1 o1 g1 b1; obtain ⟨r1, r2, r3, r4⟩ := HAFTER.out w1 g1))
  all_goals
    clear r1 r2 r3 r4
    have O1 := Lib.hid (H.out.added HML.out o1 g1 b1)
    clear o1 g1 b1
    go_wp2_with fail
    go_end0
    exact ⟨rfl, O1.out⟩

set_option maxRecDepth 20000 in
set_option maxHeartbeats 4000000 in
theorem add_new (w : World) (bd bm : Nat) (n : Int) (es : List (Int × Nat)) (cs : Array Value) (A : Option Addr) (m c : Nat) (xs : List UInt8) (h1 : Blk w bd 81 cs) (h2 : cs[0]? = some (.map (some bm))) (h3 : IMap w bm es) (h4 : entV es n = .pointer none) (hes : es.length < maxLen)
    (hn : (Lit.int .i64 n).wf = true) (hx : Bs w A m c xs) (hxb : ∀ a, A = some a → a.block ≠ bm ∧ a.block < w.heap.size) (hx0 : xs ≠ []) (hb : xs.length ≤ 140737488355000) :
    Calls Tryz.prog 94 #[.pointer (some ⟨bd, 0, none⟩), .int .i64 n, .slice A m c] w fun e w' => e = .returned (.tuple #[]) ∧ ∃ w2, IMap w2 bm (insE n w.heap.size (es.filter fun p => decide (p.1 ≠ n))) ∧ (w.alloc (.cells #[.slice none 0 0, .int .i64 0] 111)).grownBy w2 (some bm) ∧ Added w2 w.heap.size (.slice none 0 0) [] xs 0 w' := by
  have hml : xs.length = m := hx.1
  have hm0 : 0 < m := by have := List.length_pos_iff.2 hx0; omega
  have hlk := h3.look hn
  rw [h4] at hlk
  have hc : w.cell? ⟨bd, 0, none⟩ = some (.map (some bm)) := (h1.cell 0).trans h2
  have hca : ∀ o, (w.alloc o).cell? ⟨bd, 0, none⟩ = some (.map (some bm)) := fun o => ((h1.alloc o).cell 0).trans h2
  have hm0' : ((m : Int) == 0) = false := by simp; omega
  obtain ⟨w2, hput, him, hg⟩ := ((h3.heap (w' := w.alloc (.cells #[.slice none 0 0, .int .i64 0] 111)) (Below.heap_alloc _ _ _ h3.lt))).put hn w.heap.size hes
  have hne : bd ≠ bm := fun e => h3.ne_blk h1 e.symm
  have hR : Ready w2 bd bm n w.heap.size (.slice none 0 0) [] 0 := by
    refine ⟨⟨cs, (h1.alloc _).grown hg (fun e => hne (by injection e)), h2⟩, ⟨_, him, ?_⟩, (Blk.new w _ _).grown hg (fun e => by injection e with e; have := h3.lt; omega), Own.nil_ _ _ _⟩
    have hf : (es.filter fun p => decide (p.1 ≠ n)).find? (fun p => decide (p.1 = n)) = none := by
      rw [List.find?_eq_none]
      intro p hp
      have := (List.mem_filter.1 hp).2
      simpa using this
    unfold entV
    have : ∀ l : List (Int × Nat), l.find? (fun p => decide (p.1 = n)) = none → (insE n w.heap.size l).find? (fun p => decide (p.1 = n)) = some (n, w.heap.size) := by
      intro l
      induction l with
      | nil => intro _; simp [insE]
      | cons a r ih =>
        intro hl
        rw [List.find?_cons] at hl
        by_cases ha : a.1 = n
        · simp [ha] at hl
        · unfold insE
          by_cases hlt : n < a.1
          · rw [if_pos hlt]; simp
          · rw [if_neg hlt, List.find?_cons]
            simp only [ha, decide_false] at hl ⊢
            exact ih hl
    rw [this _ hf]
  obtain ⟨hlk2, hc2, hfc2, hff2⟩ := hR.facts hn
  have hlkd2 := ((show Ready w2.drew bd bm n w.heap.size _ [] 0 from ⟨hR.disk, hR.map, hR.file, hR.row⟩).facts hn).1
  have hx2 : Bs w2 A m c xs := (hx.alloc (.cells #[.slice none 0 0, .int .i64 0] 111)).keep fun _ p v hp ⟨a, ha, e⟩ => hg.cell hp (fun e' => by injection e' with e'; exact (hxb a ha).1 (by rw [← e, e']))
  have HAFTER := Lib.hid (fun w1 => (show Ready w2.drew bd bm n w.heap.size _ [] 0 from ⟨hR.disk, hR.map, hR.file, hR.row⟩).after (W1 := w1) hn)
  have H := Lib.hid hR; have HX := Lib.hid hx2; have HML := Lib.hid hml; have HIM := Lib.hid him; have HG := Lib.hid hg
  clear h1 h2 h3 h4 hx hml hx2 hR him hg hne hxb
  go_enter Tryz.func94, Tryz.ntmps94
  go_wp2_with fail
  go_region_law ((refine step_own_src _ rfl _ _ 26 26 rfl 5 (.int .u8 0) 1 1 Tryz.info5 Tryz.underlying26 rfl (.slice none 0 0) 0 [] rfl (by exact Own.nil_ _ _ _) (u8s_one []) (.slice A m c) m (u8s xs) rfl (Bs.src (by exact HX.out.drew) Tryz.underlying26) (by unfold maxLen; have := HML.out; omega) (by have := HML.out; omega) ?_; intro B1 c1 w1 o1 g1 b1; obtain ⟨r1, r2, r3, r4⟩ := HAFTER.out w1 g1))
  all_goals
    clear r1 r2 r3 r4
    have o2 := H.out.added HML.out o1 g1 b1
    simp only [List.length_nil, Nat.zero_add] at o2
    have O1 := Lib.hid o2
    clear o1 g1 b1 o2
    go_wp2_with fail
    go_end0
    exact ⟨rfl, w2, HIM.out, HG.out, O1.out⟩
end Go.Proofs.YtlcmnihpfpmajaaGreat
