/- The wal claims' texts, several in one: Mb. Conditions stand with each theorem. -/
import Derived.Test.YtlcmnihpfpmajaaGreatZa04
/- A map of ints to true that the call has made: a set. No condition but those that stand with each. -/
namespace Go.Proofs.YtlcmnihpfpmajaaGreat
open Go.RowKit Go.Maps

/-- a bool as a datum -/
def bR (v : Value) : Option (DataW Unit × List MemPlace) :=
  match v with
  | .bool b => some (.lit (.bool b), [])
  | _ => none
theorem bR_inv {v : Value} {b : Bool} {ps : List MemPlace} (h : bR v = some (.lit (.bool b), ps)) : v = .bool b := by
  unfold bR at h
  split at h
  · simp only [Option.some.injEq, Prod.mk.injEq, DataW.lit.injEq, Lit.bool.injEq] at h
    rw [h.1]
  · cases h
/-- what the set reads as -/
def entB (es : List Int) : List (Lit × DataW Unit) := es.map fun n => (.int .i64 n, .lit (.bool true))
def insB (n : Int) : List Int → List Int
  | [] => [n]
  | p :: r => if n < p then n :: p :: r else p :: insB n r
theorem insB_mem (n m : Int) : ∀ es, m ∈ insB n es ↔ m = n ∨ m ∈ es
  | [] => by simp [insB]
  | p :: r => by
    unfold insB
    split
    · simp
    · rw [List.mem_cons, insB_mem n m r, List.mem_cons]
      constructor
      · rintro (h | h | h)
        · exact .inr (.inl h)
        · exact .inl h
        · exact .inr (.inr h)
      · rintro (h | h | h)
        · exact .inr (.inl h)
        · exact .inl h
        · exact .inr (.inr h)
theorem insB_len (n : Int) : ∀ es : List Int, (insB n es).length = es.length + 1
  | [] => rfl
  | p :: r => by
    unfold insB
    split
    · rfl
    · rw [List.length_cons, insB_len n r, List.length_cons]
theorem entB_ins (n : Int) (es : List Int) : entB (insB n es) = DataW.insert (.int .i64 n, .lit (.bool true)) (entB es) := by
  induction es with
  | nil => rfl
  | cons p r ih =>
    unfold insB
    show entB (if _ then _ else _) = DataW.insert _ ((Lit.int .i64 p, DataW.lit (.bool true)) :: entB r)
    unfold DataW.insert
    by_cases h : n < p
    · rw [if_pos h, if_pos (by simpa [Lit.before] using h)]
      rfl
    · rw [if_neg h, if_neg (by simpa [Lit.before] using h), ← ih]
      rfl
theorem entB_filter (n : Int) (es : List Int) : (entB es).filter (fun p => !p.1.sameKey (.int .i64 n)) = entB (es.filter fun p => decide (p ≠ n)) := by
  induction es with
  | nil => rfl
  | cons p r ih =>
    show List.filter _ ((Lit.int .i64 p, DataW.lit (.bool true)) :: entB r) = _
    by_cases h : p = n
    · rw [List.filter_cons_of_neg (by simp [Lit.sameKey, h]), List.filter_cons_of_neg (by simp [h]), ih]
    · rw [List.filter_cons_of_pos (by simp [Lit.sameKey, h]), List.filter_cons_of_pos (by simp [h]), ih]
      rfl
theorem entB_at (n : Int) (es : List Int) : (DataW.map (entB es)).atKey (.int .i64 n) (.lit (.bool false)) = .lit (.bool (decide (n ∈ es))) := by
  induction es with
  | nil => rfl
  | cons p r ih =>
    have h1 : (DataW.map (entB (p :: r))).atKey (.int .i64 n) (.lit (.bool false)) = if (Lit.int .i64 p).sameKey (.int .i64 n) = true then (.lit (.bool true) : DataW Unit) else (DataW.map (entB r)).atKey (.int .i64 n) (.lit (.bool false)) := by
      unfold DataW.atKey
      simp only [entB, List.map_cons, List.find?_cons]
      cases (Lit.int .i64 p).sameKey (.int .i64 n) <;> rfl
    rw [h1, ih]
    by_cases h : p = n
    · rw [if_pos (by simp [Lit.sameKey, h])]
      subst h
      simp
    · rw [if_neg (by simp [Lit.sameKey, h])]
      have : ¬ n = p := fun e => h e.symm
      simp [this]

/-- Block b is a set of the ints of l. -/
def BSet (w : World) (b : Nat) (l : List Int) : Prop := ∃ es : List Int, w.ownsMap Tryz.prog 3 bR b es.length (.map (entB es)) ∧ (∀ m, m ∈ es ↔ m ∈ l) ∧ es.length ≤ l.length
section
variable {w w' : World} {b : Nat} {l : List Int}
theorem BSet.lt (h : BSet w b l) : b < w.heap.size := by obtain ⟨_, h, _⟩ := h; exact World.ownsMap.lt h
theorem BSet.heap (h : BSet w b l) (hb : w'.heap[b]? = w.heap[b]?) : BSet w' b l := by
  obtain ⟨es, ⟨es', clock, h1, rest⟩, h2⟩ := h
  exact ⟨es, ⟨es', clock, hb.trans h1, rest⟩, h2⟩
theorem BSet.touch {S : Nat → Prop} (h : BSet w b l) (ht : Touch S w w') (hn : ¬ S b) : BSet w' b l := h.heap (ht.block b h.lt hn)
theorem BSet.far (h : BSet w b l) {p : Addr} (hp : b ≠ p.block) (u : Value) : BSet (w.setCell p u) b l := h.heap (Below.heap_setCell w p u b hp)
theorem BSet.new (w : World) : BSet (w.alloc (.map #[] 0)) w.heap.size [] := ⟨[], World.ownsMap_made w _ _ _, fun _ => Iff.rfl, Nat.le_refl _⟩
theorem BSet.ne_blk {g : Nat} {t : TypeId} {cs : Array Value} (h : BSet w b l) (hg : Blk w g t cs) : b ≠ g := by
  obtain ⟨es, ⟨es', clock, hb, _⟩, _⟩ := h
  rintro rfl
  have := hb.symm.trans hg
  injection this with this
  cases this
theorem zeroBool (w : World) : (zeroValue 4).run Tryz.prog w = .ok (.bool false) w := by kernel_rfl
theorem BSet.look (h : BSet w b l) {n : Int} (hn : (Lit.int .i64 n).wf = true) : (Instr.lookup 129 (.map (some b)) (.int .i64 n) false).run Tryz.prog w = .ok (.bool (decide (n ∈ l))) w := by
  obtain ⟨es, h, hm, _⟩ := h
  obtain ⟨v, ps, hrun, hv⟩ := World.ownsMap.lookup (H := Unit) h key_int Tryz.underlying129 (zeroBool w) (by rfl : bR (.bool false) = some (.lit (.bool false), [])) (keyOf_int hn)
  rw [hrun]
  rw [entB_at] at hv
  rw [bR_inv hv]
  exact congrArg (fun x => Result.ok (Value.bool x) w) (decide_eq_decide.2 (hm n))
theorem BSet.put (h : BSet w b l) {n : Int} (hn : (Lit.int .i64 n).wf = true) (hm : l.length < maxLen) :
    ∃ w', (Instr.mapUpdate 129 (.map (some b)) (.int .i64 n) (.bool true)).run Tryz.prog w = .ok () w' ∧ BSet w' b (n :: l) ∧ w.grownBy w' (some b) := by
  obtain ⟨es, h, hmem, hle⟩ := h
  obtain ⟨w', hrun, hown, hg⟩ := World.ownsMap.update (H := Unit) h key_int Tryz.underlying129 (by omega) (keyOf_int hn) (by rfl : bR (.bool true) = some (.lit (.bool true), []))
  refine ⟨w', hrun, ⟨insB n (es.filter fun p => decide (p ≠ n)), ?_, fun m => ?_, ?_⟩, hg⟩
  · have hown : w'.ownsMap Tryz.prog 3 bR b (es.length + 1) (.map (entB (insB n (es.filter fun p => decide (p ≠ n))))) := by
      rw [entB_ins, ← entB_filter]
      exact hown
    obtain ⟨es', clock, hb, F, hs, hD⟩ := hown
    refine ⟨es', clock, hb, F, ?_, hD⟩
    injection hD with hD
    have := congrArg List.length hD
    rw [length_sorted, List.length_map] at this
    unfold entB at this
    rw [List.length_map] at this
    simpa using Nat.le_of_eq this.symm
  · rw [insB_mem, List.mem_filter, List.mem_cons, hmem]
    constructor
    · rintro (h | h)
      · exact .inl h
      · exact .inr h.1
    · rintro (h | h)
      · exact .inl h
      · by_cases e : m = n
        · exact .inl e
        · exact .inr ⟨h, by simpa using e⟩
  · rw [insB_len, List.length_cons]
    have := List.length_filter_le (fun p => decide (p ≠ n)) es
    omega
end
end Go.Proofs.YtlcmnihpfpmajaaGreat
