/- A map of ints to pointers that the call has made: what it holds, as a rising list; its three operations. No condition but those that stand with each. -/
import Derived.Test.YthmjnlkdoepmjaaKeep
import Derived.Test.YthmjnlkdoepmjaaSpec
import Derived.Maps.OwnSet
import Derived.Maps.OwnOps
namespace Go.Proofs.Ythmjnlkdoepmjaa
open Go.RowKit Go.Maps

/-- a pointer to a block's head, as a datum -/
def pR (v : Value) : Option (DataW Unit × List MemPlace) :=
  match v with
  | .pointer (some ⟨g, 0, none⟩) => some (.lit (.int .i64 g), [])
  | .pointer none => some (.nil, [])
  | _ => none
theorem pR_some (g : Nat) : pR (.pointer (some ⟨g, 0, none⟩)) = some (.lit (.int .i64 g), []) := rfl
theorem pR_none : pR (.pointer none) = some (.nil, []) := rfl
theorem pR_inv {v : Value} {g : Nat} {ps : List MemPlace} (h : pR v = some (.lit (.int .i64 g), ps)) : v = .pointer (some ⟨g, 0, none⟩) := by
  unfold pR at h
  split at h
  · simp only [Option.some.injEq, Prod.mk.injEq, DataW.lit.injEq, Lit.int.injEq, true_and] at h
    have : _ = g := Int.ofNat.inj h.1
    subst this
    rfl
  · simp at h
  · cases h
theorem pR_nil {v : Value} {ps : List MemPlace} (h : pR v = some (.nil, ps)) : v = .pointer none := by
  unfold pR at h
  split at h
  · simp at h
  · rfl
  · cases h
/-- what the map reads as -/
def ents (es : List (Int × Nat)) : List (Lit × DataW Unit) := es.map fun p => (.int .i64 p.1, .lit (.int .i64 p.2))
def insE (n : Int) (g : Nat) : List (Int × Nat) → List (Int × Nat)
  | [] => [(n, g)]
  | p :: r => if n < p.1 then (n, g) :: p :: r else p :: insE n g r
theorem ents_ins (n : Int) (g : Nat) (es : List (Int × Nat)) : ents (insE n g es) = DataW.insert (.int .i64 n, .lit (.int .i64 g)) (ents es) := by
  induction es with
  | nil => rfl
  | cons p r ih =>
    unfold insE
    show ents (if _ then _ else _) = DataW.insert _ ((Lit.int .i64 p.1, DataW.lit (.int .i64 p.2)) :: ents r)
    unfold DataW.insert
    by_cases h : n < p.1
    · rw [if_pos h, if_pos (by simpa [Lit.before] using h)]
      rfl
    · rw [if_neg h, if_neg (by simpa [Lit.before] using h), ← ih]
      rfl
theorem ents_filter (n : Int) (es : List (Int × Nat)) : (ents es).filter (fun p => !p.1.sameKey (.int .i64 n)) = ents (es.filter fun p => decide (p.1 ≠ n)) := by
  induction es with
  | nil => rfl
  | cons p r ih =>
    show List.filter _ ((Lit.int .i64 p.1, DataW.lit (.int .i64 p.2)) :: ents r) = _
    by_cases h : p.1 = n
    · rw [List.filter_cons_of_neg (by simp [Lit.sameKey, h]), List.filter_cons_of_neg (by simp [h]), ih]
    · rw [List.filter_cons_of_pos (by simp [Lit.sameKey, h]), List.filter_cons_of_pos (by simp [h]), ih]
      rfl
theorem ents_at (n : Int) (es : List (Int × Nat)) (z : DataW Unit) : (DataW.map (ents es)).atKey (.int .i64 n) z = match es.find? (fun p => decide (p.1 = n)) with | some p => .lit (.int .i64 p.2) | none => z := by
  have h : (ents es).find? (fun p => p.1.sameKey (.int .i64 n)) = (es.find? (fun p => decide (p.1 = n))).map fun p => (.int .i64 p.1, .lit (.int .i64 p.2)) := by
    unfold ents
    rw [List.find?_map]
    congr 2
    funext p
    simp [Lit.sameKey]
  unfold DataW.atKey
  simp only [h]
  cases es.find? (fun p => decide (p.1 = n)) <;> rfl

/-- Block b is a map of ints to pointers that holds es. -/
def IMap (w : World) (b : Nat) (es : List (Int × Nat)) : Prop := w.ownsMap Try.prog 3 pR b es.length (.map (ents es))
section
variable {w w' : World} {b : Nat} {es : List (Int × Nat)}
theorem IMap.lt (h : IMap w b es) : b < w.heap.size := World.ownsMap.lt h
theorem IMap.heap (h : IMap w b es) (hb : w'.heap[b]? = w.heap[b]?) : IMap w' b es := by
  obtain ⟨es', clock, h1, rest⟩ := h
  exact ⟨es', clock, hb.trans h1, rest⟩
theorem IMap.new (w : World) : IMap (w.alloc (.map #[] 0)) w.heap.size [] := World.ownsMap_made w _ _ _
theorem IMap.norm {n : Nat} {es : List (Int × Nat)} (h : w.ownsMap Try.prog 3 pR b n (.map (ents es))) : IMap w b es := by
  obtain ⟨es', clock, hb, F, hs, hD⟩ := h
  refine ⟨es', clock, hb, F, ?_, hD⟩
  injection hD with hD
  have := congrArg List.length hD
  rw [length_sorted, List.length_map] at this
  unfold ents at this
  rw [List.length_map] at this
  simpa using Nat.le_of_eq this.symm
theorem key_int : Keyed Try.prog 3 := int_keyed (q := .i64) Try.underlying3
theorem keyOf_int {n : Int} (h : (Lit.int .i64 n).wf = true) : keyOf Try.prog 3 (.int .i64 n) = some (.int .i64 n) := keyOf_int_mk Try.underlying3 h
theorem i64_wf {n : Int} (h1 : -9223372036854775808 ≤ n) (h2 : n ≤ 9223372036854775807) : (Lit.int .i64 n).wf = true := by
  simp only [Lit.wf, Bool.and_eq_true, decide_eq_true_eq]
  exact ⟨h1, h2⟩
theorem zeroFile (w : World) : (zeroValue 90).run Try.prog w = .ok (.pointer none) w := by kernel_rfl
def entV (es : List (Int × Nat)) (n : Int) : Value := match es.find? (fun p => decide (p.1 = n)) with | some p => .pointer (some ⟨p.2, 0, none⟩) | none => .pointer none
theorem IMap.look (h : IMap w b es) {n : Int} (hn : (Lit.int .i64 n).wf = true) : (Instr.lookup 83 (.map (some b)) (.int .i64 n) false).run Try.prog w = .ok (entV es n) w := by
  obtain ⟨v, ps, hrun, hv⟩ := World.ownsMap.lookup (H := Unit) h key_int Try.underlying83 (zeroFile w) pR_none (keyOf_int hn)
  rw [hrun]
  rw [ents_at] at hv
  unfold entV
  cases hf : es.find? (fun p => decide (p.1 = n)) with
  | some p => rw [hf] at hv; rw [pR_inv hv]
  | none => rw [hf] at hv; rw [pR_nil hv]
theorem IMap.put (h : IMap w b es) {n : Int} (hn : (Lit.int .i64 n).wf = true) (g : Nat) (hm : es.length < maxLen) :
    ∃ w', (Instr.mapUpdate 83 (.map (some b)) (.int .i64 n) (.pointer (some ⟨g, 0, none⟩))).run Try.prog w = .ok () w' ∧ IMap w' b (insE n g (es.filter fun p => decide (p.1 ≠ n))) ∧ w.grownBy w' (some b) := by
  obtain ⟨w', hrun, hown, hg⟩ := World.ownsMap.update (H := Unit) h key_int Try.underlying83 hm (keyOf_int hn) (pR_some g)
  refine ⟨w', hrun, IMap.norm (n := es.length + 1) ?_, hg⟩
  rw [ents_ins, ← ents_filter]
  exact hown
theorem IMap.del (h : IMap w b es) {n : Int} (hn : (Lit.int .i64 n).wf = true) (ty : TypeId) :
    ∃ w', (Builtin.delete_ #[83, 3] ty #[.map (some b), .int .i64 n]).run Try.prog w = .ok (.tuple #[]) w' ∧ IMap w' b (es.filter fun p => decide (p.1 ≠ n)) ∧ w.mapTurned w' b := by
  obtain ⟨w', hrun, hown, hg⟩ := World.ownsMap.drop (H := Unit) h key_int Try.underlying83 (keyOf_int hn) ty
  refine ⟨w', hrun, IMap.norm (n := es.length) ?_, hg⟩
  rw [← ents_filter]
  exact hown
end
end Go.Proofs.Ythmjnlkdoepmjaa
