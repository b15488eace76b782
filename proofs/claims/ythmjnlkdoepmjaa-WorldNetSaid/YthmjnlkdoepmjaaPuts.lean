/- Many cells of one block stored one behind the other, as one step. -/
import Derived.Test.YthmjnlkdoepmjaaBase
namespace Go.Proofs.Ythmjnlkdoepmjaa
open Go.RowKit

/-- the cells i, i + 1, .. of block b are stored -/
def puts (w : World) (b : Nat) : Nat → List Value → World
  | _, [] => w
  | i, v :: l => puts (w.setCell ⟨b, i, none⟩ v) b (i + 1) l
theorem puts_ind {P : World → Prop} (b : Nat) (hP : ∀ (w : World) (i : Nat) (u : Value), P w → P (w.setCell ⟨b, i, none⟩ u)) : ∀ (vs : List Value) (i : Nat) (w : World), P w → P (puts w b i vs)
  | [], _, _, h => h
  | v :: l, i, w, h => puts_ind b hP l (i + 1) _ (hP w i v h)
theorem Blk.puts_far {w : World} {g b : Nat} {t : TypeId} {cs : Array Value} (h : Blk w g t cs) (hne : g ≠ b) (i : Nat) (vs : List Value) : Blk (puts w b i vs) g t cs :=
  puts_ind (P := fun w => Blk w g t cs) b (fun _ i u h => h.far (p := ⟨b, i, none⟩) hne u) vs i w h
theorem Touch.puts {S : Nat → Prop} {w w' : World} {b : Nat} (h : Touch S w w') (hb : w.heap.size ≤ b ∨ S b) (i : Nat) (vs : List Value) : Touch S w (puts w' b i vs) :=
  puts_ind (P := fun w' => Touch S w w') b (fun _ i u h => h.setCell (p := ⟨b, i, none⟩) hb u) vs i w' h
theorem Blk.puts_go {b : Nat} {t : TypeId} : ∀ (vs pre old post : List Value) (w : World), Blk w b t (pre ++ old ++ post).toArray → old.length = vs.length → Blk (puts w b pre.length vs) b t (pre ++ vs ++ post).toArray
  | [], pre, old, post, w, h, hl => by
    obtain rfl : old = [] := List.eq_nil_of_length_eq_zero hl
    exact h
  | v :: vs, pre, [], post, w, h, hl => by cases hl
  | v :: vs, pre, o :: old, post, w, h, hl => by
    have h1 := h.set_ pre.length v
    rw [show (pre ++ o :: old ++ post).toArray.setIfInBounds pre.length v = ((pre ++ [v]) ++ old ++ post).toArray from by simp] at h1
    have h2 := Blk.puts_go vs (pre ++ [v]) old post _ h1 (by simpa using hl)
    simp only [List.length_append, List.length_cons, List.length_nil, Nat.zero_add] at h2
    have e : pre ++ [v] ++ vs ++ post = pre ++ v :: vs ++ post := by simp
    rw [e] at h2
    exact h2
/-- all cells of a block -/
theorem Blk.puts_all {w : World} {b : Nat} {t : TypeId} {cs : Array Value} (h : Blk w b t cs) (vs : List Value) (hl : cs.size = vs.length) : Blk (puts w b 0 vs) b t vs.toArray := by
  have := Blk.puts_go vs [] cs.toList [] w (by simpa using h) (by simpa using hl)
  simpa using this
/-- the last cells of a block -/
theorem Blk.puts_end {w : World} {b : Nat} {t : TypeId} (pre old vs : List Value) (h : Blk w b t (pre ++ old).toArray) (hl : old.length = vs.length) : Blk (puts w b pre.length vs) b t (pre ++ vs).toArray := by
  have := Blk.puts_go vs pre old [] w (by simpa using h) hl
  simpa using this
end Go.Proofs.Ythmjnlkdoepmjaa
