/- The two nets side by side: what a call of one leaves of both. Conditions stand with each. -/
import Derived.Test.YthmjnlkdoepmjaaRnet4
import Derived.Test.YthmjnlkdoepmjaaWakes
import Derived.Test.YthmjnlkdoepmjaaVrow
namespace Go.Proofs.Ythmjnlkdoepmjaa
open Go.RowKit

/-- the program's net and the document's, apart from each other -/
structure TN (B : Nat) (W : World) (bn br : Nat) (most mo : Int) (rv : Value) (ps : List Pc) (rrv : Value) (rps : List Pc) : Prop where
  n : NT W 110 bn most rv ps
  r : NT W 76 br mo rrv rps
  dj : ∀ k, rv.ownBlock = some k → rrv.ownBlock ≠ some k
  lo : ∀ k, nfoot bn rv k → B ≤ k
  lo2 : ∀ k, nfoot br rrv k → B ≤ k
section
variable {B : Nat} {W W' : World} {bn br : Nat} {most mo : Int} {rv rrv : Value} {ps rps : List Pc}
theorem nfoot_apart {W : World} {t t' : TypeId} {bn br : Nat} {most mo : Int} {rv rrv : Value} {ps rps : List Pc} (h : NT W t bn most rv ps) (h' : NT W t' br mo rrv rps) (ht : t ≠ t') (h1 : 65 ≠ t) (h2 : 65 ≠ t') (dj : ∀ k, rv.ownBlock = some k → rrv.ownBlock ≠ some k) : ∀ k, nfoot br rrv k → ¬ nfoot bn rv k := by
  rintro k (rfl | e) (e' | e')
  · exact h.blk.ne_ h'.blk ht e'.symm
  · exact h.row.ne_blk h'.blk h2 e'
  · exact h'.row.ne_blk h.blk h1 (by rw [e, e'])
  · exact dj k e' e
theorem pcv_apart {W : World} {t : TypeId} {bn : Nat} {most : Int} {rv : Value} {ps : List Pc} {p : Pc} (h : NT W t bn most rv ps) (hp : PcV W p) (hu : 5 ≠ t) : ∀ k, p.v.ownBlock = some k → ¬ nfoot bn rv k := by
  rintro k hk (e | e)
  · exact hp.ne_blk h.blk hu (by rw [hk, e])
  · exact hp.ne_row h.row k hk e
theorem blk_apart {W : World} {t t' : TypeId} {bn g : Nat} {most : Int} {rv : Value} {ps : List Pc} {cs : Array Value} (h : NT W t bn most rv ps) (hg : Blk W g t' cs) (ht : t ≠ t') (h2 : 65 ≠ t') : ¬ nfoot bn rv g := by
  rintro (e | e)
  · exact h.blk.ne_ hg ht e.symm
  · exact h.row.ne_blk hg h2 e
theorem NT.drewN {W : World} {t : TypeId} {bn : Nat} {most : Int} {rv : Value} {ps : List Pc} (h : NT W t bn most rv ps) (q : Nat) : NT (W.drewN q) t bn most rv ps := h.fresh ((Touch.refl _ W).drewN q)
theorem TN.goN (h : TN B W bn br most mo rv ps rrv rps) {rv' : Value} {ps' : List Pc} (hB : B ≤ W.heap.size) (hT : Touch (nfoot bn rv) W W') (hN : NT W' 110 bn most rv' ps') (hf : ∀ k, nfoot bn rv' k → nfoot bn rv k ∨ W.heap.size ≤ k) : TN B W' bn br most mo rv' ps' rrv rps := by
  refine ⟨hN, h.r.touch hT (nfoot_apart h.n h.r (by decide) (by decide) (by decide) h.dj) (fun p hp => pcv_apart h.n (h.r.byt p hp) (by decide)), fun k hk e => ?_, fun k hk => ?_, h.lo2⟩
  · rcases hf k (.inr hk) with (rfl | h1) | h1
    · exact h.r.row.ne_blk h.n.blk (by decide) e
    · exact h.dj k h1 e
    · have := h.r.row.lt k e
      omega
  · rcases hf k hk with h1 | h1
    · exact h.lo k h1
    · omega
theorem TN.goR (h : TN B W bn br most mo rv ps rrv rps) {rv' : Value} {ps' : List Pc} (hB : B ≤ W.heap.size) (hT : Touch (nfoot br rrv) W W') (hN : NT W' 76 br mo rv' ps') (hf : ∀ k, nfoot br rv' k → nfoot br rrv k ∨ W.heap.size ≤ k) : TN B W' bn br most mo rv ps rv' ps' := by
  refine ⟨h.n.touch hT (nfoot_apart h.r h.n (by decide) (by decide) (by decide) fun k hk e => h.dj k e hk) (fun p hp => pcv_apart h.r (h.n.byt p hp) (by decide)), hN, fun k hk e => ?_, h.lo, fun k hk => ?_⟩
  · rcases hf k (.inr e) with (rfl | h1) | h1
    · exact h.n.row.ne_blk h.r.blk (by decide) hk
    · exact h.dj k hk h1
    · have := h.n.row.lt k hk
      omega
  · rcases hf k hk with h1 | h1
    · exact h.lo2 k h1
    · omega
theorem TN.fresh (h : TN B W bn br most mo rv ps rrv rps) (hf : Fresh W W') : TN B W' bn br most mo rv ps rrv rps := ⟨h.n.fresh hf, h.r.fresh hf, h.dj, h.lo, h.lo2⟩
/-- a row of bytes that is no parcel's -/
def Clear (v : Value) (ps : List Pc) : Prop := ∀ k, v.ownBlock = some k → ∀ p ∈ ps, p.v.ownBlock ≠ some k
theorem row_apart {W : World} {t : TypeId} {bn : Nat} {most : Int} {rv v : Value} {ps : List Pc} {xs : List UInt8} (h : NT W t bn most rv ps) (hp : Row W v xs) (hu : 5 ≠ t) : ∀ k, nfoot bn rv k → ¬ v.ownBlock = some k := by
  rintro k (e | e) hk
  · exact hp.ne_blk h.blk hu (by rw [hk, e])
  · have hq : PcV W ⟨0, 0, xs, v⟩ → False := fun hq => hq.ne_row h.row k hk e
    rcases h.row.2 with ⟨rfl, _⟩ | ⟨g, cap, cur, rfl, hg, _⟩
    · simp [Value.ownBlock] at e
    · simp only [Value.ownBlock, Option.some.injEq] at e
      subst e
      exact hp.ne_blk (t := 65) (cs := cur) hg (by decide) hk
theorem TN.spoil (h : TN B W bn br most mo rv ps rrv rps) {v : Value} {xs : List UInt8} (hr : Row W v xs) (hT : Touch (fun k => v.ownBlock = some k) W W') (h1 : Clear v ps) (h2 : Clear v rps) : TN B W' bn br most mo rv ps rrv rps :=
  ⟨h.n.touch hT (row_apart h.n hr (by decide)) fun p hp k hk e => h1 k e p hp hk, h.r.touch hT (row_apart h.r hr (by decide)) fun p hp k hk e => h2 k e p hp hk, h.dj, h.lo, h.lo2⟩
theorem Clear.lt {v : Value} {ps : List Pc} {b : Nat} (h1 : ∀ p ∈ ps, ∀ k, p.v.ownBlock = some k → k < b) (h2 : ∀ k, v.ownBlock = some k → b ≤ k) : Clear v ps := fun k hk p hp e => by
  have := h1 p hp k e
  have := h2 k hk
  omega
theorem Clear.step {v : Value} {ps ps' : List Pc} {b : Nat} (h : Clear v ps) (hl : ∀ k, v.ownBlock = some k → k < b) (hs : ∀ p ∈ ps', p ∈ ps ∨ ∀ k, p.v.ownBlock = some k → b ≤ k) : Clear v ps' := fun k hk p hp e => by
  rcases hs p hp with h1 | h1
  · exact h k hk p h1 e
  · have := h1 k e
    have := hl k hk
    omega
end
theorem slice_own' (A : Option Addr) (n c n' c' : Nat) : (Value.slice A n c).ownBlock = (Value.slice A n' c').ownBlock := by cases A <;> rfl
theorem del_len (qs : List (Int × Int × List UInt8)) (i : Int) : (del_ qs i).length ≤ qs.length := by
  unfold del_
  split
  · exact Nat.le_refl _
  · exact List.length_eraseIdx_le _ _
/-- the net's Most, and the document's -/
theorem most_le (most : Int) (n : Nat) : (most ≤ (n : Int)) ↔ ((if most < 0 then 0 else most) ≤ (n : Int)) := by
  split <;> omega
theorem dbl_most (most : Int) (qs : List (Int × Int × List UInt8)) (i : Int) : dbl_ (if most < 0 then 0 else most) qs i = dbl_ most qs i := by
  unfold dbl_
  cases at_ qs i with
  | none => rfl
  | some q =>
    dsimp only
    by_cases h : most ≤ (qs.length : Int)
    · rw [if_pos h, if_pos ((most_le most qs.length).1 h)]
    · rw [if_neg h, if_neg (fun h' => h ((most_le most qs.length).2 h'))]
theorem dbl_len (most : Int) (qs : List (Int × Int × List UInt8)) (i : Int) : (dbl_ most qs i).1.length ≤ qs.length + 1 := by
  unfold dbl_
  split
  · exact Nat.le_succ _
  · split
    · exact Nat.le_succ _
    · simp
/-- a Put as data, with the slice that it holds -/
structure PutD where
  Do : Int
  i : Int
  a : Int
  b : Int
  A : Option Addr
  m : Nat
  c : Nat
  xs : List UInt8
def PutD.cells (o : PutD) : List Value := [.int .i64 o.Do, .int .i64 o.i, .int .i64 o.a, .int .i64 o.b, .slice o.A o.m o.c]
/-- the Puts that came in -/
structure PutsAt (w : World) (A : Option Addr) (n c : Nat) (ops : List PutD) : Prop where
  vs : Vs w 5 A n c (ops.flatMap PutD.cells)
  lt : ∀ a, A = some a → 0 < n → a.block < w.heap.size
  bs : ∀ o ∈ ops, Bs w o.A o.m o.c o.xs ∧ ∀ a, o.A = some a → 0 < o.m → a.block < w.heap.size
theorem PutsAt.len {w : World} {A : Option Addr} {n c : Nat} {ops : List PutD} (h : PutsAt w A n c ops) : ops.length = n := by
  have := h.vs.1
  rw [flat_length PutD.cells 5 (fun _ => rfl)] at this
  omega
theorem Touch.old' {w w' : World} (h : Touch (fun k => w.heap.size ≤ k) w w') : Fresh w w' := h.mono fun k hk e => absurd hk (by omega)
end Go.Proofs.Ythmjnlkdoepmjaa
