/- Words for memory that the proofs of this seat share: what a call leaves untouched, rows of bytes of a call's own, bytes that came in. No condition. -/
import Derived.Test.YtnbpmlbhigchnaaGreatDoorRows
import Derived.WalkKit
import Derived.WalkSpells
import Derived.WalkLawsBesides
import Derived.Maps.AppendAt
import Derived.Lib.Hide
import Derived.Deep.AppendLies
import Derived.Deep.Draws
namespace Go.Proofs.YtnbpmlbhigchnaaGreatDoor
open Go.RowKit

/-- Only blocks of S, and new ones, may have turned. -/
structure Touch (S : Nat → Prop) (w w' : World) : Prop where
  os : w'.os = w.os
  tape : w'.tape = w.tape
  output : w'.output = w.output
  size : w.heap.size ≤ w'.heap.size
  block : ∀ k, k < w.heap.size → ¬ S k → w'.heap[k]? = w.heap[k]?

namespace Touch
variable {S S' : Nat → Prop} {a w w' : World}
theorem refl (S : Nat → Prop) (w : World) : Touch S w w := ⟨rfl, rfl, rfl, Nat.le_refl _, fun _ _ _ => rfl⟩
theorem mono (h : Touch S w w') (hs : ∀ k, k < w.heap.size → S k → S' k) : Touch S' w w' :=
  ⟨h.os, h.tape, h.output, h.size, fun k hk hn => h.block k hk (fun hS => hn (hs k hk hS))⟩
theorem trans (h : Touch S a w) (k : Touch S' w w') (hs : ∀ i, i < a.heap.size → S' i → S i) : Touch S a w' :=
  ⟨k.os.trans h.os, k.tape.trans h.tape, k.output.trans h.output, Nat.le_trans h.size k.size,
    fun i hi hn => (k.block i (Nat.lt_of_lt_of_le hi h.size) (fun hS => hn (hs i hi hS))).trans (h.block i hi hn)⟩
theorem drew (h : Touch S a w) : Touch S a w.drew := ⟨h.os, h.tape, h.output, h.size, h.block⟩
theorem drewN (h : Touch S a w) (n : Nat) : Touch S a (w.drewN n) := ⟨h.os, h.tape, h.output, h.size, h.block⟩
theorem alloc (h : Touch S a w) (o : Obj) : Touch S a (w.alloc o) :=
  ⟨h.os, h.tape, h.output, Nat.le_trans h.size (by simp), fun i hi hn => (Below.heap_alloc w o i (Nat.lt_of_lt_of_le hi h.size)).trans (h.block i hi hn)⟩
theorem setCell (h : Touch S a w) {p : Addr} (hp : a.heap.size ≤ p.block ∨ S p.block) (u : Value) : Touch S a (w.setCell p u) :=
  ⟨h.os, h.tape, h.output, by simpa [World.setCell] using h.size, fun i hi hn => (Below.heap_setCell w p u i (by
    rintro rfl
    rcases hp with hp | hp
    · omega
    · exact hn hp)).trans (h.block i hi hn)⟩
theorem grown (h : Touch S a w) {row : Option Nat} (hg : w.grownBy w' row) (hr : ∀ k, row = some k → a.heap.size ≤ k ∨ S k) : Touch S a w' :=
  ⟨hg.os.trans h.os, hg.tape.trans h.tape, hg.output.trans h.output, Nat.le_trans h.size hg.size, fun i hi hn =>
    (hg.block i (Nat.lt_of_lt_of_le hi h.size) (fun e => by
      rcases hr i e.symm with hr | hr
      · omega
      · exact hn hr)).trans (h.block i hi hn)⟩
theorem heap (h : Touch S w w') {k : Nat} {o : Obj} (hk : w.heap[k]? = some o) (hn : ¬ S k) : w'.heap[k]? = some o :=
  (h.block k (Array.getElem?_eq_some_iff.1 hk).1 hn).trans hk
theorem cell (h : Touch S w w') {p : Addr} {v : Value} (hc : w.cell? p = some v) (hn : ¬ S p.block) : w'.cell? p = some v :=
  (World.cell?_of_block (h.block p.block (block_lt_of_cell hc) hn)).trans hc
theorem frozen (h : Touch S w w') {p : Addr} (hk : p.block < w.heap.size) (hn : ¬ S p.block) : w'.frozen? p = w.frozen? p :=
  World.frozen?_of_block (h.block p.block hk hn)
theorem below (h : Touch S w w') {B : Nat} (hB : ∀ k, k < B → k < w.heap.size ∧ ¬ S k) : Below B w w' :=
  ⟨h.os, h.tape, h.output, h.size, fun k hk => h.block k (hB k hk).1 (hB k hk).2⟩
theorem ofBelow (h : Below w.heap.size w w') (S : Nat → Prop) : Touch S w w' := ⟨h.os, h.tape, h.output, h.size, fun k hk _ => h.block k hk⟩
end Touch

/-- Nothing that was there has turned. -/
abbrev Fresh (w w' : World) : Prop := Touch (fun _ => False) w w'
theorem Fresh.bel {w w' : World} (h : Fresh w w') : Below w.heap.size w w' := h.below fun _ hk => ⟨hk, id⟩

/-- Block g is just these cells, none frozen. -/
def Blk (w : World) (g : Nat) (t : TypeId) (cs : Array Value) : Prop := w.heap[g]? = some (.cells cs t (0, 0))
section
variable {w w' : World} {g : Nat} {t : TypeId} {cs : Array Value}
theorem Blk.lt (h : Blk w g t cs) : g < w.heap.size := (Array.getElem?_eq_some_iff.1 h).1
theorem Blk.cell (h : Blk w g t cs) (i : Nat) : w.cell? ⟨g, i, none⟩ = cs[i]? := cell_of_row w g i cs t (0, 0) h
theorem Blk.frozen (h : Blk w g t cs) (i : Nat) : w.frozen? ⟨g, i, none⟩ = false := frozen_of_row w g i cs t h
theorem Blk.new (w : World) (t : TypeId) (cs : Array Value) : Blk (w.alloc (.cells cs t)) w.heap.size t cs := heap_alloc_new w _
theorem Blk.drew (h : Blk w g t cs) : Blk w.drew g t cs := h
theorem Blk.drewN (h : Blk w g t cs) (n : Nat) : Blk (w.drewN n) g t cs := h
theorem Blk.alloc (h : Blk w g t cs) (o : Obj) : Blk (w.alloc o) g t cs := (Below.heap_alloc w o g h.lt).trans h
theorem Blk.set_ (h : Blk w g t cs) (i : Nat) (u : Value) : Blk (w.setCell ⟨g, i, none⟩ u) g t (cs.setIfInBounds i u) := by
  unfold Blk at h ⊢
  simp [World.setCell, Array.getElem?_modify, h]
theorem Blk.far (h : Blk w g t cs) {p : Addr} (hp : g ≠ p.block) (u : Value) : Blk (w.setCell p u) g t cs := (Below.heap_setCell w p u g hp).trans h
theorem Blk.touch {S : Nat → Prop} (h : Blk w g t cs) (hb : Touch S w w') (hg : ¬ S g) : Blk w' g t cs := hb.heap h hg
theorem Blk.grown {row : Option Nat} (h : Blk w g t cs) (hb : w.grownBy w' row) (hg : some g ≠ row) : Blk w' g t cs := (hb.block g h.lt hg).trans h
theorem Blk.ne_ {g' : Nat} {t' : TypeId} {cs' : Array Value} (h : Blk w g t cs) (h' : Blk w g' t' cs') (hne : t ≠ t') : g ≠ g' := by
  rintro rfl
  unfold Blk at h h'
  rw [h] at h'
  injection h' with h'
  injection h' with _ ht
  exact hne ht
theorem own_blk_ne {base : Nat} {e : TypeId} {size n : Nat} {v : Value} {xs : List Value} (h : w.ownsRow base e size v n xs) (hg : Blk w g t cs) (hne : e ≠ t) : v.ownBlock ≠ some g := by
  rcases h.2 with ⟨rfl, _⟩ | ⟨g', cap, cur, rfl, _, hh, _⟩
  · simp [Value.ownBlock]
  · intro he
    have : g' = g := by simpa [Value.ownBlock] using he
    subst this
    exact Blk.ne_ (t := e) hh hg hne rfl
end

/-- Bytes as cells. -/
def u8s (xs : List UInt8) : List Value := xs.map fun x => .int .u8 (x.toNat : Int)
theorem u8s_length (xs : List UInt8) : (u8s xs).length = xs.length := by simp [u8s]
theorem u8s_append (xs ys : List UInt8) : u8s (xs ++ ys) = u8s xs ++ u8s ys := by simp [u8s]
theorem u8s_one (xs : List UInt8) : ∀ u ∈ u8s xs, u.oneCell' = true := by
  intro u hu
  obtain ⟨x, _, rfl⟩ := List.mem_map.1 hu
  rfl
theorem u8s_get (xs : List UInt8) (j : Nat) : (u8s xs)[j]? = (xs[j]?).map fun x => .int .u8 (x.toNat : Int) := by simp [u8s]
theorem u8s_inj {xs ys : List UInt8} (h : u8s xs = u8s ys) : xs = ys := by
  unfold u8s at h
  induction xs generalizing ys with
  | nil => cases ys <;> simp_all
  | cons x xs ih =>
    cases ys with
    | nil => simp at h
    | cons y ys =>
      simp only [List.map_cons, List.cons.injEq, Value.int.injEq, true_and, Int.natCast_inj] at h
      obtain ⟨h1, h2⟩ := h
      rw [ih h2, UInt8.toNat_inj.1 h1]

/-- A row of bytes of the call's own. -/
def Row (w : World) (v : Value) (xs : List UInt8) : Prop := w.ownsRow 0 5 1 v xs.length (u8s xs)
section
variable {w w' : World} {v : Value} {xs : List UInt8}
theorem Row.nil_ (w : World) : Row w (.slice none 0 0) [] := World.ownsRow_nil w _ _ _
theorem Row.alloc (h : Row w v xs) (o : Obj) : Row (w.alloc o) v xs := World.ownsRow.alloc h o
theorem Row.drew (h : Row w v xs) : Row w.drew v xs := h
theorem Row.drewN (h : Row w v xs) (n : Nat) : Row (w.drewN n) v xs := h
theorem Row.lt (h : Row w v xs) : ∀ k, v.ownBlock = some k → k < w.heap.size := fun k hk => (World.ownsRow.lt h k hk).2
theorem Row.far (h : Row w v xs) {p : Addr} (hp : v.ownBlock ≠ some p.block) (u : Value) : Row (w.setCell p u) v xs := by
  refine World.ownsRow.kept (row := some p.block) h ⟨rfl, rfl, rfl, by simp [World.setCell], fun k _ hk => ?_⟩ (.inr hp)
  exact Below.heap_setCell w p u k (fun e => hk (by rw [e]))
theorem Row.touch {S : Nat → Prop} (h : Row w v xs) (hb : Touch S w w') (hn : ∀ k, v.ownBlock = some k → ¬ S k) : Row w' v xs := by
  refine ⟨h.1, ?_⟩
  rcases h.2 with hnil | ⟨g, cap, cur, rfl, hb', hg, rest⟩
  · exact .inl hnil
  · exact .inr ⟨g, cap, cur, rfl, hb', hb.heap hg (hn g rfl), rest⟩
theorem Row.form (h : Row w v xs) : ∃ A cap, v = .slice A xs.length cap ∧ xs.length ≤ cap ∧ cap ≤ maxLen ∧ (xs ≠ [] → ∃ g, A = some ⟨g, 0, none⟩) := by
  rcases h.2 with ⟨rfl, hn⟩ | ⟨g, cap, cur, rfl, _, _, hnc, hm, _⟩
  · refine ⟨none, 0, by rw [hn], by omega, by simp [maxLen], fun hx => ?_⟩
    exact absurd (List.eq_nil_of_length_eq_zero hn) hx
  · exact ⟨_, cap, rfl, hnc, hm, fun _ => ⟨g, rfl⟩⟩
theorem Row.ne_blk {g : Nat} {t : TypeId} {cs : Array Value} (h : Row w v xs) (hg : Blk w g t cs) (hne : 5 ≠ t) : v.ownBlock ≠ some g := own_blk_ne h hg hne
end

/-- Bytes that can be read: the slice '.slice A n c' holds xs. -/
def Bs (w : World) (A : Option Addr) (n c : Nat) (xs : List UInt8) : Prop :=
  xs.length = n ∧ n ≤ c ∧ c ≤ maxLen ∧ (0 < n → ∃ b o, A = some ⟨b, o, none⟩ ∧ ∀ j x, xs[j]? = some x → w.cell? ⟨b, o + j, none⟩ = some (.int .u8 (x.toNat : Int)))
section
variable {w w' : World} {A : Option Addr} {n c : Nat} {xs : List UInt8}
theorem Bs.keep (h : Bs w A n c xs) (hk : 0 < n → ∀ p v, w.cell? p = some v → (∃ a, A = some a ∧ p.block = a.block) → w'.cell? p = some v) : Bs w' A n c xs :=
  ⟨h.1, h.2.1, h.2.2.1, fun hn => by
    obtain ⟨b, o, e, hc⟩ := h.2.2.2 hn
    exact ⟨b, o, e, fun j x hx => hk hn _ _ (hc j x hx) ⟨_, e, rfl⟩⟩⟩
theorem Bs.touch {S : Nat → Prop} (h : Bs w A n c xs) (hb : Touch S w w') (hn : ∀ a, A = some a → 0 < n → ¬ S a.block) : Bs w' A n c xs :=
  h.keep fun h0 p v hp ⟨a, ha, e⟩ => hb.cell hp (by rw [e]; exact hn a ha h0)
theorem Bs.fresh (h : Bs w A n c xs) (hb : Fresh w w') : Bs w' A n c xs := h.touch hb fun _ _ _ => id
theorem Bs.drew (h : Bs w A n c xs) : Bs w.drew A n c xs := h
theorem Bs.drewN (h : Bs w A n c xs) (k : Nat) : Bs (w.drewN k) A n c xs := h
theorem Bs.alloc (h : Bs w A n c xs) (o : Obj) : Bs (w.alloc o) A n c xs := h.fresh ((Touch.refl _ _).alloc o)
theorem Row.bs (h : Row w (.slice A n c) xs) : Bs w A n c xs := by
  rcases h.2 with ⟨e, hn⟩ | ⟨g, cap, cur, e, _, hg, hnc, hm, _, htake⟩
  · injection e with e1 e2 e3
    subst e1 e2 e3
    exact ⟨hn, by omega, by simp [maxLen], fun h0 => by omega⟩
  · injection e with e1 e2 e3
    subst e1 e2 e3
    refine ⟨rfl, hnc, hm, fun _ => ⟨g, 0, rfl, fun j x hx => ?_⟩⟩
    have hc := World.ownsRow.cells (v := .slice (some ⟨g, 0, none⟩) xs.length c) h (g := g) rfl j (.int .u8 (x.toNat : Int)) (by rw [u8s_get, hx]; rfl)
    have hadd : (⟨g, 0, none⟩ : Addr).add j = ⟨g, 0 + j, none⟩ := by unfold Addr.add; split <;> simp_all
    rw [hadd] at hc
    exact hc
theorem Bs.cellAt {b o : Nat} (h : Bs w (some ⟨b, o, none⟩) n c xs) {j : Nat} (hj : j < n) : w.cell? ⟨b, o + j, none⟩ = some (.int .u8 ((xs.getD j 0).toNat : Int)) := by
  obtain ⟨b', o', e, hc⟩ := h.2.2.2 (by omega)
  injection e with e
  injection e with e1 e2
  subst e1 e2
  have hl : j < xs.length := by rw [h.1]; exact hj
  exact hc j _ (by rw [List.getD_eq_getElem?_getD, List.getElem?_eq_getElem hl]; rfl)
theorem Bs.at_ (h : Bs w A n c xs) (hn : 0 < n) : ∃ b o, A = some ⟨b, o, none⟩ := by
  obtain ⟨b, o, e, _⟩ := h.2.2.2 hn
  exact ⟨b, o, e⟩
theorem Bs.take (h : Bs w A n c xs) {k : Nat} (hk : k ≤ n) : Bs w A k c (xs.take k) := by
  refine ⟨by rw [List.length_take, h.1]; omega, by have := h.2.1; omega, h.2.2.1, fun h0 => ?_⟩
  obtain ⟨b, o, e, hc⟩ := h.2.2.2 (by omega)
  refine ⟨b, o, e, fun j x hx => hc j x ?_⟩
  rw [List.getElem?_take] at hx
  split at hx
  · exact hx
  · cases hx
end
end Go.Proofs.YtnbpmlbhigchnaaGreatDoor
