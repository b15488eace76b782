/- Rows of records in memory: those that came in (Vs) and those of a call's own (VRow). No condition. -/
import Derived.Test.YtnbpmlbhigchnaaGreatDoorBase
namespace Go.Proofs.YtnbpmlbhigchnaaGreatDoor
open Go.RowKit

/-- records that can be read: the slice '.slice A n c', each of sz cells, holds vs -/
def Vs (w : World) (sz : Nat) (A : Option Addr) (n c : Nat) (vs : List Value) : Prop :=
  vs.length = n * sz ∧ n ≤ c ∧ c ≤ maxLen ∧ (0 < n → ∃ b o, A = some ⟨b, o, none⟩ ∧ ∀ j x, vs[j]? = some x → w.cell? ⟨b, o + j, none⟩ = some x)
section
variable {w w' : World} {sz : Nat} {A : Option Addr} {n c : Nat} {vs : List Value}
theorem Vs.touch {S : Nat → Prop} (h : Vs w sz A n c vs) (hb : Touch S w w') (hn : ∀ a, A = some a → 0 < n → ¬ S a.block) : Vs w' sz A n c vs :=
  ⟨h.1, h.2.1, h.2.2.1, fun h0 => by
    obtain ⟨b, o, e, hc⟩ := h.2.2.2 h0
    exact ⟨b, o, e, fun j x hx => hb.cell (hc j x hx) (hn ⟨b, o, none⟩ e h0)⟩⟩
theorem Vs.fresh (h : Vs w sz A n c vs) (hb : Fresh w w') : Vs w' sz A n c vs := h.touch hb fun _ _ _ => id
theorem Vs.alloc (h : Vs w sz A n c vs) (o : Obj) : Vs (w.alloc o) sz A n c vs := h.fresh ((Touch.refl _ _).alloc o)
theorem Vs.at_ (h : Vs w sz A n c vs) (hn : 0 < n) : ∃ b o, A = some ⟨b, o, none⟩ := by
  obtain ⟨b, o, e, _⟩ := h.2.2.2 hn
  exact ⟨b, o, e⟩
theorem Vs.cellAt {b o : Nat} (h : Vs w sz (some ⟨b, o, none⟩) n c vs) {j : Nat} {x : Value} (hx : vs[j]? = some x) : w.cell? ⟨b, o + j, none⟩ = some x := by
  have h0 : 0 < n := by
    rcases Nat.eq_zero_or_pos n with e | e
    · have hl := h.1
      rw [e, Nat.zero_mul] at hl
      rw [List.eq_nil_of_length_eq_zero hl] at hx
      cases hx
    · exact e
  obtain ⟨b', o', e, hc⟩ := h.2.2.2 h0
  injection e with e
  injection e with e1 e2
  subst e1 e2
  exact hc j x hx
end

/-- a row of records of the call's own -/
def VRow (w : World) (e : TypeId) (sz : Nat) (v : Value) (n : Nat) (vs : List Value) : Prop := w.ownsRow 0 e sz v n vs
section
variable {w w' : World} {e : TypeId} {sz n : Nat} {v : Value} {vs : List Value}
theorem VRow.nil_ (w : World) (e : TypeId) (sz : Nat) : VRow w e sz (.slice none 0 0) 0 [] := World.ownsRow_nil w _ _ _
theorem VRow.alloc (h : VRow w e sz v n vs) (o : Obj) : VRow (w.alloc o) e sz v n vs := World.ownsRow.alloc h o
theorem VRow.drew (h : VRow w e sz v n vs) : VRow w.drew e sz v n vs := h
theorem VRow.lt (h : VRow w e sz v n vs) : ∀ k, v.ownBlock = some k → k < w.heap.size := fun k hk => (World.ownsRow.lt h k hk).2
theorem VRow.touch {S : Nat → Prop} (h : VRow w e sz v n vs) (hb : Touch S w w') (hn : ∀ k, v.ownBlock = some k → ¬ S k) : VRow w' e sz v n vs := by
  refine ⟨h.1, ?_⟩
  rcases h.2 with hnil | ⟨g, cap, cur, rfl, hb', hg, rest⟩
  · exact .inl hnil
  · exact .inr ⟨g, cap, cur, rfl, hb', hb.heap hg (hn g rfl), rest⟩
theorem VRow.form (h : VRow w e sz v n vs) : ∃ A cap, v = .slice A n cap ∧ n ≤ cap ∧ cap ≤ maxLen := by
  rcases h.2 with ⟨rfl, hn⟩ | ⟨g, cap, cur, rfl, _, _, hnc, hm, _⟩
  · exact ⟨none, 0, by rw [hn], by omega, by simp [maxLen]⟩
  · exact ⟨_, cap, rfl, hnc, hm⟩
theorem VRow.ne_blk {g : Nat} {t : TypeId} {cs : Array Value} (h : VRow w e sz v n vs) (hg : Blk w g t cs) (hne : e ≠ t) : v.ownBlock ≠ some g := own_blk_ne h hg hne
theorem VRow.rd {A : Option Addr} {c : Nat} (h : VRow w e sz (.slice A n c) n vs) : Vs w sz A n c vs := by
  rcases h.2 with ⟨e, hn⟩ | ⟨g, cap, cur, e, _, hg, hnc, hm, _, htake⟩
  · injection e with e1 e2 e3
    subst e1 e2 e3
    exact ⟨h.1, by omega, by simp [maxLen], fun h0 => by omega⟩
  · injection e with e1 e2 e3
    subst e1 e3
    refine ⟨h.1, hnc, hm, fun _ => ⟨g, 0, rfl, fun j x hx => ?_⟩⟩
    have hc := World.ownsRow.cells (v := .slice (some ⟨g, 0, none⟩) n c) h (g := g) rfl j x hx
    have hadd : (⟨g, 0, none⟩ : Addr).add j = ⟨g, 0 + j, none⟩ := by unfold Addr.add; split <;> simp_all
    rw [hadd] at hc
    exact hc
end

/-- the cells of many records, each of sz cells -/
theorem flat_at {α : Type} (f : α → List Value) (sz : Nat) (hf : ∀ a, (f a).length = sz) : ∀ (l : List α) (i r : Nat) (a : α), l[i]? = some a → r < sz → (l.flatMap f)[i * sz + r]? = (f a)[r]?
  | [], i, r, a, h, _ => by cases h
  | x :: l, 0, r, a, h, hr => by
    simp only [List.getElem?_cons_zero, Option.some.injEq] at h
    subst h
    rw [List.flatMap_cons, Nat.zero_mul, Nat.zero_add, List.getElem?_append_left (by rw [hf]; exact hr)]
  | x :: l, i + 1, r, a, h, hr => by
    simp only [List.getElem?_cons_succ] at h
    rw [List.flatMap_cons, List.getElem?_append_right (by rw [hf, Nat.succ_mul]; omega), hf, show (i + 1) * sz + r - sz = i * sz + r by rw [Nat.succ_mul]; omega]
    exact flat_at f sz hf l i r a h hr
theorem flat_length {α : Type} (f : α → List Value) (sz : Nat) (hf : ∀ a, (f a).length = sz) (l : List α) : (l.flatMap f).length = l.length * sz := by
  induction l with
  | nil => simp
  | cons x l ih => rw [List.flatMap_cons, List.length_append, ih, hf, List.length_cons, Nat.succ_mul]; omega
theorem new_cells (w : World) (e : TypeId) (cs : List Value) : ∀ j x, cs[j]? = some x → (w.alloc (.cells cs.toArray e)).cell? ((⟨w.heap.size, 0, none⟩ : Addr).add j) = some x := by
  intro j x hx
  have hadd : (⟨w.heap.size, 0, none⟩ : Addr).add j = ⟨w.heap.size, j, none⟩ := by unfold Addr.add; split <;> simp_all
  rw [hadd, (Blk.new w e cs.toArray).cell j]
  simpa using hx
end Go.Proofs.YtnbpmlbhigchnaaGreatDoor
