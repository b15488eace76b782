/- A range over a function whose rounds hand on a fact of the world beside the value: the contract SeqO and its law.
   It stands on the library's own steps of a loop over a function (enterLoop, yield, beginRound, endRound, endLoop); the library's laws of this kind tell a round nothing of the memory behind its value. -/
import Derived.Test.YtnbpmlbhigchnaaGreatDoorLawG
import Derived.Test.YtnbpmlbhigchnaaGreatDoorRndQ
import Derived.RangeFuncNested
import Derived.RangeFuncBound
import Derived.RangeFuncCalls
import Derived.RangeFuncLeaves
import Derived.Shelf.Abstract
import Derived.Shelf.RegionOpen
import Derived.WalkKit
import Derived.OwnWalkIn
import Derived.TacticsInMore
import Derived.LoopNIn
import Derived.LoopIn
import Derived.ScopeJumps
namespace Go.Proofs.YtnbpmlbhigchnaaGreatDoor
open Go.RowKit

theorem Fresh.grown_ {w w' : World} (h : Fresh w w') : w.grownBy w' none := ⟨h.os, h.tape, h.output, h.size, fun k hk _ => h.block k hk id⟩
/-- the contract: each round that comes finds Ok of its value and of its world -/
def SeqO {α : Type} (F : Fence) (n : Nat) (P : Program) (g : Nat) (lb : Array Value) (encs : α → Array Value) (Ok : List α → α → World → Prop) (Kp : World → World → Prop) (S Sp : List α → Prop) (N : Nat) (w : World) : Prop :=
  ∀ (l : Nat) (J Jx : List α → World → Prop) (W : World), Below w.heap.size w W → AbidesFrom W.heap.size J → AbidesFrom W.heap.size Jx →
    (∀ pre x W1, J pre W1 → Ok pre x W1 → pre.length < N → YieldAt F (n - 1) P l (encs x) W1 fun e W' =>
      (e = .returned (.bool true) ∧ J (pre ++ [x]) W' ∧ Kp W1 W') ∨ (e = .returned (.bool false) ∧ Jx (pre ++ [x]) W')) →
    J [] W → CallsIn F n P g (#[.func (.yield l) #[] #[]] ++ lb) W fun e W' => (∃ v, e = .returned v) ∧ ((∃ xs, S xs ∧ J xs W') ∨ (∃ pre, Sp pre ∧ Jx pre W'))

section
variable {F : Fence} {n : Nat} {P : Program}
/-- the loop's two blocks: that of its deferred calls, and behind it its record -/
def Rec (k : Nat) (r : Loop) (W : World) : Prop := W.heap[k + 1]? = some (.loop r) ∧ W.heap[k]? = some (.deferred (some []))
theorem Rec.lt {k : Nat} {r : Loop} {W : World} (h : Rec k r W) : k + 1 < W.heap.size := (Array.getElem?_eq_some_iff.1 h.1).1
theorem Rec.put {k : Nat} {r : Loop} {W : World} (h : Rec k r W) (r' : Loop) : Rec k r' (W.putObj (k + 1) (.loop r')) := ⟨World.putObj_heap_same h.lt, (World.putObj_heap_other (by omega)).trans h.2⟩
theorem Rec.others {k : Nat} {r : Loop} {W W' : World} (h : Rec k r W) (hk : KeepsOthers W W') : Rec k r W' := ⟨hk.same _ _ h.1 rfl, hk.same _ _ h.2 rfl⟩
theorem Rec.kept {k : Nat} {r : Loop} {A B : World} {row : Option Nat} (h : Rec k r A) (hg : A.grownBy B row) (hr : ∀ q, row = some q → ∃ o : Obj, A.heap[q]? = some o ∧ o.isWalk = true) : Rec k r B :=
  ⟨(grownBy_keeps hg hr h.1 rfl).trans h.1, (grownBy_keeps hg hr h.2 rfl).trans h.2⟩

theorem range_ok {α : Type} {g : Operand} {ps : Array Tmp} {assign body : Code} {Q : Exit → Act → World → Prop} {a : Act} {w : World}
    (hro : F.round = none) (h1 : 1 ≤ n) {gf : Nat} {lb : Array Value} (hg : a.eval g = .func (.func gf) #[] lb) (hFg : F.fn gf) (eg : ∀ args w, (callFunc gf args).run P w = .ok (.enter gf args) w)
    {encs : α → Array Value} {Ok : List α → α → World → Prop} {Kp : World → World → Prop} {S Sp : List α → Prop} {N : Nat} (hseq : SeqO F (n - 1) P gf lb encs Ok Kp S Sp N w)
    (hOk : ∀ (pre : List α) (x : α) (W : World) (l : Nat) (o o' : Obj), Ok pre x W → W.heap[l]? = some o → o.isCells = false → Ok pre x (W.putObj l o'))
    (hOkF : ∀ (pre : List α) (x : α) (W W1 : World), Ok pre x W → Fresh W W1 → Ok pre x W1)
    (R : α → Act → World → Prop) (hRp : ∀ (x : α) (b : Act) (W : World) (l : Nat) (o o' : Obj), R x b W → W.heap[l]? = some o → o.isCells = false → R x b (W.putObj l o')) (hKf : ∀ {A B : World}, Fresh A B → Kp A B)
    (hKt : ∀ {A B C : World}, Kp A B → Kp B C → Kp A C) (hKb : ∀ (W : World) (l : Nat) (o o' : Obj), w.heap.size ≤ l → W.heap[l]? = some o → o.isCells = false → o.isWalk = false → Kp W (W.putObj l o')) (hps : ∀ x, (encs x).size = ps.size)
    (I : List α → World → Prop) (Ix : List α → World → Prop) (hI : OwnFrom w.heap.size I) (hIx : OwnFrom w.heap.size Ix) (h0 : I [] w)
    (hassign : ∀ (l : Nat) (pre : List α) (x : α) (W : World) (K : Act → World → Prop), Ok pre x W → (∀ a₁ W₁, Fresh W W₁ → R x a₁ W₁ → K a₁ W₁) →
      assign.wpIn (F.inRound l) (n - 1 - 1) P (Exit.then K (fun _ _ _ => False)) { tmps := (ps.zip (encs x)).foldl (fun t (p, v) => t.setIfInBounds p v) a.tmps, defers := [] } W)
    (hbody : ∀ (l : Nat) (pre : List α) (x : α) (a₁ : Act) (W : World), I pre W → Ok pre x W → R x a₁ W → pre.length < N → body.wpIn (F.inRound l) (n - 1 - 1) P
      (ownPostK Kp I (fun c xs W' => c = .ret ∧ Ix xs W') (pre ++ [x]) W) a₁ W)
    (hdone : ∀ (D : Nat) (xs : List α) (W : World), w.heap.size ≤ D → S xs → I xs W → W.heap[D]? = some (.deferred (some [])) → Q .normal { a with defers := { target := .collected D, args := #[] } :: a.defers } W)
    (hstop : ∀ (D : Nat) (pre : List α) (W : World), w.heap.size ≤ D → Sp pre → Ix pre W → W.heap[D]? = some (.deferred (some [])) → Code.ret.wpIn F n P Q { a with defers := { target := .collected D, args := #[] } :: a.defers } W) :
    (Code.rangeFunc g ps assign body).wpIn F n P Q a w := by
  refine wpIn_rangeFunc fun fn hfn => ?_
  rw [hro]
  obtain ⟨rec, hrec⟩ : ∃ rec : LoopState → Option Code → Loop, rec = fun st pe => { state := st, pending := pe, fn, tmps := a.tmps, params := ps, assign, body, defers := w.heap.size } := ⟨_, rfl⟩
  have hst : ∀ st pe st', ({ rec st pe with state := st' } : Loop) = rec st' pe := by subst hrec; intros; rfl
  have hsp : ∀ st pe st' pe', ({ rec st pe with state := st', pending := pe' } : Loop) = rec st' pe' := by subst hrec; intros; rfl
  obtain ⟨W1, hW1⟩ : ∃ W1, (w.alloc (.deferred (some []))).alloc (.loop (rec .ready none)) = W1 := ⟨_, rfl⟩
  have hR1 : Rec w.heap.size (rec .ready none) W1 := by
    rw [← hW1]
    refine ⟨?_, (Below.heap_alloc _ _ _ (by simp)).trans (World.alloc_heap_new w _)⟩
    have := World.alloc_heap_new (w.alloc (.deferred (some []))) (.loop (rec .ready none))
    rwa [World.size_alloc] at this
  have hsz : w.heap.size + 2 = W1.heap.size := by rw [← hW1]; simp
  have hw1 : Below w.heap.size w W1 := by rw [← hW1]; exact ((Below.refl _ w).alloc (Nat.le_refl _) _).alloc (by simp) _
  have hI1 : I [] W1 := by rw [← hW1]; exact hI.alloc _ (hI.alloc _ h0)
  have hwalk : ∀ {A : World} {row : Option Nat}, (∀ r, row = some r → W1.heap.size ≤ r ∧ ∃ o : Obj, A.heap[r]? = some o ∧ o.isWalk = true) → ∀ r, row = some r → w.heap.size ≤ r ∧ ∃ o : Obj, A.heap[r]? = some o ∧ o.isCells = false := by
    intro A row hr r e
    obtain ⟨hb, o, ho, hw⟩ := hr r e
    exact ⟨by omega, o, ho, Obj.not_cells_of_walk hw⟩
  refine ⟨w.heap.size + 1, [{ target := .collected w.heap.size, args := #[] }], W1, { target := .fn (.func gf) lb, args := #[.func (.yield (w.heap.size + 1)) #[] #[]] }, W1, gf,
    #[.func (.yield (w.heap.size + 1)) #[] #[]] ++ lb, W1, by rw [← hW1, hrec]; exact run_enterLoop_outer _ _ _ _ _, by simp only [resolve, hg]; simp [go_sem], ?_, by simp [invoke, go_sem, eg], fun _ => h1, ?_⟩
  · intro f' hf'
    simp [Target.leads] at hf'
    subst hf'
    exact hFg
  refine (hseq (w.heap.size + 1) (fun pre W => I pre W ∧ Rec w.heap.size (rec .ready none) W) (fun pre W => Ix pre W ∧ Rec w.heap.size (rec .done (some .ret)) W) W1 hw1
    (fun s A B row hs hg' hr => ⟨hI s A B row hs.1 hg' (hwalk hr), hs.2.kept hg' fun q e => (hr q e).2⟩) (fun s A B row hs hg' hr => ⟨hIx s A B row hs.1 hg' (hwalk hr), hs.2.kept hg' fun q e => (hr q e).2⟩) ?_ ⟨hI1, hR1⟩).mono ?_
  · -- one round
    rintro pre x W ⟨hi, hl⟩ hok hlen
    have hy := run_yield (P := P) (args := encs x) hl.1 (by rw [hrec]; exact hps x)
    rw [hrec] at hy
    refine ⟨fn, _, assign, body, hy, roundIn_of_wpIn hfn (hassign _ pre x W _ hok fun b0 W0 hf0 hr0 => ?_)⟩
    have hl0 : Rec w.heap.size (rec .ready none) W0 := ⟨hf0.heap hl.1 id, hf0.heap hl.2 id⟩
    have hi0 : I pre W0 := hI pre W W0 none hi hf0.grown_ (fun r e => by cases e)
    refine ⟨_, run_beginRound hl0.1 (by rw [hrec]), ?_⟩
    rw [hst]
    have hb := hl0.put (rec .busy none)
    have hq := hKt (hKf hf0) (hKb W0 _ _ (.loop (rec .busy none)) (by omega) hl0.1 rfl rfl)
    refine wpIn_mono (hbody _ pre x b0 _ (hI.putObj _ hi0 (by omega) hl0.1 rfl) (hOk _ _ _ _ _ _ (hOkF _ _ _ _ hok hf0) hl0.1 rfl) (hRp _ _ _ _ _ _ hr0 hl0.1 rfl) hlen) ?_
    rintro e a3 W3 hp
    cases e with
    | normal =>
      obtain ⟨hk3, hkp3, hi3⟩ := hp
      have hr3 := hb.others hk3
      have hend := run_endRound (P := P) none hr3.1
      rw [hsp] at hend
      exact ⟨_, _, hend, .inl ⟨rfl, ⟨hI.putObj _ hi3 (by omega) hr3.1 rfl, hr3.put _⟩, hKt (hKt hq hkp3) (hKb _ _ _ _ (by omega) hr3.1 rfl rfl)⟩⟩
    | ret =>
      obtain ⟨hk3, _, hi3⟩ := hp
      have hr3 := hb.others hk3
      have hend := run_endRound (P := P) (some .ret) hr3.1
      rw [hsp] at hend
      exact ⟨_, _, hend, .inr ⟨rfl, hIx.putObj _ hi3 (by omega) hr3.1 rfl, hr3.put _⟩⟩
    | exit id => exact absurd hp.2.1 (by simp)
    | goto t => exact absurd hp.2.1 (by simp)
    | panic ch => exact hp.elim
    | outgrown => exact hp.elim
  · -- behind the iterator
    rintro e W2 ⟨⟨v, rfl⟩, (⟨xs, hS, hi, hl⟩ | ⟨pre, hSp, hi, hl⟩)⟩
    · have hend := run_endLoop (P := P) hl.1 (by rw [hrec]; simp)
      rw [hst] at hend
      rw [show (rec .ready none).pending = none by rw [hrec]] at hend
      exact ⟨none, _, hend, hdone _ xs _ (Nat.le_refl _) hS (hI.putObj _ hi (by omega) hl.1 rfl) (hl.put _).2⟩
    · have hend := run_endLoop (P := P) hl.1 (by rw [hrec]; simp)
      rw [hst] at hend
      rw [show (rec .done (some .ret)).pending = some .ret by rw [hrec]] at hend
      exact ⟨some .ret, _, hend, hstop _ pre _ (Nat.le_refl _) hSp (hIx.putObj _ hi (by omega) hl.1 rfl) (hl.put _).2⟩
end
end Go.Proofs.YtnbpmlbhigchnaaGreatDoor
