/- A region that draws its order and only reads, in a round of a range over a function: walked once, in the text's order. Condition: it defers nothing. -/
import Derived.Sort.BigQuietIn
import Derived.StillTail
import Derived.BigQuiet
namespace Go.Proofs.YtnbpmlbhigchnaaGreatDoor
open Go.RowKit

variable {F : Fence} {n : Nat} {P : Program} {md : Region.Mode} {ops : Array Oper} {Q : Exit → Act → World → Prop}
theorem op_round {o : Oper} (l : Nat) (hro : F.round = none) (hd : ∀ c, o.op ≠ .defer c) {a : Act} {w : World} {K : Act → World → Prop} (h : o.wpIn F n P a w K Q) : o.wpIn (F.inRound l) n P a w K Q := by
  unfold Oper.wpIn at h ⊢
  rw [hro] at h
  rw [Fence.inRound_round, Oper.semAt_some l _ _ hd]
  exact h
theorem opIn_round {i : Nat} (l : Nat) (hro : F.round = none) (hd : ∀ o ∈ ops.toList, ∀ c, o.op ≠ .defer c) {a : Act} {w : World} {K : Act → World → Prop} (h : wpOpIn F n P ops Q i K a w) : wpOpIn (F.inRound l) n P ops Q i K a w := by
  unfold wpOpIn at h ⊢
  split
  · rename_i ho
    simpa only [ho] using h
  · rename_i o ho
    simp only [ho] at h
    split
    · rename_i hw
      simp only [hw, if_true] at h
      exact op_round l hro (hd o (by obtain ⟨hi, e⟩ := Array.getElem?_eq_some_iff.1 ho; rw [← e]; exact Array.getElem_mem_toList hi)) h
    · rename_i hw
      simp only [hw] at h
      exact h
theorem anyIn_round (l : Nat) (hro : F.round = none) (hd : ∀ o ∈ ops.toList, ∀ c, o.op ≠ .defer c) : ∀ (fuel : Nat) (listed : Array Bool) (a : Act) (w : World), wpAnyIn F n P md ops Q fuel listed a w → wpAnyIn (F.inRound l) n P md ops Q fuel listed a w
  | 0, _, _, _, h => h
  | fuel + 1, _, _, _, h => ⟨h.1, fun i hi => opIn_round l hro hd (wpOpIn_mono (fun a' w' h' => anyIn_round l hro hd fuel _ a' w' h') (h.2 i hi))⟩
theorem region_round {id : Nat} {a : Act} {w : World} {ol : List Oper} (l : Nat) (hro : F.round = none) (hd : ∀ o ∈ ol, ∀ c, o.op ≠ .defer c) (hm : P.follows .mixedOrders = true) (hB : Region.lexB .any ol.toArray = true)
    (h : wpQuietIn F n P ol.toArray (fun w' => ∃ n, w' = w.drewN n) (fun a' => ∀ w', (∃ n, w' = w.drewN n) → Q .normal a' w') ol a) : (Code.region id ol.toArray true).wpIn (F.inRound l) n P Q a w := by
  simp only [Region.lexB, Bool.and_eq_true] at hB
  refine wpIn_region_any hm (anyIn_round l hro hd _ _ _ _ ?_)
  refine wpAnyIn_of_quiet (C := fun w' => ∃ n, w' = w.drewN n) (Q := fun a' => ∀ w', (∃ n, w' = w.drewN n) → Q .normal a' w') hro (fun _ w' hw' h => h w' hw') _ _ _ _ ⟨1, rfl⟩ ?_
  have := wpAnyQIn_lex (F := F) (n := n) (C := fun w' => ∃ n, w' = w.drewN n) (md := .any) hB.1 ol 0 (Array.replicate ol.length false) a (by simp) (by simpa using hB.2) h
  simpa using this

/-- a region that draws its order, whose first operations only read, and whose last ones come up in one forced order: the first ones in the text's order -/
theorem still_of_quiet {o : Oper} {a : Act} {w : World} {K K' : Act → Prop} (hk : ∀ a, K a → K' a) (h : o.quiet P a (fun w' => w' = w) K) : o.still P a w K' := by
  obtain ⟨v, hv, hK⟩ := h
  have hq := hv w rfl
  unfold Oper.still
  unfold Oper.quietAt at hq
  generalize (execOp a.eval o).run P w = r at hq ⊢
  cases r with
  | ok x w' =>
    cases x with
    | value y =>
      obtain ⟨rfl, rfl⟩ := hq
      exact ⟨rfl, hk _ hK⟩
    | skip =>
      obtain ⟨rfl, rfl⟩ := hq
      exact ⟨rfl, hk _ hK⟩
    | enter f args =>
      obtain ⟨rfl, hc⟩ := hq
      exact ⟨rfl, v, hc, hk _ hK⟩
    | _ => exact hq.elim
  | halt x w' => exact hq.elim
theorem wpStill_of_quiet {w : World} {R : Act → Prop} : ∀ (ol : List Oper) (a : Act), wpQuiet P ops (fun w' => w' = w) R ol a → wpStill P ops w R ol a
  | [], _, h => h
  | o :: rest, a, h => by
    unfold wpQuiet at h
    unfold wpStill
    split at h
    · rename_i hw
      rw [if_pos hw]
      exact still_of_quiet (fun a' h' => wpStill_of_quiet rest a' h') h
    · rename_i hw
      rw [if_neg hw]
      exact wpStill_of_quiet rest _ h
theorem region_tail {id : Nat} {a : Act} {w : World} {ol : List Oper} (m : Nat) (hm : P.follows .mixedOrders = true) (hB : Region.lexTailB .any ol.toArray m = true) {l1 l2 : List Oper} (h1 : ol.take m = l1) (h2 : ol.drop m = l2)
    (h : wpQuiet P ol.toArray (fun w' => w' = w.drew) (fun a' => wpList P ol.toArray Q l2 a' w.drew) l1 a) : (Code.region id ol.toArray true).wp P Q a w := by
  subst h1 h2
  exact wp_region_still_tail m hm hB (wpStill_of_quiet _ _ h)
end Go.Proofs.YtnbpmlbhigchnaaGreatDoor
