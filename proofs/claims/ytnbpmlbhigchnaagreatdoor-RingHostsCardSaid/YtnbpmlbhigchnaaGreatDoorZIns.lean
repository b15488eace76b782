/- The reference's insertion of a spot, in plain lists. No condition. -/
import Derived.Test.YtnbpmlbhigchnaaGreatDoorZWrong
namespace Go.Proofs.YtnbpmlbhigchnaaGreatDoor
open Go.RowKit

/-- a spot into the row, behind those that do not come after it -/
def insK (x : Key) (L : List Key) : List Key := (L.reverse.dropWhile fun s => befZ x.1 s.1).reverse ++ [x] ++ (L.reverse.takeWhile fun s => befZ x.1 s.1).reverse
theorem insK_perm (x : Key) (L : List Key) : (insK x L).Perm (x :: L) := by
  unfold insK
  have h : ((L.reverse.dropWhile fun s => befZ x.1 s.1).reverse ++ (L.reverse.takeWhile fun s => befZ x.1 s.1).reverse) = L := by
    rw [← List.reverse_append, List.takeWhile_append_dropWhile, List.reverse_reverse]
  rw [List.append_assoc]
  refine (List.perm_middle (l₁ := (L.reverse.dropWhile fun s => befZ x.1 s.1).reverse) (l₂ := (L.reverse.takeWhile fun s => befZ x.1 s.1).reverse) (a := x)).trans ?_
  rw [h]
theorem insK_nil (x : Key) : insK x [] = [x] := rfl
/-- the same from the row's end -/
theorem insK_snoc (x y : Key) (L : List Key) : insK x (L ++ [y]) = if befZ x.1 y.1 then insK x L ++ [y] else L ++ [y] ++ [x] := by
  unfold insK
  rw [List.reverse_append, List.reverse_singleton, List.singleton_append, List.dropWhile_cons, List.takeWhile_cons]
  cases befZ x.1 y.1 with
  | true => simp
  | false => simp
theorem ltK_not (a b : Key) : ltK a b = false ↔ ¬ (a.1.1 < b.1.1 ∨ (a.1.1 = b.1.1 ∧ (a.1.2 < b.1.2 ∨ (a.1.2 = b.1.2 ∧ a.2 < b.2)))) := by
  rw [← ltK_iff]
  simp
theorem befZ_not (a b : Int × Int) : befZ a b = false ↔ ¬ (a.1 < b.1 ∨ (a.1 = b.1 ∧ a.2 < b.2)) := by
  rw [← befZ_iff]
  simp
/-- a spot of the highest host keeps the row sorted -/
theorem insK_sort (x : Key) : ∀ R : List Key, SortK R.reverse → (∀ s ∈ R, s.2 ≤ x.2) → SortK (insK x R.reverse)
  | [], _, _ => List.pairwise_singleton _ _
  | y :: R, h, hx => by
    rw [List.reverse_cons] at h ⊢
    obtain ⟨h1, _, h3⟩ := List.pairwise_append.1 h
    have hy := hx y (List.mem_cons_self ..)
    have ih := insK_sort x R h1 fun s hs => hx s (List.mem_cons_of_mem _ hs)
    rw [insK_snoc]
    cases hb : befZ x.1 y.1 with
    | true =>
      rw [if_pos rfl]
      refine List.pairwise_append.2 ⟨ih, List.pairwise_singleton _ _, fun a ha b hb' => ?_⟩
      rw [List.mem_singleton] at hb'
      subst hb'
      rcases List.mem_cons.1 ((insK_perm x R.reverse).mem_iff.1 ha) with rfl | ha
      · rw [befZ_iff] at hb
        rw [ltK_not]
        omega
      · exact h3 a ha _ (List.mem_singleton.2 rfl)
    | false =>
      rw [if_neg (by simp)]
      rw [befZ_not] at hb
      refine List.pairwise_append.2 ⟨h, List.pairwise_singleton _ _, fun a ha b hb' => ?_⟩
      rw [List.mem_singleton] at hb'
      subst hb'
      rw [ltK_not]
      rcases List.mem_append.1 ha with ha | ha
      · have := (ltK_not _ _).1 (h3 a ha y (List.mem_singleton.2 rfl))
        omega
      · rw [List.mem_singleton] at ha
        subst ha
        omega
/-- spots whose hosts rise, put one behind the other, make a sorted row of just them -/
theorem insAll : ∀ (xs L : List Key), SortK L → (∀ s ∈ L, ∀ t ∈ xs, s.2 ≤ t.2) → xs.Pairwise (fun a b => a.2 ≤ b.2) → SortK (xs.foldl (fun L x => insK x L) L) ∧ (xs.foldl (fun L x => insK x L) L).Perm (L ++ xs)
  | [], L, h, _, _ => ⟨h, by simp⟩
  | x :: xs, L, h, hl, hp => by
    obtain ⟨h1, h2⟩ := List.pairwise_cons.1 hp
    have hs : SortK (insK x L) := by
      have := insK_sort x L.reverse (by rwa [List.reverse_reverse]) fun s hs => hl s (List.mem_reverse.1 hs) x (List.mem_cons_self ..)
      rwa [List.reverse_reverse] at this
    obtain ⟨h3, h4⟩ := insAll xs (insK x L) hs (fun s hs t ht => by
      rcases List.mem_cons.1 ((insK_perm x L).mem_iff.1 hs) with rfl | hs
      · exact h1 t ht
      · exact hl s hs t (List.mem_cons_of_mem _ ht)) h2
    refine ⟨h3, h4.trans (((insK_perm x L).append_right xs).trans ?_)⟩
    exact (List.perm_middle (l₁ := L) (l₂ := xs) (a := x)).symm
end Go.Proofs.YtnbpmlbhigchnaaGreatDoor
