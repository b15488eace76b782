/- The ring's Hosts; the law RingGiven, walked. Condition: numbers as an int holds them. -/
import Derived.Test.YtnbpmlbhigchnaaGreatDoorLawR
import Derived.Deep.RegionLaw
namespace Go.Proofs.YtnbpmlbhigchnaaGreatDoor
open Go.RowKit

theorem Own.lit0' (w : World) (e : TypeId) (size : Nat) : Own (w.alloc (.cells #[] e)) e size (.slice (some ⟨w.heap.size, 0, none⟩) 0 0) 0 [] := Own.lit0 w e size
theorem Own.takeSrc {P : Program} {w : World} {e t e' : TypeId} {size n c : Nat} {A : Option Addr} {xs : List Value} (h : Own w e size (.slice A n c) n xs) (ht : P.underlying t = some (.slice e')) (h1 : ∀ u ∈ xs, u.oneCell' = true) {k : Nat} (hk : k ≤ n) : Src P size t (.slice A k c) k (xs.take (k * size)) w := by
  obtain ⟨A', c', hv, hle, hm, hA⟩ := h.form
  injection hv with e1 _ e3
  subst e1 e3
  rcases hA with ⟨rfl, h0, rfl⟩ | ⟨g, rfl⟩
  · have : k = 0 := by omega
    subst this
    rw [Nat.zero_mul, List.take_zero]
    exact Src.ofNil w ht 0
  · exact Own.src (h.cut hk (by omega) (Nat.le_refl _)) ht fun u hu => h1 u (List.mem_of_mem_take hu)
theorem Own.dropSrc {P : Program} {w : World} {e t e' : TypeId} {size n c g : Nat} {xs : List Value} (h : Own w e size (.slice (some ⟨g, 0, none⟩) n c) n xs) (ht : P.underlying t = some (.slice e')) (h1 : ∀ u ∈ xs, u.oneCell' = true) {k : Nat} (_hk : k ≤ n) (m c' : Nat) (hm : m = n - k) : Src P size t (.slice (some ⟨g, k * size, none⟩) m c') m (xs.drop (k * size)) w := by
  subst hm
  refine Src.ofSlice w ht _ _ _ _ (by rw [List.length_drop, h.1, Nat.sub_mul]) (fun j u hu => ?_) fun u hu => h1 u (List.mem_of_mem_drop hu)
  rw [List.getElem?_drop] at hu
  have hj : k * size + j < n * size := by have := (List.getElem?_eq_some_iff.1 hu).1; have := h.1; omega
  rw [add_flat, h.cell hj]
  exact hu
theorem Own.dropSrc0 {P : Program} {w : World} {e t e' : TypeId} {size n : Nat} {v : Value} {xs : List Value} (h : Own w e size v n xs) (ht : P.underlying t = some (.slice e')) {k : Nat} (hk : n ≤ k) (a : Addr) (m c' : Nat) (hm : m = n - k) : Src P size t (.slice (some a) m c') m (xs.drop (k * size)) w := by
  subst hm
  have h0 : n - k = 0 := by omega
  have h1 : xs.drop (k * size) = [] := List.drop_eq_nil_of_le (by rw [h.1]; exact Nat.mul_le_mul_right _ hk)
  rw [h0, h1]
  exact Src.ofSlice w ht a 0 c' [] (by simp) (by simp) (by simp)
theorem sortI_perm_eq {l m : List Int} (h : l.Perm m) : sortI l = sortI m := by
  have hp : (sortI l).Perm (sortI m) := (sortI_perm l).trans (h.trans (sortI_perm m).symm)
  have tr : ∀ a b c : Int, decide (a ≤ b) = true → decide (b ≤ c) = true → decide (a ≤ c) = true := fun a b c h1 h2 => by
    simp only [decide_eq_true_eq] at *; omega
  have tot : ∀ a b : Int, (decide (a ≤ b) || decide (b ≤ a)) = true := fun a b => by
    simp only [Bool.or_eq_true, decide_eq_true_eq]; omega
  have s1 : (sortI l).Pairwise fun a b => decide (a ≤ b) = true := List.pairwise_mergeSort tr tot l
  have s2 : (sortI m).Pairwise fun a b => decide (a ≤ b) = true := List.pairwise_mergeSort tr tot m
  refine List.Perm.eq_of_pairwise (le := fun a b => decide (a ≤ b) = true) (fun a b _ _ h1 h2 => ?_) s1 s2 hp
  simp only [decide_eq_true_eq] at h1 h2
  omega

set_option maxRecDepth 20000 in
theorem hostsR_any (bn : Nat) (hv sv : Value) (hs : List Int) (sps : List Sp) (w : World) (hR : RG w bn hv sv hs sps) (hl : hs.length ≤ 1000000) :
    Calls Tryz.prog 8 #[.pointer (some ⟨bn, 0, none⟩)] w fun e w' => Fresh w w' ∧ ∃ B c', e = .returned (.slice B hs.length c') ∧ Own w' 3 1 (.slice B hs.length c') hs.length (intsV hs) ∧ ∀ k, (Value.slice B hs.length c').ownBlock = some k → w.heap.size ≤ k := by
  have c0 : w.cell? ⟨bn, 0, none⟩ = some hv := hR.blk.cell 0
  obtain ⟨A, c, rfl, _⟩ := hR.hrow.form
  have KC := Lib.hid (cloneI_any A hs.length c hs w (Own.ints hR.hrow) hl)
  clear hR
  go_enter Tryz.func8, Tryz.ntmps8
  go_wp2_with fail
  refine KC.out.mono ?_
  rintro e w1 ⟨hf, B, c', rfl, ho, hn⟩
  have HF := Lib.hid hf; have HO := Lib.hid ho; have HN := Lib.hid hn
  clear hf ho hn KC
  go_wp2_with fail
  go_ret
  exact ⟨HF.out, B, c', rfl, HO.out, HN.out⟩

/-- the list turned about -/
structure Turned (w1 w : World) (al : List Int) (k : Nat) (v : Value) : Prop where
  row : ∃ E e', v = .slice E al.length e' ∧ Own w 3 1 (.slice E al.length e') al.length (iV (al.drop k ++ al.take k))
  fresh : Fresh w1 w
end Go.Proofs.YtnbpmlbhigchnaaGreatDoor
