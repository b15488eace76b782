/- The law's clip; the laws RingExact and RingShards, walked. Conditions stand with each. -/
import Derived.Test.YtnbpmlbhigchnaaGreatDoorWakes
import Derived.Laws.DeepStrings4
namespace Go.Proofs.YtnbpmlbhigchnaaGreatDoor
open Go.RowKit Ieee Go.Sort

theorem run_convert_Bs {P : Program} {w : World} {A : Option Addr} {n c : Nat} {xs : List UInt8} (src dst : TypeId) (hs : P.underlying src = some (.slice 5)) (he : P.underlying 5 = some (.int .u8)) (hd : P.underlying dst = some .string)
    (h : Bs w A n c xs) : (convert src dst (.slice A n c)).run P w = .ok (.string ⟨xs.toArray⟩) w := by
  have hl := h.1
  have hnil : xs = [] → ∀ ad, (convert src dst (.slice (some ad) n c)).run P w = .ok (.string ⟨xs.toArray⟩) w := by
    intro e ad
    subst e
    have hn : n = 0 := by simpa using hl.symm
    subst hn
    rw [run_convert_bytes_string w src dst _ _ 0 c hs he hd, run_bytesToString w _ 0 c [] (by simp [loadCells, loadCellsFrom])]
    rfl
  rcases Nat.eq_zero_or_pos n with h0 | h0
  · have e : xs = [] := List.eq_nil_of_length_eq_zero (by omega)
    cases A with
    | none =>
      subst e
      exact run_convert_bytes_nil w src 5 hs he n c dst hd
    | some ad => exact hnil e ad
  · obtain ⟨b, o, rfl⟩ := h.at_ h0
    have := run_convert_bytes_arg (P := P) w src 5 hs he b o n c (xs.map fun x => (x.toNat : Int)) (by simpa using hl) (by
      intro i hi
      rw [h.cellAt hi]
      have hi' : i < xs.length := by omega
      simp [List.getD_eq_getElem?_getD, hi']) dst hd
    rw [this]
    congr 2
    simp [strOfNums, Function.comp_def]
theorem bytes_one (w : World) (b : UInt8) : Bs (w.alloc (.cells #[.int .u8 (b.toNat : Int)] 5)) (some ⟨w.heap.size, 0, none⟩) 1 1 [b] := by
  refine ⟨rfl, Nat.le_refl _, by unfold maxLen; omega, fun _ => ⟨w.heap.size, 0, rfl, fun j x hx => ?_⟩⟩
  rw [(Blk.new w 5 #[.int .u8 (b.toNat : Int)]).cell, Nat.zero_add]
  cases j with
  | zero => simp at hx; subst hx; rfl
  | succ j => simp at hx
theorem snoc_bytes (s : List UInt8) (b : UInt8) : ((⟨s.toArray⟩ : ByteArray) ++ ⟨[b].toArray⟩) = ⟨(s ++ [b]).toArray⟩ := by
  apply ByteArray.ext
  simp
theorem take_bytes (s : List UInt8) : (⟨s.toArray⟩ : ByteArray).extract 0 500 = ⟨(s.take 500).toArray⟩ := by
  apply ByteArray.ext
  simp

theorem clip_len (s : List UInt8) : (s.take 500).length ≤ 500 := by rw [List.length_take]; omega

/-- a list of texts as a slice's cells hold it -/
def strV (l : List (List UInt8)) : List Value := l.map fun s => .string ⟨s.toArray⟩
theorem shardZ_in (s : List UInt8) (n : Int) : 0 ≤ shardZ s n ∧ (1 ≤ n → shardZ s n < n) := by
  unfold shardZ
  obtain ⟨h1, h2, h3, h4⟩ := InZ.point s
  split
  · exact ⟨Int.le_refl _, fun h => by omega⟩
  · exact ⟨Int.tmod_nonneg n (by omega), fun h => Int.tmod_lt_of_pos _ (by omega)⟩

end Go.Proofs.YtnbpmlbhigchnaaGreatDoor
