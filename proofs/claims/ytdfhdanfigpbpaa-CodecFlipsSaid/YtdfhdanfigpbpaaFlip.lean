/- The plain law of CodecFlips: a frame with one byte changed. -/
import Derived.Test.YtdfhdanfigpbpaaUnf
namespace Go.Proofs.Ytdfhdanfigpbpaa.Enc

theorem frame_length (p : List UInt8) : (frame p).length = p.length + 8 := by
  unfold frame
  simp only [List.length_append, four_length]
  omega
theorem unframe_frame {p : List UInt8} (hp : p.length ≤ 300) : unframe (frame p) = some (p, 8 + p.length) := by
  have hu : unfour (frame p) = p.length := unfour_four _ (by omega) _
  have h4 : (frame p).drop 4 = four (sum p) ++ p := List.drop_left' (four_length _)
  have h8 : (frame p).drop 8 = p := by
    rw [show 8 = 4 + 4 from rfl, ← List.drop_drop, h4, List.drop_left' (four_length _)]
  unfold unframe
  rw [frame_length, hu, h4, h8, if_neg (by omega), if_neg (by omega), List.take_length, unfour_four _ (sum_lt p), if_pos rfl]
set_option maxRecDepth 100000 in
theorem unfour_set {x0 x1 x2 x3 b : UInt8} {p : List UInt8} {j : Nat} (hj : j < 4) (h : unfour (([x0, x1, x2, x3] ++ p).set j b) = unfour ([x0, x1, x2, x3] ++ p)) : [x0, x1, x2, x3][j]? = some b := by
  have h0 := x0.toNat_lt
  have h1 := x1.toNat_lt
  have h2 := x2.toNat_lt
  have h3 := x3.toNat_lt
  have hb := b.toNat_lt
  have hj' : j = 0 ∨ j = 1 ∨ j = 2 ∨ j = 3 := by omega
  rcases hj' with rfl | rfl | rfl | rfl <;>
  · simp [unfour] at h ⊢
    exact UInt8.toNat_inj.1 (by omega)
theorem unframe_flip {p : List UInt8} (hp : p.length ≤ 300) {k : Nat} (h4 : 4 ≤ k) (hk : k < p.length + 8) {b : UInt8} (hb : (frame p)[k]? ≠ some b) : unframe ((frame p).set k b) = none := by
  have hs : (frame p).set k b = four p.length ++ (four (sum p) ++ p).set (k - 4) b := by
    unfold frame
    rw [List.set_append_right _ _ (by rw [four_length]; exact h4), four_length]
  have hu : unfour ((frame p).set k b) = p.length := by rw [hs]; exact unfour_four _ (by omega) _
  have hd4 : ((frame p).set k b).drop 4 = (four (sum p) ++ p).set (k - 4) b := by rw [hs]; exact List.drop_left' (four_length _)
  have hg : (frame p)[k]? = (four (sum p) ++ p)[k - 4]? := by
    unfold frame
    rw [List.getElem?_append_right (by rw [four_length]; exact h4), four_length]
  unfold unframe
  rw [List.length_set, frame_length, hu, if_neg (by omega), if_neg (by omega)]
  refine if_neg fun he => hb ?_
  rw [hg]
  have hd8 : ((frame p).set k b).drop 8 = ((four (sum p) ++ p).set (k - 4) b).drop 4 := by rw [← hd4, List.drop_drop]
  rw [hd8, hd4] at he
  by_cases h8 : k < 8
  · have e1 : (four (sum p) ++ p).set (k - 4) b = (four (sum p)).set (k - 4) b ++ p := List.set_append_left _ _ (by rw [four_length]; omega)
    have e2 : ((four (sum p) ++ p).set (k - 4) b).drop 4 = p := by rw [e1]; exact List.drop_left' (by rw [List.length_set]; exact four_length _)
    rw [e2, List.take_length] at he
    have e3 : unfour (four (sum p) ++ p) = sum p := unfour_four _ (sum_lt p) _
    rw [List.getElem?_append_left (by rw [four_length]; omega)]
    exact unfour_set (p := p) (by omega) (he.symm.trans e3.symm)
  · have e1 : (four (sum p) ++ p).set (k - 4) b = four (sum p) ++ p.set (k - 8) b := by
      rw [List.set_append_right _ _ (by rw [four_length]; omega), four_length, show k - 4 - 4 = k - 8 by omega]
    have e2 : (four (sum p) ++ p.set (k - 8) b).drop 4 = p.set (k - 8) b := List.drop_left' (four_length _)
    rw [e1, e2, unfour_four _ (sum_lt p), List.take_of_length_le (by rw [List.length_set]; exact Nat.le_refl _)] at he
    rw [List.getElem?_append_right (by rw [four_length]; omega), four_length, show k - 4 - 4 = k - 8 by omega, List.getElem?_eq_getElem (by omega)]
    exact congrArg some (sum_set (by omega) he).symm
end Go.Proofs.Ytdfhdanfigpbpaa.Enc
