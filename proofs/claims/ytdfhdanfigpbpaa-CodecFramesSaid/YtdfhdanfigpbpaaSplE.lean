/- The plain law of frames behind each other, cut anywhere. No program is in sight here. -/
import Derived.Test.YtdfhdanfigpbpaaFour
namespace Go.Proofs.Ytdfhdanfigpbpaa.Enc

theorem frame_len (p : List UInt8) : (frame p).length = p.length + 8 := by simp [frame, four_length]; omega
theorem unframe_of {p post : List UInt8} (hp : p.length ≤ 1048576) : unframe (frame p ++ post) = some (p, 8 + p.length) := by
  have h4 : (frame p ++ post) = four p.length ++ (four (sum p) ++ (p ++ post)) := by simp [frame]
  have hs := sum_lt p
  have hu : unfour (frame p ++ post) = p.length := by rw [h4]; exact unfour_four _ (by omega) _
  have hd4 : (frame p ++ post).drop 4 = four (sum p) ++ (p ++ post) := by rw [h4]; exact List.drop_left' (four_length _)
  have hd8 : (frame p ++ post).drop 8 = p ++ post := by
    rw [show (8 : Nat) = 4 + 4 from rfl, ← List.drop_drop, hd4]
    exact List.drop_left' (four_length _)
  have hl : (frame p ++ post).length = p.length + 8 + post.length := by rw [List.length_append, frame_len]
  unfold unframe
  rw [hu, hd8, hd4, unfour_four _ hs, hl, if_neg (by omega), if_neg (by omega), List.take_left, if_pos rfl]
theorem unframe_cut {p post : List UInt8} (hp : p.length ≤ 1048576) {k : Nat} (hk : k < p.length + 8) : unframe ((frame p ++ post).take k) = none := by
  have hl : ((frame p ++ post).take k).length = k := by rw [List.length_take, List.length_append, frame_len]; omega
  unfold unframe
  rw [hl]
  by_cases h8 : k < 8
  · rw [if_pos h8]
  · have h4 : ((frame p ++ post).take k) = four p.length ++ ((four (sum p) ++ (p ++ post)).take (k - 4)) := by
      rw [show (frame p ++ post) = four p.length ++ (four (sum p) ++ (p ++ post)) from by simp [frame], List.take_append, four_length, List.take_of_length_le (by rw [four_length]; omega)]
    rw [if_neg h8, h4, unfour_four _ (by omega), if_pos (.inr (by omega))]
theorem unframe_short {raw : List UInt8} (h : raw.length < 8) : unframe raw = none := by
  unfold unframe
  rw [if_pos h]
theorem unframe_le {raw p : List UInt8} {k : Nat} (h : unframe raw = some (p, k)) : 8 ≤ k ∧ k ≤ raw.length := by
  unfold unframe at h
  split at h
  · cases h
  · split at h
    · cases h
    · split at h
      · injection h with h
        injection h with h1 h2
        omega
      · cases h

/-- the places of the frames that lie behind p, at most f of them -/
def offs (xs : List UInt8) : Nat → Nat → List Nat
  | 0, _ => []
  | f + 1, p => match unframe (xs.drop p) with
    | none => []
    | some (_, k) => p :: offs xs f (p + k)
/-- all the frames, one behind the other -/
def frames (ps : List (List UInt8)) : List UInt8 := ps.flatMap frame
theorem frames_snoc (ps : List (List UInt8)) (p : List UInt8) : frames (ps ++ [p]) = frames ps ++ frame p := by simp [frames]
/-- where the i-th frame begins -/
def at_ (ps : List (List UInt8)) (i : Nat) : Nat := (frames (ps.take i)).length
theorem at_zero (ps : List (List UInt8)) : at_ ps 0 = 0 := rfl
theorem at_succ {ps : List (List UInt8)} {i : Nat} {p : List UInt8} (h : ps[i]? = some p) : at_ ps (i + 1) = at_ ps i + (p.length + 8) := by
  obtain ⟨hi, rfl⟩ := List.getElem?_eq_some_iff.1 h
  unfold at_
  rw [List.take_succ_eq_append_getElem hi, frames_snoc, List.length_append, frame_len]
theorem frames_split {ps : List (List UInt8)} {i : Nat} {p : List UInt8} (h : ps[i]? = some p) : (frames ps).drop (at_ ps i) = frame p ++ frames (ps.drop (i + 1)) := by
  obtain ⟨hi, rfl⟩ := List.getElem?_eq_some_iff.1 h
  have e : frames ps = frames (ps.take i) ++ (frame ps[i] ++ frames (ps.drop (i + 1))) := by
    have : ps = ps.take i ++ (ps[i] :: ps.drop (i + 1)) := by rw [List.getElem_cons_drop, List.take_append_drop]
    have h2 := congrArg frames this
    rw [h2]
    unfold frames
    rw [List.flatMap_append, List.flatMap_cons]
  rw [e]
  exact List.drop_left' rfl
theorem at_len (ps : List (List UInt8)) : at_ ps ps.length = (frames ps).length := by unfold at_; rw [List.take_length]
/-- what is read at the place of the i-th frame, where the row is cut at k -/
theorem unframe_at {ps : List (List UInt8)} (hp : ∀ p ∈ ps, p.length ≤ 1048576) {k i : Nat} (_hk : k ≤ (frames ps).length) (hi : i ≤ ps.length) :
    unframe (((frames ps).take k).drop (at_ ps i)) = if h : i < ps.length ∧ at_ ps (i + 1) ≤ k then some (ps[i]'h.1, 8 + (ps[i]'h.1).length) else none := by
  rw [List.drop_take]
  by_cases hlt : i < ps.length
  · have hg : ps[i]? = some ps[i] := List.getElem?_eq_getElem hlt
    have hs := at_succ hg
    have hpl := hp _ (List.getElem_mem hlt)
    rw [frames_split hg]
    by_cases hc : at_ ps (i + 1) ≤ k
    · rw [dif_pos ⟨hlt, hc⟩, List.take_append, List.take_of_length_le (by rw [frame_len]; omega)]
      exact unframe_of hpl
    · rw [dif_neg (fun h => hc h.2)]
      exact unframe_cut hpl (by omega)
  · rw [dif_neg (fun h => hlt h.1)]
    obtain rfl : i = ps.length := by omega
    refine unframe_short ?_
    rw [List.length_take, List.length_drop, at_len]
    omega
/-- the places told are those of the first frames, all of them whole ahead of the cut; behind the last that is told the next is not whole -/
theorem offs_at {ps : List (List UInt8)} (hp : ∀ p ∈ ps, p.length ≤ 1048576) {k : Nat} (hk : k ≤ (frames ps).length) : ∀ (f i : Nat), i ≤ ps.length → k < at_ ps i + f →
    ∃ j, i ≤ j ∧ j ≤ ps.length ∧ offs ((frames ps).take k) f (at_ ps i) = (List.range' i (j - i)).map (at_ ps) ∧ (∀ m, i < m → m ≤ j → at_ ps m ≤ k) ∧ (j < ps.length → k < at_ ps (j + 1))
  | 0, i, hi, hf => by
    refine ⟨i, Nat.le_refl _, hi, by simp [offs], fun m h1 h2 => by omega, fun hlt => ?_⟩
    have := at_succ (List.getElem?_eq_getElem hlt)
    omega
  | f + 1, i, hi, hf => by
    unfold offs
    rw [unframe_at hp hk hi]
    by_cases hc : i < ps.length ∧ at_ ps (i + 1) ≤ k
    · rw [dif_pos hc]
      have hs := at_succ (List.getElem?_eq_getElem hc.1)
      obtain ⟨j, h1, h2, h3, h4, h5⟩ := offs_at hp hk f (i + 1) hc.1 (by omega)
      refine ⟨j, by omega, h2, ?_, fun m hm1 hm2 => ?_, h5⟩
      · simp only
        rw [show at_ ps i + (8 + (ps[i]'hc.1).length) = at_ ps (i + 1) by omega, h3, show j - i = (j - (i + 1)) + 1 by omega, List.range'_succ, List.map_cons]
      · rcases Nat.lt_or_ge (i + 1) m with h | h
        · exact h4 m h hm2
        · rw [show m = i + 1 by omega]; exact hc.2
    · rw [dif_neg hc]
      refine ⟨i, Nat.le_refl _, hi, by simp, fun m h1 h2 => by omega, fun hlt => ?_⟩
      have : ¬ at_ ps (i + 1) ≤ k := fun h => hc ⟨hlt, h⟩
      omega
end Go.Proofs.Ytdfhdanfigpbpaa.Enc
