/- Counting parcels of one byte each: what sending, taking and doubling do to the counts; the array of counts in memory. Plain laws. -/
import Derived.Test.YthmjnlkdoepmjaaRbox
import Derived.Test.YthmjnlkdoepmjaaStop
namespace Go.Proofs.Ythmjnlkdoepmjaa
open Go.RowKit

abbrev Qs := List (Int × Int × List UInt8)
def one (i : Nat) (q : Int × Int × List UInt8) : Bool := q.2.2 == [UInt8.ofNat i]
/-- how many parcels bear the byte i -/
def cnt (qs : Qs) (i : Nat) : Int := ((qs.filter (one i)).length : Nat)
/-- each parcel bears one byte below 20 -/
def Good (qs : Qs) : Prop := ∀ q ∈ qs, ∃ i : Nat, i < 20 ∧ q.2.2 = [UInt8.ofNat i]
theorem cnt_nil (i : Nat) : cnt [] i = 0 := rfl
theorem cnt_append (a b : Qs) (i : Nat) : cnt (a ++ b) i = cnt a i + cnt b i := by
  unfold cnt
  rw [List.filter_append, List.length_append]
  omega
theorem byte_inj {i j : Nat} (hi : i < 20) (hj : j < 20) (h : [UInt8.ofNat i] = [UInt8.ofNat j]) : i = j := by
  injection h with h
  have := congrArg UInt8.toNat h
  simp only [UInt8.toNat_ofNat'] at this
  omega
theorem cnt_one {q : Int × Int × List UInt8} {i : Nat} (hi : i < 20) (h : q.2.2 = [UInt8.ofNat i]) {j : Nat} (hj : j < 20) : cnt [q] j = if j = i then 1 else 0 := by
  unfold cnt one
  by_cases hji : j = i
  · subst hji
    simp [h]
  · rw [if_neg hji]
    have : (q.2.2 == [UInt8.ofNat j]) = false := by
      rw [h]
      simp only [beq_eq_false_iff_ne, ne_eq]
      exact fun e => hji (byte_inj hi hj e).symm
    simp [this]
theorem cnt_send {qs : Qs} {q : Int × Int × List UInt8} {i : Nat} (hi : i < 20) (h : q.2.2 = [UInt8.ofNat i]) {j : Nat} (hj : j < 20) : cnt (qs ++ [q]) j = if j = i then cnt qs i + 1 else cnt qs j := by
  rw [cnt_append, cnt_one hi h hj]
  split
  · subst_vars; rfl
  · omega
theorem cnt_split {qs : Qs} {q : Int × Int × List UInt8} {m : Nat} (hm : qs[m]? = some q) (j : Nat) : cnt qs j = cnt (qs.eraseIdx m) j + cnt [q] j := by
  obtain ⟨hl, rfl⟩ := List.getElem?_eq_some_iff.1 hm
  have e : qs = qs.take m ++ ([qs[m]] ++ qs.drop (m + 1)) := by simp
  rw [List.eraseIdx_eq_take_drop_succ, cnt_append]
  have h2 := congrArg (fun l => cnt l j) e
  simp only [cnt_append] at h2
  omega
theorem cnt_erase {qs : Qs} {q : Int × Int × List UInt8} {m i : Nat} (hm : qs[m]? = some q) (hi : i < 20) (h : q.2.2 = [UInt8.ofNat i]) {j : Nat} (hj : j < 20) : cnt (qs.eraseIdx m) j = if j = i then cnt qs i - 1 else cnt qs j := by
  have h1 := cnt_split hm j
  rw [cnt_one hi h hj] at h1
  split
  · subst_vars
    rw [if_pos rfl] at h1
    omega
  · rw [if_neg (by assumption)] at h1
    omega
theorem Good.nil : Good [] := fun _ h => by cases h
theorem Good.send {qs : Qs} {q : Int × Int × List UInt8} {i : Nat} (hg : Good qs) (hi : i < 20) (h : q.2.2 = [UInt8.ofNat i]) : Good (qs ++ [q]) := fun x hx => by
  rcases List.mem_append.1 hx with hx | hx
  · exact hg x hx
  · simp only [List.mem_singleton] at hx
    subst hx
    exact ⟨i, hi, h⟩
theorem Good.erase {qs : Qs} (hg : Good qs) (m : Nat) : Good (qs.eraseIdx m) := fun x hx => hg x ((List.eraseIdx_sublist qs m).subset hx)
theorem cnt_le (qs : Qs) (i : Nat) : 0 ≤ cnt qs i ∧ cnt qs i ≤ qs.length := by
  unfold cnt
  have := List.length_filter_le (one i) qs
  omega
theorem cnt_step {qs : Qs} {q : Int × Int × List UInt8} {n i : Nat} (hn : qs[n]? = some q) (hi : i < 20) (h : q.2.2 = [UInt8.ofNat i]) {j : Nat} (hj : j < 20) : cnt qs j - cnt (qs.take (n + 1)) j = if j = i then cnt qs i - cnt (qs.take n) i - 1 else cnt qs j - cnt (qs.take n) j := by
  obtain ⟨hl, rfl⟩ := List.getElem?_eq_some_iff.1 hn
  rw [List.take_succ_eq_append_getElem hl, cnt_append, cnt_one hi h hj]
  split
  · subst_vars; omega
  · omega

/-- the array of counts -/
def CB (W : World) (cb : Nat) (f : Nat → Int) : Prop := Blk W cb 81 ((List.range 20).map fun i => Value.int .i64 (f i)).toArray
theorem CB.cell {W : World} {cb : Nat} {f : Nat → Int} (h : CB W cb f) {i : Nat} (hi : i < 20) : W.cell? ⟨cb, i, none⟩ = some (.int .i64 (f i)) := by
  rw [Blk.cell h i]
  simp [hi]
theorem CB.set {W : World} {cb : Nat} {f : Nat → Int} (h : CB W cb f) {i : Nat} {v : Int} {g : Nat → Int} (hg : ∀ j, j < 20 → g j = if j = i then v else f j) : CB (W.setCell ⟨cb, i, none⟩ (.int .i64 v)) cb g := by
  unfold CB
  have := h.set_ i (.int .i64 v)
  refine (congrArg (fun cs => Blk _ cb 81 cs) ?_).mp this
  rw [List.setIfInBounds_toArray]
  congr 1
  refine List.ext_getElem (by simp) fun j h1 h2 => ?_
  simp only [List.length_set, List.length_map, List.length_range] at h1
  rw [List.getElem_set]
  simp only [List.getElem_map, List.getElem_range]
  rw [hg j h1]
  by_cases e : i = j
  · rw [if_pos e, if_pos e.symm]
  · rw [if_neg e, if_neg (fun e' => e e'.symm)]
theorem CB.touch {S : Nat → Prop} {W W' : World} {cb : Nat} {f : Nat → Int} (h : CB W cb f) (hT : Touch S W W') (hn : ¬ S cb) : CB W' cb f := Blk.touch h hT hn
theorem CB.congr {W : World} {cb : Nat} {f g : Nat → Int} (h : CB W cb f) (hg : ∀ j, j < 20 → g j = f j) : CB W cb g := by
  unfold CB
  refine (congrArg (fun cs => Blk W cb 81 cs) ?_).mp h
  congr 1
  exact List.map_congr_left fun j hj => by rw [hg j (List.mem_range.1 hj)]
theorem CB.apart {W : World} {t : TypeId} {bn cb : Nat} {most : Int} {rv : Value} {ps : List Pc} {f : Nat → Int} (h : CB W cb f) (hn : NT W t bn most rv ps) (ht : t ≠ 81) : ¬ nfoot bn rv cb := blk_apart hn h ht (by decide)
theorem NT.cb {W : World} {t : TypeId} {bn cb i : Nat} {most : Int} {rv v : Value} {ps : List Pc} {f : Nat → Int} (hn : NT W t bn most rv ps) (h : CB W cb f) (ht : t ≠ 81) : NT (W.setCell ⟨cb, i, none⟩ v) t bn most rv ps :=
  hn.touch (S := fun k => k = cb) ((Touch.refl (fun k => k = cb) W).setCell (p := ⟨cb, i, none⟩) (.inr rfl) _) (fun k hk e => h.apart hn ht (by rw [← e]; exact hk)) fun p hp k hk e => (hn.byt p hp).ne_blk h (by decide) (by rw [hk, e])
/-- what lies between two calls of the law -/
def BagS (w : World) (W : World) (bn cb : Nat) (rv : Value) (ps : List Pc) (f : Nat → Int) : Prop :=
  NT W 110 bn 1000 rv ps ∧ CB W cb f ∧ (∀ q, nfoot bn rv q → w.heap.size ≤ q) ∧ Fresh w W
theorem BagS.fresh {w W W' : World} {bn cb : Nat} {rv : Value} {ps : List Pc} {f : Nat → Int} (h : BagS w W bn cb rv ps f) (hf : Fresh W W') : BagS w W' bn cb rv ps f :=
  ⟨h.1.fresh hf, h.2.1.touch hf id, h.2.2.1, h.2.2.2.trans hf fun _ _ => id⟩
theorem BagS.go {w W W' : World} {bn cb : Nat} {rv rv' : Value} {ps ps' : List Pc} {f : Nat → Int} (h : BagS w W bn cb rv ps f) (hT : Touch (nfoot bn rv) W W') (hn : NT W' 110 bn 1000 rv' ps') (hf : ∀ q, nfoot bn rv' q → nfoot bn rv q ∨ W.heap.size ≤ q) : BagS w W' bn cb rv' ps' f :=
  ⟨hn, h.2.1.touch hT (h.2.1.apart h.1 (by decide)), fun q hq => by
    rcases hf q hq with h1 | h1
    · exact h.2.2.1 q h1
    · have := h.2.2.2.size; omega, h.2.2.2.trans hT fun q hq e => by have := h.2.2.1 q e; omega⟩
theorem BagS.set {w W : World} {bn cb i : Nat} {rv : Value} {ps : List Pc} {f g : Nat → Int} {v : Int} (h : BagS w W bn cb rv ps f) (hcb : w.heap.size ≤ cb) (hg : ∀ j, j < 20 → g j = if j = i then v else f j) : BagS w (W.setCell ⟨cb, i, none⟩ (.int .i64 v)) bn cb rv ps g :=
  ⟨h.1.cb h.2.1 (by decide), h.2.1.set hg, h.2.2.1, h.2.2.2.setCell (p := ⟨cb, i, none⟩) (.inl hcb) _⟩
theorem u8_nat {i : Nat} (hi : i < 20) : (((UInt8.ofNat i).toNat : Nat) : Int) = (i : Int) := by
  rw [UInt8.toNat_ofNat']
  omega
theorem sent_len (m : Nat) : ((List.range m).map fun i => ((1 : Int), (2 : Int), [UInt8.ofNat i])).length = m := by simp
/-- what the first loop has sent -/
def sent (k : Nat) : Qs := (List.range k).map fun i => ((1 : Int), (2 : Int), [UInt8.ofNat i])
theorem sent_succ (k : Nat) : sent (k + 1) = sent k ++ [((1 : Int), (2 : Int), [UInt8.ofNat k])] := by simp [sent, List.range_succ]
theorem sent_length (k : Nat) : (sent k).length = k := by simp [sent]
theorem sent_good {k : Nat} (hk : k ≤ 20) : Good (sent k) := by
  induction k with
  | zero => exact Good.nil
  | succ k ih => rw [sent_succ]; exact (ih (by omega)).send (i := k) (by omega) rfl
end Go.Proofs.Ythmjnlkdoepmjaa
