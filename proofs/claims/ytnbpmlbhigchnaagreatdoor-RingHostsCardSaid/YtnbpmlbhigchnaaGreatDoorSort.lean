/- Rows of whole numbers and of spots: contained, sorted. Conditions stand with each. -/
import Derived.Test.YtnbpmlbhigchnaaGreatDoorSp
import Derived.Test.YtnbpmlbhigchnaaGreatDoorShelfS
import Derived.Test.YtnbpmlbhigchnaaGreatDoorOwn
import Derived.Test.YtnbpmlbhigchnaaGreatDoorVrow
import Derived.Shelf.SlSortCmp.NoneTotal
namespace Go.Proofs.YtnbpmlbhigchnaaGreatDoor
open Go.RowKit Ieee Go.Sort

def iV (l : List Int) : List Value := l.map (Value.int .i64)
theorem iV_len (l : List Int) : (iV l).length = l.length := by simp [iV]
theorem iV_one (l : List Int) : ∀ u ∈ iV l, u.oneCell' = true := by
  intro u hu
  obtain ⟨x, _, rfl⟩ := List.mem_map.1 hu
  rfl
def spC (l : List Sp) : List Value := l.flatMap Sp.enc
theorem spC_len (l : List Sp) : (spC l).length = l.length * 2 := flat_length Sp.enc 2 Sp.enc_len l
theorem spC_one (l : List Sp) : ∀ u ∈ spC l, u.oneCell' = true := by
  intro u hu
  obtain ⟨x, _, hx⟩ := List.mem_flatMap.1 hu
  exact x.enc_one u hx

section
variable {α : Type} [Inhabited α]
theorem flatK_list (enc : α → List Value) (k : Nat) (hk : ∀ x, (enc x).length = k) (d : Array α) : (flatK enc k d).toList = d.toList.flatMap enc := by
  apply List.ext_getElem?
  intro t
  by_cases ht : t < d.size * k
  · have k0 : 0 < k := by
      rcases Nat.eq_zero_or_pos k with h | h
      · subst h; simp at ht
      · exact h
    have hi : t / k < d.size := Nat.div_lt_of_lt_mul (by rwa [Nat.mul_comm] at ht)
    have hr : t % k < k := Nat.mod_lt _ k0
    have h1 : d.toList[t / k]? = some d[t / k]! := by rw [Array.getElem?_toList, getElem!_pos d _ hi]; exact Array.getElem?_eq_getElem hi
    have h2 := flat_at enc k hk d.toList (t / k) (t % k) _ h1 hr
    have e : t / k * k + t % k = t := by rw [Nat.mul_comm]; exact Nat.div_add_mod t k
    rw [e] at h2
    have h3 : (flatK enc k d)[t]? = some (flatK enc k d)[t]! := by rw [getElem!_pos _ t (by simpa using ht)]; exact Array.getElem?_eq_getElem _
    rw [h2, Array.getElem?_toList, h3, get_flatK enc k d t ht, getElem!_pos (enc _) (t % k) (by rw [hk]; exact hr)]
    exact (List.getElem?_eq_getElem _).symm
  · rw [List.getElem?_eq_none (by simp; omega), List.getElem?_eq_none (by rw [flat_length enc k hk]; simp; omega)]

variable {w : World} {e : TypeId} {g cap n size : Nat}
theorem heap_put (enc : α → Value) {m : Nat} {os : Array Obj} {cur : Array Value} {fr : Nat × Nat} (d : Array α) (hb : w.heap[g]? = some (.cells cur e fr)) :
    (grow (putRow enc (Sort.ahead w m) g 0 d) os).heap[g]? = some (.cells (putCells enc 0 d cur) e fr) := by
  have hg : g < w.heap.size := (Array.getElem?_eq_some_iff.1 hb).1
  rw [heap_grow_old _ _ (by simpa using hg)]
  simp [putRow, mapBlock, Sort.ahead, Array.getElem?_modify, hb, onCells]
theorem touch_put (enc : α → Value) {m : Nat} {os : Array Obj} (d : Array α) : Touch (fun k => k = g) w (grow (putRow enc (Sort.ahead w m) g 0 d) os) := by
  refine ⟨rfl, rfl, rfl, by simp, fun k hk hne => ?_⟩
  rw [heap_grow_old _ _ (by simpa using hk)]
  have : g ≠ k := fun e => hne e.symm
  simp [putRow, mapBlock, Sort.ahead, Array.getElem?_modify, this]
theorem take_put (enc : α → Value) (cur : Array Value) (d : Array α) (h : d.size ≤ cur.size) : (putCells enc 0 d cur).toList.take d.size = d.toList.map enc := by
  apply List.ext_getElem?
  intro j
  by_cases hj : j < d.size
  · rw [List.getElem?_take_of_lt hj, Array.getElem?_toList]
    simp [putCells, hj, show j < cur.size by omega]
  · rw [List.getElem?_take_eq_none (by omega), List.getElem?_eq_none (by simp; omega)]
theorem Own.putRow_ (enc : α → Value) {xs : List Value} {m : Nat} {os : Array Obj} (h : Own w e size (.slice (some ⟨g, 0, none⟩) n cap) n xs) (d : Array α) (hd : d.size = n * size) :
    Own (grow (putRow enc (Sort.ahead w m) g 0 d) os) e size (.slice (some ⟨g, 0, none⟩) n cap) n (d.toList.map enc) := by
  obtain ⟨cur, hg, h1, h2, h3, h4⟩ := h.parts
  have hle : d.size ≤ cur.size := by rw [hd]; exact Nat.le_trans (Nat.mul_le_mul_right _ h1) h3
  refine ⟨by simp [hd], .inr ⟨g, cap, _, rfl, heap_put enc d hg, h1, h2, by simpa [putCells] using h3, ?_⟩⟩
  rw [← hd]
  exact take_put enc cur d hle
theorem Own.holds_ (enc : α → Value) {d : Array α} (h : Own w e size (.slice (some ⟨g, 0, none⟩) n cap) n (d.toList.map enc)) (hd : d.size = n * size) : Holds enc w g 0 d := by
  intro j hj
  refine ⟨?_, ?_⟩
  · rw [Nat.zero_add, h.cell (by omega)]
    simp [hj]
  · rw [Nat.zero_add]
    exact h.frozen j
end

/-- is it there? -/
theorem has_any {w : World} {hv : Value} {zs : List Int} (h : Own w 3 1 hv zs.length (iV zs)) (hl : zs.length ≤ 1000000) (x : Int) : Calls Tryz.prog 17 #[hv, .int .i64 x] w fun e w' => e = .returned (.bool (zs.contains x)) ∧ w' = w := by
  obtain ⟨A, c, rfl, h1, h2, hA⟩ := h.form
  rcases hA with ⟨rfl, h0, rfl⟩ | ⟨g, rfl⟩
  · have : zs = [] := List.eq_nil_of_length_eq_zero h0
    subst this
    exact AnyG.slices_Contains_int_empty Tryz.hasInt none 0 x w
  · have := AnyG.slices_Contains_int Tryz.hasInt g 0 zs.length c zs x w (Nat.le_refl _) (by omega) fun j hj => by
      rw [Nat.zero_add, h.cell (by omega)]
      simp [iV, List.getD, List.getElem?_eq_getElem hj]
    rw [List.take_length] at this
    exact this
def sortI (l : List Int) : List Int := l.mergeSort fun x y => decide (x ≤ y)
theorem sortI_len (l : List Int) : (sortI l).length = l.length := List.length_mergeSort _
theorem sortI_perm (l : List Int) : (sortI l).Perm l := List.mergeSort_perm _ _
theorem sortints_any {w : World} {hv : Value} {zs : List Int} (h : Own w 3 1 hv zs.length (iV zs)) (hl : zs.length ≤ 1000000) :
    Calls Tryz.prog 20 #[hv] w fun e w' => e = .returned (.tuple #[]) ∧ Touch (fun k => hv.ownBlock = some k) w w' ∧ Own w' 3 1 hv zs.length (iV (sortI zs)) := by
  have hlt := h.lt
  obtain ⟨A, c, rfl, h1, h2, hA⟩ := h.form
  rcases hA with ⟨rfl, h0, rfl⟩ | ⟨g, rfl⟩
  · have : zs = [] := List.eq_nil_of_length_eq_zero h0
    subst this
    exact (Any.slices_Sort_int_none Tryz.sortInts none 0 w).mono fun _ _ ⟨he, hw⟩ => ⟨he, by rw [hw]; exact Touch.refl _ _, by rw [hw]; simpa [sortI] using h⟩
  · have hH : Holds (Value.int .i64) w g 0 zs.toArray := Own.holds_ (size := 1) (Value.int .i64) (d := zs.toArray) (by simpa [iV] using h) (by simp)
    refine (Any.slices_Sort_int Tryz.sortInts g 0 c zs w hH (hlt g rfl) (by omega)).mono fun e w' ⟨he, n, os, hw⟩ => ⟨he, ?_, ?_⟩
    · rw [hw]
      exact (touch_put (Value.int .i64) (g := g) (sortI zs).toArray).mono fun k _ hk => by rw [hk]; rfl
    · rw [hw]
      have := Own.putRow_ (Value.int .i64) (m := n) (os := os) h (sortI zs).toArray (by simp [sortI_len])
      exact this

theorem permIn_list {α : Type} [Inhabited α] {d d' : Array α} (h : PermIn 0 d.size d d') : d'.toList.Perm d.toList := by
  obtain ⟨h1, _, h3⟩ := h
  have e1 : d'.extract 0 d.size = d' := by rw [← h1]; simp
  have e2 : d.extract 0 d.size = d := by simp
  rw [e1, e2] at h3
  exact h3
theorem sorted_list {d : Array Sp} (h : SortedIn (ltOf cfS) 0 d.size d) : SortK (d.toList.map Sp.key) := by
  unfold SortK
  rw [List.pairwise_map, List.pairwise_iff_getElem]
  intro i j hi hj hij
  have := h i j (Nat.zero_le _) hij (by simpa using hj)
  rw [ltOf_cfS, getElem!_pos d i (by simpa using hi), getElem!_pos d j (by simpa using hj)] at this
  simpa using this
theorem sortsp_any {w : World} {sv : Value} {sps : List Sp} (h : Own w 60 2 sv sps.length (spC sps)) (hl : sps.length ≤ 1000000000) :
    Calls Tryz.prog 21 #[sv, .func (.func 22) #[] #[]] w fun e w' => e = .returned (.tuple #[]) ∧ Touch (fun k => sv.ownBlock = some k) w w' ∧
      ∃ sps', Own w' 60 2 sv sps'.length (spC sps') ∧ sps'.Perm sps ∧ SortK (sps'.map Sp.key) := by
  have hlt := h.lt
  obtain ⟨A, c, rfl, h1, h2, hA⟩ := h.form
  rcases hA with ⟨rfl, h0, rfl⟩ | ⟨g, rfl⟩
  · have : sps = [] := List.eq_nil_of_length_eq_zero h0
    subst this
    exact (AnyF.slices_SortFunc_none Tryz.sortSp none 0 _ w).mono fun _ _ ⟨he, hw⟩ => ⟨he, by rw [hw]; exact Touch.refl _ _, [], by rw [hw]; exact h, .refl _, List.Pairwise.nil⟩
  · have hfl : (flatK Sp.enc 2 sps.toArray).toList = spC sps := by rw [flatK_list Sp.enc 2 Sp.enc_len]; rfl
    have hH : HoldsK Sp.enc 2 w g 0 sps.toArray := Own.holds_ (size := 2) id (d := flatK Sp.enc 2 sps.toArray) (by rw [hfl, List.map_id_fun]; exact h) (by simp)
    have eg : ∀ args w, (callFunc 22 args).run Tryz.prog w = .ok (.enter 22 args) w := enters_of Tryz.func22 (by kernel_rfl) rfl
    have hcon := AnyQ.slices_SortFunc Tryz.sortSp 2 Tryz.isAgg60 Tryz.sizeOf60 Sp.enc Sp.enc_len Sp.enc_one cfS swoS 22 #[] g 0 c sps.toArray w eg (cmpLays_any g 0 _ w) hH (hlt g rfl) (by simp; omega)
    have hsz : sps.toArray.size = sps.length := rfl
    rw [hsz] at hcon
    refine hcon.mono fun e w' ⟨he, d', n, os, hp, hs, hw⟩ => ⟨he, ?_, d'.toList, ?_, ?_, ?_⟩
    · rw [hw]
      exact (touch_put id (g := g) (flatK Sp.enc 2 d')).mono fun k _ hk => by rw [hk]; rfl
    · have hd : d'.toList.length = sps.length := by have := hp.1; simpa using this
      rw [hw, hd]
      have := Own.putRow_ id (m := n) (os := os) h (flatK Sp.enc 2 d') (by rw [size_flatK]; simpa using congrArg (· * 2) hd)
      rw [List.map_id_fun, flatK_list Sp.enc 2 Sp.enc_len] at this
      exact this
    · have := permIn_list (d := sps.toArray) (d' := d') hp
      simpa using this
    · refine sorted_list ?_
      rw [hp.1]
      exact hs
end Go.Proofs.YtnbpmlbhigchnaaGreatDoor
