/- The wal claims' texts, several in one: Fault. Conditions stand with each theorem. -/
import Derived.Test.YtlcmnihpfpmajaaGreatZa04
import Derived.RegionTactic
import Derived.Deep.QuietTactic
import Derived.BigQuiet
/- The contracts of what begin calls: the closure that finds a fault, slices.IndexFunc, slices.DeleteFunc. Conditions stand with each. -/
namespace Go.Proofs.YtlcmnihpfpmajaaGreat
open Go.RowKit

/-- what the closure knows, one fault later -/
def stepF (at_ : Int) (s : Bool × Int) (f : Int × Int) : Bool × Int := if f.1 = at_ then (if s.1 then s else (true, f.2)) else s
def Boxes (w : World) (ba bs bk : Nat) (at_ : Int) (s : Bool × Int) : Prop := Blk w ba 3 #[.int .i64 at_] ∧ Blk w bs 4 #[.bool s.1] ∧ Blk w bk 3 #[.int .i64 s.2] ∧ ba ≠ bk
def DelEnd (at_ : Int) (f : Int × Int) (s : Bool × Int) (ba bs bk : Nat) (w : World) (e : Ending) (w' : World) : Prop :=
  e = .returned (.bool (decide (f.1 = at_))) ∧ Touch (fun j => j = bs ∨ j = bk) w w' ∧ Boxes w' ba bs bk at_ (stepF at_ s f)

set_option maxRecDepth 20000 in
set_option maxHeartbeats 1000000 in
theorem del_any (a k at_ : Int) (s : Bool × Int) (ba bs bk : Nat) (w : World) (h : Boxes w ba bs bk at_ s) :
    Calls Tryz.prog 97 #[.agg #[.int .i64 a, .int .i64 k], .pointer (some ⟨ba, 0, none⟩), .pointer (some ⟨bs, 0, none⟩), .pointer (some ⟨bk, 0, none⟩)] w (DelEnd at_ (a, k) s ba bs bk w) := by
  obtain ⟨struck, kd⟩ := s
  obtain ⟨hA, hS, hK, hne⟩ := h
  have hca : ∀ o, (w.alloc o).cell? ⟨ba, 0, none⟩ = some (.int .i64 at_) := fun o => (hA.alloc o).cell 0
  have hcs : ∀ o, (w.alloc o).cell? ⟨bs, 0, none⟩ = some (.bool struck) := fun o => (hS.alloc o).cell 0
  have hck : ∀ o, (w.alloc o).cell? ⟨bk, 0, none⟩ = some (.int .i64 kd) := fun o => (hK.alloc o).cell 0
  have hfs : ∀ o, (w.alloc o).frozen? ⟨bs, 0, none⟩ = false := fun o => (hS.alloc o).frozen 0
  have hfk : ∀ o, (w.alloc o).frozen? ⟨bk, 0, none⟩ = false := fun o => (hK.alloc o).frozen 0
  have hsk : bs ≠ bk := hS.ne_ hK (by decide)
  have has : ba ≠ bs := hA.ne_ hS (by decide)
  by_cases h : a = at_
  · subst h
    cases struck with
    | true =>
      have HA := Lib.hid hA; have HS := Lib.hid hS; have HK := Lib.hid hK; have HNE := Lib.hid hne
      clear hA hS hK hne hsk has
      go_enter Tryz.func97, Tryz.ntmps97
      go_wp2_with fail
      go_ret
      refine ⟨by simp, (Touch.refl _ _).alloc _, HA.out.alloc _, ?_, ?_, HNE.out⟩
      · simpa [stepF] using HS.out.alloc _
      · simpa [stepF] using HK.out.alloc _
    | false =>
      have hck3 : ∀ o, ((w.alloc o).setCell ⟨bs, 0, none⟩ (.bool true)).cell? ⟨bk, 0, none⟩ = some (.int .i64 kd) := fun o => ((hK.alloc o).far (p := ⟨bs, 0, none⟩) hsk.symm _).cell 0
      have HA := Lib.hid hA; have HS := Lib.hid hS; have HK := Lib.hid hK; have HNE := Lib.hid hne; have HSK := Lib.hid hsk; have HAS := Lib.hid has
      clear hA hS hK hne hsk has
      go_enter Tryz.func97, Tryz.ntmps97
      go_wp2_with fail
      go_region
      all_goals
        go_wp2_with fail
        go_ret
        refine ⟨by simp, ((((Touch.refl _ w).alloc _).setCell (.inr (.inl rfl)) _).setCell (.inr (.inr rfl)) _).drew, ?_, ?_, ?_, HNE.out⟩
        · exact ((HA.out.alloc _).far (p := ⟨bs, 0, none⟩) HAS.out _).far (p := ⟨bk, 0, none⟩) HNE.out _
        · simpa [stepF] using (((HS.out.alloc _).set_ 0 (.bool true)).far (p := ⟨bk, 0, none⟩) HSK.out (.int .i64 k)).drew
        · simpa [stepF] using (((HK.out.alloc _).far (p := ⟨bs, 0, none⟩) (fun e => HSK.out e.symm) (.bool true)).set_ 0 (.int .i64 k)).drew
  · have hb : (a == at_) = false := by simpa using h
    have hb2 : (a != at_) = true := by simpa using h
    have HA := Lib.hid hA; have HS := Lib.hid hS; have HK := Lib.hid hK; have HH := Lib.hid h; have HNE := Lib.hid hne
    clear hA hS hK hne hsk has h
    go_enter Tryz.func97, Tryz.ntmps97
    go_wp2_with fail
    go_ret
    refine ⟨?_, (Touch.refl _ _).alloc _, HA.out.alloc _, ?_, ?_, HNE.out⟩
    · simp [HH.out]
    · simpa [stepF, HH.out] using HS.out.alloc _
    · simpa [stepF, HH.out] using HK.out.alloc _

theorem fltCells_get : ∀ (l : List (Int × Int)) (i : Nat) (h : i < l.length), (fltCells l)[i * 2]? = some (.int .i64 l[i].1) ∧ (fltCells l)[i * 2 + 1]? = some (.int .i64 l[i].2)
  | a :: r, 0, _ => ⟨rfl, rfl⟩
  | a :: r, i + 1, h => by
    have := fltCells_get r i (by simpa using h)
    have e : fltCells (a :: r) = .int .i64 a.1 :: .int .i64 a.2 :: fltCells r := rfl
    rw [e, show (i + 1) * 2 = i * 2 + 1 + 1 by omega]
    simpa using this
def delFn (ba bs bk : Nat) : Value := .func (.func 97) #[] #[.pointer (some ⟨ba, 0, none⟩), .pointer (some ⟨bs, 0, none⟩), .pointer (some ⟨bk, 0, none⟩)]
def IdxEnd (at_ : Int) (fs : List (Int × Int)) (ba bs bk : Nat) (w : World) (e : Ending) (w' : World) : Prop :=
  Touch (fun j => j = bs ∨ j = bk) w w' ∧ ((∃ i, ∃ h : i < fs.length, e = .returned (.int .i64 i) ∧ fs[i].1 = at_ ∧ (∀ f ∈ fs.take i, f.1 ≠ at_) ∧ Boxes w' ba bs bk at_ (true, fs[i].2)) ∨
    (e = .returned (.int .i64 (-1)) ∧ (∀ f ∈ fs, f.1 ≠ at_) ∧ Boxes w' ba bs bk at_ (false, 0)))
set_option maxRecDepth 20000 in
set_option maxHeartbeats 1000000 in
theorem indexFunc_any (A : Option Addr) (c : Nat) (fs : List (Int × Int)) (at_ : Int) (ba bs bk : Nat) (w : World) (h : Own w 105 2 (.slice A fs.length c) fs.length (fltCells fs)) (hm : fs.length ≤ 4611686018427387904) (hB : Boxes w ba bs bk at_ (false, 0)) :
    Calls Tryz.prog 113 #[.slice A fs.length c, delFn ba bs bk] w (IdxEnd at_ fs ba bs bk w) := by
  unfold delFn
  have H := Lib.hid h; have HB := Lib.hid hB
  clear h hB
  go_enter Tryz.func113, Tryz.ntmps113
  go_wp2_with fail
  go_loopw [8] (fun i wr => ∃ j : Nat, j ≤ fs.length ∧ i = .int .i64 j ∧ (∀ f ∈ fs.take j, f.1 ≠ at_) ∧ Boxes wr ba bs bk at_ (false, 0) ∧ Touch (fun j => j = bs ∨ j = bk) w wr) (fun i _ => fs.length - (intOf i).toNat)
  case atStart => exact ⟨0, by omega, rfl, by simp, HB.out, Touch.refl _ _⟩
  case round =>
    obtain ⟨j, hj, rfl, hno, hb, ht⟩ := hrel
    have HNO := Lib.hid hno; have HB1 := Lib.hid hb; have HT := Lib.hid ht
    clear hno hb ht
    by_cases hlt : j < fs.length
    · obtain ⟨g, rfl⟩ : ∃ g, A = some ⟨g, 0, none⟩ := by
        obtain ⟨A', c', hv, _, _, hA⟩ := H.out.form
        injection hv with e1 _ _
        subst e1
        rcases hA with ⟨_, h0, _⟩ | hA
        · omega
        · exact hA
      have hO : Own wr 105 2 (.slice (some ⟨g, 0, none⟩) fs.length c) fs.length (fltCells fs) := H.out.touch HT.out (by
        intro k hk hs
        simp only [Value.ownBlock, Option.some.injEq] at hk
        subst hk
        rcases hs with rfl | rfl
        · exact H.out.ne_blk HB.out.2.1 (by decide) rfl
        · exact H.out.ne_blk HB.out.2.2.1 (by decide) rfl)
      have hc0 := hO.cell (j := j * 2) (by omega)
      have hc1 := hO.cell (j := j * 2 + 1) (by omega)
      rw [(fltCells_get fs j hlt).1] at hc0
      rw [(fltCells_get fs j hlt).2] at hc1
      have hD := del_any fs[j].1 fs[j].2 at_ (false, 0) ba bs bk wr HB1.out
      generalize hfj : fs[j] = fj at hc0 hc1 hD
      have HD := Lib.hid hD; have HFJ := Lib.hid hfj
      clear hO hD hfj
      go_wp2_with fail
      by_cases hat : fj.1 = at_
      · have hdec : decide (fj.1 = at_) = true := by simpa using hat
        have HAT := Lib.hid hat
        clear hat
        refine HD.out.mono ?_
        rintro e w1 ⟨he, ht1, hb1⟩
        rw [show (((fj.1, fj.2) : Int × Int).1) = fj.1 from rfl, hdec] at he
        subst he
        have HB2 := Lib.hid hb1; have HT2 := Lib.hid (HT.out.trans ht1 (fun _ _ h => h))
        clear hb1 ht1 hdec
        go_wp2_with fail
        go_ret
        refine ⟨HT2.out, .inl ⟨j, hlt, rfl, by rw [HFJ.out]; exact HAT.out, HNO.out, ?_⟩⟩
        have := HB2.out
        unfold stepF at this
        rw [if_pos HAT.out, if_neg (by simp)] at this
        rw [HFJ.out]
        exact this
      · have hdec : decide (fj.1 = at_) = false := by simpa using hat
        have HAT := Lib.hid hat
        clear hat
        refine HD.out.mono ?_
        rintro e w1 ⟨he, ht1, hb1⟩
        rw [show (((fj.1, fj.2) : Int × Int).1) = fj.1 from rfl, hdec] at he
        subst he
        have HB2 := Lib.hid hb1; have HT2 := Lib.hid (HT.out.trans ht1 (fun _ _ h => h))
        clear hb1 ht1 hdec
        go_wp2_with fail
        go_roundw
        case rel =>
          refine ⟨j + 1, by omega, by simp, ?_, ?_, HT2.out⟩
          · intro f hf
            rw [List.take_succ_eq_append_getElem hlt, List.mem_append, List.mem_singleton] at hf
            rcases hf with hf | rfl
            · exact HNO.out f hf
            · rw [HFJ.out]; exact HAT.out
          · have := HB2.out
            unfold stepF at this
            rw [if_neg HAT.out] at this
            exact this
        case measure => simp [intOf] <;> omega
    · have : j = fs.length := by omega
      subst this
      go_wp2_with fail
      go_ret
      have := HNO.out
      rw [List.take_length] at this
      exact ⟨HT.out, .inr ⟨rfl, this, HB1.out⟩⟩

theorem touch_setCells {S : Nat → Prop} {a w : World} {g : Nat} (h : Touch S a w) (hg : S g) (o : Nat) (zs : List Value) : Touch S a (w.setCells g o zs) :=
  ⟨(World.os_setCells w g o zs).trans h.os, (tape_setCells g zs o w).trans h.tape, (World.output_setCells w g o zs).trans h.output, by rw [size_setCells]; exact h.size,
    fun k hk hn => (World.heap_setCells_other w g o zs (Nat.lt_of_lt_of_le hk h.size) (fun e => hn (e ▸ hg))).trans (h.block k hk hn)⟩
theorem own_tail {w : World} {e : TypeId} {size g n c : Nat} {xs : List Value} (h : Own w e size (.slice (some ⟨g, 0, none⟩) n c) n xs) {k : Nat} (hk : k ≤ n) (zs : List Value) (hz : zs.length = (n - k) * size) :
    Own (w.setCells g (k * size) zs) e size (.slice (some ⟨g, 0, none⟩) k c) k (xs.take (k * size)) := by
  obtain ⟨cur, hg, h1, h2, h3, h4⟩ := h.parts
  have e1 : k * size + (n - k) * size = n * size := by rw [← Nat.add_mul]; congr 1; omega
  have e2 : n * size ≤ c * size := Nat.mul_le_mul_right _ h1
  have hks : k * size ≤ n * size := Nat.mul_le_mul_right _ hk
  refine ⟨by rw [List.length_take, h.1]; omega, .inr ⟨g, c, _, rfl, heap_setCells_self g e (0, 0) zs (k * size) w cur hg (by omega), by omega, h2, ?_, ?_⟩⟩
  · simp only [List.size_toArray, List.length_append, List.length_take, List.length_drop, Array.length_toList]
    omega
  · show ((cur.toList.take (k * size) ++ zs ++ cur.toList.drop (k * size + zs.length))).take (k * size) = _
    rw [List.append_assoc, List.take_append_of_le_length (by simp; omega), List.take_take, Nat.min_self, ← h4, List.take_take, Nat.min_eq_left hks]
def zeros (n : Nat) : List Value := (List.replicate n [Value.int .i64 0, .int .i64 0]).flatten
theorem zeros_length (n : Nat) : (zeros n).length = n * 2 := by unfold zeros; simp
theorem zeros_one (n : Nat) : ∀ u ∈ zeros n, u.oneCell' = true := by
  intro u hu
  unfold zeros at hu
  obtain ⟨l, hl, hu⟩ := List.mem_flatten.1 hu
  rw [List.mem_replicate] at hl
  rw [hl.2] at hu
  simp at hu
  rw [hu]
  rfl
theorem zeroFault (w : World) : (zeroValue 105).run Tryz.prog w = .ok (.agg #[.int .i64 0, .int .i64 0]) w := by kernel_rfl
theorem zeroCells_zeros (n : Nat) : (Builtin.zeroCells (Value.agg #[.int .i64 0, .int .i64 0]).cells n).toList = zeros n := by
  have h1 : zeros n = List.replicate (n * 2) (.int .i64 0) := by
    refine List.eq_replicate_iff.2 ⟨zeros_length n, fun u hu => ?_⟩
    unfold zeros at hu
    obtain ⟨l, hl, hu⟩ := List.mem_flatten.1 hu
    rw [List.mem_replicate] at hl
    rw [hl.2] at hu
    simpa using hu
  rw [h1]
  refine List.eq_replicate_iff.2 ⟨by simp [Builtin.zeroCells, Value.cells], fun u hu => ?_⟩
  simp only [Builtin.zeroCells, Value.cells, Array.toList_map, List.mem_map] at hu
  obtain ⟨i, _, rfl⟩ := hu
  show #[Value.int .i64 0, Value.int .i64 0][i % 2]! = _
  have : i % 2 = 0 ∨ i % 2 = 1 := by omega
  rcases this with e | e <;> rw [e] <;> rfl
theorem clear_faults (w : World) (g : Nat) (n c k c' : Nat) (xs : List Value) (h : Own w 105 2 (.slice (some ⟨g, 0, none⟩) n c) n xs) (hk : k < n) (ty : TypeId) :
    (Builtin.clear_ #[79] ty #[.slice (some ⟨g, k * 2, none⟩) (n - k) c']).run Tryz.prog w = .ok (.tuple #[]) (w.setCells g (k * 2) (zeros (n - k))) := by
  obtain ⟨m, hm⟩ : ∃ m, n - k = m + 1 := ⟨n - k - 1, by omega⟩
  have hst := run_storeCells_cells (P := Tryz.prog) g (k * 2) (zeros (n - k)) 0 w (fun j hj => by
    rw [zeros_length] at hj
    have := h.cell (j := k * 2 + j) (by omega)
    rw [Nat.add_zero, this, List.getElem?_eq_getElem (by have := h.1; omega)]
    rfl) (fun j _ => h.frozen _) (zeros_one _)
  rw [Nat.add_zero] at hst
  rw [hm] at hst ⊢
  simp [Builtin.clear_, run_underlying Tryz.underlying79, zeroCells_zeros, hst]

def delSt (at_ : Int) (fs : List (Int × Int)) : Bool × Int := match fs.find? (fun f => decide (f.1 = at_)) with | some f => (true, f.2) | none => (false, 0)
def DelFEnd (at_ : Int) (fs : List (Int × Int)) (v : Value) (ba bs bk : Nat) (w : World) (e : Ending) (w' : World) : Prop :=
  Touch (fun j => v.ownBlock = some j ∨ j = bs ∨ j = bk) w w' ∧ Boxes w' ba bs bk at_ (delSt at_ fs) ∧
    ∃ A c, e = .returned (.slice A (fs.filter fun f => decide (f.1 ≠ at_)).length c) ∧ Own w' 105 2 (.slice A (fs.filter fun f => decide (f.1 ≠ at_)).length c) (fs.filter fun f => decide (f.1 ≠ at_)).length (fltCells (fs.filter fun f => decide (f.1 ≠ at_))) ∧
      (Value.slice A (fs.filter fun f => decide (f.1 ≠ at_)).length c).ownBlock = v.ownBlock
theorem fltCells_take (l : List (Int × Int)) (k : Nat) : (fltCells l).take (k * 2) = fltCells (l.take k) := by
  induction l generalizing k with
  | nil => simp [fltCells]
  | cons a r ih =>
    cases k with
    | zero => simp [fltCells]
    | succ k =>
      have e : fltCells (a :: r) = .int .i64 a.1 :: .int .i64 a.2 :: fltCells r := rfl
      rw [e, show (k + 1) * 2 = k * 2 + 1 + 1 by omega, List.take_succ_cons, List.take_succ_cons, ih]
      rfl
theorem fltCells_set (l : List (Int × Int)) (i : Nat) (f : Int × Int) : ((fltCells l).set (i * 2) (.int .i64 f.1)).set (i * 2 + 1) (.int .i64 f.2) = fltCells (l.set i f) := by
  induction l generalizing i with
  | nil => simp [fltCells]
  | cons a r ih =>
    have e : fltCells (a :: r) = .int .i64 a.1 :: .int .i64 a.2 :: fltCells r := rfl
    cases i with
    | zero => rfl
    | succ i =>
      rw [e, show (i + 1) * 2 = i * 2 + 1 + 1 by omega]
      show Value.int .i64 a.1 :: Value.int .i64 a.2 :: ((fltCells r).set (i * 2) _).set (i * 2 + 1) _ = _
      rw [ih]
      rfl

set_option maxRecDepth 20000 in
set_option maxHeartbeats 2000000 in
theorem deleteFunc_any (A : Option Addr) (c : Nat) (fs : List (Int × Int)) (at_ : Int) (ba bs bk : Nat) (w : World) (h : Own w 105 2 (.slice A fs.length c) fs.length (fltCells fs)) (hm : fs.length ≤ 4611686018427387904) (hB : Boxes w ba bs bk at_ (false, 0)) :
    Calls Tryz.prog 96 #[.slice A fs.length c, delFn ba bs bk] w (DelFEnd at_ fs (.slice A fs.length c) ba bs bk w) := by
  have HI := Lib.hid (indexFunc_any A c fs at_ ba bs bk w h hm hB)
  have hcap : fs.length ≤ c ∧ c ≤ maxLen := by
    obtain ⟨A', c', hv, h1, h2, _⟩ := h.form
    injection hv with _ _ e
    subst e
    exact ⟨h1, h2⟩
  unfold maxLen at hcap
  have H := Lib.hid h; have HB := Lib.hid hB
  clear h hB
  unfold delFn at *
  go_enter Tryz.func96, Tryz.ntmps96
  go_wp2_with fail
  refine HI.out.mono ?_
  rintro e w1 ⟨ht, ⟨i0, hi0, rfl, hat0, hno0, hb⟩ | ⟨rfl, hno, hb⟩⟩
  rotate_left
  · have HNO := Lib.hid hno; have HB1 := Lib.hid hb; have HT := Lib.hid ht
    clear hno hb ht HI
    go_wp2_with fail
    go_ret
    have hf : fs.filter (fun f => decide (f.1 ≠ at_)) = fs := List.filter_eq_self.2 fun f hf => by simpa using HNO.out f hf
    have hs : delSt at_ fs = (false, 0) := by
      unfold delSt
      rw [List.find?_eq_none.2 (fun f hf => by simpa using HNO.out f hf)]
    refine ⟨HT.out.mono fun _ _ h => .inr h, by rw [hs]; exact HB1.out, A, c, by rw [hf]; rfl, ?_, by cases A <;> rfl⟩
    rw [hf]
    exact H.out.touch HT.out (by
      intro k hk hs
      rcases hs with rfl | rfl
      · exact H.out.ne_blk HB.out.2.1 (by decide) hk
      · exact H.out.ne_blk HB.out.2.2.1 (by decide) hk)
  · obtain ⟨g, rfl⟩ : ∃ g, A = some ⟨g, 0, none⟩ := by
      obtain ⟨A', c', hv, _, _, hA⟩ := H.out.form
      injection hv with e1 _ _
      subst e1
      rcases hA with ⟨_, h0, _⟩ | hA
      · omega
      · exact hA
    have hfind : fs.find? (fun f => decide (f.1 = at_)) = some fs[i0] := by
      rw [List.find?_eq_some_iff_append]
      refine ⟨by simpa using hat0, fs.take i0, fs.drop (i0 + 1), by rw [← List.drop_eq_getElem_cons hi0, List.take_append_drop], fun f hf => by simpa using hno0 f hf⟩
    have hst : delSt at_ fs = (true, fs[i0].2) := by unfold delSt; rw [hfind]
    rw [← hst] at hb
    have hfil : (fs.take (i0 + 1)).filter (fun f => decide (f.1 ≠ at_)) = fs.take i0 := by
      rw [List.take_succ_eq_append_getElem hi0, List.filter_append, List.filter_eq_self.2 (fun f hf => by simpa using hno0 f hf), List.filter_cons_of_neg (by simpa using hat0)]
      simp
    have hs1 : (delSt at_ fs).1 = true := by rw [hst]
    have HB1 := Lib.hid hb; have HT := Lib.hid ht; have HFIL := Lib.hid hfil; have HS1 := Lib.hid hs1
    have hO1 : Own w1 105 2 (.slice (some ⟨g, 0, none⟩) fs.length c) fs.length (fltCells fs) := H.out.touch ht (by
      intro k hk hs
      rcases hs with rfl | rfl
      · exact H.out.ne_blk HB.out.2.1 (by decide) hk
      · exact H.out.ne_blk HB.out.2.2.1 (by decide) hk)
    have HO1 := Lib.hid hO1
    have hgs : g ≠ bs ∧ g ≠ bk ∧ g ≠ ba := ⟨fun e => H.out.ne_blk HB.out.2.1 (by decide) (by rw [e]; rfl), fun e => H.out.ne_blk HB.out.2.2.1 (by decide) (by rw [e]; rfl), fun e => H.out.ne_blk HB.out.1 (by decide) (by rw [e]; rfl)⟩
    have HGS := Lib.hid hgs
    clear hb ht HI hno0 hfind hst hfil hs1 hat0 hO1 hgs
    go_wp2_with fail
    go_loopw [5, 6] (fun u5 u6 wr => ∃ i j : Nat, u5 = .int .i64 i ∧ u6 = .int .i64 j ∧ i < j ∧ j ≤ fs.length ∧ (∃ ys : List (Int × Int), ys.length = fs.length ∧ ys.take i = (fs.take j).filter (fun f => decide (f.1 ≠ at_)) ∧ ys.drop j = fs.drop j ∧ Own wr 105 2 (.slice (some ⟨g, 0, none⟩) fs.length c) fs.length (fltCells ys)) ∧ Boxes wr ba bs bk at_ (delSt at_ fs) ∧ Touch (fun j => g = j ∨ j = bs ∨ j = bk) w wr) (fun _ j _ => fs.length - (intOf j).toNat)
    case atStart => exact ⟨i0, i0 + 1, rfl, by simp, by omega, by omega, ⟨fs, rfl, HFIL.out.symm, rfl, HO1.out⟩, HB1.out, HT.out.mono fun _ _ h => .inr h⟩
    case round =>
      obtain ⟨i, j, rfl, rfl, hij, hj, ⟨ys, hyl, hyt, hyd, hO⟩, hb, ht⟩ := hrel
      by_cases hlt : j < fs.length
      · have hc0 := hO.cell (j := j * 2) (by omega)
        have hc1 := hO.cell (j := j * 2 + 1) (by omega)
        rw [(fltCells_get ys j (by omega)).1] at hc0
        rw [(fltCells_get ys j (by omega)).2] at hc1
        have hyj : ys[j] = fs[j] := by
          have h1 : (ys.drop j)[0]? = (fs.drop j)[0]? := by rw [hyd]
          rw [List.getElem?_drop, List.getElem?_drop, List.getElem?_eq_getElem (by omega), List.getElem?_eq_getElem (by omega)] at h1
          simpa using h1
        rw [hyj] at hc0 hc1
        generalize hfj : fs[j] = fj at hc0 hc1
        have hD := del_any fj.1 fj.2 at_ (delSt at_ fs) ba bs bk (wr.alloc (.cells #[.int .i64 fj.1, .int .i64 fj.2] 105)) ⟨hb.1.alloc _, hb.2.1.alloc _, hb.2.2.1.alloc _, hb.2.2.2⟩
        have HYT := Lib.hid hyt; have HYD := Lib.hid hyd; have HO := Lib.hid hO; have HB2 := Lib.hid hb; have HT2 := Lib.hid ht; have HFJ := Lib.hid hfj; have HD := Lib.hid hD; have HYL := Lib.hid hyl
        clear hyt hyd hO hb ht hfj hD hyj hyl
        go_wp2_with fail
        have hbb : bs < wr.heap.size ∧ bk < wr.heap.size := ⟨HB2.out.2.1.lt, HB2.out.2.2.1.lt⟩
        have hgr : g < wr.heap.size := HO.out.lt g rfl
        by_cases hat : fj.1 = at_
        · have hdec : decide (fj.1 = at_) = true := by simpa using hat
          have HAT := Lib.hid hat
          clear hat
          refine HD.out.mono ?_
          rintro e w2 ⟨he, ht2, hb2⟩
          rw [show (((fj.1, fj.2) : Int × Int).1) = fj.1 from rfl, hdec] at he
          subst he
          have HB3 := Lib.hid hb2; have HT3 := Lib.hid ht2
          clear hb2 ht2 hdec
          go_wp2_with fail
          go_roundw
          case rel =>
            repeat apply Exists.intro
            refine ⟨?_, rfl⟩
            refine ⟨i, j + 1, rfl, by simp, by omega, by omega, ⟨ys, HYL.out, ?_, ?_, ?_⟩, ?_, ?_⟩
            · rw [List.take_succ_eq_append_getElem hlt, List.filter_append, List.filter_cons_of_neg (by rw [HFJ.out]; simpa using HAT.out), List.filter_nil, List.append_nil]
              exact HYT.out
            · have := congrArg (List.drop 1) HYD.out
              rwa [List.drop_drop, List.drop_drop] at this
            · exact (HO.out.alloc _).touch HT3.out (by
                intro k hk hs
                simp only [Value.ownBlock, Option.some.injEq] at hk
                subst hk
                rcases hs with rfl | rfl
                · exact HGS.out.1 rfl
                · exact HGS.out.2.1 rfl)
            · have := HB3.out
              unfold stepF at this
              rw [if_pos HAT.out, if_pos HS1.out] at this
              exact this
            · exact (HT2.out.alloc _).trans HT3.out (fun _ _ h => .inr h)
          case measure => simp [intOf] <;> omega
        · have hdec : decide (fj.1 = at_) = false := by simpa using hat
          have HAT := Lib.hid hat
          clear hat
          refine HD.out.mono ?_
          rintro e w2 ⟨he, ht2, hb2⟩
          rw [show (((fj.1, fj.2) : Int × Int).1) = fj.1 from rfl, hdec] at he
          subst he
          have hx := (Blk.new wr 105 #[.int .i64 fj.1, .int .i64 fj.2]).touch ht2 (by rintro (h | h) <;> omega)
          have hx0 := hx.cell 0
          have hx1 := hx.cell 1
          simp only [List.getElem?_toArray, List.getElem?_cons_zero, List.getElem?_cons_succ] at hx0 hx1
          have hO2 : Own w2 105 2 (.slice (some ⟨g, 0, none⟩) fs.length c) fs.length (fltCells ys) := (HO.out.alloc _).touch ht2 (by
            intro k hk hs
            simp only [Value.ownBlock, Option.some.injEq] at hk
            subst hk
            rcases hs with rfl | rfl
            · exact HGS.out.1 rfl
            · exact HGS.out.2.1 rfl)
          have hi : i < fs.length := by omega
          have hd0 := hO2.cell (j := i * 2) (by omega)
          have hd1 := (hO2.stored (i * 2) (.int .i64 fj.1)).cell (j := i * 2 + 1) (by omega)
          have hd1' := hO2.cell (j := i * 2 + 1) (by omega)
          rw [List.getElem?_set_ne (by omega)] at hd1
          rw [(fltCells_get ys i (by have := HYL.out; omega)).1] at hd0
          rw [(fltCells_get ys i (by have := HYL.out; omega)).2] at hd1 hd1'
          have hf0 := hO2.frozen (i * 2)
          have hf1 := hO2.frozen (i * 2 + 1)
          have HB3 := Lib.hid hb2; have HT3 := Lib.hid ht2; have HO2 := Lib.hid hO2
          clear hb2 ht2 hdec hO2 hx
          go_wp2_with fail
          go_roundw
          case rel =>
            repeat apply Exists.intro
            refine ⟨?_, rfl⟩
            refine ⟨i + 1, j + 1, by simp, by simp, by omega, by omega, ⟨ys.set i fj, by rw [List.length_set]; exact HYL.out, ?_, ?_, ?_⟩, ?_, ?_⟩
            · rw [List.take_succ_eq_append_getElem hlt, List.filter_append, List.filter_cons_of_pos (by rw [HFJ.out]; simpa using HAT.out), List.filter_nil, ← HYT.out, HFJ.out]
              rw [List.take_succ_eq_append_getElem (by rw [List.length_set]; have := HYL.out; omega), List.take_set_of_le (Nat.le_refl i), List.getElem_set_self]
            · rw [List.drop_set_of_lt (by omega)]
              have := congrArg (List.drop 1) HYD.out
              rwa [List.drop_drop, List.drop_drop] at this
            · rw [← fltCells_set]
              exact (HO2.out.stored _ _).stored _ _
            · have := HB3.out
              unfold stepF at this
              rw [if_neg HAT.out] at this
              exact ⟨(this.1.far (p := ⟨g, i * 2, none⟩) (fun e => HGS.out.2.2 e.symm) _).far (p := ⟨g, i * 2 + 1, none⟩) (fun e => HGS.out.2.2 e.symm) _, (this.2.1.far (p := ⟨g, i * 2, none⟩) (fun e => HGS.out.1 e.symm) _).far (p := ⟨g, i * 2 + 1, none⟩) (fun e => HGS.out.1 e.symm) _,
                (this.2.2.1.far (p := ⟨g, i * 2, none⟩) (fun e => HGS.out.2.1 e.symm) _).far (p := ⟨g, i * 2 + 1, none⟩) (fun e => HGS.out.2.1 e.symm) _, this.2.2.2⟩
            · exact (((HT2.out.alloc _).trans HT3.out (fun _ _ h => .inr h)).setCell (p := ⟨g, i * 2, none⟩) (.inr (.inl rfl)) _).setCell (p := ⟨g, i * 2 + 1, none⟩) (.inr (.inl rfl)) _
          case measure => simp [intOf] <;> omega
      · have : j = fs.length := by omega
        subst this
        have hcl : ∀ ty, (Builtin.clear_ #[79] ty #[.slice (some ⟨g, i * 2, none⟩) (fs.length - i) (c - i)]).run Tryz.prog wr = .ok (.tuple #[]) (wr.setCells g (i * 2) (zeros (fs.length - i))) := fun ty => clear_faults wr g fs.length c i (c - i) _ hO hij ty
        have hic : i < c := by omega
        have HYT := Lib.hid hyt; have HO := Lib.hid hO; have HB2 := Lib.hid hb; have HT2 := Lib.hid ht; have HYL := Lib.hid hyl
        clear hyt hyd hO hb ht hyl
        go_wp2_with fail
        go_ret
        have hft : ys.take i = fs.filter (fun f => decide (f.1 ≠ at_)) := by rw [HYT.out, List.take_length]
        have hil : (fs.filter (fun f => decide (f.1 ≠ at_))).length = i := by rw [← hft, List.length_take]; have := HYL.out; omega
        have hot := own_tail HO.out (Nat.le_of_lt hij) (zeros (fs.length - i)) (zeros_length _)
        rw [fltCells_take, hft] at hot
        refine ⟨?_, ?_, some ⟨g, 0, none⟩, c, by rw [hil]; rfl, by rw [hil]; exact hot, rfl⟩
        · exact (touch_setCells (HT2.out.mono fun j _ h => (show (Value.slice (some ⟨g, 0, none⟩) fs.length c).ownBlock = some j ∨ j = bs ∨ j = bk from h.imp (fun e => congrArg some e) id)) (.inl rfl) _ _)
        · have ht : Touch (fun j => j = g) wr (wr.setCells g (i * 2) (zeros (fs.length - i))) := touch_setCells (S := fun j => j = g) (Touch.refl _ _) rfl _ _
          exact ⟨HB2.out.1.touch ht fun e => HGS.out.2.2 e.symm, HB2.out.2.1.touch ht fun e => HGS.out.1 e.symm, HB2.out.2.2.1.touch ht fun e => HGS.out.2.1 e.symm, HB2.out.2.2.2⟩
end Go.Proofs.YtlcmnihpfpmajaaGreat
