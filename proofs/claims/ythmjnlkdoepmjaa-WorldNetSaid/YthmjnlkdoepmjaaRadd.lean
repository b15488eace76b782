/- The contract of the add of the document's disk. Conditions stand with it. -/
import Derived.Test.YthmjnlkdoepmjaaRbegin
import Derived.Deep.RegionLaw
namespace Go.Proofs.Ythmjnlkdoepmjaa
open Go.RowKit

theorem Try.info104 : (Try.prog.info? 104).map (fun i => (i.zero, i.size, i.bytes)) = some (some (.agg #[.int .i64 0, .slice none 0 0, .int .i64 0]), 3, 40) := by kernel_rfl
theorem rfCells_set1 (v : Value) (raw : List UInt8) : ∀ {fs : List RF} {i : Nat} {f : RF}, fs[i]? = some f → (rfCells fs).set (i * 3 + 1) v = rfCells (fs.set i ⟨f.n, raw, f.kept, v⟩)
  | [], i, f, h => by cases h
  | g :: fs, 0, f, h => by
    simp only [List.getElem?_cons_zero, Option.some.injEq] at h
    subst h
    rfl
  | g :: fs, i + 1, f, h => by
    rw [List.getElem?_cons_succ] at h
    rw [List.set_cons_succ]
    show (.int .i64 g.n :: g.v :: .int .i64 g.kept :: rfCells fs).set ((i + 1) * 3 + 1) v = .int .i64 g.n :: g.v :: .int .i64 g.kept :: rfCells (fs.set i _)
    rw [show (i + 1) * 3 + 1 = (i * 3 + 1) + 1 + 1 + 1 by omega, List.set_cons_succ, List.set_cons_succ, List.set_cons_succ, rfCells_set1 v raw h]
theorem rfCells_set2 (k : Nat) : ∀ {fs : List RF} {i : Nat} {f : RF}, fs[i]? = some f → (rfCells fs).set (i * 3 + 2) (.int .i64 k) = rfCells (fs.set i ⟨f.n, f.raw, k, f.v⟩)
  | [], i, f, h => by cases h
  | g :: fs, 0, f, h => by
    simp only [List.getElem?_cons_zero, Option.some.injEq] at h
    subst h
    rfl
  | g :: fs, i + 1, f, h => by
    rw [List.getElem?_cons_succ] at h
    rw [List.set_cons_succ]
    show (.int .i64 g.n :: g.v :: .int .i64 g.kept :: rfCells fs).set ((i + 1) * 3 + 2) _ = .int .i64 g.n :: g.v :: .int .i64 g.kept :: rfCells (fs.set i _)
    rw [show (i + 1) * 3 + 2 = (i * 3 + 2) + 1 + 1 + 1 by omega, List.set_cons_succ, List.set_cons_succ, List.set_cons_succ, rfCells_set2 k h]
theorem rfCells_take (fs : List RF) (i : Nat) : (rfCells fs).take (i * 3) = rfCells (fs.take i) := by
  induction fs generalizing i with
  | nil => simp [rfCells]
  | cons f fs ih =>
    cases i with
    | zero => simp [rfCells]
    | succ i =>
      show (.int .i64 f.n :: f.v :: .int .i64 f.kept :: rfCells fs).take ((i + 1) * 3) = .int .i64 f.n :: f.v :: .int .i64 f.kept :: rfCells (fs.take i)
      rw [show (i + 1) * 3 = i * 3 + 1 + 1 + 1 by omega, List.take_succ_cons, List.take_succ_cons, List.take_succ_cons, ih]
theorem rfCells_drop (fs : List RF) (i : Nat) : (rfCells fs).drop (i * 3) = rfCells (fs.drop i) := by
  induction fs generalizing i with
  | nil => simp [rfCells]
  | cons f fs ih =>
    cases i with
    | zero => simp
    | succ i =>
      show (.int .i64 f.n :: f.v :: .int .i64 f.kept :: rfCells fs).drop ((i + 1) * 3) = rfCells (fs.drop i)
      rw [show (i + 1) * 3 = i * 3 + 1 + 1 + 1 by omega, List.drop_succ_cons, List.drop_succ_cons, List.drop_succ_cons, ih]
theorem rfCells_append (a b : List RF) : rfCells (a ++ b) = rfCells a ++ rfCells b := by simp [rfCells]

/-- what one call of the document's disk leaves -/
def RStep (w : World) (bd : Nat) (lv fv : Value) (fs : List RF) (r' : Rk) (res e : Ending) (w' : World) : Prop :=
  e = res ∧ Touch (rfoot bd lv fv fs) w w' ∧ ∃ lv' fv' fs', RDK w' bd lv' fv' fs' r' ∧ ∀ k, rfoot bd lv' fv' fs' k → rfoot bd lv fv fs k ∨ w.heap.size ≤ k
section
variable {w w1 w' : World} {bd : Nat} {lv fv lv1 fv1 : Value} {fs fs1 : List RF} {r r' : Rk} {res e : Ending}
theorem RStep.after (h : RStep w1 bd lv1 fv1 fs1 r' res e w') (ht : Touch (rfoot bd lv fv fs) w w1) (hk : ∀ k, rfoot bd lv1 fv1 fs1 k → rfoot bd lv fv fs k ∨ w.heap.size ≤ k) : RStep w bd lv fv fs r' res e w' := by
  obtain ⟨he, h1, lv', fv', fs', hd, hf⟩ := h
  refine ⟨he, ht.trans h1 fun k hlt hx => ?_, lv', fv', fs', hd, fun k hx => ?_⟩
  · rcases hk k hx with h | h
    · exact h
    · omega
  · rcases hf k hx with h | h
    · exact hk k h
    · exact .inr (Nat.le_trans ht.size h)
theorem RStep.disk {S : Nat → Prop} (h : RStep w bd lv fv fs r' res e w') (h1 : ∀ k, rfoot bd lv fv fs k → S k) (h2 : ∀ k, S k → k < w.heap.size) : e = res ∧ Touch S w w' ∧ RDisk w' (more S w w') bd r' := by
  obtain ⟨he, ht, lv', fv', fs', hd, hf⟩ := h
  exact ⟨he, ht.mono fun k _ hk => h1 k hk, hd.disk (fun k hk => (hf k hk).imp (h1 k) id) h2 ht.size⟩
/-- a cell of the disk's own row of files turned -/
theorem RDK.store {g c : Nat} (h : RDK w bd (.slice (some ⟨g, 0, none⟩) fs.length c) fv fs r) {i : Nat} {f : RF} (hi : fs[i]? = some f) (k : Nat) (v : Value) (f' : RF) (hc : (rfCells fs).set (i * 3 + k) v = rfCells (fs.set i f')) (hr : Row w f'.v f'.raw) :
    RDK (w.setCell ⟨g, i * 3 + k, none⟩ v) bd (.slice (some ⟨g, 0, none⟩) fs.length c) fv (fs.set i f') { r with fs := r.fs.set i f'.fl } := by
  have hlt : i < fs.length := (List.getElem?_eq_some_iff.1 hi).1
  have hgb : g ≠ bd := fun e => h.row.ne_blk h.blk (by decide) (by rw [e]; rfl)
  have hrow : ∀ {v' : Value} {xs : List UInt8}, Row w v' xs → Row (w.setCell ⟨g, i * 3 + k, none⟩ v) v' xs := by
    intro v' xs hx
    refine hx.far (p := ⟨g, i * 3 + k, none⟩) ?_ _
    obtain ⟨cur, hg, _⟩ := h.row.parts
    rcases hx.2 with ⟨rfl, _⟩ | ⟨g', cap, cur', rfl, _, hg', _⟩
    · simp [Value.ownBlock]
    · intro he
      have : g' = g := by simpa [Value.ownBlock] using he
      subst this
      rw [hg] at hg'
      injection hg' with hg'
      injection hg' with _ ht
      exact absurd ht (by decide)
  refine ⟨?_, ?_, ?_, ?_, ?_⟩
  · show r.fs.set i f'.fl = _
    rw [h.fls, List.map_set]
  · exact h.blk.far (p := ⟨g, i * 3 + k, none⟩) (fun e => hgb e.symm) _
  · have := h.row.stored (i * 3 + k) v
    rw [hc] at this
    rw [List.length_set]
    exact this
  · refine h.flt.far (p := ⟨g, i * 3 + k, none⟩) (fun e => ?_) _
    obtain ⟨cur, hg, _⟩ := h.row.parts
    exact h.flt.ne_blk (t := 104) (cs := cur) hg (by decide) e
  · intro f0 hf0
    rcases List.mem_or_eq_of_mem_set hf0 with h0 | rfl
    · exact hrow (h.file f0 h0)
    · exact hrow hr
end
theorem Own.lit0 (w : World) (e : TypeId) (size : Nat) : Own (w.alloc (.cells #[] e)) e size (.slice (some ⟨w.heap.size, 0, none⟩) 0 0) 0 [] :=
  ⟨by simp, .inr ⟨w.heap.size, 0, #[], rfl, heap_alloc_new w _, Nat.le_refl _, Nat.zero_le _, by simp, by simp⟩⟩
theorem Own.takeSrc {P : Program} {w : World} {e t e' : TypeId} {size n c : Nat} {A : Option Addr} {xs : List Value} (h : Own w e size (.slice A n c) n xs) (ht : P.underlying t = some (.slice e')) (h1 : ∀ u ∈ xs, u.oneCell' = true) {k : Nat} (hk : k ≤ n) : Src P size t (.slice A k c) k (xs.take (k * size)) w := by
  obtain ⟨A', c', hv, hle, hm, hA⟩ := h.form
  injection hv with e1 _ e3
  subst e1 e3
  rcases hA with ⟨rfl, h0, rfl⟩ | ⟨g, rfl⟩
  · have : k = 0 := by omega
    subst this
    rw [Nat.zero_mul, List.take_zero]
    exact Src.ofNil w ht 0
  · exact Own.src (h.cut hk (by omega) (Nat.le_refl _)) ht fun u hu => h1 u (List.mem_of_mem_take hu)
theorem Own.dropSrc {P : Program} {w : World} {e t e' : TypeId} {size n c g : Nat} {xs : List Value} (h : Own w e size (.slice (some ⟨g, 0, none⟩) n c) n xs) (ht : P.underlying t = some (.slice e')) (h1 : ∀ u ∈ xs, u.oneCell' = true) {k : Nat} (_hk : k ≤ n) (m c' : Nat) (hm : m = n - k) : Src P size t (.slice (some ⟨g, k * size, none⟩) m c') m (xs.drop (k * size)) w := by
  subst hm
  refine Src.ofSlice w ht _ _ _ _ (by rw [List.length_drop, h.1, Nat.sub_mul]) (fun j u hu => ?_) fun u hu => h1 u (List.mem_of_mem_drop hu)
  rw [List.getElem?_drop] at hu
  have hj : k * size + j < n * size := by have := (List.getElem?_eq_some_iff.1 hu).1; have := h.1; omega
  rw [add_flat, h.cell hj]
  exact hu
theorem Own.dropSrc0 {P : Program} {w : World} {e t e' : TypeId} {size n : Nat} {v : Value} {xs : List Value} (h : Own w e size v n xs) (ht : P.underlying t = some (.slice e')) {k : Nat} (hk : n ≤ k) (a : Addr) (m c' : Nat) (hm : m = n - k) : Src P size t (.slice (some a) m c') m (xs.drop (k * size)) w := by
  subst hm
  have h0 : n - k = 0 := by omega
  have h1 : xs.drop (k * size) = [] := List.drop_eq_nil_of_le (by rw [h.1]; exact Nat.mul_le_mul_right _ hk)
  rw [h0, h1]
  exact Src.ofSlice w ht a 0 c' [] (by simp) (by simp) (by simp)
theorem rfile_new (w : World) (n : Int) : Src Try.prog 3 97 (.slice (some ⟨w.heap.size, 0, none⟩) 1 1) 1 [.int .i64 n, .slice none 0 0, .int .i64 0] (w.alloc (.cells #[.int .i64 n, .slice none 0 0, .int .i64 0] 104)) := by
  refine Src.ofSlice _ Try.underlying97 _ _ _ _ rfl (fun j u hu => ?_) (by intro u hu; simp at hu; rcases hu with rfl | rfl | rfl <;> rfl)
  have hb := Blk.new w 104 #[.int .i64 n, .slice none 0 0, .int .i64 0]
  rw [add_flat, Nat.zero_add, hb.cell j, ← hu]
  simp
/-- the file's place is made: what stands before its bytes are appended -/
def RMade (w : World) (bd : Nat) (lv fv : Value) (fs : List RF) (r : Rk) (n : Int) (xs : List UInt8) (wr : World) : Prop :=
  ∃ lv1 fs1 f, RDK wr bd lv1 fv fs1 { r with fs := fs1.map RF.fl } ∧ fs1[Fl.pos n r.fs]? = some f ∧ Fl.ins n xs r.fs = (fs1.map RF.fl).set (Fl.pos n r.fs) ⟨f.n, f.raw ++ xs, f.kept⟩ ∧ Touch (fun k => k = bd) w wr ∧ (∀ k, rfoot bd lv1 fv fs1 k → rfoot bd lv fv fs k ∨ w.heap.size ≤ k) ∧ fs1.length ≤ fs.length + 1 ∧ (∀ f ∈ fs1, f ∈ fs ∨ f.raw = [])

theorem rmade_new {w w3 : World} {bd : Nat} {lv fv : Value} {fs : List RF} {r : Rk} {n : Int} {xs : List UInt8} (h : RDK w bd lv fv fs r) (hh : Fl.hit n r.fs = false) (hT : Fresh w w3) {B : Option Addr} {m c : Nat}
    (hO : Own w3 104 3 (.slice B m c) m (rfCells (fs.take (Fl.pos n r.fs)) ++ [.int .i64 n, .slice none 0 0, .int .i64 0] ++ rfCells (fs.drop (Fl.pos n r.fs)))) (hm : m = fs.length + 1) (hnew : ∀ k, (Value.slice B m c).ownBlock = some k → w.heap.size ≤ k) :
    RMade w bd lv fv fs r n xs (w3.setCell ⟨bd, 0, none⟩ (.slice B m c)) := by
  have hple : Fl.pos n r.fs ≤ fs.length := by rw [← h.len]; exact Fl.pos_le _ _
  have hins := Fl.ins_new n xs hh
  have hbl := h.blk.lt
  have hT2 : Touch (fun k => k = bd) w (w3.setCell ⟨bd, 0, none⟩ (.slice B m c)) := (Touch.mono (S' := fun k => k = bd) hT fun _ _ => False.elim).setCell (p := ⟨bd, 0, none⟩) (.inr rfl) _
  have hl : (fs.take (Fl.pos n r.fs) ++ (⟨n, [], 0, .slice none 0 0⟩ : RF) :: fs.drop (Fl.pos n r.fs)).length = m := by
    rw [List.length_append, List.length_cons, List.length_take, List.length_drop]; omega
  refine ⟨.slice B m c, fs.take (Fl.pos n r.fs) ++ ⟨n, [], 0, .slice none 0 0⟩ :: fs.drop (Fl.pos n r.fs), ⟨n, [], 0, .slice none 0 0⟩, ⟨rfl, ?_, ?_, ?_, ?_⟩, ?_, ?_, hT2, ?_, by omega, ?_⟩
  · exact (h.blk.touch hT id).set_ 0 _
  · rw [hl, rfCells_append]
    have hO2 := hO.far (p := ⟨bd, 0, none⟩) (fun e => by have := hnew bd e; omega) (.slice B m c)
    rw [List.append_assoc] at hO2
    exact hO2
  · exact (h.flt.touch hT fun _ _ => id).far (p := ⟨bd, 0, none⟩) (h.flt.ne_blk h.blk (by decide)) _
  · intro f hf
    rcases List.mem_append.1 hf with hf | hf
    · exact (h.file f (List.mem_of_mem_take hf)).touch hT2 fun k hk e => (h.file f (List.mem_of_mem_take hf)).ne_blk h.blk (by decide) (by rw [hk, e])
    · rcases List.mem_cons.1 hf with rfl | hf
      · exact Row.nil_ _
      · exact (h.file f (List.mem_of_mem_drop hf)).touch hT2 fun k hk e => (h.file f (List.mem_of_mem_drop hf)).ne_blk h.blk (by decide) (by rw [hk, e])
  · rw [List.getElem?_append_right (by rw [List.length_take]; omega), List.length_take, Nat.min_eq_left hple, Nat.sub_self]
    rfl
  · have hq : ∀ p, p ≤ fs.length → r.fs.take p ++ ⟨n, xs, 0⟩ :: r.fs.drop p = ((fs.take p ++ (⟨n, [], 0, .slice none 0 0⟩ : RF) :: fs.drop p).map RF.fl).set p ⟨n, [] ++ xs, 0⟩ := by
      intro p hp
      have hl : ((fs.take p).map RF.fl).length = p := by rw [List.length_map, List.length_take]; omega
      rw [h.fls, List.map_append, List.map_cons, List.set_append_right _ _ (by omega), hl, Nat.sub_self, List.map_take, List.map_drop]
      rfl
    exact hins.trans (hq _ hple)
  · rintro k (e | e | e | ⟨f, hf, e⟩)
    · exact .inl (.inl e)
    · exact .inr (hnew k e)
    · exact .inl (.inr (.inr (.inl e)))
    · rcases List.mem_append.1 hf with hf | hf
      · exact .inl (.inr (.inr (.inr ⟨f, List.mem_of_mem_take hf, e⟩)))
      · rcases List.mem_cons.1 hf with rfl | hf
        · cases e
        · exact .inl (.inr (.inr (.inr ⟨f, List.mem_of_mem_drop hf, e⟩)))
  · intro f hf
    rcases List.mem_append.1 hf with hf | hf
    · exact .inl (List.mem_of_mem_take hf)
    · rcases List.mem_cons.1 hf with rfl | hf
      · exact .inr rfl
      · exact .inl (List.mem_of_mem_drop hf)

theorem radd_fin {w wc w5 : World} {bd g c1 P m c5 : Nat} {lv fv : Value} {fs fs1 : List RF} {r : Rk} {n : Int} {xs : List UInt8} {f : RF} {B5 : Option Addr} (res : Ending) (hd : RDK wc bd (.slice (some ⟨g, 0, none⟩) fs1.length c1) fv fs1 { r with fs := fs1.map RF.fl }) (hf : fs1[P]? = some f) (hins : Fl.ins n xs r.fs = (fs1.map RF.fl).set P ⟨f.n, f.raw ++ xs, f.kept⟩)
    (ht : Touch (fun k => k = bd) w wc) (hfoot : ∀ k, rfoot bd (.slice (some ⟨g, 0, none⟩) fs1.length c1) fv fs1 k → rfoot bd lv fv fs k ∨ w.heap.size ≤ k) (h5 : Fresh wc w5) (hr : Row w5 (.slice B5 m c5) (f.raw ++ xs)) (hn : ∀ k, (Value.slice B5 m c5).ownBlock = some k → wc.heap.size ≤ k) :
    RStep w bd lv fv fs { r with fs := Fl.ins n xs r.fs } res res (w5.setCell ⟨g, P * 3 + 1, none⟩ (.slice B5 m c5)) := by
  have h6 := hd.fresh h5
  have h7 := h6.store hf 1 (.slice B5 m c5) ⟨f.n, f.raw ++ xs, f.kept, .slice B5 m c5⟩ (rfCells_set1 _ _ hf) hr
  have hg := hfoot g (.inr (.inl rfl))
  have hb := hfoot bd (.inl rfl)
  have hT : Touch (rfoot bd lv fv fs) w w5 := (ht.mono (S' := rfoot bd lv fv fs) fun k _ e => .inl e).trans h5 fun _ _ => False.elim
  refine ⟨rfl, hT.setCell (p := ⟨g, P * 3 + 1, none⟩) hg.symm _, .slice (some ⟨g, 0, none⟩) fs1.length c1, fv, fs1.set P ⟨f.n, f.raw ++ xs, f.kept, .slice B5 m c5⟩, ?_, ?_⟩
  · rw [hins]
    exact h7
  · rintro k (e | e | e | ⟨f', hf', e⟩)
    · exact .inl (.inl e)
    · exact hfoot k (.inr (.inl e))
    · exact hfoot k (.inr (.inr (.inl e)))
    · rcases List.mem_or_eq_of_mem_set hf' with h0 | rfl
      · exact hfoot k (.inr (.inr (.inr ⟨f', h0, e⟩)))
      · exact .inr (Nat.le_trans ht.size (hn k e))

set_option maxRecDepth 20000 in
set_option maxHeartbeats 4000000 in
theorem radd_any (w : World) (bd : Nat) (lv fv : Value) (fs : List RF) (r : Rk) (n : Int) (A : Option Addr) (m c : Nat) (xs : List UInt8) (h : RDK w bd lv fv fs r) (hm : fs.length ≤ 1000000000) (hx : Bs w A m c xs) (hxb : ∀ a, A = some a → 0 < m → ¬ rfoot bd lv fv fs a.block ∧ a.block < w.heap.size) (hb : ∀ f ∈ fs, f.raw.length ≤ 1000000000) (hxl : xs.length ≤ 1000000000) :
    Calls Try.prog 76 #[.pointer (some ⟨bd, 0, none⟩), .int .i64 n, .slice A m c] w (RStep w bd lv fv fs { r with fs := Fl.add n xs r.fs } (.returned (.tuple #[]))) := by
  obtain rfl := hx.1
  by_cases h0 : xs = []
  · subst h0
    have HR := Lib.hid (show RStep w bd lv fv fs { r with fs := Fl.add n [] r.fs } (.returned (.tuple #[])) (.returned (.tuple #[])) w from ⟨rfl, Touch.refl _ _, lv, fv, fs, by rw [show Fl.add n [] r.fs = r.fs from if_pos rfl]; exact h, fun _ h => .inl h⟩)
    clear h hx hxb hb
    go_enter Try.func76, Try.ntmps76
    go_wp2_with fail
    go_end0
    exact HR.out
  · have hpos : 0 < xs.length := List.length_pos_iff.2 h0
    have hadd : Fl.add n xs r.fs = Fl.ins n xs r.fs := if_neg h0
    rw [hadd]
    have HAT := Lib.hid (rat_any w bd lv fv fs r n h hm)
    have hple : Fl.pos n r.fs ≤ fs.length := by rw [← h.len]; exact Fl.pos_le _ _
    obtain ⟨P, hP⟩ : ∃ P, P = Fl.pos n r.fs := ⟨_, rfl⟩
    have HP := Lib.hid hP
    rw [← hP] at hple HAT
    clear hP
    obtain ⟨A0, c0, rfl, hle, hcm, hA0⟩ := h.lform
    unfold maxLen at hcm
    have hc0 : ∀ q, (w.drewN q).cell? ⟨bd, 0, none⟩ = some (.slice A0 fs.length c0) := fun _ => h.blk.cell 0
    have HA1 := Lib.hid (show (A0 = none ∧ fs.length = 0 ∧ c0 = 0) ∨ ∃ g, A0 = some ⟨g, 0, none⟩ by
      obtain ⟨A', c', hv, _, _, hA⟩ := h.row.form
      injection hv with e1 _ e3
      subst e1 e3
      exact hA)
    have HX := Lib.hid hx; have HXB := Lib.hid hxb; have HB := Lib.hid hb; have H := Lib.hid h; have HA0 := Lib.hid hA0
    clear hx hxb hb h hA0 h0 hadd
    go_enter Try.func76, Try.ntmps76
    go_wp2_with fail
    refine HAT.out.mono ?_
    rintro e w1 ⟨⟨q, rfl⟩, rfl⟩
    clear HAT
    go_upto_if 19 with fail
    go_cut [7, 8, 12, 15, 17] from 18 (fun _ _ _ _ _ wr => RMade w bd (.slice A0 fs.length c0) fv fs r n xs wr)
    case first =>
      cases hh : Fl.hit n r.fs with
      | true =>
        go_wp2_with fail
        go_meet
        case rel =>
          obtain ⟨f, hf, hfn⟩ := H.out.hit hh
          have e : { r with fs := fs.map RF.fl } = r := by rw [← H.out.fls]
          refine ⟨_, fs, f, by rw [e]; exact H.out.fresh ((Touch.refl _ w).drewN q), hf, ?_, (Touch.refl _ w).drewN q, fun _ h => .inl h, Nat.le_succ _, fun _ h => .inl h⟩
          have hfl : r.fs[Fl.pos n r.fs]? = some f.fl := by
            have : ∀ p, fs[p]? = some f → r.fs[p]? = some f.fl := fun p hp => by rw [H.out.fls, List.getElem?_map, hp]; rfl
            exact this _ hf
          rw [Fl.ins_hit n xs hh f.fl hfl, ← H.out.fls, hfn]
          rfl
      | false =>
        have HH := Lib.hid hh
        have hK1 : ∀ (w1 : World) (_ : ((w.drewN q).alloc (.cells #[] 104)).grownBy w1 (Value.slice (some ⟨w.heap.size, 0, none⟩) 0 0).ownBlock) (B : Option Addr) (m c : Nat), ((Value.slice B m c).ownBlock = (Value.slice (some ⟨w.heap.size, 0, none⟩) 0 0).ownBlock ∨ (Value.slice B m c).ownBlock = some ((w.drewN q).alloc (.cells #[] 104)).heap.size) → Fresh w w1 ∧ ∀ k, (Value.slice B m c).ownBlock = some k → w.heap.size ≤ k := by
          intro w1 hg B m c hb
          refine ⟨(((Touch.refl (fun _ => False) w).drewN q).alloc _).grown hg fun k hk => .inl ?_, fun k hk => ?_⟩
          · simp only [Value.ownBlock, Option.some.injEq] at hk; omega
          · rcases hb with h | h
            · rw [hk] at h; simp only [Value.ownBlock, Option.some.injEq] at h; omega
            · rw [hk, alloc_size] at h; injection h with h; rw [h]; exact Nat.le_succ _
        have hKT : ∀ (w1 w2 : World) (B : Option Addr) (m c : Nat) (o : Obj) (_ : Fresh w w1 ∧ ∀ k, (Value.slice B m c).ownBlock = some k → w.heap.size ≤ k) (_ : (w1.alloc o).grownBy w2 (Value.slice B m c).ownBlock) (B' : Option Addr) (m' c' : Nat), ((Value.slice B' m' c').ownBlock = (Value.slice B m c).ownBlock ∨ (Value.slice B' m' c').ownBlock = some (w1.alloc o).heap.size) → Fresh w w2 ∧ ∀ k, (Value.slice B' m' c').ownBlock = some k → w.heap.size ≤ k := by
          intro w1 w2 B m c o h1 hg B' m' c' hb
          refine ⟨(h1.1.alloc o).grown hg fun k hk => .inl (h1.2 k hk), fun k hk => ?_⟩
          rcases hb with h | h
          · exact h1.2 k (h.symm.trans hk)
          · rw [hk, alloc_size] at h; injection h with h; have := h1.1.size; omega
        have hKT2 : ∀ (w1 w2 : World) (B : Option Addr) (m c : Nat) (_ : Unit) (_ : Fresh w w1 ∧ ∀ k, (Value.slice B m c).ownBlock = some k → w.heap.size ≤ k) (_ : w1.grownBy w2 (Value.slice B m c).ownBlock) (B' : Option Addr) (m' c' : Nat), ((Value.slice B' m' c').ownBlock = (Value.slice B m c).ownBlock ∨ (Value.slice B' m' c').ownBlock = some w1.heap.size) → Fresh w w2 ∧ ∀ k, (Value.slice B' m' c').ownBlock = some k → w.heap.size ≤ k := by
          intro w1 w2 B m c o h1 hg B' m' c' hb
          refine ⟨h1.1.grown hg fun k hk => .inl (h1.2 k hk), fun k hk => ?_⟩
          rcases hb with h | h
          · exact h1.2 k (h.symm.trans hk)
          · rw [hk] at h; injection h with h; have := h1.1.size; omega
        have K1 := Lib.hid hK1; have KT := Lib.hid hKT; have KT2 := Lib.hid hKT2
        have KO1 := Lib.hid (show ∀ u ∈ (rfCells fs).take (P * 3), u.oneCell' = true from fun u hu => rfCells_one H.out.file u (List.mem_of_mem_take hu))
        have KO2 := Lib.hid (show ∀ u ∈ (rfCells fs).take (P * 3) ++ [.int .i64 n, .slice none 0 0, .int .i64 0], u.oneCell' = true from fun u hu => by
          rcases List.mem_append.1 hu with h | h
          · exact KO1.out u h
          · simp at h; rcases h with rfl | rfl | rfl <;> rfl)
        have KB := Lib.hid (show ∀ w2, Fresh w w2 → w2.cell? ⟨bd, 0, none⟩ = some (.slice A0 fs.length c0) from fun w2 ht => (H.out.blk.touch ht id).cell 0)
        have KB2 := Lib.hid (show ∀ w2, Fresh w w2 → w2.cell? ⟨bd, 0, none⟩ = some (.slice A0 fs.length c0) ∧ w2.frozen? ⟨bd, 0, none⟩ = false from fun w2 ht => ⟨(H.out.blk.touch ht id).cell 0, (H.out.blk.touch ht id).frozen 0⟩)
        have KF := Lib.hid (fun w3 (ht : Fresh w w3) B m c ho hm hn => rmade_new (xs := xs) (B := B) (m := m) (c := c) H.out HH.out ht ho hm hn)
        clear hK1 hKT hKT2 hh
        rcases HA1.out with ⟨rfl, hl0, rfl⟩ | ⟨g0, rfl⟩
        · have hP0 : P = 0 := by omega
          subst hP0
          obtain rfl : fs = [] := List.eq_nil_of_length_eq_zero hl0
          have hcA : ∀ o, ((w.drewN q).alloc o).cell? ⟨bd, 0, none⟩ = some (Value.slice none 0 0) := fun o => (H.out.blk.alloc o).cell 0
          go_wp2_with (first
            | (at_builtin; (refine wpList_own_src _ rfl (.tmp 20) (.tmp 26) 97 97 rfl 104 (.agg #[.int .i64 0, .slice none 0 0, .int .i64 0]) 3 40 Try.info104 Try.underlying97 rfl (.slice (some ⟨w.heap.size, 0, none⟩) 0 0) 0 [] rfl (Own.lit0 _ _ _) (by simp) (Value.slice none 0 0) 0 _ rfl (Own.takeSrc ((H.out.row.drewN q).alloc _) Try.underlying97 (rfCells_one H.out.file) hple) (by unfold maxLen; omega) (by omega) ?_); intro B1 c1 w1 o1 g1 b1; simp only [Nat.zero_add, List.nil_append] at o1 g1 b1 ⊢; have hT1 := Lib.hid (K1.out w1 g1 B1 0 c1 b1); have ho1 := Lib.hid o1; clear o1 g1 b1)
            | (at_builtin; refine wpList_own_src _ rfl (.tmp 28) (.tmp 31) 97 97 rfl 104 (.agg #[.int .i64 0, .slice none 0 0, .int .i64 0]) 3 40 Try.info104 Try.underlying97 rfl (.slice B1 0 c1) 0 _ rfl (ho1.out.alloc _) KO1.out (.slice (some ⟨w1.heap.size, 0, none⟩) 1 1) 1 [.int .i64 n, .slice none 0 0, .int .i64 0] rfl (rfile_new w1 n) (by unfold maxLen; omega) (by omega) ?_; intro B2 c2 w2 o2 g2 b2; have hT2 := Lib.hid (KT.out w1 w2 _ _ _ _ hT1.out g2 B2 1 c2 b2); have ho2 := Lib.hid o2; have hq2 := KB.out w2 hT2.out.1; clear o2 g2 b2)
            | (at_builtin; refine wpList_own_src _ rfl (.tmp 34) (.tmp 40) 97 97 rfl 104 (.agg #[.int .i64 0, .slice none 0 0, .int .i64 0]) 3 40 Try.info104 Try.underlying97 rfl (.slice B2 1 c2) 1 _ rfl ho2.out KO2.out (Value.slice none 0 0) 0 _ rfl (by have := Own.takeSrc (H.out.row.touch hT2.out.1 fun _ _ => id) Try.underlying97 (rfCells_one H.out.file) (k := 0) (Nat.zero_le _); exact this) (by unfold maxLen; omega) (by omega) ?_; intro B3 c3 w3 o3 g3 b3; have hT3 := Lib.hid (KT2.out w2 w3 _ _ _ () hT2.out g3 B3 _ c3 b3); have ho3 := Lib.hid o3; obtain ⟨hq3, hq4⟩ := KB2.out w3 hT3.out.1; clear o3 g3 b3))
          go_meet
          case rel =>
            exact KF.out w3 hT3.out.1 B3 _ c3 (by rw [← HP.out, ← rfCells_take, ← rfCells_drop]; exact ho3.out) (by first | omega | rfl) hT3.out.2
        · by_cases hPc : P = c0
          · subst hPc
            have hPf : fs.length - P = 0 := by omega
            have hcA : ∀ o, ((w.drewN q).alloc o).cell? ⟨bd, 0, none⟩ = some (Value.slice (some ⟨g0, 0, none⟩) fs.length P) := fun o => (H.out.blk.alloc o).cell 0
            go_wp2_with (first
              | (at_builtin; (refine wpList_own_src _ rfl (.tmp 20) (.tmp 26) 97 97 rfl 104 (.agg #[.int .i64 0, .slice none 0 0, .int .i64 0]) 3 40 Try.info104 Try.underlying97 rfl (.slice (some ⟨w.heap.size, 0, none⟩) 0 0) 0 [] rfl (Own.lit0 _ _ _) (by simp) (Value.slice (some ⟨g0, 0, none⟩) P P) P _ rfl (Own.takeSrc ((H.out.row.drewN q).alloc _) Try.underlying97 (rfCells_one H.out.file) hple) (by unfold maxLen; omega) (by omega) ?_); intro B1 c1 w1 o1 g1 b1; simp only [Nat.zero_add, List.nil_append] at o1 g1 b1 ⊢; have hT1 := Lib.hid (K1.out w1 g1 B1 P c1 b1); have ho1 := Lib.hid o1; clear o1 g1 b1)
              | (at_builtin; refine wpList_own_src _ rfl (.tmp 28) (.tmp 31) 97 97 rfl 104 (.agg #[.int .i64 0, .slice none 0 0, .int .i64 0]) 3 40 Try.info104 Try.underlying97 rfl (.slice B1 P c1) P _ rfl (ho1.out.alloc _) KO1.out (.slice (some ⟨w1.heap.size, 0, none⟩) 1 1) 1 [.int .i64 n, .slice none 0 0, .int .i64 0] rfl (rfile_new w1 n) (by unfold maxLen; omega) (by omega) ?_; intro B2 c2 w2 o2 g2 b2; have hT2 := Lib.hid (KT.out w1 w2 _ _ _ _ hT1.out g2 B2 (P + 1) c2 b2); have ho2 := Lib.hid o2; have hq2 := KB.out w2 hT2.out.1; clear o2 g2 b2)
              | (at_builtin; refine wpList_own_src _ rfl (.tmp 34) (.tmp 40) 97 97 rfl 104 (.agg #[.int .i64 0, .slice none 0 0, .int .i64 0]) 3 40 Try.info104 Try.underlying97 rfl (.slice B2 (P + 1) c2) (P + 1) _ rfl ho2.out KO2.out (Value.slice (some ⟨g0, 0, none⟩) 0 0) 0 _ rfl (Own.dropSrc0 (H.out.row.touch hT2.out.1 fun _ _ => id) Try.underlying97 hle _ _ _ hPf.symm) (by unfold maxLen; omega) (by omega) ?_; intro B3 c3 w3 o3 g3 b3; have hT3 := Lib.hid (KT2.out w2 w3 _ _ _ () hT2.out g3 B3 _ c3 b3); have ho3 := Lib.hid o3; obtain ⟨hq3, hq4⟩ := KB2.out w3 hT3.out.1; clear o3 g3 b3))
            go_meet
            case rel =>
              exact KF.out w3 hT3.out.1 B3 _ c3 (by rw [← HP.out, ← rfCells_take, ← rfCells_drop]; exact ho3.out) (by first | omega | rfl) hT3.out.2
          · have hPc2 : P < c0 := by omega
            have hcA : ∀ o, ((w.drewN q).alloc o).cell? ⟨bd, 0, none⟩ = some (Value.slice (some ⟨g0, 0, none⟩) fs.length c0) := fun o => (H.out.blk.alloc o).cell 0
            go_wp2_with (first
              | (at_builtin; (refine wpList_own_src _ rfl (.tmp 20) (.tmp 26) 97 97 rfl 104 (.agg #[.int .i64 0, .slice none 0 0, .int .i64 0]) 3 40 Try.info104 Try.underlying97 rfl (.slice (some ⟨w.heap.size, 0, none⟩) 0 0) 0 [] rfl (Own.lit0 _ _ _) (by simp) (Value.slice (some ⟨g0, 0, none⟩) P c0) P _ rfl (Own.takeSrc ((H.out.row.drewN q).alloc _) Try.underlying97 (rfCells_one H.out.file) hple) (by unfold maxLen; omega) (by omega) ?_); intro B1 c1 w1 o1 g1 b1; simp only [Nat.zero_add, List.nil_append] at o1 g1 b1 ⊢; have hT1 := Lib.hid (K1.out w1 g1 B1 P c1 b1); have ho1 := Lib.hid o1; clear o1 g1 b1)
              | (at_builtin; refine wpList_own_src _ rfl (.tmp 28) (.tmp 31) 97 97 rfl 104 (.agg #[.int .i64 0, .slice none 0 0, .int .i64 0]) 3 40 Try.info104 Try.underlying97 rfl (.slice B1 P c1) P _ rfl (ho1.out.alloc _) KO1.out (.slice (some ⟨w1.heap.size, 0, none⟩) 1 1) 1 [.int .i64 n, .slice none 0 0, .int .i64 0] rfl (rfile_new w1 n) (by unfold maxLen; omega) (by omega) ?_; intro B2 c2 w2 o2 g2 b2; have hT2 := Lib.hid (KT.out w1 w2 _ _ _ _ hT1.out g2 B2 (P + 1) c2 b2); have ho2 := Lib.hid o2; have hq2 := KB.out w2 hT2.out.1; clear o2 g2 b2)
              | (at_builtin; refine wpList_own_src _ rfl (.tmp 34) (.tmp 40) 97 97 rfl 104 (.agg #[.int .i64 0, .slice none 0 0, .int .i64 0]) 3 40 Try.info104 Try.underlying97 rfl (.slice B2 (P + 1) c2) (P + 1) _ rfl ho2.out KO2.out (Value.slice (some ⟨g0, P * 3, none⟩) (fs.length - P) (c0 - P)) (fs.length - P) _ rfl (Own.dropSrc (H.out.row.touch hT2.out.1 fun _ _ => id) Try.underlying97 (rfCells_one H.out.file) hple _ _ rfl) (by unfold maxLen; omega) (by omega) ?_; intro B3 c3 w3 o3 g3 b3; have hT3 := Lib.hid (KT2.out w2 w3 _ _ _ () hT2.out g3 B3 _ c3 b3); have ho3 := Lib.hid o3; obtain ⟨hq3, hq4⟩ := KB2.out w3 hT3.out.1; clear o3 g3 b3))
            go_meet
            case rel =>
              exact KF.out w3 hT3.out.1 B3 _ c3 (by rw [← HP.out, ← rfCells_take, ← rfCells_drop]; exact ho3.out) (by first | omega | rfl) hT3.out.2
    case rest =>
      obtain ⟨lv1, fs1, f, hd, hf, hins, ht, hfoot, hln, hmem⟩ := hcut
      rw [← HP.out] at hf hins
      obtain ⟨A1, c1, rfl, _, hcm1, hA1⟩ := hd.lform
      unfold maxLen at hcm1
      have hlt1 : P < fs1.length := (List.getElem?_eq_some_iff.1 hf).1
      obtain ⟨g, rfl⟩ := hA1 (by omega)
      have hF := hd.file f (List.mem_of_getElem? hf)
      obtain ⟨C, cc, hv, hv1, hv2, _⟩ := hF.form
      have hfr : f.raw.length ≤ 1000000000 := by
        rcases hmem f (List.mem_of_getElem? hf) with h | h
        · exact HB.out f h
        · rw [h]; simp
      have hj : ∀ w5, Fresh wc w5 → w5.cell? ⟨bd, 0, none⟩ = some (.slice (some ⟨g, 0, none⟩) fs1.length c1) ∧ w5.cell? ⟨g, P * 3 + 1, none⟩ = some (.slice C f.raw.length cc) ∧ w5.frozen? ⟨g, P * 3 + 1, none⟩ = false := by
        intro w5 h5
        have h6 := hd.fresh h5
        refine ⟨h6.blk.cell 0, ?_, h6.row.frozen _⟩
        have := h6.lcell hf 1 (by omega)
        rw [show (RF.cells f)[1]? = some f.v from rfl, hv] at this
        exact this
      have j0 := (hj wc (Touch.refl _ _)).1
      have j1 := (hj wc (Touch.refl _ _)).2.1
      have j0a : ∀ o, (wc.alloc o).cell? ⟨bd, 0, none⟩ = some (.slice (some ⟨g, 0, none⟩) fs1.length c1) := fun o => (hj _ ((Touch.refl _ wc).alloc o)).1
      have j1a : ∀ o, (wc.alloc o).cell? ⟨g, P * 3 + 1, none⟩ = some (.slice C f.raw.length cc) := fun o => (hj _ ((Touch.refl _ wc).alloc o)).2.1
      have HJ := Lib.hid hj; have HD := Lib.hid hd; have HF := Lib.hid hf; have HINS := Lib.hid hins; have HT := Lib.hid ht; have HFOOT := Lib.hid hfoot
      have HV := Lib.hid (fun o => Row.bs (show Row (wc.alloc o) (.slice C f.raw.length cc) f.raw from by rw [← hv]; exact hF.alloc o))
      have HXW := Lib.hid (show ∀ w5, Fresh wc w5 → Bs w5 A xs.length c xs from fun w5 h5 => (HX.out.touch HT.out fun a ha h0 e => (HXB.out a ha h0).1 (.inl e)).fresh h5)
      clear hj hd hf hins ht hfoot hmem hF hv
      have KN1 := Lib.hid (show ∀ (B : Option Addr) (m c : Nat) (o : Obj), ((Value.slice B m c).ownBlock = (Value.slice (some ⟨wc.heap.size, 0, none⟩) 0 0).ownBlock ∨ (Value.slice B m c).ownBlock = some (wc.drew.alloc o).heap.size) → ∀ k, (Value.slice B m c).ownBlock = some k → wc.heap.size ≤ k from by
        intro B m c o hb k hk
        rcases hb with h | h
        · rw [hk] at h; simp only [Value.ownBlock, Option.some.injEq] at h; omega
        · rw [hk, alloc_size] at h; injection h with h; rw [h]; exact Nat.le_succ _)
      have KN2 := Lib.hid (show ∀ (w4 : World) (B : Option Addr) (m c : Nat) (B' : Option Addr) (m' c' : Nat), wc.heap.size ≤ w4.heap.size → (∀ k, (Value.slice B m c).ownBlock = some k → wc.heap.size ≤ k) → ((Value.slice B' m' c').ownBlock = (Value.slice B m c).ownBlock ∨ (Value.slice B' m' c').ownBlock = some w4.heap.size) → ∀ k, (Value.slice B' m' c').ownBlock = some k → wc.heap.size ≤ k from by
        intro w4 B m c B' m' c' hs h4 hb k hk
        rcases hb with h | h
        · exact h4 k (h.symm.trans hk)
        · rw [hk] at h; injection h with h; rw [h]; exact hs)
      go_upto_region 6 with fail
      go_region_law ((first
        | (refine step_row_bs rfl (.tmp 49) (.tmp 57) 22 rfl Try.info5 Try.underlying22 (.slice (some ⟨wc.heap.size, 0, none⟩) 0 0) [] rfl (Row.lit [] #[] rfl (by simp)) C f.raw.length cc f.raw rfl (HV.out _) (by simp only [List.length_nil]; omega) ?_; intro B4 c4 w4 r4 g4 o4; simp only [List.length_nil, Nat.zero_add, List.nil_append] at r4 g4 o4 ⊢; have ht4 : Fresh wc w4 := ((Touch.refl (fun _ => False) wc).drew.alloc _).grown g4 (fun k hk => .inl (by simp only [Value.ownBlock, Option.some.injEq] at hk; omega)); have hn4 : ∀ k, (Value.slice B4 f.raw.length c4).ownBlock = some k → wc.heap.size ≤ k := KN1.out _ _ _ _ o4; have R4 := Lib.hid r4; have HT4 := Lib.hid ht4; have HN4 := Lib.hid hn4; obtain ⟨a4, b4, d4⟩ := HJ.out w4 ht4; clear r4 g4 o4 ht4 hn4)
        | (refine step_row_bs rfl (.tmp 58) (.tmp 59) 22 rfl Try.info5 Try.underlying22 (.slice B4 f.raw.length c4) f.raw rfl R4.out A xs.length c xs rfl (HXW.out w4 HT4.out) (by omega) ?_; intro B5 c5 w5 r5 g5 o5; have ht5 : Fresh wc w5 := HT4.out.grown g5 (fun k hk => .inl (HN4.out k hk)); have hn5 : ∀ k, (Value.slice B5 (f.raw.length + xs.length) c5).ownBlock = some k → wc.heap.size ≤ k := KN2.out w4 _ _ _ _ _ _ HT4.out.size HN4.out o5; have R5 := Lib.hid r5; have HT5 := Lib.hid ht5; have HN5 := Lib.hid hn5; obtain ⟨a5, b5, d5⟩ := HJ.out w5 ht5; clear r5 g5 o5 ht5 hn5)))
      all_goals
        have HFIN := Lib.hid (radd_fin (.returned (.tuple #[])) HD.out HF.out HINS.out HT.out HFOOT.out HT5.out R5.out HN5.out)
        clear a4 b4 d4 a5 b5 d5 j0 j1 j0a j1a
        go_wp2_with fail
        go_end0
        exact HFIN.out
end Go.Proofs.Ythmjnlkdoepmjaa
