/- The nets (world's and the document's) in memory, and the contracts of what copies a parcel. Conditions stand with each. -/
import Derived.Test.YthmjnlkdoepmjaaRadd
import Derived.Test.YthmjnlkdoepmjaaPuts
namespace Go.Proofs.Ythmjnlkdoepmjaa
open Go.RowKit

/-- a parcel as it lies in a row -/
structure Pc where
  a : Int
  b : Int
  raw : List UInt8
  v : Value
def Pc.cells (p : Pc) : List Value := [.int .i64 p.a, .int .i64 p.b, p.v]
def Pc.pl (p : Pc) : Int × Int × List UInt8 := (p.a, p.b, p.raw)
def pcCells (ps : List Pc) : List Value := ps.flatMap Pc.cells
/-- a parcel's value: its bytes are a row of the call's own -/
def PcV (w : World) (p : Pc) : Prop := Row w p.v p.raw ∧ p.raw.length ≤ 1000000
/-- a net of either kind -/
structure NT (w : World) (t : TypeId) (bn : Nat) (most : Int) (rv : Value) (ps : List Pc) : Prop where
  blk : Blk w bn t #[.int .i64 most, rv]
  row : Own w 65 3 rv ps.length (pcCells ps)
  byt : ∀ p ∈ ps, PcV w p

set_option maxRecDepth 20000 in
set_option maxHeartbeats 1000000 in
theorem copiedW_any (a b : Int) (A : Option Addr) (n c : Nat) (xs : List UInt8) (w : World) (h : Bs w A n c xs) (hb : n ≤ 1000000) :
    Calls Try.prog 68 #[.agg #[.int .i64 a, .int .i64 b, .slice A n c]] w fun e w' => Fresh w w' ∧ ∃ B c', e = .returned (.agg #[.int .i64 a, .int .i64 b, .slice B n c']) ∧ Row w' (.slice B n c') xs ∧ (∀ a, B = some a → w.heap.size ≤ a.block) := by
  have H := Lib.hid h
  clear h
  go_enter Try.func68, Try.ntmps68
  go_wp2_with fail
  have hw2 : Fresh w ((w.alloc (.cells #[.int .i64 a, .int .i64 b, .slice A n c] 65)).alloc (.cells #[.int .i64 0, .int .i64 0, .slice none 0 0] 65)) := ((Touch.refl _ w).alloc _).alloc _
  refine (clone_any A n c xs _ (H.out.fresh hw2) (by omega)).mono ?_
  rintro e w3 ⟨hf3, B, c', rfl, hr3, hn3⟩
  have hb1 : Blk w3 w.heap.size 65 #[.int .i64 a, .int .i64 b, .slice A n c] := ((Blk.new w _ _).alloc _).touch hf3 id
  have hb2 : Blk w3 (w.heap.size + 1) 65 #[.int .i64 0, .int .i64 0, .slice none 0 0] := by
    have := (Blk.new (w.alloc (.cells #[.int .i64 a, .int .i64 b, .slice A n c] 65)) 65 #[.int .i64 0, .int .i64 0, .slice none 0 0]).touch hf3 id
    rwa [World.size_alloc] at this
  have c0 := hb1.cell 0
  have c1 := hb1.cell 1
  have c2 := hb1.cell 2
  have f1 := hb1.frozen
  have d0 := hb2.cell 0
  have d1 := hb2.cell 1
  have d2 := hb2.cell 2
  have f2 := hb2.frozen
  simp only [List.getElem?_toArray, List.getElem?_cons_zero, List.getElem?_cons_succ] at c0 c1 c2 d0 d1 d2
  have HF3 := Lib.hid (hw2.trans hf3 fun _ _ => id); have HR3 := Lib.hid hr3
  have HN3 := Lib.hid hn3; have HB1 := Lib.hid hb1; have HB2 := Lib.hid hb2
  clear hw2 hf3 hr3 hn3 hb1 hb2
  go_wp2_with fail
  have hq := (HB2.out.far (p := ⟨w.heap.size, 2, none⟩) (by simp) (.slice B n c')).puts_all [.int .i64 a, .int .i64 b, .slice B n c'] rfl
  simp only [puts] at hq
  have e0 := hq.cell 0
  have e1 := hq.cell 1
  have e2 := hq.cell 2
  simp only [List.getElem?_toArray, List.getElem?_cons_zero, List.getElem?_cons_succ] at e0 e1 e2
  have hno : ∀ k, k < w.heap.size + 2 → (Value.slice B n c').ownBlock ≠ some k := by
    intro k hk e
    cases B with
    | none => simp [Value.ownBlock] at e
    | some a =>
      have := HN3.out a rfl
      simp [Value.ownBlock] at e this
      omega
  refine bodyPost_ret (v := .agg #[.int .i64 a, .int .i64 b, .slice B n c']) (by simp [results, Try.results68, go_sem, e0, e1, e2]) rfl ⟨?_, B, c', rfl, ?_, fun a h => ?_⟩
  · exact (((HF3.out.setCell (p := ⟨w.heap.size, 2, none⟩) (.inl (Nat.le_refl _)) _).setCell (p := ⟨w.heap.size + 1, 0, none⟩) (.inl (Nat.le_succ _)) _).setCell (p := ⟨w.heap.size + 1, 1, none⟩) (.inl (Nat.le_succ _)) _).setCell (p := ⟨w.heap.size + 1, 2, none⟩) (.inl (Nat.le_succ _)) _
  · exact (((HR3.out.far (p := ⟨w.heap.size, 2, none⟩) (hno _ (by simp)) _).far (p := ⟨w.heap.size + 1, 0, none⟩) (hno _ (by simp)) _).far (p := ⟨w.heap.size + 1, 1, none⟩) (hno _ (by simp)) _).far (p := ⟨w.heap.size + 1, 2, none⟩) (hno _ (by simp)) _
  · have := HN3.out a h
    simp at this
    omega
set_option maxRecDepth 20000 in
set_option maxHeartbeats 1000000 in
theorem copiedR_any (a b : Int) (A : Option Addr) (n c : Nat) (xs : List UInt8) (w : World) (h : Bs w A n c xs) (hb : n ≤ 1000000) :
    Calls Try.prog 69 #[.agg #[.int .i64 a, .int .i64 b, .slice A n c]] w fun e w' => Fresh w w' ∧ ∃ B c', e = .returned (.agg #[.int .i64 a, .int .i64 b, .slice B n c']) ∧ Row w' (.slice B n c') xs ∧ (∀ a, B = some a → w.heap.size ≤ a.block) := by
  obtain rfl := h.1
  have H := Lib.hid h
  clear h
  have HR0 := Lib.hid (show Row (((w.alloc (.cells #[.int .i64 a, .int .i64 b, .slice A xs.length c] 65)).alloc (.cells #[.int .i64 0, .int .i64 0, .slice none 0 0] 65)).alloc (.cells #[] 5)) (.slice (some ⟨w.heap.size + 1 + 1, 0, none⟩) 0 0) [] from by
    have := Row.lit (w := (w.alloc (.cells #[.int .i64 a, .int .i64 b, .slice A xs.length c] 65)).alloc (.cells #[.int .i64 0, .int .i64 0, .slice none 0 0] 65)) [] #[] rfl (by simp)
    rw [World.size_alloc, World.size_alloc] at this
    exact this)
  go_enter Try.func69, Try.ntmps69
  go_wp2_with (at_builtin; refine wpList_row_bs rfl _ _ 22 rfl Try.info5 Try.underlying22 (.slice (some ⟨w.heap.size + 1 + 1, 0, none⟩) 0 0) [] rfl HR0.out A xs.length c xs rfl (((H.out.alloc _).alloc _).alloc _) (by have := H.out.1; simp only [List.length_nil]; omega) ?_; intro B c' w3 hr3 hg3 ho3; simp only [List.length_nil, Nat.zero_add, List.nil_append] at hr3 ho3; have hb1 : Blk w3 w.heap.size 65 #[.int .i64 a, .int .i64 b, .slice A xs.length c] := (((Blk.new w _ _).alloc _).alloc _).grown hg3 (by simp [Value.ownBlock] <;> omega); have hb2 : Blk w3 (w.heap.size + 1) 65 #[.int .i64 0, .int .i64 0, .slice none 0 0] := (by have := ((Blk.new (w.alloc (.cells #[.int .i64 a, .int .i64 b, .slice A xs.length c] 65)) 65 #[.int .i64 0, .int .i64 0, .slice none 0 0]).alloc (.cells #[] 5)).grown hg3 (by simp [Value.ownBlock] <;> omega); rwa [World.size_alloc] at this); have c0 := hb1.cell 0; have c1 := hb1.cell 1; have c2 := hb1.cell 2; have f1 := hb1.frozen; have d0 := hb2.cell 0; have d1 := hb2.cell 1; have d2 := hb2.cell 2; have f2 := hb2.frozen; simp only [List.getElem?_toArray, List.getElem?_cons_zero, List.getElem?_cons_succ] at c0 c1 c2 d0 d1 d2; have HF3 := Lib.hid (show Fresh w w3 from ((((Touch.refl _ w).alloc _).alloc _).alloc _).grown hg3 (fun k hk => .inl (by simp only [Value.ownBlock, Option.some.injEq] at hk; omega))); have HR3 := Lib.hid hr3; have HN3 := Lib.hid (show ∀ k, (Value.slice B xs.length c').ownBlock = some k → w.heap.size + 2 ≤ k from (fun k hk => by rcases ho3 with h | h <;> (rw [hk] at h; simp [Value.ownBlock] at h; omega))); have HB1 := Lib.hid hb1; have HB2 := Lib.hid hb2; clear hr3 hg3 ho3 hb1 hb2)
  have hq := (HB2.out.far (p := ⟨w.heap.size, 2, none⟩) (by simp) (.slice B xs.length c')).puts_all [.int .i64 a, .int .i64 b, .slice B xs.length c'] rfl
  simp only [puts] at hq
  have e0 := hq.cell 0
  have e1 := hq.cell 1
  have e2 := hq.cell 2
  simp only [List.getElem?_toArray, List.getElem?_cons_zero, List.getElem?_cons_succ] at e0 e1 e2
  have hno : ∀ k, k < w.heap.size + 2 → (Value.slice B xs.length c').ownBlock ≠ some k := by
    intro k hk e
    have := HN3.out k e
    omega
  refine bodyPost_ret (v := .agg #[.int .i64 a, .int .i64 b, .slice B xs.length c']) (by simp [results, Try.results69, go_sem, e0, e1, e2]) rfl ⟨?_, B, c', rfl, ?_, fun a h => ?_⟩
  · exact (((HF3.out.setCell (p := ⟨w.heap.size, 2, none⟩) (.inl (Nat.le_refl _)) _).setCell (p := ⟨w.heap.size + 1, 0, none⟩) (.inl (Nat.le_succ _)) _).setCell (p := ⟨w.heap.size + 1, 1, none⟩) (.inl (Nat.le_succ _)) _).setCell (p := ⟨w.heap.size + 1, 2, none⟩) (.inl (Nat.le_succ _)) _
  · exact (((HR3.out.far (p := ⟨w.heap.size, 2, none⟩) (hno _ (by simp)) _).far (p := ⟨w.heap.size + 1, 0, none⟩) (hno _ (by simp)) _).far (p := ⟨w.heap.size + 1, 1, none⟩) (hno _ (by simp)) _).far (p := ⟨w.heap.size + 1, 2, none⟩) (hno _ (by simp)) _
  · have := HN3.out a.block (by rw [h]; rfl)
    omega
theorem Try.info65 : (Try.prog.info? 65).map (fun i => (i.zero, i.size, i.bytes)) = some (some (.agg #[.int .i64 0, .int .i64 0, .slice none 0 0]), 3, 40) := by kernel_rfl
theorem pcCells_append (a b : List Pc) : pcCells (a ++ b) = pcCells a ++ pcCells b := by simp [pcCells]
theorem PcV.one {w : World} {p : Pc} (h : PcV w p) : ∀ u ∈ p.cells, u.oneCell' = true := by
  intro u hu
  simp only [Pc.cells, List.mem_cons, List.not_mem_nil, or_false] at hu
  rcases hu with rfl | rfl | rfl
  · rfl
  · rfl
  · rcases h.1.2 with ⟨e, _⟩ | ⟨g, cap, cur, e, _⟩ <;> rw [e] <;> rfl
theorem pcCells_one {w : World} {ps : List Pc} (h : ∀ p ∈ ps, PcV w p) : ∀ u ∈ pcCells ps, u.oneCell' = true := by
  intro u hu
  obtain ⟨p, hp, hx⟩ := List.mem_flatMap.1 hu
  exact (h p hp).one u hx
theorem PcV.touch {S : Nat → Prop} {w w' : World} {p : Pc} (h : PcV w p) (hb : Touch S w w') (hn : ∀ k, p.v.ownBlock = some k → ¬ S k) : PcV w' p := ⟨h.1.touch hb hn, h.2⟩
theorem PcV.ne_blk {w : World} {p : Pc} {g : Nat} {t : TypeId} {cs : Array Value} (h : PcV w p) (hg : Blk w g t cs) (hne : 5 ≠ t) : p.v.ownBlock ≠ some g := own_blk_ne h.1 hg hne
theorem PcV.ne_row {w : World} {p : Pc} {v : Value} {n : Nat} {xs : List Value} (h : PcV w p) (hr : Own w 65 3 v n xs) : ∀ k, p.v.ownBlock = some k → v.ownBlock ≠ some k := by
  intro k hk e
  rcases hr.2 with ⟨rfl, _⟩ | ⟨g, cap, cur, rfl, hg, _⟩
  · simp [Value.ownBlock] at e
  · simp only [Value.ownBlock, Option.some.injEq] at e
    subst e
    exact h.ne_blk (t := 65) (cs := cur) hg (by decide) hk
def nfoot (bn : Nat) (rv : Value) (k : Nat) : Prop := k = bn ∨ rv.ownBlock = some k
section
variable {w w' w1 : World} {t : TypeId} {bn : Nat} {most : Int} {rv : Value} {ps : List Pc}
theorem NT.touch {S : Nat → Prop} (h : NT w t bn most rv ps) (hb : Touch S w w') (h1 : ∀ k, nfoot bn rv k → ¬ S k) (h2 : ∀ p ∈ ps, ∀ k, p.v.ownBlock = some k → ¬ S k) : NT w' t bn most rv ps :=
  ⟨h.blk.touch hb (h1 bn (.inl rfl)), h.row.touch hb fun k hk => h1 k (.inr hk), fun p hp => (h.byt p hp).touch hb (h2 p hp)⟩
theorem NT.fresh (h : NT w t bn most rv ps) (hb : Fresh w w') : NT w' t bn most rv ps := h.touch hb (fun _ _ => id) fun _ _ _ _ => id
end
/-- what one call of a net leaves -/
def NStep (w : World) (t : TypeId) (bn : Nat) (most : Int) (rv : Value) (ps : List Pc) (qs : List (Int × Int × List UInt8)) (res e : Ending) (w' : World) : Prop :=
  e = res ∧ Touch (nfoot bn rv) w w' ∧ ∃ rv' ps', NT w' t bn most rv' ps' ∧ ps'.map Pc.pl = qs ∧ (∀ k, nfoot bn rv' k → nfoot bn rv k ∨ w.heap.size ≤ k) ∧ ∀ p ∈ ps', p ∈ ps ∨ ∀ k, p.v.ownBlock = some k → w.heap.size ≤ k
theorem NT.step {w w' : World} {t : TypeId} {bn : Nat} {most : Int} {rv : Value} {ps : List Pc} {res : Ending} (h : NT w t bn most rv ps) (hf : Fresh w w') : NStep w t bn most rv ps (ps.map Pc.pl) res res w' :=
  ⟨rfl, hf.mono fun _ _ h => h.elim, rv, ps, h.fresh hf, rfl, fun _ h => .inl h, fun _ h => .inl h⟩
theorem pc_new (w : World) (a b : Int) (B : Option Addr) (n c : Nat) : Src Try.prog 3 73 (.slice (some ⟨w.heap.size, 0, none⟩) 1 1) 1 [.int .i64 a, .int .i64 b, .slice B n c] (w.alloc (.cells #[.int .i64 a, .int .i64 b, .slice B n c] 65)) := by
  refine Src.ofSlice _ Try.underlying73 _ _ _ _ rfl (fun j u hu => ?_) (by intro u hu; simp at hu; rcases hu with rfl | rfl | rfl <;> rfl)
  have hb := Blk.new w 65 #[.int .i64 a, .int .i64 b, .slice B n c]
  rw [add_flat, Nat.zero_add, hb.cell j, ← hu]
  simp
theorem send_fin {w w3 w4 : World} {t : TypeId} {bn : Nat} {most : Int} {rv : Value} {ps : List Pc} {a b : Int} {B D : Option Addr} {n c' c4 : Nat} {xs : List UInt8} (res : Ending) (ht : 65 ≠ t) (hu : 5 ≠ t) (h : NT w t bn most rv ps) (hf : Fresh w w3) (hr : Row w3 (.slice B n c') xs) (hl : xs.length ≤ 1000000) (hn : ∀ a, B = some a → w.heap.size ≤ a.block)
    (hg : (w3.alloc (.cells #[.int .i64 a, .int .i64 b, .slice B n c'] 65)).grownBy w4 rv.ownBlock) (ho : Own w4 65 3 (.slice D (ps.length + 1) c4) (ps.length + 1) (pcCells ps ++ [.int .i64 a, .int .i64 b, .slice B n c']))
    (hd : (Value.slice D (ps.length + 1) c4).ownBlock = rv.ownBlock ∨ (Value.slice D (ps.length + 1) c4).ownBlock = some (w3.alloc (.cells #[.int .i64 a, .int .i64 b, .slice B n c'] 65)).heap.size) :
    NStep w t bn most rv ps (ps.map Pc.pl ++ [(a, b, xs)]) res res (w4.setCell ⟨bn, 1, none⟩ (.slice D (ps.length + 1) c4)) := by
  have hT : Touch (nfoot bn rv) w w4 := ((hf.mono fun _ _ h => h.elim).alloc _).grown hg fun k hk => .inr (.inr hk)
  have hT2 := hT.setCell (p := ⟨bn, 1, none⟩) (.inr (.inl rfl)) (.slice D (ps.length + 1) c4)
  have hb4 : Blk w4 bn t #[.int .i64 most, rv] := ((h.blk.touch hf id).alloc _).grown hg fun e => h.row.ne_blk h.blk ht e.symm
  refine ⟨rfl, hT2, .slice D (ps.length + 1) c4, ps ++ [⟨a, b, xs, .slice B n c'⟩], ⟨?_, ?_, ?_⟩, by simp [Pc.pl], ?_, ?_⟩
  · have := hb4.set_ 1 (.slice D (ps.length + 1) c4)
    simpa using this
  · rw [pcCells_append, List.length_append]
    exact ho.far (p := ⟨bn, 1, none⟩) (ho.ne_blk hb4 ht) _
  · intro p hp
    rcases List.mem_append.1 hp with hp | hp
    · have hpv := h.byt p hp
      refine hpv.touch hT2 fun k hk => ?_
      rintro (e | e)
      · exact hpv.ne_blk h.blk hu (by rw [hk, e])
      · exact hpv.ne_row h.row k hk e
    · simp only [List.mem_cons, List.not_mem_nil, or_false] at hp
      subst hp
      have hk0 : ∀ k, (Value.slice B n c').ownBlock = some k → w.heap.size ≤ k := by
        intro k hk
        cases B with
        | none => cases hk
        | some x =>
          have := hn x rfl
          simp only [Value.ownBlock, Option.some.injEq] at hk
          omega
      have hT4 : Touch (fun k => rv.ownBlock = some k) (w3.alloc (.cells #[.int .i64 a, .int .i64 b, .slice B n c'] 65)) w4 := (Touch.refl _ _).grown hg fun k hk => .inr hk
      have h4 : Row w4 (.slice B n c') xs := (hr.alloc _).touch hT4 fun k hk e => by
        have h1 := hk0 k hk
        have h2 := h.row.lt k e
        omega
      exact ⟨h4.far (p := ⟨bn, 1, none⟩) (fun e => by have := hk0 bn e; have := h.blk.lt; omega) _, hl⟩
  · rintro k (e | e)
    · exact .inl (.inl e)
    · rcases hd with h1 | h1
      · exact .inl (.inr (h1.symm.trans e))
      · rw [e] at h1
        injection h1 with h1
        refine .inr ?_
        rw [h1, World.size_alloc]
        exact Nat.le_succ_of_le hf.size
  · intro p hp
    rcases List.mem_append.1 hp with hp | hp
    · exact .inl hp
    · simp only [List.mem_cons, List.not_mem_nil, or_false] at hp
      subst hp
      refine .inr fun k hk => ?_
      cases B with
      | none => cases hk
      | some x =>
        have := hn x rfl
        simp only [Value.ownBlock, Option.some.injEq] at hk
        omega

set_option maxRecDepth 20000 in
set_option maxHeartbeats 2000000 in
theorem sendW_any (bn : Nat) (most : Int) (rv : Value) (ps : List Pc) (a b : Int) (A : Option Addr) (n c : Nat) (xs : List UInt8) (w : World) (h : NT w 110 bn most rv ps) (hl : ps.length ≤ 1000000) (hx : Bs w A n c xs) (hb : n ≤ 1000000) :
    Calls Try.prog 35 #[.pointer (some ⟨bn, 0, none⟩), .agg #[.int .i64 a, .int .i64 b, .slice A n c]] w fun e w' =>
      NStep w 110 bn most rv ps (if most ≤ ps.length then ps.map Pc.pl else ps.map Pc.pl ++ [(a, b, xs)]) (.returned (.bool (decide (¬ most ≤ (ps.length : Int))))) e w' := by
  obtain ⟨RA, rc, rfl, hrc1, hrc2, hRA⟩ := h.row.form
  have c0 : ∀ o q, ((w.alloc o).drewN q).cell? ⟨bn, 0, none⟩ = some (.int .i64 most) := fun o q => ((h.blk.alloc o).drewN q).cell 0
  have c1 : ∀ o q, ((w.alloc o).drewN q).cell? ⟨bn, 1, none⟩ = some (.slice RA ps.length rc) := fun o q => ((h.blk.alloc o).drewN q).cell 1
  have H := Lib.hid h; have HX := Lib.hid hx; have HRA := Lib.hid hRA
  clear h hx hRA
  by_cases hm : most ≤ (ps.length : Int)
  · rw [if_pos hm]
    have hmd : decide (most ≤ (ps.length : Int)) = true := by simpa using hm
    have HM := Lib.hid hm
    clear hm
    go_enter Try.func35, Try.ntmps35
    go_wp2_with fail
    go_quiet (fail)
    go_wp2_with fail
    go_ret
    have e : decide ((ps.length : Int) < most) = false := by have := HM.out; simp; omega
    rw [e]
    exact H.out.step (((Touch.refl _ w).alloc _).drewN nq)
  · rw [if_neg hm]
    have hmd : decide (most ≤ (ps.length : Int)) = false := by simp; omega
    have HM := Lib.hid hm
    clear hm
    unfold maxLen at hrc2
    go_enter Try.func35, Try.ntmps35
    go_wp2_with fail
    go_quiet (fail)
    obtain ⟨w1, hw1⟩ : ∃ w1, w1 = (w.alloc (.cells #[.int .i64 a, .int .i64 b, .slice A n c] 65)).drewN nq := ⟨_, rfl⟩
    rw [← hw1]
    have hf1 : Fresh w w1 := by rw [hw1]; exact ((Touch.refl _ w).alloc _).drewN nq
    have hbx : Blk w1 w.heap.size 65 #[.int .i64 a, .int .i64 b, .slice A n c] := by rw [hw1]; exact (Blk.new _ _ _).drewN nq
    have KF := Lib.hid (show ∀ W, Fresh w1 W → (W.cell? ⟨bn, 1, none⟩ = some (.slice RA ps.length rc) ∧ W.cell? ⟨w.heap.size, 0, none⟩ = some (.int .i64 a) ∧ W.cell? ⟨w.heap.size, 1, none⟩ = some (.int .i64 b) ∧ W.cell? ⟨w.heap.size, 2, none⟩ = some (.slice A n c)) from fun W hW => ⟨((H.out.blk.touch hf1 id).touch hW id).cell 1, (hbx.touch hW id).cell 0, (hbx.touch hW id).cell 1, (hbx.touch hW id).cell 2⟩)
    obtain ⟨p1, p2, p3, p4⟩ := KF.out w1 (Touch.refl _ _)
    have HF1 := Lib.hid hf1
    have KC := Lib.hid (copiedW_any a b A n c xs w1.drew (HX.out.fresh hf1.drew) hb)
    have KW := Lib.hid (show ∀ (W W4 : World) (o : Obj), Fresh w1 W → (W.alloc o).grownBy W4 (Value.slice RA ps.length rc).ownBlock → (W4.cell? ⟨bn, 1, none⟩ = some (.slice RA ps.length rc) ∧ W4.frozen? ⟨bn, 1, none⟩ = false) from fun W W4 o hW hg => by
      have hd := (((H.out.blk.touch hf1 id).touch hW id).alloc o).grown hg (fun e => H.out.row.ne_blk H.out.blk (by decide) e.symm)
      exact ⟨hd.cell 1, hd.frozen 1⟩)
    clear hw1 hf1 hbx c0 c1
    go_upto_region 3 with fail
    go_region_law ((first
      | (refine step_own_src _ rfl _ _ 73 73 rfl 65 (.agg #[.int .i64 0, .int .i64 0, .slice none 0 0]) 3 40 Try.info65 Try.underlying73 rfl (.slice RA ps.length rc) ps.length (pcCells ps) rfl (by exact ((H.out.row.touch (HF1.out.trans HF3.out fun _ _ => id) fun _ _ => id).alloc _)) (pcCells_one H.out.byt) (.slice (some ⟨w3.heap.size, 0, none⟩) 1 1) 1 [.int .i64 a, .int .i64 b, .slice B n c'] rfl (by exact pc_new w3 a b B n c') (by unfold maxLen; omega) (by omega) ?_; intro D c4 w4 o4 g4 b4; obtain ⟨r1, r2⟩ := KW.out w3 w4 _ HF3.out g4)
      | (go_simp; go_at_call 68; refine KC.out.mono ?_; rintro e w3 ⟨hf3, B, c', rfl, hr3, hn3⟩; have HF3 := Lib.hid (show Fresh w1 w3 from ((Touch.refl _ w1).drew).trans hf3 fun _ _ => id); obtain ⟨s1, s2, s3, s4⟩ := KF.out w3 HF3.out; have s5 : ∀ o, (w3.alloc o).cell? ⟨bn, 1, none⟩ = some (.slice RA ps.length rc) := fun o => (KF.out _ (HF3.out.alloc o)).1; have HR3 := Lib.hid hr3; have HN3 := Lib.hid hn3; clear hf3 hr3 hn3)))
    all_goals
      have HFIN := Lib.hid (send_fin (.returned (.bool true)) (by decide) (by decide) H.out (HF1.out.trans HF3.out fun _ _ => id) HR3.out (by have := HX.out.1; omega) (fun x hx => by have h1 : w1.heap.size ≤ x.block := HN3.out x hx; have h2 := HF1.out.size; omega) g4 o4 b4)
      clear p1 p2 p3 p4 s1 s2 s3 s4 s5 r1 r2 g4 o4 b4
      go_wp2_with fail
      go_ret
      have e : decide ((ps.length : Int) < most) = true := by have := HM.out; simp; omega
      rw [e]
      exact HFIN.out

theorem NT.mk_ {w : World} {t : TypeId} {bn : Nat} {most : Int} (h : Blk w bn t #[.int .i64 most, .slice none 0 0]) : NT w t bn most (.slice none 0 0) [] := ⟨h, Own.nil_ _ _ _, fun _ h => by cases h⟩
set_option maxRecDepth 20000 in
theorem newNetW_any (most : Int) (w : World) : Calls Try.prog 32 #[.int .i64 most] w fun e w' =>
    ∃ bn, e = .returned (.pointer (some ⟨bn, 0, none⟩)) ∧ Fresh w w' ∧ w.heap.size ≤ bn ∧ NT w' 110 bn most (.slice none 0 0) [] := by
  go_enter Try.func32, Try.ntmps32
  go_wp2_with fail
  go_ret
  exact ⟨w.heap.size, rfl, (Touch.refl _ w).alloc _, Nat.le_refl _, NT.mk_ (Blk.new _ _ _)⟩
set_option maxRecDepth 20000 in
theorem newNetR_any (most : Int) (w : World) : Calls Try.prog 33 #[.int .i64 most] w fun e w' =>
    ∃ bn, e = .returned (.pointer (some ⟨bn, 0, none⟩)) ∧ Fresh w w' ∧ w.heap.size ≤ bn ∧ NT w' 76 bn (if most < 0 then 0 else most) (.slice none 0 0) [] := by
  by_cases h : most < 0
  · rw [if_pos h]
    go_enter Try.func33, Try.ntmps33
    go_wp2_with fail
    go_ret
    exact ⟨w.heap.size, rfl, (Touch.refl _ w).alloc _, Nat.le_refl _, NT.mk_ (Blk.new _ _ _)⟩
  · rw [if_neg h]
    have h2 : decide (most < 0) = false := by simpa using h
    have H := Lib.hid h
    clear h
    go_enter Try.func33, Try.ntmps33
    go_wp2_with fail
    go_ret
    exact ⟨w.heap.size, rfl, (Touch.refl _ w).alloc _, Nat.le_refl _, NT.mk_ (Blk.new _ _ _)⟩
set_option maxRecDepth 20000 in
theorem lenW_any (bn : Nat) (most : Int) (rv : Value) (ps : List Pc) (w : World) (h : NT w 110 bn most rv ps) : Calls Try.prog 48 #[.pointer (some ⟨bn, 0, none⟩)] w fun e w' => e = .returned (.int .i64 ps.length) ∧ w' = w := by
  obtain ⟨RA, rc, rfl, hrc1, hrc2, hRA⟩ := h.row.form
  have c1 := h.blk.cell 1
  simp only [List.getElem?_toArray, List.getElem?_cons_zero, List.getElem?_cons_succ] at c1
  clear h hRA hrc1 hrc2
  go_enter Try.func48, Try.ntmps48
  go_wp2_with fail
  go_ret
  exact ⟨rfl, rfl⟩
end Go.Proofs.Ythmjnlkdoepmjaa
