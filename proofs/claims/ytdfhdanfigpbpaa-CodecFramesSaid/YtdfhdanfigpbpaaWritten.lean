/- The contract of 'written': what a writing of a pen gives, its stop caught. -/
import Derived.Test.YtdfhdanfigpbpaaPen2
import Derived.Recover
namespace Go.Proofs.Ytdfhdanfigpbpaa
open Go.RowKit

set_option maxHeartbeats 1000000 in
theorem catch_idle (p q : Addr) (w : World) :
    CallsD Try.prog 103 #[.pointer (some p), .pointer (some q)] .returning w fun e u' w' => e = .returned (.tuple #[]) ∧ u' = .returning ∧ w' = w := by
  refine callsD_of_wpS Try.func103 rfl fun c₀ cs hu => ?_
  apply wpS_seq
  apply wpS_region
  simp [wpOpsS, go_sem, recoverD, hu, Try.ntmps103, Exit.thenS]
  refine wpS_of_wp ?_
  have heq : ∀ w, (binOp .eql 20 .nilIface .nilIface).run Try.prog w = .ok (.bool true) w := fun _ => by kernel_rfl
  go_wp2
  cases c₀
  simp_all [bodyPostS, results, Try.results103]

set_option maxRecDepth 20000 in
set_option maxHeartbeats 1000000 in
theorem catch_stop (pb qb : Nat) (v : Value) (n : Int) (older : List PanicEntry) (w : World) (hp : Blk w pb 24 #[v]) (hq : Blk w qb 26 #[.int .i64 n]) :
    CallsD Try.prog 103 #[.pointer (some ⟨pb, 0, none⟩), .pointer (some ⟨qb, 0, none⟩)] (.panicking (stop0 :: older)) w fun e u' w' =>
      e = .returned (.tuple #[]) ∧ u' = .panicking ({ stop0 with recovered := true } :: older) ∧ Touch (fun k => k = pb ∨ k = qb) w w' ∧ Blk w' pb 24 #[.slice none 0 0] ∧ Blk w' qb 26 #[.int .i64 2] := by
  have hne : pb ≠ qb := hp.ne_ hq (by decide)
  have hc1 : ∀ o, (w.alloc o).cell? ⟨pb, 0, none⟩ = some v := fun o => (hp.alloc o).cell 0
  have hf1 : ∀ o, (w.alloc o).frozen? ⟨pb, 0, none⟩ = false := fun o => (hp.alloc o).frozen 0
  have hc2 : ∀ o, (w.alloc o).cell? ⟨qb, 0, none⟩ = some (.int .i64 n) := fun o => (hq.alloc o).cell 0
  have hf2 : ∀ o, (w.alloc o).frozen? ⟨qb, 0, none⟩ = false := fun o => (hq.alloc o).frozen 0
  refine callsD_of_wpS Try.func103 rfl fun c₀ cs hu => ?_
  apply wpS_seq
  apply wpS_region
  simp [wpOpsS, go_sem, recoverD, hu, Try.ntmps103, Exit.thenS, stop0]
  refine wpS_of_wp ?_
  have heq : ∀ w, (binOp .eql 20 (.iface 118 (.agg #[.int .i64 0])) .nilIface).run Try.prog w = .ok (.bool false) w := fun _ => by kernel_rfl
  have hta : ∀ w, (Instr.typeAssert (.iface 118 (.agg #[.int .i64 0])) 20 118 true).run Try.prog w = .ok (.tuple #[.agg #[.int .i64 0], .bool true]) w := fun _ => by kernel_rfl
  have HP := Lib.hid hp; clear hp
  have HQ := Lib.hid hq; clear hq
  go_wp2
  have HW : Touch (fun k => k = pb ∨ k = qb) w (((w.alloc (Obj.cells #[Value.int IntKind.i64 0] 118)).setCell { block := pb, off := 0 } (Value.slice none 0 0)).setCell { block := qb, off := 0 } (Value.int IntKind.i64 2)) ∧
      Blk (((w.alloc (Obj.cells #[Value.int IntKind.i64 0] 118)).setCell { block := pb, off := 0 } (Value.slice none 0 0)).setCell { block := qb, off := 0 } (Value.int IntKind.i64 2)) pb 24 #[.slice none 0 0] ∧
      Blk (((w.alloc (Obj.cells #[Value.int IntKind.i64 0] 118)).setCell { block := pb, off := 0 } (Value.slice none 0 0)).setCell { block := qb, off := 0 } (Value.int IntKind.i64 2)) qb 26 #[.int .i64 2] :=
    ⟨(((Touch.refl _ w).alloc _).setCell (p := ⟨pb, 0, none⟩) (.inr (.inl rfl)) _).setCell (p := ⟨qb, 0, none⟩) (.inr (.inr rfl)) _,
      ((HP.out.alloc _).set_ 0 _).far (p := ⟨qb, 0, none⟩) hne _, ((HQ.out.alloc _).far (p := ⟨pb, 0, none⟩) hne.symm _).set_ 0 _⟩
  clear hc1 hf1 hc2 hf2
  generalize (((w.alloc (Obj.cells #[Value.int IntKind.i64 0] 118)).setCell { block := pb, off := 0 } (Value.slice none 0 0)).setCell { block := qb, off := 0 } (Value.int IntKind.i64 2)) = W at *
  exact ⟨rfl, _, rfl, _, results_none rfl _ _ _, rfl, rfl, HW⟩

/-- What an encoding gives: bytes in a new row, or nothing and ErrForm. -/
def EncEnd (w : World) (r : Enc.Enc) (e : Ending) (w' : World) : Prop :=
  match r with
  | some ys => ∃ A c, e = .returned (.tuple #[.slice A ys.length c, .int .i64 0]) ∧ Row w' (.slice A ys.length c) ys ∧ (∀ k, (Value.slice A ys.length c).ownBlock = some k → w.heap.size ≤ k) ∧ Fresh w w'
  | none => e = .returned (.tuple #[.slice none 0 0, .int .i64 2]) ∧ Fresh w w'

set_option maxRecDepth 20000 in
set_option maxHeartbeats 1000000 in
theorem written_any (fid : Nat) (caps : Array Value) (r : Enc.Enc) (w : World) (hent : ∀ (args : Array Value) (w : World), (callFunc fid args).run Try.prog w = .ok (.enter fid args) w)
    (hf : ∀ w1 bp, Fresh w w1 → w.heap.size < bp → Pen w1 bp (.slice none 0 0) [] → Calls Try.prog fid (#[.pointer (some ⟨bp, 0, none⟩)] ++ caps) w1 (PenEnd bp (.slice none 0 0) [] w1 r)) :
    Calls Try.prog 53 #[.func (.func fid) #[] caps] w (EncEnd w r) := by
  have hmf : ∀ (fn : Fn) (first cap : Array Value) (w : World), (Instr.makeFunc fn first cap).run Try.prog w = .ok (.func fn first cap) w := fun _ _ _ _ => rfl
  have HF := Lib.hid hf; clear hf
  go_enter_defers Try.func53, Try.ntmps53
  go_wp2_with fail
  have hfr : Fresh w (((w.alloc (Obj.cells #[Value.slice none 0 0] 24)).alloc (Obj.cells #[Value.int IntKind.i64 0] 26)).alloc (Obj.cells #[Value.slice none 0 0] 116)) := (((Touch.refl _ w).alloc _).alloc _).alloc _
  have hB1 := ((Blk.new w 24 #[Value.slice none 0 0]).alloc (Obj.cells #[Value.int IntKind.i64 0] 26)).alloc (Obj.cells #[Value.slice none 0 0] 116)
  have hB2 := (Blk.new (w.alloc (Obj.cells #[Value.slice none 0 0] 24)) 26 #[Value.int IntKind.i64 0]).alloc (Obj.cells #[Value.slice none 0 0] 116)
  have hB3 := Blk.new ((w.alloc (Obj.cells #[Value.slice none 0 0] 24)).alloc (Obj.cells #[Value.int IntKind.i64 0] 26)) 116 #[Value.slice none 0 0]
  simp only [World.size_alloc] at hB1 hB2 hB3
  have hsz : w.heap.size + 1 + 1 + 1 = (((w.alloc (Obj.cells #[Value.slice none 0 0] 24)).alloc (Obj.cells #[Value.int IntKind.i64 0] 26)).alloc (Obj.cells #[Value.slice none 0 0] 116)).heap.size := by simp
  generalize (((w.alloc (Obj.cells #[Value.slice none 0 0] 24)).alloc (Obj.cells #[Value.int IntKind.i64 0] 26)).alloc (Obj.cells #[Value.slice none 0 0] 116)) = w1 at *
  refine (HF.out w1 (w.heap.size + 1 + 1) hfr (by omega) ⟨hB3, Row.nil_ _⟩).mono ?_
  have hnS : ∀ k, k < w.heap.size + 1 + 1 → ¬ PenS (w.heap.size + 1 + 1) (.slice none 0 0) k := by
    intro k hk hs
    rcases hs with hs | hs
    · omega
    · simp [Value.ownBlock] at hs
  intro e w2 h
  rcases h.cases with ⟨hr, rfl, ht⟩ | ⟨ys, v1, hr, rfl, hp1, hg1⟩
  · have hB1' := hB1.touch ht (hnS _ (by omega))
    have hB2' := hB2.touch ht (hnS _ (by omega))
    refine leaves_cons (f := 103) (args := #[.pointer (some ⟨w.heap.size, 0, none⟩), .pointer (some ⟨w.heap.size + 1, 0, none⟩)]) (by simp) (by simp [go_sem]) ?_
    refine (catch_stop (w.heap.size) (w.heap.size + 1) (.slice none 0 0) 0 [] w2 hB1' hB2').mono ?_
    rintro e u' w3 ⟨rfl, rfl, ht3, hb1, hb2⟩
    have hc1 := hb1.cell 0
    have hc2 := hb2.cell 0
    have hfin : Fresh w w3 := (hfr.trans ht (fun i hi hs => hnS i (by omega) hs)).trans ht3 (fun i hi hs => by rcases hs with hs | hs <;> omega)
    have HFIN : EncEnd w r (.returned (.tuple #[.slice none 0 0, .int .i64 2])) w3 := by rw [hr]; exact ⟨rfl, hfin⟩
    simp only [List.getElem?_toArray, List.getElem?_cons_zero] at hc1 hc2
    simpa [Leaves, settle, results, Try.results53, go_sem, hc1, hc2] using HFIN
  · have hB1' := hB1.touch hg1.touch (hnS _ (by omega))
    have hB2' := hB2.touch hg1.touch (hnS _ (by omega))
    have hsz2 := hg1.touch.size
    have hfin : Fresh w w2 := hfr.trans hg1.touch (fun i hi hs => hnS i (by omega) hs)
    have hnew : ∀ k, v1.ownBlock = some k → w.heap.size + 1 + 1 + 1 ≤ k := by
      intro k hk
      rcases hg1.own with e | e
      · rw [e] at hk; simp [Value.ownBlock] at hk
      · have := e k hk; omega
    obtain ⟨A, c, rfl, _⟩ := hp1.2.form
    have hfin2 : ∀ u, Fresh w ((w2.setCell ⟨w.heap.size, 0, none⟩ (.slice A ([] ++ ys).length c)).setCell ⟨w.heap.size + 1, 0, none⟩ u) := fun u => (hfin.setCell (p := ⟨w.heap.size, 0, none⟩) (.inl (Nat.le_refl _)) _).setCell (p := ⟨w.heap.size + 1, 0, none⟩) (.inl (by simp)) _
    have hrow2 : ∀ u, Row ((w2.setCell ⟨w.heap.size, 0, none⟩ (.slice A ([] ++ ys).length c)).setCell ⟨w.heap.size + 1, 0, none⟩ u) (.slice A ([] ++ ys).length c) ys := fun u =>
      (hp1.2.far (p := ⟨w.heap.size, 0, none⟩) (fun e => by have := hnew _ e; simp at this; omega) _).far (p := ⟨w.heap.size + 1, 0, none⟩) (fun e => by have := hnew _ e; simp at this; omega) _
    have HR := Lib.hid hr
    have HFIN := Lib.hid hfin2
    have HROW := Lib.hid hrow2
    have HNEW := Lib.hid hnew
    have hc1 := hB1'.cell 0
    have hc2 := hB2'.cell 0
    have hc3 := hp1.1.cell 0
    have hf1 := hB1'.frozen 0
    have hf2 := hB2'.frozen 0
    simp only [List.getElem?_toArray, List.getElem?_cons_zero] at hc1 hc2 hc3
    clear hr h hfin2 hrow2 hnew hB1 hB2 hB3 hfr hfin hg1 hp1 hB1' hB2' hnS hmf hent
    go_wp2_with fail
    refine leaves_cons (f := 103) (args := #[.pointer (some ⟨w.heap.size, 0, none⟩), .pointer (some ⟨w.heap.size + 1, 0, none⟩)]) (by simp) (by simp [go_sem]) ?_
    refine (catch_idle _ _ _).mono ?_
    rintro e u' w3 ⟨rfl, rfl, rfl⟩
    have HEND : EncEnd w r (.returned (.tuple #[.slice A ys.length c, .int .i64 0])) ((w2.setCell ⟨w.heap.size, 0, none⟩ (.slice A ys.length c)).setCell ⟨w.heap.size + 1, 0, none⟩ (.int .i64 0)) := by
      rw [HR.out]
      exact ⟨A, c, rfl, HROW.out _, fun k hk => by have := HNEW.out k hk; omega, HFIN.out _⟩
    simpa [Leaves, settle, results, Try.results53, go_sem, hc1, hc2] using HEND
end Go.Proofs.Ytdfhdanfigpbpaa
