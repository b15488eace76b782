/- The wal claims' texts, several in one: Begin. Conditions stand with each theorem. -/
import Derived.Test.YtlcmnihpfpmajaaGreatZa05
import Derived.Outline
/- The contracts of begin, Fail and Stop. Conditions stand with each. -/
namespace Go.Proofs.YtlcmnihpfpmajaaGreat
open Go.RowKit

def BeginEnd (w : World) (bd bm : Nat) (fv : Value) (fs : List FR) (d : Dk) (file : Int) (e : Ending) (w' : World) : Prop :=
  e = .returned (.tuple #[.int .i64 d.kind, .int .i64 (d.why file)]) ∧ Touch (fun k => k = bd ∨ fv.ownBlock = some k) w w' ∧ ∃ fv', DK w' bd bm fv' fs d.next ∧ fv'.ownBlock = fv.ownBlock

theorem IMap.ne_blk {w : World} {b g : Nat} {es : List (Int × Nat)} {t : TypeId} {cs : Array Value} (h : IMap w b es) (hg : Blk w g t cs) : b ≠ g := by
  rintro rfl
  obtain ⟨es', clock, h1, _⟩ := h
  unfold Blk at hg
  rw [h1] at hg
  cases hg
theorem IMap.ne_own {w : World} {b : Nat} {es : List (Int × Nat)} {e : TypeId} {size n : Nat} {v : Value} {xs : List Value} (h : IMap w b es) (ho : Own w e size v n xs) : v.ownBlock ≠ some b := by
  rcases ho.2 with ⟨rfl, _⟩ | ⟨g, cap, cur, rfl, hg, _⟩
  · simp [Value.ownBlock]
  · intro he
    have : g = b := by simpa [Value.ownBlock] using he
    subst this
    obtain ⟨es', clock, h1, _⟩ := h
    rw [h1] at hg
    cases hg
theorem Own.ne_own {w : World} {e e' : TypeId} {size size' n n' : Nat} {v v' : Value} {xs xs' : List Value} (h : Own w e size v n xs) (h' : Own w e' size' v' n' xs') (hne : e ≠ e') : ∀ k, v.ownBlock = some k → v'.ownBlock ≠ some k := by
  intro k hk hk'
  rcases h.2 with ⟨rfl, _⟩ | ⟨g, cap, cur, rfl, hg, _⟩
  · cases hk
  · have : g = k := by simpa [Value.ownBlock] using hk
    subst this
    exact h'.ne_blk (t := e) (g := g) (cs := cur) hg (fun e => hne e.symm) hk'
theorem DK.rest {w w' : World} {bd bm : Nat} {fv : Value} {fs : List FR} {d : Dk} (h : DK w bd bm fv fs d) (hb : Touch (fun k => k = bd ∨ fv.ownBlock = some k) w w') : IMap w' bm (fs.map fun f => (f.n, f.g)) ∧ ∀ f ∈ fs, FileAt w' f := by
  refine ⟨h.map.heap (hb.block _ h.map.lt ?_), fun f hf => (h.file f hf).heap (hb.block _ (h.file f hf).blk.lt ?_) fun k hk => hb.block _ (Own.lt (h.file f hf).row k hk) ?_⟩
  · rintro (e | e)
    · exact h.map.ne_blk h.blk e
    · exact h.map.ne_own h.flt e
  · rintro (e | e)
    · exact (h.file f hf).blk.ne_ h.blk (by decide) e
    · exact h.flt.ne_blk (h.file f hf).blk (by decide) e
  · rintro (e | e)
    · exact Own.ne_blk (h.file f hf).row h.blk (by decide) (by rw [hk, e])
    · exact Own.ne_own h.flt (h.file f hf).row (by decide) k e hk

set_option maxRecDepth 20000 in
set_option maxHeartbeats 2000000 in
theorem begin_any (w : World) (bd bm : Nat) (fv : Value) (fs : List FR) (d : Dk) (file : Int) (h : DK w bd bm fv fs d) (ho : d.ops ≤ 4611686018427387904) (hl : d.faults.length ≤ 4611686018427387904) :
    Calls Tryz.prog 79 #[.pointer (some ⟨bd, 0, none⟩), .int .i64 file] w (BeginEnd w bd bm fv fs d file) := by
  obtain ⟨A, c, rfl, hle, hcm, hA⟩ := h.flt.form
  have c1 : ∀ o, (w.alloc o).cell? ⟨bd, 1, none⟩ = some (.int .i64 d.ops) := fun o => (h.blk.alloc o).cell 1
  have c1b : ∀ o p, ((w.alloc o).alloc p).cell? ⟨bd, 1, none⟩ = some (.int .i64 d.ops) := fun o p => ((h.blk.alloc o).alloc p).cell 1
  have f1 : ∀ o p i, ((w.alloc o).alloc p).frozen? ⟨bd, i, none⟩ = false := fun o p i => ((h.blk.alloc o).alloc p).frozen i
  have c2 : ∀ o p q v, ((((w.alloc o).alloc p).setCell ⟨bd, 1, none⟩ v).alloc q).cell? ⟨bd, 2, none⟩ = some (.slice A d.faults.length c) := fun o p q v => ((((h.blk.alloc o).alloc p).set_ 1 v).alloc q).cell 2
  have H := Lib.hid h
  clear h
  go_enter Tryz.func79, Tryz.ntmps79
  go_wp2_with fail
  obtain ⟨W1, hW1⟩ : ∃ W1, W1 = ((((w.alloc (.cells #[.int .i64 0] 3)).alloc (.cells #[.int .i64 d.ops] 3)).setCell ⟨bd, 1, none⟩ (.int .i64 (d.ops + 1))).alloc (.cells #[.bool false] 4)) := ⟨_, rfl⟩
  rw [← hW1]
  have hbdlt := H.out.blk.lt
  have hT1 : Touch (fun k => k = bd) w W1 := by rw [hW1]; exact (((((Touch.refl (fun k => k = bd) w).alloc _).alloc _).setCell (p := ⟨bd, 1, none⟩) (.inr rfl) _).alloc _)
  have hs1 : W1.heap.size = w.heap.size + 3 := by rw [hW1]; simp [World.setCell]
  have hB1 : Boxes W1 (w.heap.size + 1) (w.heap.size + 1 + 1) w.heap.size d.ops (false, 0) := by
    rw [hW1]
    refine ⟨?_, ?_, ?_, by omega⟩
    · have := Blk.new (w.alloc (.cells #[.int .i64 0] 3)) 3 #[.int .i64 d.ops]
      rw [alloc_size] at this
      exact (this.far (p := ⟨bd, 1, none⟩) (by show w.heap.size + 1 ≠ bd; omega) _).alloc _
    · have := Blk.new (((w.alloc (.cells #[.int .i64 0] 3)).alloc (.cells #[.int .i64 d.ops] 3)).setCell ⟨bd, 1, none⟩ (.int .i64 (d.ops + 1))) 4 #[.bool false]
      rw [show (((w.alloc (.cells #[.int .i64 0] 3)).alloc (.cells #[.int .i64 d.ops] 3)).setCell ⟨bd, 1, none⟩ (.int .i64 (d.ops + 1))).heap.size = w.heap.size + 1 + 1 by simp [World.setCell]] at this
      exact this
    · have := Blk.new w 3 #[.int .i64 0]
      exact (((this.alloc _).far (p := ⟨bd, 1, none⟩) (by show w.heap.size ≠ bd; omega) _).alloc _)
  have hD1 : Blk W1 bd 81 #[.map (some bm), .int .i64 (d.ops + 1), .slice A d.faults.length c, .bool d.stopped, .int .i64 d.stop] := by
    rw [hW1]
    exact (((H.out.blk.alloc _).alloc _).set_ 1 _).alloc _
  have hne : (Value.slice A d.faults.length c).ownBlock ≠ some bd := H.out.flt.ne_blk H.out.blk (by decide)
  have hO1 := H.out.flt.touch hT1 (fun k hk e => hne (by rw [hk, e]))
  have HT1 := Lib.hid hT1; have HD1 := Lib.hid hD1; have HNE := Lib.hid hne; have HOL := Lib.hid (fun k => H.out.flt.lt k)
  have HDF := Lib.hid (deleteFunc_any A c d.faults d.ops (w.heap.size + 1) (w.heap.size + 1 + 1) w.heap.size W1 hO1 hl hB1)
  clear hT1 hB1 hD1 hne hO1 hW1 c1 c1b f1 c2
  unfold delFn at HDF
  refine HDF.out.mono ?_
  rintro e w2 ⟨ht2, hb2, A2, c2, rfl, hO2, hown⟩
  have hD2 := HD1.out.touch ht2 (by
    rintro (h | h | h)
    · exact HNE.out h
    · omega
    · omega)
  obtain ⟨fl, hfl⟩ : ∃ fl, fl = (d.faults.filter fun f => decide (f.1 ≠ (d.ops : Int))) := ⟨_, rfl⟩
  rw [← hfl] at hO2 hown ⊢
  obtain ⟨W3, hW3⟩ : ∃ W3, W3 = w2.setCell ⟨bd, 2, none⟩ (.slice A2 fl.length c2) := ⟨_, rfl⟩
  have hD3 : Blk W3 bd 81 #[.map (some bm), .int .i64 (d.ops + 1), .slice A2 fl.length c2, .bool d.stopped, .int .i64 d.stop] := by rw [hW3]; exact hD2.set_ 2 _
  have hO3 := hO2.far (p := ⟨bd, 2, none⟩) (by rw [hown]; exact HNE.out) (.slice A2 fl.length c2)
  have hb3 : Boxes W3 (w.heap.size + 1) (w.heap.size + 1 + 1) w.heap.size d.ops (delSt d.ops d.faults) := by
    rw [hW3]
    exact ⟨hb2.1.far (p := ⟨bd, 2, none⟩) (by show _ ≠ bd; omega) _, hb2.2.1.far (p := ⟨bd, 2, none⟩) (by show _ ≠ bd; omega) _, hb2.2.2.1.far (p := ⟨bd, 2, none⟩) (by show _ ≠ bd; omega) _, hb2.2.2.2⟩
  rw [← hW3] at hO3
  have hT3 : Touch (fun k => k = bd ∨ (Value.slice A d.faults.length c).ownBlock = some k) w W3 := by
    rw [hW3]
    refine ((HT1.out.mono fun _ _ h => .inl h).trans ht2 (fun k hk hs => ?_)).setCell (p := ⟨bd, 2, none⟩) (.inr (.inl rfl)) _
    rcases hs with h | h | h
    · exact .inr h
    · omega
    · omega
  have k2 := hD2.cell 2
  have q2 := hD2.frozen 2
  have k3 := hD3.cell 3
  have k4 := hD3.cell 4
  have kat := hb3.1.cell 0
  have kst := hb3.2.1.cell 0
  have kkd := hb3.2.2.1.cell 0
  have qkd := hb3.2.2.1.frozen 0
  simp only [List.getElem?_toArray, List.getElem?_cons_zero, List.getElem?_cons_succ] at k2 k3 k4 kat kst kkd
  have HW3 := Lib.hid hW3; have HT3 := Lib.hid hT3; have HO3 := Lib.hid hO3; have HD3 := Lib.hid hD3; have HFL := Lib.hid hfl; have HB3 := Lib.hid hb3; have HOWN := Lib.hid hown
  rw [hW3] at k3 k4 kat kst kkd qkd
  clear hO3 hD3 hT3 hb3 hO2 hb2 ht2 hD2 hfl hown HDF hW3
  have hfin : ∀ (nq : Nat) (v : Value), Touch (fun k => k = bd ∨ (Value.slice A d.faults.length c).ownBlock = some k) w (((w2.setCell ⟨bd, 2, none⟩ (.slice A2 fl.length c2)).drewN nq).setCell ⟨w.heap.size, 0, none⟩ v) ∧
      ∃ fv', DK (((w2.setCell ⟨bd, 2, none⟩ (.slice A2 fl.length c2)).drewN nq).setCell ⟨w.heap.size, 0, none⟩ v) bd bm fv' fs d.next ∧ fv'.ownBlock = (Value.slice A d.faults.length c).ownBlock := by
    intro nq v
    rw [← HW3.out]
    have ht : Touch (fun k => k = bd ∨ (Value.slice A d.faults.length c).ownBlock = some k) w ((W3.drewN nq).setCell ⟨w.heap.size, 0, none⟩ v) := (HT3.out.drewN nq).setCell (p := ⟨w.heap.size, 0, none⟩) (.inl (Nat.le_refl _)) _
    obtain ⟨r1, r2⟩ := H.out.rest ht
    refine ⟨ht, .slice A2 fl.length c2, ⟨H.out.fls, ?_, r1, ?_, r2, H.out.apart⟩, HOWN.out⟩
    · exact (HD3.out.drewN nq).far (p := ⟨w.heap.size, 0, none⟩) (by show bd ≠ w.heap.size; omega) _
    · show Own _ _ 2 (.slice A2 fl.length c2) (d.faults.filter fun f => decide (f.1 ≠ (d.ops : Int))).length (fltCells (d.faults.filter fun f => decide (f.1 ≠ (d.ops : Int))))
      rw [← HFL.out]
      exact (HO3.out.drewN nq).far (p := ⟨w.heap.size, 0, none⟩) (by
        rw [HOWN.out]
        intro e
        have := HOL.out _ e
        exact Nat.lt_irrefl _ this) _
  have FIN := Lib.hid hfin
  have hkd : ∀ (nq : Nat) (v : Value), Blk (((w2.setCell ⟨bd, 2, none⟩ (.slice A2 fl.length c2)).drewN nq).setCell ⟨w.heap.size, 0, none⟩ v) w.heap.size 3 #[v] := by
    intro nq v
    rw [← HW3.out]
    exact (HB3.out.2.2.1.drewN nq).set_ 0 v
  have HKD := Lib.hid hkd
  have hdead : d.dead = (d.stopped && decide (d.stop ≤ (d.ops : Int))) := rfl
  have hdel : delSt d.ops d.faults = match d.hit with | some f => (true, f.2) | none => (false, 0) := rfl
  generalize hst : d.stopped = st at k3
  rw [hst] at hdead
  clear hfin hkd hst
  cases st with
  | true =>
    by_cases hge : d.stop ≤ (d.ops : Int)
    · have hgd : decide (d.stop ≤ (d.ops : Int)) = true := by simpa using hge
      rw [hgd] at hdead
      have HDEAD := Lib.hid hdead
      clear hge hdead hdel
      go_wp2_with fail
      go_quiet (fail)
      go_wp2_with fail
      · have e1 : d.kind = 0 := by unfold Dk.kind; rw [HDEAD.out]; rfl
        have e2 : d.why file = 4 := by unfold Dk.why; rw [HDEAD.out]; rfl
        obtain ⟨g1, g2⟩ := FIN.out nq (.int .i64 (0))
        refine bodyPost_ret (v := .tuple #[.int .i64 (0), .int .i64 4]) ?_ rfl ⟨by rw [e1, e2], g1, g2⟩
        have hcell : ((((w2.setCell ⟨bd, 2, none⟩ (Value.slice A2 fl.length c2)).drewN nq).setCell ⟨w.heap.size, 0, none⟩ (.int .i64 (0))).cell? ⟨w.heap.size, 0, none⟩) = some (.int .i64 (0)) := (HKD.out nq _).cell 0
        simp [results, Tryz.results79, go_sem, hcell]
    · have hgd : decide (d.stop ≤ (d.ops : Int)) = false := by simpa using hge
      rw [hgd] at hdead
      have HDEAD := Lib.hid hdead
      clear hge hdead
      cases hh : d.hit with
      | some f =>
        rw [hh] at hdel
        rw [hdel] at kst kkd
        simp only at kst kkd
        have HH := Lib.hid hh
        clear hdel hh
        go_wp2_with fail
        go_quiet (fail)
        go_wp2_with fail
        have e1 : d.kind = f.2 := by unfold Dk.kind; rw [HDEAD.out, HH.out]; rfl
        have e2 : d.why file = 3 := by unfold Dk.why; rw [HDEAD.out, HH.out]; rfl
        obtain ⟨g1, g2⟩ := FIN.out nq (.int .i64 (f.2))
        refine bodyPost_ret (v := .tuple #[.int .i64 (f.2), .int .i64 3]) ?_ rfl ⟨by rw [e1, e2], g1, g2⟩
        have hcell : ((((w2.setCell ⟨bd, 2, none⟩ (Value.slice A2 fl.length c2)).drewN nq).setCell ⟨w.heap.size, 0, none⟩ (.int .i64 (f.2))).cell? ⟨w.heap.size, 0, none⟩) = some (.int .i64 (f.2)) := (HKD.out nq _).cell 0
        simp [results, Tryz.results79, go_sem, hcell]
      | none =>
        rw [hh] at hdel
        rw [hdel] at kst kkd
        simp only at kst kkd
        have HH := Lib.hid hh
        clear hdel hh
        by_cases hf : file < 0
        · go_wp2_with fail
          go_quiet (fail)
          go_wp2_with fail
          have e1 : d.kind = 0 := by unfold Dk.kind; rw [HDEAD.out, HH.out]; rfl
          have e2 : d.why file = 1 := by unfold Dk.why; rw [HDEAD.out, HH.out]; exact if_pos hf
          obtain ⟨g1, g2⟩ := FIN.out nq (.int .i64 (0))
          refine bodyPost_ret (v := .tuple #[.int .i64 (0), .int .i64 1]) ?_ rfl ⟨by rw [e1, e2], g1, g2⟩
          have hcell : ((((w2.setCell ⟨bd, 2, none⟩ (Value.slice A2 fl.length c2)).drewN nq).setCell ⟨w.heap.size, 0, none⟩ (.int .i64 (0))).cell? ⟨w.heap.size, 0, none⟩) = some (.int .i64 (0)) := (HKD.out nq _).cell 0
          simp [results, Tryz.results79, go_sem, hcell]
        · go_wp2_with fail
          go_quiet (fail)
          go_wp2_with fail
          have e1 : d.kind = 0 := by unfold Dk.kind; rw [HDEAD.out, HH.out]; rfl
          have e2 : d.why file = 0 := by unfold Dk.why; rw [HDEAD.out, HH.out]; exact if_neg (show ¬ file < 0 by omega)
          obtain ⟨g1, g2⟩ := FIN.out nq (.int .i64 (0))
          refine bodyPost_ret (v := .tuple #[.int .i64 (0), .int .i64 0]) ?_ rfl ⟨by rw [e1, e2], g1, g2⟩
          have hcell : ((((w2.setCell ⟨bd, 2, none⟩ (Value.slice A2 fl.length c2)).drewN nq).setCell ⟨w.heap.size, 0, none⟩ (.int .i64 (0))).cell? ⟨w.heap.size, 0, none⟩) = some (.int .i64 (0)) := (HKD.out nq _).cell 0
          simp [results, Tryz.results79, go_sem, hcell]
  | false =>
    have HDEAD := Lib.hid hdead
    clear hdead
    cases hh : d.hit with
    | some f =>
      rw [hh] at hdel
      rw [hdel] at kst kkd
      simp only at kst kkd
      have HH := Lib.hid hh
      clear hdel hh
      go_wp2_with fail
      go_quiet (fail)
      go_wp2_with fail
      have e1 : d.kind = f.2 := by unfold Dk.kind; rw [HDEAD.out, HH.out]; rfl
      have e2 : d.why file = 3 := by unfold Dk.why; rw [HDEAD.out, HH.out]; rfl
      obtain ⟨g1, g2⟩ := FIN.out nq (.int .i64 (f.2))
      refine bodyPost_ret (v := .tuple #[.int .i64 (f.2), .int .i64 3]) ?_ rfl ⟨by rw [e1, e2], g1, g2⟩
      have hcell : ((((w2.setCell ⟨bd, 2, none⟩ (Value.slice A2 fl.length c2)).drewN nq).setCell ⟨w.heap.size, 0, none⟩ (.int .i64 (f.2))).cell? ⟨w.heap.size, 0, none⟩) = some (.int .i64 (f.2)) := (HKD.out nq _).cell 0
      simp [results, Tryz.results79, go_sem, hcell]
    | none =>
      rw [hh] at hdel
      rw [hdel] at kst kkd
      simp only at kst kkd
      have HH := Lib.hid hh
      clear hdel hh
      by_cases hf : file < 0
      · go_wp2_with fail
        go_quiet (fail)
        go_wp2_with fail
        have e1 : d.kind = 0 := by unfold Dk.kind; rw [HDEAD.out, HH.out]; rfl
        have e2 : d.why file = 1 := by unfold Dk.why; rw [HDEAD.out, HH.out]; exact if_pos hf
        obtain ⟨g1, g2⟩ := FIN.out nq (.int .i64 (0))
        refine bodyPost_ret (v := .tuple #[.int .i64 (0), .int .i64 1]) ?_ rfl ⟨by rw [e1, e2], g1, g2⟩
        have hcell : ((((w2.setCell ⟨bd, 2, none⟩ (Value.slice A2 fl.length c2)).drewN nq).setCell ⟨w.heap.size, 0, none⟩ (.int .i64 (0))).cell? ⟨w.heap.size, 0, none⟩) = some (.int .i64 (0)) := (HKD.out nq _).cell 0
        simp [results, Tryz.results79, go_sem, hcell]
      · go_wp2_with fail
        go_quiet (fail)
        go_wp2_with fail
        have e1 : d.kind = 0 := by unfold Dk.kind; rw [HDEAD.out, HH.out]; rfl
        have e2 : d.why file = 0 := by unfold Dk.why; rw [HDEAD.out, HH.out]; exact if_neg (show ¬ file < 0 by omega)
        obtain ⟨g1, g2⟩ := FIN.out nq (.int .i64 (0))
        refine bodyPost_ret (v := .tuple #[.int .i64 (0), .int .i64 0]) ?_ rfl ⟨by rw [e1, e2], g1, g2⟩
        have hcell : ((((w2.setCell ⟨bd, 2, none⟩ (Value.slice A2 fl.length c2)).drewN nq).setCell ⟨w.heap.size, 0, none⟩ (.int .i64 (0))).cell? ⟨w.heap.size, 0, none⟩) = some (.int .i64 (0)) := (HKD.out nq _).cell 0
        simp [results, Tryz.results79, go_sem, hcell]
end Go.Proofs.YtlcmnihpfpmajaaGreat
