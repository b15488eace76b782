/- The wal claims' texts, several in one: Bgn. Conditions stand with each theorem. -/
import Derived.Test.YtlcmnihpfpmajaaGreatZa23
import Derived.Test.YtlcmnihpfpmajaaGreatZa22
/- wal.Log.begun. Conditions stand with it. -/
namespace Go.Proofs.YtlcmnihpfpmajaaGreat
open Go.RowKit

def bgnV (file : Nat) : Option Hd → List Value
  | none => [.int .i64 0, .int .i64 0, .int .i64 0, .int .i64 0, .bool false, .int .i64 0, .int .i64 0, .int .i64 0]
  | some h => segC (h.seg file)
def isStr : Option TypeDesc → Bool
  | some (.struct _) => true
  | _ => false
theorem seg_desc : ∃ fs, Tryz.prog.underlying 91 = some (.struct fs) := by
  have h : isStr (Tryz.prog.underlying 91) = true := by kernel_rfl
  generalize Tryz.prog.underlying 91 = o at *
  cases o with
  | none => cases h
  | some d => cases d <;> first | exact ⟨_, rfl⟩ | cases h
theorem results_seg {fn : Func} (h : fn.results = #[.cell 4 91, .tmp 5]) (tmps : Array Value) (w : World) (g : Nat) (cs : Array Value)
    (hp : tmps.getD 4 undef = .pointer (some ⟨g, 0, none⟩)) (hg : Blk w g 91 cs) (hs : cs.size = 8) :
    (results fn tmps).run Tryz.prog w = .ok (.tuple #[.agg cs, tmps.getD 5 undef]) w := by
  obtain ⟨fs, hu⟩ := seg_desc
  have hi : (Tryz.prog.info? 91).map (·.size) = some cs.size := by rw [hs]; kernel_rfl
  rw [results_cell_tmp h, hp]
  have := run_loadVar_row (P := Tryz.prog) w g 91 91 cs (0, 0) _ hg hu rfl hi
  simp [asAddr, Result.andThen, this]
theorem seg_set {w : World} {g : Nat} {a0 a1 a2 a3 a4 a5 a6 a7 : Value} (h : Blk w g 91 #[a0, a1, a2, a3, a4, a5, a6, a7]) (b0 b1 b2 b3 b4 b5 b6 b7 : Value) :
    Blk ((((((((w.setCell ⟨g, 0, none⟩ b0).setCell ⟨g, 1, none⟩ b1).setCell ⟨g, 2, none⟩ b2).setCell ⟨g, 3, none⟩ b3).setCell ⟨g, 4, none⟩ b4).setCell ⟨g, 5, none⟩ b5).setCell ⟨g, 6, none⟩ b6).setCell ⟨g, 7, none⟩ b7) g 91 #[b0, b1, b2, b3, b4, b5, b6, b7] := by
  have := (((((((h.set_ 0 b0).set_ 1 b1).set_ 2 b2).set_ 3 b3).set_ 4 b4).set_ 5 b5).set_ 6 b6).set_ 7 b7
  simpa using this
theorem seg_touch {S : Nat → Prop} {W w : World} {g : Nat} (h : Touch S W w) (hg : W.heap.size ≤ g) (b0 b1 b2 b3 b4 b5 b6 b7 : Value) :
    Touch S W ((((((((w.setCell ⟨g, 0, none⟩ b0).setCell ⟨g, 1, none⟩ b1).setCell ⟨g, 2, none⟩ b2).setCell ⟨g, 3, none⟩ b3).setCell ⟨g, 4, none⟩ b4).setCell ⟨g, 5, none⟩ b5).setCell ⟨g, 6, none⟩ b6).setCell ⟨g, 7, none⟩ b7) :=
  (((((((h.setCell (.inl hg) b0).setCell (.inl hg) b1).setCell (.inl hg) b2).setCell (.inl hg) b3).setCell (.inl hg) b4).setCell (.inl hg) b5).setCell (.inl hg) b6).setCell (.inl hg) b7
section
variable {w : World} {bl bd : Nat} {R : Nat → Prop} {l : Lg} {sv rv : Value} {vs : List Value}
set_option maxRecDepth 20000 in
set_option maxHeartbeats 8000000 in
theorem begun_any {S : Nat → Prop} {d : Dk} {K : Nat} (h : LM w bl bd R l sv rv vs) (hD : Disk w S bd d) (hs : d.small K) (hK : K ≤ 400000000) (hok : Fl.ok d.fs) {n : Nat} (hn : n < 9223372036854775808) (hsane : Sane (keptB d.fs n)) (hlen : (keptB d.fs n).length ≤ 400000000) :
    Calls Tryz.prog 49 #[.pointer (some ⟨bl, 0, none⟩), .int .i64 (n : Int)] w fun e w' => Fresh w w' ∧ e = .returned (.tuple #[.agg (bgnV n (begunP (keptB d.fs n))).toArray, .bool (begunP (keptB d.fs n)).isSome]) := by
  have HK := Lib.hid (show ∀ W, Fresh w W → Calls Tryz.prog 66 #[.pointer (some ⟨bl, 0, none⟩), .int .i64 (n : Int)] W fun e w' => Fresh W w' ∧ ∃ A c, e = .returned (.slice A (keptB d.fs n).length c) ∧ Bs w' A (keptB d.fs n).length c (keptB d.fs n) ∧ (A = none ∨ ∃ g, A = some ⟨g, 0, none⟩) ∧ ∀ a, A = some a → W.heap.size ≤ a.block from fun W hW => lkept_any (h.touch hW fun _ _ => id) (hD.fresh hW) hs hK hok hn)
  clear h hD hs hok
  generalize keptB d.fs n = raw at *
  go_enter Tryz.func49, Tryz.ntmps49
  go_wp2_with fail
  refine (HK.out _ ((Touch.refl _ w).alloc _)).mono ?_
  rintro e w1 ⟨t1, A, c, rfl, hb1, hA1, hn1⟩
  have HZ := Lib.hid ((Blk.new w 91 #[.int .i64 0, .int .i64 0, .int .i64 0, .int .i64 0, .bool false, .int .i64 0, .int .i64 0, .int .i64 0]).touch t1 id)
  have HF1 := Lib.hid (((Touch.refl (fun _ => False) w).alloc _).trans t1 fun _ _ => id)
  have HB1 := Lib.hid hb1; have HN1 := Lib.hid hn1; have HA1 := Lib.hid hA1
  clear t1 hb1 hn1 hA1
  go_wp2_with fail
  have HN2 := Lib.hid (show Calls Tryz.prog 67 #[.pointer (some ⟨w1.heap.size, 0, none⟩)] (w1.alloc (.cells #[.slice A raw.length c, .int .i64 0] 119)) (NextEnd (w1.alloc (.cells #[.slice A raw.length c, .int .i64 0] 119)) w1.heap.size A raw.length c raw 0) from rnext_any (at_ := 0) (Blk.new _ _ _) (HB1.out.alloc _) (HA1.out.imp id fun ⟨g, e⟩ => ⟨g, 0, e⟩) (Nat.zero_le _) hlen)
  have HBA := Lib.hid (HB1.out.alloc (.cells #[.slice A raw.length c, .int .i64 0] 119))
  have HZA := Lib.hid (HZ.out.alloc (.cells #[.slice A raw.length c, .int .i64 0] 119))
  have HFA := Lib.hid (HF1.out.alloc (.cells #[.slice A raw.length c, .int .i64 0] 119))
  have hsz : w.heap.size < w1.heap.size := HZ.out.lt
  refine HN2.out.mono ?_
  intro e w2 hend
  unfold NextEnd at hend
  rw [List.drop_zero] at hend
  cases hu : Enc.unframe raw with
  | none =>
    rw [hu] at hend
    obtain ⟨rfl, t2⟩ := hend
    have HZ2 := HZA.out.touch t2 id
    have HU := Lib.hid (show begunP raw = none from begun_none hu)
    clear hu
    have HF2 := Lib.hid (HFA.out.trans t2 fun _ _ => id)
    clear t2
    have z0 := HZ2.cell 0
    have z1 := HZ2.cell 1
    have z2 := HZ2.cell 2
    have z3 := HZ2.cell 3
    have z4 := HZ2.cell 4
    have z5 := HZ2.cell 5
    have z6 := HZ2.cell 6
    have z7 := HZ2.cell 7
    have f0 := HZ2.frozen 0
    have f1 := HZ2.frozen 1
    have f2 := HZ2.frozen 2
    have f3 := HZ2.frozen 3
    have f4 := HZ2.frozen 4
    have f5 := HZ2.frozen 5
    have f6 := HZ2.frozen 6
    have f7 := HZ2.frozen 7
    simp only [List.getElem?_toArray, List.getElem?_cons_zero, List.getElem?_cons_succ] at z0 z1 z2 z3 z4 z5 z6 z7
    go_wp2_with fail
    try simp only [Exit.inBlock, Exit.then]
    refine bodyPost_ret (results_seg rfl _ _ _ _ rfl (seg_set HZ2 _ _ _ _ _ _ _ _) rfl) rfl ?_
    rw [HU.out]
    exact ⟨seg_touch HF2.out (Nat.le_refl _) _ _ _ _ _ _ _ _, rfl⟩
  | some q =>
    obtain ⟨p, k⟩ := q
    have hkl := Enc.unframe_le hu
    have HU := Lib.hid (show begunP raw = (if ¬ (p.length = 49 ∧ (p.headD 0 = 104 ∨ p.headD 0 = 119)) then none
      else if big6 p then some ⟨0, 0, 0, 0, false, 0⟩
      else if p.headD 0 = 119 ∧ (raw.length - k < num p 4 ∨ Enc.sum ((raw.drop k).take (num p 4)) ≠ num p 5 % 4294967296) then none
      else some ⟨num p 0, num p 1, num p 2, num p 3, decide (p.headD 0 = 119), k⟩) by unfold begunP; rw [hu])
    have hsn := hsane p k hu
    rw [hu] at hend
    obtain ⟨B, c2, rfl, t2, hr2, hb2, hn2⟩ := hend
    have HZ2 := HZA.out.touch t2 (by show w.heap.size ≠ w1.heap.size; omega)
    have HF2 := Lib.hid (show Fresh w w2 from HFA.out.trans t2 fun q hq e => by have e : q = w1.heap.size := e; omega)
    have HR2 := Lib.hid hr2; have HB2 := Lib.hid hb2; have HBA2 := Lib.hid (HBA.out.touch t2 (fun a ha h0 e => by
      have e : a.block = w1.heap.size := e
      have h1 := HBA.out.2.2.2 h0
      obtain ⟨b', o', e', hc⟩ := HB1.out.2.2.2 h0
      have h2 := HB1.out.1
      have h3 := World.block_lt_of_cell? w1 _ (hc 0 (raw[0]'(by omega)) (List.getElem?_eq_getElem _))
      rw [ha] at e'
      injection e' with e'
      rw [e'] at e
      exact absurd h3 (by show ¬ b' < w1.heap.size; have : b' = w1.heap.size := e; omega)))
    clear t2 hr2 hb2 hn2 hu hsane
    have z0 := HZ2.cell 0
    have z1 := HZ2.cell 1
    have z2 := HZ2.cell 2
    have z3 := HZ2.cell 3
    have z4 := HZ2.cell 4
    have z5 := HZ2.cell 5
    have z6 := HZ2.cell 6
    have z7 := HZ2.cell 7
    have f0 := HZ2.frozen 0
    have f1 := HZ2.frozen 1
    have f2 := HZ2.frozen 2
    have f3 := HZ2.frozen 3
    have f4 := HZ2.frozen 4
    have f5 := HZ2.frozen 5
    have f6 := HZ2.frozen 6
    have f7 := HZ2.frozen 7
    simp only [List.getElem?_toArray, List.getElem?_cons_zero, List.getElem?_cons_succ] at z0 z1 z2 z3 z4 z5 z6 z7
    by_cases h49 : p.length = 49
    · have HP := Lib.hid h49
      obtain ⟨b, o, rfl⟩ := HB2.out.at_ (by omega)
      have c0 : w2.cell? ⟨b, o, none⟩ = some (.int .u8 ((p.headD 0).toNat : Int)) := by
        have := HB2.out.cellAt (j := 0) (by omega)
        rwa [show p.getD 0 0 = p.headD 0 by cases p <;> rfl] at this
      rw [h49] at HB2 HU
      rw [h49]
      clear h49
      by_cases hx : p.headD 0 = 104 ∨ p.headD 0 = 119
      · have HBIG := Lib.hid (big6_not (hsn HP.out hx))
        have HB6 := Lib.hid (hsn HP.out hx)
        have HKN := Lib.hid (numbers_any (some ⟨b, o, none⟩) c2 6 p w2 HB2.out (by omega) (by omega) HBIG.out)
        clear hsn
        rcases hx with hx | hx
        · rw [hx] at c0 HU
          have c0 : w2.cell? ⟨b, o, none⟩ = some (.int .u8 104) := c0
          go_wp2_with fail
          refine HKN.out.mono ?_
          rintro e w3 ⟨t3, B6, c6, rfl, hi6, hn6⟩
          obtain ⟨b6, o6, rfl, hc6⟩ := hi6.2.2.2 (by omega)
          have g0 : w3.cell? ⟨b6, o6 + 0, none⟩ = some (.int .i64 (num p 0)) := hc6 0 _ rfl
          have g1 : w3.cell? ⟨b6, o6 + 1, none⟩ = some (.int .i64 (num p 1)) := hc6 1 _ rfl
          have g2 : w3.cell? ⟨b6, o6 + 2, none⟩ = some (.int .i64 (num p 2)) := hc6 2 _ rfl
          have g3 : w3.cell? ⟨b6, o6 + 3, none⟩ = some (.int .i64 (num p 3)) := hc6 3 _ rfl
          have g4 : w3.cell? ⟨b6, o6 + 4, none⟩ = some (.int .i64 (num p 4)) := hc6 4 _ rfl
          have g5 : w3.cell? ⟨b6, o6 + 5, none⟩ = some (.int .i64 (num p 5)) := hc6 5 _ rfl
          have g00 : w3.cell? ⟨b6, o6, none⟩ = some (.int .i64 (num p 0)) := g0
          have hq6 := hi6.2.1
          have c03 := t3.cell c0 id
          have HR3 := HR2.out.touch t3 id
          have r0 := HR3.cell 0
          have r1 := HR3.cell 1
          simp only [List.getElem?_toArray, List.getElem?_cons_zero, List.getElem?_cons_succ] at r0 r1
          have HZ3 := HZ2.touch t3 id
          have HF3 := Lib.hid (HF2.out.trans t3 fun _ _ => id)
          have HRR := Lib.hid HR3
          have HZZ := Lib.hid HZ3
          have ag1 : ∀ x, (w3.alloc x).cell? _ = _ := fun x => ((Touch.refl (fun _ => False) w3).alloc x).cell g1 id
          have ag2 : ∀ x, (w3.alloc x).cell? _ = _ := fun x => ((Touch.refl (fun _ => False) w3).alloc x).cell g2 id
          have ag3 : ∀ x, (w3.alloc x).cell? _ = _ := fun x => ((Touch.refl (fun _ => False) w3).alloc x).cell g3 id
          have ag00 : ∀ x, (w3.alloc x).cell? _ = _ := fun x => ((Touch.refl (fun _ => False) w3).alloc x).cell g00 id
          have ac03 : ∀ x, (w3.alloc x).cell? _ = _ := fun x => ((Touch.refl (fun _ => False) w3).alloc x).cell c03 id
          have ar1 : ∀ x, (w3.alloc x).cell? _ = _ := fun x => ((Touch.refl (fun _ => False) w3).alloc x).cell r1 id
          clear z0 z1 z2 z3 z4 z5 z6 z7 f0 f1 f2 f3 f4 f5 f6 f7 HZ2 HZ3 HR3 t3 hi6 hc6 hn6 c0
          go_wp2_with fail
          go_region_held (fun W => W.cell? ⟨b6, o6, none⟩ = some (.int .i64 (num p 0)) ∧ W.cell? ⟨b6, o6 + 1, none⟩ = some (.int .i64 (num p 1)) ∧ W.cell? ⟨b6, o6 + 2, none⟩ = some (.int .i64 (num p 2)) ∧ W.cell? ⟨b6, o6 + 3, none⟩ = some (.int .i64 (num p 3)) ∧ W.cell? ⟨b, o, none⟩ = some (.int .u8 104) ∧ W.cell? ⟨w1.heap.size, 1, none⟩ = some (.int .i64 ((0 + k : Nat) : Int)))
            (first | exact ⟨g00, g1, g2, g3, c03, r1⟩ | exact ⟨ag00 _, ag1 _, ag2 _, ag3 _, ac03 _, ar1 _⟩ | assumption)
            (first | fail)
          obtain ⟨w4, hw4⟩ : ∃ w4, w4 = (w3.alloc (.cells #[.int .i64 (num p 0 : Nat), .int .i64 (num p 1 : Nat), .int .i64 (num p 2 : Nat), .int .i64 (num p 3 : Nat), .bool false, .int .i64 n, .int .i64 k, .int .i64 (num p 3 : Nat)] 91)).drew := ⟨_, rfl⟩
          have HS4 : Blk w4 w3.heap.size 91 #[.int .i64 (num p 0 : Nat), .int .i64 (num p 1 : Nat), .int .i64 (num p 2 : Nat), .int .i64 (num p 3 : Nat), .bool false, .int .i64 n, .int .i64 k, .int .i64 (num p 3 : Nat)] := by rw [hw4]; exact (Blk.new _ _ _).drew
          have HZ4 : Blk w4 w.heap.size 91 #[.int .i64 0, .int .i64 0, .int .i64 0, .int .i64 0, .bool false, .int .i64 0, .int .i64 0, .int .i64 0] := by rw [hw4]; exact (HZZ.out.alloc _).drew
          have HF4 := Lib.hid (show Fresh w w4 from by rw [hw4]; exact (HF3.out.alloc _).drew)
          rw [← hw4]
          clear hw4 ag00 ag1 ag2 ag3 ac03 ar1 g00 g0 g1 g2 g3 g4 g5 c03 r0 r1
          have q0 := HS4.cell 0
          have q1 := HS4.cell 1
          have q2 := HS4.cell 2
          have q3 := HS4.cell 3
          have q4 := HS4.cell 4
          have q5 := HS4.cell 5
          have q6 := HS4.cell 6
          have q7 := HS4.cell 7
          have z0 := HZ4.cell 0
          have z1 := HZ4.cell 1
          have z2 := HZ4.cell 2
          have z3 := HZ4.cell 3
          have z4 := HZ4.cell 4
          have z5 := HZ4.cell 5
          have z6 := HZ4.cell 6
          have z7 := HZ4.cell 7
          have f0 := HZ4.frozen 0
          have f1 := HZ4.frozen 1
          have f2 := HZ4.frozen 2
          have f3 := HZ4.frozen 3
          have f4 := HZ4.frozen 4
          have f5 := HZ4.frozen 5
          have f6 := HZ4.frozen 6
          have f7 := HZ4.frozen 7
          simp only [List.getElem?_toArray, List.getElem?_cons_zero, List.getElem?_cons_succ] at q0 q1 q2 q3 q4 q5 q6 q7 z0 z1 z2 z3 z4 z5 z6 z7
          go_wp2_with fail
          go_region
          go_wp2_with fail
          try simp only [Exit.inBlock, Exit.then]
          refine bodyPost_ret (results_seg rfl _ _ _ _ rfl (seg_set HZ4 _ _ _ _ _ _ _ _).drew rfl) rfl ?_
          rw [HU.out, if_neg (by simp), HB6.out, if_neg (by simp), if_neg (by simp)]
          exact ⟨(seg_touch HF4.out (Nat.le_refl _) _ _ _ _ _ _ _ _).drew, rfl⟩
        · rw [hx] at c0 HU
          have c0 : w2.cell? ⟨b, o, none⟩ = some (.int .u8 119) := c0
          go_wp2_with fail
          refine HKN.out.mono ?_
          rintro e w3 ⟨t3, B6, c6, rfl, hi6, hn6⟩
          obtain ⟨b6, o6, rfl, hc6⟩ := hi6.2.2.2 (by omega)
          have g0 : w3.cell? ⟨b6, o6 + 0, none⟩ = some (.int .i64 (num p 0)) := hc6 0 _ rfl
          have g1 : w3.cell? ⟨b6, o6 + 1, none⟩ = some (.int .i64 (num p 1)) := hc6 1 _ rfl
          have g2 : w3.cell? ⟨b6, o6 + 2, none⟩ = some (.int .i64 (num p 2)) := hc6 2 _ rfl
          have g3 : w3.cell? ⟨b6, o6 + 3, none⟩ = some (.int .i64 (num p 3)) := hc6 3 _ rfl
          have g4 : w3.cell? ⟨b6, o6 + 4, none⟩ = some (.int .i64 (num p 4)) := hc6 4 _ rfl
          have g5 : w3.cell? ⟨b6, o6 + 5, none⟩ = some (.int .i64 (num p 5)) := hc6 5 _ rfl
          have g00 : w3.cell? ⟨b6, o6, none⟩ = some (.int .i64 (num p 0)) := g0
          have hq6 := hi6.2.1
          have c03 := t3.cell c0 id
          have HR3 := HR2.out.touch t3 id
          have r0 := HR3.cell 0
          have r1 := HR3.cell 1
          simp only [List.getElem?_toArray, List.getElem?_cons_zero, List.getElem?_cons_succ] at r0 r1
          have HZ3 := HZ2.touch t3 id
          have HF3 := Lib.hid (HF2.out.trans t3 fun _ _ => id)
          have HRR := Lib.hid HR3
          have HBA3 := Lib.hid (HBA2.out.fresh t3)
          have HZZ := Lib.hid HZ3
          have ag1 : ∀ x, (w3.alloc x).cell? _ = _ := fun x => ((Touch.refl (fun _ => False) w3).alloc x).cell g1 id
          have ag2 : ∀ x, (w3.alloc x).cell? _ = _ := fun x => ((Touch.refl (fun _ => False) w3).alloc x).cell g2 id
          have ag3 : ∀ x, (w3.alloc x).cell? _ = _ := fun x => ((Touch.refl (fun _ => False) w3).alloc x).cell g3 id
          have ag00 : ∀ x, (w3.alloc x).cell? _ = _ := fun x => ((Touch.refl (fun _ => False) w3).alloc x).cell g00 id
          have ac03 : ∀ x, (w3.alloc x).cell? _ = _ := fun x => ((Touch.refl (fun _ => False) w3).alloc x).cell c03 id
          have ar1 : ∀ x, (w3.alloc x).cell? _ = _ := fun x => ((Touch.refl (fun _ => False) w3).alloc x).cell r1 id
          clear z0 z1 z2 z3 z4 z5 z6 z7 f0 f1 f2 f3 f4 f5 f6 f7 HZ2 HZ3 HR3 t3 hi6 hc6 hn6 c0
          go_wp2_with fail
          go_region_held (fun W => W.cell? ⟨b6, o6, none⟩ = some (.int .i64 (num p 0)) ∧ W.cell? ⟨b6, o6 + 1, none⟩ = some (.int .i64 (num p 1)) ∧ W.cell? ⟨b6, o6 + 2, none⟩ = some (.int .i64 (num p 2)) ∧ W.cell? ⟨b6, o6 + 3, none⟩ = some (.int .i64 (num p 3)) ∧ W.cell? ⟨b, o, none⟩ = some (.int .u8 119) ∧ W.cell? ⟨w1.heap.size, 1, none⟩ = some (.int .i64 ((0 + k : Nat) : Int)))
            (first | exact ⟨g00, g1, g2, g3, c03, r1⟩ | exact ⟨ag00 _, ag1 _, ag2 _, ag3 _, ac03 _, ar1 _⟩ | assumption)
            (first | fail)
          obtain ⟨w4, hw4⟩ : ∃ w4, w4 = (w3.alloc (.cells #[.int .i64 (num p 0 : Nat), .int .i64 (num p 1 : Nat), .int .i64 (num p 2 : Nat), .int .i64 (num p 3 : Nat), .bool true, .int .i64 n, .int .i64 k, .int .i64 (num p 3 : Nat)] 91)).drew := ⟨_, rfl⟩
          have HS4 : Blk w4 w3.heap.size 91 #[.int .i64 (num p 0 : Nat), .int .i64 (num p 1 : Nat), .int .i64 (num p 2 : Nat), .int .i64 (num p 3 : Nat), .bool true, .int .i64 n, .int .i64 k, .int .i64 (num p 3 : Nat)] := by rw [hw4]; exact (Blk.new _ _ _).drew
          have HZ4 : Blk w4 w.heap.size 91 #[.int .i64 0, .int .i64 0, .int .i64 0, .int .i64 0, .bool false, .int .i64 0, .int .i64 0, .int .i64 0] := by rw [hw4]; exact (HZZ.out.alloc _).drew
          have HF4 := Lib.hid (show Fresh w w4 from by rw [hw4]; exact (HF3.out.alloc _).drew)
          rw [← hw4]
          have d4 : w4.cell? ⟨b6, o6 + 4, none⟩ = some (.int .i64 (num p 4)) := by rw [hw4]; exact ((Touch.refl (fun _ => False) w3).alloc _).cell g4 id
          have d5 : w4.cell? ⟨b6, o6 + 5, none⟩ = some (.int .i64 (num p 5)) := by rw [hw4]; exact ((Touch.refl (fun _ => False) w3).alloc _).cell g5 id
          have e0 : w4.cell? ⟨w1.heap.size, 0, none⟩ = some (.slice A raw.length c) := by rw [hw4]; exact ((Touch.refl (fun _ => False) w3).alloc _).cell r0 id
          have e1 : w4.cell? ⟨w1.heap.size, 1, none⟩ = some (.int .i64 ((0 + k : Nat) : Int)) := by rw [hw4]; exact ((Touch.refl (fun _ => False) w3).alloc _).cell r1 id
          rw [Nat.zero_add] at e1
          have HBA4 := Lib.hid (show Bs w4 A raw.length c raw from by rw [hw4]; exact HBA3.out.alloc _)
          clear hw4 ag00 ag1 ag2 ag3 ac03 ar1 g00 g0 g1 g2 g3 g4 g5 c03 r0 r1
          have q0 := HS4.cell 0
          have q1 := HS4.cell 1
          have q2 := HS4.cell 2
          have q3 := HS4.cell 3
          have q4 := HS4.cell 4
          have q5 := HS4.cell 5
          have q6 := HS4.cell 6
          have q7 := HS4.cell 7
          have z0 := HZ4.cell 0
          have z1 := HZ4.cell 1
          have z2 := HZ4.cell 2
          have z3 := HZ4.cell 3
          have z4 := HZ4.cell 4
          have z5 := HZ4.cell 5
          have z6 := HZ4.cell 6
          have z7 := HZ4.cell 7
          have f0 := HZ4.frozen 0
          have f1 := HZ4.frozen 1
          have f2 := HZ4.frozen 2
          have f3 := HZ4.frozen 3
          have f4 := HZ4.frozen 4
          have f5 := HZ4.frozen 5
          have f6 := HZ4.frozen 6
          have f7 := HZ4.frozen 7
          simp only [List.getElem?_toArray, List.getElem?_cons_zero, List.getElem?_cons_succ] at q0 q1 q2 q3 q4 q5 q6 q7 z0 z1 z2 z3 z4 z5 z6 z7
          go_wp2_with fail
          have hn4 := HBIG.out 4 (by omega)
          have hn5 := HBIG.out 5 (by omega)
          rw [if_neg (by simp), HB6.out, if_neg (by simp)] at HU
          generalize num p 4 = u at *
          generalize num p 5 = v at *
          have hwr : IntKind.i64.wrap ((raw.length : Int) - (k : Int)) = (raw.length : Int) - (k : Int) := IntWalk.i64_in _ (by omega)
          by_cases hlt : raw.length - k < u
          · rw [if_pos ⟨by trivial, .inl hlt⟩] at HU
            have hlt2 : (raw.length : Int) - (k : Int) < (u : Int) := by omega
            go_quiet (fail)
            go_wp2_with fail
            try simp only [Exit.inBlock, Exit.then]
            refine bodyPost_ret (results_seg rfl _ _ _ _ rfl (seg_set (HZ4.drewN _) _ _ _ _ _ _ _ _) rfl) rfl ?_
            rw [HU.out]
            exact ⟨seg_touch (HF4.out.drewN _) (Nat.le_refl _) _ _ _ _ _ _ _ _, rfl⟩
          · have hkc : k ≤ c := Nat.le_trans hkl.2 HBA4.out.2.1
            have hcm := HBA4.out.2.2.1
            have hrl := HBA4.out.1
            have hrc := HBA4.out.2.1
            unfold maxLen at hcm
            obtain ⟨gA, oA, rfl⟩ := HBA4.out.at_ (by omega)
            have hpl : ((raw.drop k).take (u)).length = u := by rw [List.length_take, List.length_drop]; omega
            obtain ⟨A8, hA8, h8b⟩ : ∃ A8, A8 = (if c = k then some ⟨gA, oA, none⟩ else some ⟨gA, oA + k, none⟩ : Option Addr) ∧ Bs w4 A8 (u) (c - k) ((raw.drop k).take (u)) := by
              refine ⟨_, rfl, ?_⟩
              by_cases hck : c = k
              · rw [if_pos hck]
                exact ⟨hpl, by omega, by unfold maxLen; omega, fun h => by omega⟩
              · rw [if_neg hck]
                exact (HBA4.out.drop_ (k := k) hkl.2).take (by omega)
            have HT1 := Lib.hid (show ∀ r, Calls Tryz.prog 65 #[.slice A8 (u) (c - k)] (w4.drewN r) fun e w' => e = .returned (.int .u32 (Enc.sum ((raw.drop k).take (u)) : Nat)) ∧ w' = w4.drewN r from fun r => (sum_any A8 (u) (c - k) _ (w4.drewN r) (h8b.drewN r)).mono fun e w' ⟨h1, h2⟩ => ⟨h2, h1⟩)
            have HA8 := Lib.hid hA8
            clear hA8 h8b
            have hlt2 : ¬ (raw.length : Int) - (k : Int) < (u : Int) := by omega
            have hwa : IntKind.i64.wrap ((k : Int) + (u : Int)) = (k : Int) + (u : Int) := IntWalk.i64_in _ (by omega)
            have htn : ((k : Int) + (u : Int)).toNat = k + u := by omega
            have hun : (k : Int) + (u : Int) ≤ (c : Int) := by omega
            have hkk : (k : Int) ≤ (k : Int) + (u : Int) := by omega
            have hsb : k + u - k = u := by omega
            have hwu : IntKind.u32.wrap (v : Int) = ((v % 4294967296 : Nat) : Int) := by rw [IntKind.wrap_u32']; omega
            by_cases hck : c = k
            · obtain rfl : A8 = some ⟨gA, oA, none⟩ := by rw [HA8.out, if_pos hck]
              subst hck
              rw [Nat.sub_self] at HT1
              clear HA8 hkc
              by_cases hse : Enc.sum ((raw.drop c).take u) = v % 4294967296
              · have hne : ((Enc.sum ((raw.drop c).take u) : Int) != ((v % 4294967296 : Nat) : Int)) = false := by rw [hse]; simp
                go_quiet ((first | (go_at_call 65; exact Calls.quiet_of_same (HT1.out _))))
                go_wp2_with fail
                try simp only [Exit.inBlock, Exit.then]
                refine bodyPost_ret (results_seg rfl _ _ _ _ rfl (seg_set (HZ4.drewN _) _ _ _ _ _ _ _ _) rfl) rfl ?_
                rw [HU.out, if_neg (fun ⟨_, h⟩ => h.elim hlt fun h => h hse)]
                exact ⟨seg_touch (HF4.out.drewN _) (Nat.le_refl _) _ _ _ _ _ _ _ _, rfl⟩
              · have hne : ((Enc.sum ((raw.drop c).take u) : Int) != ((v % 4294967296 : Nat) : Int)) = true := bne_iff_ne.2 (by omega)
                go_quiet ((first | (go_at_call 65; exact Calls.quiet_of_same (HT1.out _))))
                go_wp2_with fail
                try simp only [Exit.inBlock, Exit.then]
                refine bodyPost_ret (results_seg rfl _ _ _ _ rfl (seg_set (HZ4.drewN _) _ _ _ _ _ _ _ _) rfl) rfl ?_
                rw [HU.out, if_pos ⟨by trivial, .inr hse⟩]
                exact ⟨seg_touch (HF4.out.drewN _) (Nat.le_refl _) _ _ _ _ _ _ _ _, rfl⟩
            · obtain rfl : A8 = some ⟨gA, oA + k, none⟩ := by rw [HA8.out, if_neg hck]
              by_cases hse : Enc.sum ((raw.drop k).take u) = v % 4294967296
              · have hne : ((Enc.sum ((raw.drop k).take u) : Int) != ((v % 4294967296 : Nat) : Int)) = false := by rw [hse]; simp
                go_quiet ((first | (go_at_call 65; exact Calls.quiet_of_same (HT1.out _))))
                go_wp2_with fail
                try simp only [Exit.inBlock, Exit.then]
                refine bodyPost_ret (results_seg rfl _ _ _ _ rfl (seg_set (HZ4.drewN _) _ _ _ _ _ _ _ _) rfl) rfl ?_
                rw [HU.out, if_neg (fun ⟨_, h⟩ => h.elim hlt fun h => h hse)]
                exact ⟨seg_touch (HF4.out.drewN _) (Nat.le_refl _) _ _ _ _ _ _ _ _, rfl⟩
              · have hne : ((Enc.sum ((raw.drop k).take u) : Int) != ((v % 4294967296 : Nat) : Int)) = true := bne_iff_ne.2 (by omega)
                go_quiet ((first | (go_at_call 65; exact Calls.quiet_of_same (HT1.out _))))
                go_wp2_with fail
                try simp only [Exit.inBlock, Exit.then]
                refine bodyPost_ret (results_seg rfl _ _ _ _ rfl (seg_set (HZ4.drewN _) _ _ _ _ _ _ _ _) rfl) rfl ?_
                rw [HU.out, if_pos ⟨by trivial, .inr hse⟩]
                exact ⟨seg_touch (HF4.out.drewN _) (Nat.le_refl _) _ _ _ _ _ _ _ _, rfl⟩
      · have hx1 : ¬ p.headD 0 = 104 := fun e => hx (.inl e)
        have hx2 : ¬ p.headD 0 = 119 := fun e => hx (.inr e)
        have n1 : ¬ ((p.headD 0).toNat : Int) = 104 := fun e => hx1 (UInt8.toNat_inj.1 (by show (p.headD 0).toNat = 104; omega))
        have n2 : ¬ ((p.headD 0).toNat : Int) = 119 := fun e => hx2 (UInt8.toNat_inj.1 (by show (p.headD 0).toNat = 119; omega))
        rw [if_pos (fun h => hx h.2)] at HU
        have m1 : (((p.headD 0).toNat : Int) != 104) = true := bne_iff_ne.2 n1
        have m2 : (((p.headD 0).toNat : Int) != 119) = true := bne_iff_ne.2 n2
        generalize p.headD 0 = y at *
        go_wp2_with fail
        try simp only [Exit.inBlock, Exit.then]
        refine bodyPost_ret (results_seg rfl _ _ _ _ rfl (seg_set HZ2 _ _ _ _ _ _ _ _) rfl) rfl ?_
        rw [HU.out]
        exact ⟨seg_touch HF2.out (Nat.le_refl _) _ _ _ _ _ _ _ _, rfl⟩
    · have hi : ¬ (p.length : Int) = 49 := by omega
      go_wp2_with fail
      try simp only [Exit.inBlock, Exit.then]
      refine bodyPost_ret (results_seg rfl _ _ _ _ rfl (seg_set HZ2 _ _ _ _ _ _ _ _) rfl) rfl ?_
      rw [HU.out, if_pos (fun h => h49 h.1)]
      exact ⟨seg_touch HF2.out (Nat.le_refl _) _ _ _ _ _ _ _ _, rfl⟩
end
end Go.Proofs.YtlcmnihpfpmajaaGreat
