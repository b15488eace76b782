/- Look of the program's net: a range over All that may stop early. Conditions stand with it. -/
import Derived.Test.YthmjnlkdoepmjaaFrmN
namespace Go.Proofs.Ythmjnlkdoepmjaa
open Go.RowKit
attribute [local go_sem] Oper.semAt_some

/-- what Look and Take answer -/
def LookFin (w : World) (r : Option (Int × Int × List UInt8)) (e : Ending) (w' : World) : Prop :=
  ∃ p : Pc, e = .returned (.tuple #[.agg #[.int .i64 p.a, .int .i64 p.b, p.v], .bool r.isSome]) ∧ PcV w' p ∧ (∀ k, p.v.ownBlock = some k → w.heap.size ≤ k) ∧ p.pl = r.getD (0, 0, [])
/-- the parcel at place i -/
def at_ (qs : List (Int × Int × List UInt8)) (i : Int) : Option (Int × Int × List UInt8) := if i < 0 then none else qs[i.toNat]?
theorem at_pos {qs : List (Int × Int × List UInt8)} {m : Nat} : at_ qs (m : Int) = qs[m]? := by
  unfold at_
  rw [if_neg (by omega)]
  rfl
theorem at_none {qs : List (Int × Int × List UInt8)} {i : Int} (h : ∀ j : Nat, j < qs.length → (j : Int) ≠ i) : at_ qs i = none := by
  unfold at_
  by_cases hi : i < 0
  · rw [if_pos hi]
  · rw [if_neg hi]
    refine List.getElem?_eq_none ?_
    have := h i.toNat
    omega
theorem Below.fresh {w w' : World} (h : Below w.heap.size w w') : Fresh w w' := Touch.ofBelow h _

def LookI (b3 b4 b5 : Nat) (i : Int) (w : World) (pre : List PcY) (V : World) : Prop :=
  (Blk V b3 3 #[.int .i64 i] ∧ Blk V b4 65 #[.int .i64 0, .int .i64 0, .slice none 0 0] ∧ Blk V b5 4 #[.bool false] ∧ (∀ j : Nat, j < pre.length → (j : Int) ≠ i)) ∧ Below w.heap.size w V
def LookX (b4 b5 : Nat) (i : Int) (ps : List Pc) (w : World) (_ : List PcY) (V : World) : Prop :=
  (∃ x : Pc, (at_ (ps.map Pc.pl) i = some x.pl) ∧ PcV V x ∧ (∀ k, x.v.ownBlock = some k → w.heap.size ≤ k) ∧ Blk V b4 65 #[.int .i64 x.a, .int .i64 x.b, x.v] ∧ Blk V b5 4 #[.bool true]) ∧ Below w.heap.size w V
theorem LookI.own_ {b3 b4 b5 : Nat} {i : Int} {w w2 : World} (h2 : w.heap.size ≤ w2.heap.size) : OwnFrom w2.heap.size (LookI b3 b4 b5 i w) :=
  OwnFrom.and (Own.from (fun _ _ _ _ hs hg hr => ⟨hs.1.own_ hg hr, hs.2.1.own_ hg hr, hs.2.2.1.own_ hg hr, hs.2.2.2⟩) _) (ownFrom_below (Nat.le_refl _) h2)
theorem LookX.own_ {b4 b5 : Nat} {i : Int} {ps : List Pc} {w w2 : World} (h2 : w.heap.size ≤ w2.heap.size) : OwnFrom w2.heap.size (LookX b4 b5 i ps w) :=
  OwnFrom.and (Own.from (fun _ _ _ _ hs hg hr => by obtain ⟨x, q1, q2, q3, q4, q5⟩ := hs; exact ⟨x, q1, q2.own_ hg hr, q3, q4.own_ hg hr, q5.own_ hg hr⟩) _) (ownFrom_below (Nat.le_refl _) h2)

set_option maxRecDepth 100000 in
set_option maxHeartbeats 4000000 in
theorem lookW_any (bn : Nat) (most : Int) (rv : Value) (ps : List Pc) (i : Int) (w : World) (h : NT w 110 bn most rv ps) (hl : ps.length ≤ 1000000) :
    Calls Try.prog 46 #[.pointer (some ⟨bn, 0, none⟩), .int .i64 i] w fun e w' => Fresh w w' ∧ LookFin w (at_ (ps.map Pc.pl) i) e w' := by
  have H := Lib.hid h
  clear h
  refine (callsIn_wide (n := 3)).1 ?_
  refine callsIn_of_wp_marks Try.func46 rfl trivial ?_ rfl
  simp only [Try.ntmps46, List.size_toArray, List.length_cons, List.length_nil, Nat.reduceAdd, Nat.reduceSub, Array.replicate_succ, Array.replicate_zero, List.push_toArray, List.append_toArray, List.nil_append, List.cons_append]
  refine wpIn_wide.2 ?_
  obtain ⟨w0, hw0⟩ : ∃ w0, w0 = ((w.alloc (.cells #[.int .i64 i] 3)).alloc (.cells #[.int .i64 0, .int .i64 0, .slice none 0 0] 65)).alloc (.cells #[.bool false] 4) := ⟨_, rfl⟩
  have HW0 := Lib.hid hw0
  have HF0 := Lib.hid (show Fresh w w0 by rw [hw0]; exact (((Touch.refl _ w).alloc _).alloc _).alloc _)
  have H3 := Lib.hid (show Blk w0 w.heap.size 3 #[.int .i64 i] by rw [hw0]; exact ((Blk.new _ _ _).alloc _).alloc _)
  have H4 := Lib.hid (show Blk w0 (w.heap.size + 1) 65 #[.int .i64 0, .int .i64 0, .slice none 0 0] by rw [hw0]; have := (Blk.new (w.alloc (.cells #[.int .i64 i] 3)) 65 #[.int .i64 0, .int .i64 0, .slice none 0 0]).alloc (.cells #[.bool false] 4); rwa [World.size_alloc] at this)
  have H5 := Lib.hid (show Blk w0 (w.heap.size + 1 + 1) 4 #[.bool false] by rw [hw0]; have := Blk.new ((w.alloc (.cells #[.int .i64 i] 3)).alloc (.cells #[.int .i64 0, .int .i64 0, .slice none 0 0] 65)) 4 #[.bool false]; rwa [World.size_alloc, World.size_alloc] at this)
  clear hw0
  go_wp2_with fail
  rw [← HW0.out]
  refine (allW_any bn w0).mono ?_
  rintro e w1 ⟨rfl, hw1⟩
  have HF1 := Lib.hid (show Fresh w0 w1 by rw [hw1]; exact (Touch.refl _ _).alloc _)
  have HA := Lib.hid (show Blk w1 w0.heap.size 60 #[.pointer (some ⟨bn, 0, none⟩)] by rw [hw1]; exact Blk.new _ _ _)
  have HN1 := Lib.hid ((H.out.fresh HF0.out).fresh HF1.out)
  have hs0 := HF0.out.size
  have hs1 := HF1.out.size
  clear hw1
  go_wp2_with fail
  refine wpIn_wide (n := 3).1 ?_
  refine range_ok (F := Fence.wide) (n := 3) rfl (by decide) (gf := 71) (lb := #[.pointer (some ⟨w0.heap.size, 0, none⟩)]) rfl trivial (enters_of Try.func71 (by kernel_rfl) rfl)
    (all_told 2 w0.heap.size bn most rv ps (fun k => k = w.heap.size + 1 ∨ k = w.heap.size + 1 + 1) w1 (by decide) HA.out HN1.out hl
      (fun k hk => by have := H5.out.lt; omega) (fun p hp k hk e => by have := (H.out.byt p hp).1.lt k hk; omega))
    (fun pre x V l o o' hok hl hc => hok.put hl hc) (fun pre x V V1 hok hf => hok.fresh hf)
    (fun x b V => ∃ bx : Nat, b = { tmps := #[.pointer (some ⟨bn, 0, none⟩), .int .i64 i, undef, .pointer (some ⟨w.heap.size, 0, none⟩), .pointer (some ⟨w.heap.size + 1, 0, none⟩), .pointer (some ⟨w.heap.size + 1 + 1, 0, none⟩), .int .i64 x.1, .pointer (some ⟨bx, 0, none⟩), .pointer (some ⟨bn, 0, none⟩), .func (.func 71) #[] #[.pointer (some ⟨w0.heap.size, 0, none⟩)], .int .i64 x.1, .agg #[.int .i64 x.2.a, .int .i64 x.2.b, x.2.v], undef, undef, undef, undef, undef], defers := [] } ∧ Blk V bx 65 #[.int .i64 x.2.a, .int .i64 x.2.b, x.2.v])
    (fun x b V l o o' h hl hc => by obtain ⟨bx, e, hb⟩ := h; exact ⟨bx, e, hb.own_ (grownBy_putObj' V l o') (putHr hl hc)⟩)
    (fun h => NKp.fresh h) (fun h1 h2 => h1.trans_ h2) (fun V l o o' _ hl hc _ => NKp.put V l o o' hl hc) (fun _ => rfl)
    (LookI w.heap.size (w.heap.size + 1) (w.heap.size + 1 + 1) i w) (LookX (w.heap.size + 1) (w.heap.size + 1 + 1) i ps w) (LookI.own_ (by omega)) (LookX.own_ (by omega))
    ⟨⟨(H3.out.touch HF1.out id), (H4.out.touch HF1.out id), (H5.out.touch HF1.out id), fun j hj => by simp at hj⟩, Fresh.bel (HF0.out.trans HF1.out fun _ _ => id)⟩ ?assign ?body ?done ?stop
  case assign =>
    rintro l pre ⟨k, pa, pb, raw, pv⟩ V K hok hK
    have hfm := hok.2.2.1.1.form
    dsimp only at hfm
    obtain ⟨A, cp, rfl, _⟩ := hfm
    clear hok
    simp only [pcEnc, List.zip_toArray, List.size_toArray, List.zip_cons_cons, List.zip_nil_left]
    gi_wp2
    exact hK _ _ ((Touch.refl _ V).alloc _) ⟨_, rfl, Blk.new _ _ _⟩
  case body =>
    rintro l pre ⟨k, pa, pb, raw, pv⟩ b V ⟨⟨h3, h4, h5, hno⟩, hbl⟩ ⟨hkp, hat, hpv, hnew⟩ ⟨bx, rfl, hbx⟩ hlt
    have hfm := hpv.1.form
    dsimp only at hfm hkp hbx hnew
    obtain ⟨A, cp, rfl, hcp, hcm, _⟩ := hfm
    have c3 := h3.cell 0
    have c4 := h4.cell 0
    have c41 := h4.cell 1
    have c42 := h4.cell 2
    have f4 := h4.frozen
    have f5 := h5.frozen
    have c5 := h5.cell 0
    have x0 := hbx.cell 0
    have x1 := hbx.cell 1
    have x2 := hbx.cell 2
    simp only [List.getElem?_toArray, List.getElem?_cons_zero, List.getElem?_cons_succ] at c3 c4 c41 c42 c5 x0 x1 x2
    by_cases hki : (k : Int) = i
    · subst hki
      have HAT := Lib.hid hat; have HPV := Lib.hid hpv; have HNEW := Lib.hid hnew; have HBL := Lib.hid hbl; have HB4 := Lib.hid h4; have HB5 := Lib.hid h5; have HKP := Lib.hid hkp
      clear hat hpv hnew hbl h3 h4 h5 hbx hno hkp
      gi_wp2
      have hq := HB4.out.puts_all [.int .i64 pa, .int .i64 pb, .slice A raw.length cp] rfl
      simp only [puts, Nat.zero_add] at hq
      have h45 : w.heap.size + 1 ≠ w.heap.size + 1 + 1 := by omega
      have hT : Touch (fun q => q = w.heap.size + 1 ∨ q = w.heap.size + 1 + 1) V ((((V.setCell ⟨w.heap.size + 1, 0, none⟩ (.int .i64 pa)).setCell ⟨w.heap.size + 1, 1, none⟩ (.int .i64 pb)).setCell ⟨w.heap.size + 1, 2, none⟩ (.slice A raw.length cp)).setCell ⟨w.heap.size + 1 + 1, 0, none⟩ (.bool true)) :=
        ((((Touch.refl _ V).setCell (p := ⟨w.heap.size + 1, 0, none⟩) (.inr (.inl rfl)) _).setCell (p := ⟨w.heap.size + 1, 1, none⟩) (.inr (.inl rfl)) _).setCell (p := ⟨w.heap.size + 1, 2, none⟩) (.inr (.inl rfl)) _).setCell (p := ⟨w.heap.size + 1 + 1, 0, none⟩) (.inr (.inr rfl)) _
      have hb5' : Blk (((V.setCell ⟨w.heap.size + 1, 0, none⟩ (.int .i64 pa)).setCell ⟨w.heap.size + 1, 1, none⟩ (.int .i64 pb)).setCell ⟨w.heap.size + 1, 2, none⟩ (.slice A raw.length cp)) (w.heap.size + 1 + 1) 4 #[.bool false] :=
        ((HB5.out.far (p := ⟨w.heap.size + 1, 0, none⟩) h45.symm _).far (p := ⟨w.heap.size + 1, 1, none⟩) h45.symm _).far (p := ⟨w.heap.size + 1, 2, none⟩) h45.symm _
      refine ⟨KeepsOthers.trans (KeepsOthers.trans (KeepsOthers.trans (KeepsOthers.setCell _ _ _) (KeepsOthers.setCell _ _ _)) (KeepsOthers.setCell _ _ _)) (KeepsOthers.setCell _ _ _), rfl, ⟨⟨pa, pb, raw, .slice A raw.length cp⟩, ?_, HPV.out.touch hT fun q hq e => ?_, fun q hq => ?_, hq.far (p := ⟨w.heap.size + 1 + 1, 0, none⟩) h45 _, by simpa using hb5'.set_ 0 (.bool true)⟩, ?_⟩
      · obtain ⟨p, hp1, hp2⟩ := HAT.out
        rw [at_pos, HKP.out, List.getElem?_map, hp1, Option.map_some, ← hp2]
      · rcases e with rfl | rfl
        · exact HPV.out.ne_blk HB4.out (by decide) hq
        · exact HPV.out.ne_blk HB5.out (by decide) hq
      · have := HNEW.out q hq
        omega
      · have l1 : w.heap.size ≤ w.heap.size + 1 := by omega
        have l2 : w.heap.size ≤ w.heap.size + 1 + 1 := by omega
        exact (((HBL.out.setCell (p := ⟨w.heap.size + 1, 0, none⟩) l1 _).setCell (p := ⟨w.heap.size + 1, 1, none⟩) l1 _).setCell (p := ⟨w.heap.size + 1, 2, none⟩) l1 _).setCell (p := ⟨w.heap.size + 1 + 1, 0, none⟩) l2 _
    · have hkb : ((k : Int) == i) = false := by simpa using hki
      have HKI := Lib.hid hki; have HNO := Lib.hid hno
      have HV := Lib.hid h3; have HB4 := Lib.hid h4; have HB5 := Lib.hid h5; have HBL := Lib.hid hbl; have HKP := Lib.hid hkp
      clear hki hat hpv hnew hbl h3 h4 h5 hbx hno hkp
      gi_wp2
      refine ⟨KeepsOthers.refl _, NKp.fresh (Touch.refl _ _), ⟨HV.out, HB4.out, HB5.out, fun j hj => ?_⟩, HBL.out⟩
      by_cases hjk : j = k
      · rw [hjk]; exact HKI.out
      · refine HNO.out j ?_
        have := HKP.out
        rw [List.length_append, List.length_singleton] at hj
        omega
  case done =>
    rintro D ys V hD hS ⟨⟨h3, h4, h5, hno⟩, hbl⟩ hKD
    have c4 := h4.cell 0
    have c41 := h4.cell 1
    have c42 := h4.cell 2
    have f4 := h4.frozen
    have f5 := h5.frozen
    have c5 := h5.cell 0
    simp only [List.getElem?_toArray, List.getElem?_cons_zero, List.getElem?_cons_succ] at c4 c41 c42 c5
    have HNO := Lib.hid hno; have HB4 := Lib.hid h4; have HB5 := Lib.hid h5; have HBL := Lib.hid hbl; have HKD := Lib.hid hKD; have HD := Lib.hid hD; have HS := Lib.hid hS
    clear h3 h4 h5 hno hbl hKD hD hS
    go_wp2_with fail
    have hq := HB4.out.puts_all [.int .i64 0, .int .i64 0, .slice none 0 0] rfl
    simp only [puts, Nat.zero_add] at hq
    have h45 : w.heap.size + 1 ≠ w.heap.size + 1 + 1 := by omega
    have l1 : w.heap.size ≤ w.heap.size + 1 := by omega
    have l2 : w.heap.size ≤ w.heap.size + 1 + 1 := by omega
    have hb5' : Blk (((V.setCell ⟨w.heap.size + 1, 0, none⟩ (.int .i64 0)).setCell ⟨w.heap.size + 1, 1, none⟩ (.int .i64 0)).setCell ⟨w.heap.size + 1, 2, none⟩ (.slice none 0 0)) (w.heap.size + 1 + 1) 4 #[.bool false] :=
      ((HB5.out.far (p := ⟨w.heap.size + 1, 0, none⟩) h45.symm _).far (p := ⟨w.heap.size + 1, 1, none⟩) h45.symm _).far (p := ⟨w.heap.size + 1, 2, none⟩) h45.symm _
    have hq4 := hq.far (p := ⟨w.heap.size + 1 + 1, 0, none⟩) h45 (.bool false)
    have hq5 := hb5'.set_ 0 (.bool false)
    have hbe := (((HBL.out.setCell (p := ⟨w.heap.size + 1, 0, none⟩) l1 (.int .i64 0)).setCell (p := ⟨w.heap.size + 1, 1, none⟩) l1 (.int .i64 0)).setCell (p := ⟨w.heap.size + 1, 2, none⟩) l1 (.slice none 0 0)).setCell (p := ⟨w.heap.size + 1 + 1, 0, none⟩) l2 (.bool false)
    have hkk : KeepsOthers V ((((V.setCell ⟨w.heap.size + 1, 0, none⟩ (.int .i64 0)).setCell ⟨w.heap.size + 1, 1, none⟩ (.int .i64 0)).setCell ⟨w.heap.size + 1, 2, none⟩ (.slice none 0 0)).setCell ⟨w.heap.size + 1 + 1, 0, none⟩ (.bool false)) :=
      KeepsOthers.trans (KeepsOthers.trans (KeepsOthers.trans (KeepsOthers.setCell _ _ _) (KeepsOthers.setCell _ _ _)) (KeepsOthers.setCell _ _ _)) (KeepsOthers.setCell _ _ _)
    have hK' := hkk.same D _ HKD.out rfl
    have hr4 := hq4.own_ (grownBy_putObj' _ D (.deferred none)) (putHr hK' rfl)
    have hr5 := hq5.own_ (grownBy_putObj' _ D (.deferred none)) (putHr hK' rfl)
    have e0 := hr4.cell 0
    have e1 := hr4.cell 1
    have e2 := hr4.cell 2
    have e3 := hr5.cell 0
    simp only [List.getElem?_toArray, List.getElem?_cons_zero, List.getElem?_cons_succ] at e0 e1 e2
    simp at e3
    refine ⟨by simp, .inl ⟨_, _, rfl, run_takeDeferred hK', ?_⟩⟩
    have hal : at_ (ps.map Pc.pl) i = none := at_none fun j hj => HNO.out j (by rw [HS.out]; simpa using hj)
    refine ⟨.tuple #[.agg #[.int .i64 0, .int .i64 0, .slice none 0 0], .bool false], ?_, Below.fresh (hbe.trans (belowK_b (w := w) (Nat.le_refl _) _ D _ _ (by have := HD.out; omega) hK' rfl rfl)), ⟨0, 0, [], .slice none 0 0⟩, by rw [hal]; rfl, ⟨Row.nil_ _, by simp⟩, fun q hq => (by cases hq), by rw [hal]; rfl⟩
    simp [results, Try.results46, go_sem, e0, e1, e2, e3]
  case stop =>
    rintro D pre V hD hpre ⟨⟨x, hx, hxv, hxn, h4, h5⟩, hbl⟩ hKD
    refine wpIn_wide.2 ?_
    go_wp2_with fail
    have hr4 := h4.own_ (grownBy_putObj' _ D (.deferred none)) (putHr hKD rfl)
    have hr5 := h5.own_ (grownBy_putObj' _ D (.deferred none)) (putHr hKD rfl)
    have e0 := hr4.cell 0
    have e1 := hr4.cell 1
    have e2 := hr4.cell 2
    have e3 := hr5.cell 0
    simp only [List.getElem?_toArray, List.getElem?_cons_zero, List.getElem?_cons_succ] at e0 e1 e2 e3
    refine ⟨by simp, .inl ⟨_, _, rfl, run_takeDeferred hKD, ?_⟩⟩
    refine ⟨.tuple #[.agg #[.int .i64 x.a, .int .i64 x.b, x.v], .bool true], ?_, Below.fresh (hbl.trans (belowK_b (w := w) (Nat.le_refl _) _ D _ _ (by omega) hKD rfl rfl)), x, by rw [hx]; rfl, hxv.own_ (grownBy_putObj' _ D (.deferred none)) (putHr hKD rfl), hxn, by rw [hx]; rfl⟩
    simp [results, Try.results46, go_sem, e0, e1, e2, e3]
end Go.Proofs.Ythmjnlkdoepmjaa
