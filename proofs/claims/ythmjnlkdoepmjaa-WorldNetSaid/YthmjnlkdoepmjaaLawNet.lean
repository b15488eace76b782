/- The walk of the law WorldNet: it answers true. Conditions stand with it. -/
import Derived.Test.YthmjnlkdoepmjaaTn
import Derived.Test.YthmjnlkdoepmjaaStop
import Derived.Test.YthmjnlkdoepmjaaRbox
import Derived.Test.YthmjnlkdoepmjaaHeld
namespace Go.Proofs.Ythmjnlkdoepmjaa
open Go.RowKit
attribute [local go_sem] Oper.semAt_some
theorem wide_fn (f : FuncId) : Fence.wide.fn f = True := rfl
theorem wide_asked (P : Program) (o : Oper) (a : Act) (C : World → Prop) : o.askedIn Fence.wide P a C = True := eq_true fun _ _ _ _ => trivial
attribute [local go_sem] wide_fn wide_asked

/-- the law's own boxes -/
def NetB (B : Nat) (stop : Int) (br b8 : Nat) (W : World) : Prop := Blk W B 3 #[.int .i64 stop] ∧ Blk W (B + 1) 4 #[.bool false] ∧ Blk W b8 62 #[.pointer (some ⟨br, 0, none⟩)]
theorem NetB.fresh {B br b8 : Nat} {stop : Int} {W W' : World} (h : NetB B stop br b8 W) (hf : Fresh W W') : NetB B stop br b8 W' := ⟨h.1.touch hf id, h.2.1.touch hf id, h.2.2.touch hf id⟩
theorem NetB.foot {B br b8 : Nat} {stop : Int} {W W' : World} {t : TypeId} {bn : Nat} {most : Int} {rv : Value} {ps : List Pc} (h : NetB B stop br b8 W) (hn : NT W t bn most rv ps) (hT : Touch (nfoot bn rv) W W') (h1 : t ≠ 3) (h2 : t ≠ 4) (h3 : t ≠ 62) : NetB B stop br b8 W' :=
  ⟨h.1.touch hT (blk_apart hn h.1 h1 (by decide)), h.2.1.touch hT (blk_apart hn h.2.1 h2 (by decide)), h.2.2.touch hT (blk_apart hn h.2.2 h3 (by decide))⟩
theorem NetB.spoil {B br b8 : Nat} {stop : Int} {W W' : World} {v : Value} {xs : List UInt8} (h : NetB B stop br b8 W) (hr : Row W v xs) (hT : Touch (fun k => v.ownBlock = some k) W W') : NetB B stop br b8 W' :=
  ⟨h.1.touch hT fun e => hr.ne_blk h.1 (by decide) e, h.2.1.touch hT fun e => hr.ne_blk h.2.1 (by decide) e, h.2.2.touch hT fun e => hr.ne_blk h.2.2 (by decide) e⟩

theorem NetB.own_ {A B' : World} {row : Option Nat} {B br b8 : Nat} {stop : Int} (h : NetB B stop br b8 A) (hg : A.grownBy B' row) (hr : ∀ r, row = some r → ∃ o : Obj, A.heap[r]? = some o ∧ o.isCells = false) : NetB B stop br b8 B' :=
  ⟨Blk.own_ h.1 hg hr, Blk.own_ h.2.1 hg hr, Blk.own_ h.2.2 hg hr⟩
theorem TN.own_ {A B' : World} {row : Option Nat} {B bn br : Nat} {most mo : Int} {rv rrv : Value} {ps rps : List Pc} (h : TN B A bn br most mo rv ps rrv rps) (hg : A.grownBy B' row) (hr : ∀ r, row = some r → ∃ o : Obj, A.heap[r]? = some o ∧ o.isCells = false) : TN B B' bn br most mo rv ps rrv rps :=
  ⟨h.n.own_ hg hr, h.r.own_ hg hr, h.dj, h.lo, h.lo2⟩
/-- a number's box is no net's -/
theorem TN.box {W W' : World} {B bn br g : Nat} {cs : Array Value} {most mo : Int} {rv rrv : Value} {ps rps : List Pc} (h : TN B W bn br most mo rv ps rrv rps) (hg : Blk W g 3 cs) (hT : Touch (fun k => k = g) W W') : TN B W' bn br most mo rv ps rrv rps :=
  ⟨h.n.touch hT (fun k hk e => blk_apart h.n hg (by decide) (by decide) (by rw [← e]; exact hk)) (fun p hp k hk e => (h.n.byt p hp).ne_blk hg (by decide) (by rw [hk, e])),
   h.r.touch hT (fun k hk e => blk_apart h.r hg (by decide) (by decide) (by rw [← e]; exact hk)) (fun p hp k hk e => (h.r.byt p hp).ne_blk hg (by decide) (by rw [hk, e])), h.dj, h.lo, h.lo2⟩
set_option maxRecDepth 100000 in
set_option maxHeartbeats 8000000 in
theorem law_net (most : Int) (X : Option Addr) (nx cx : Nat) (ops : List PutD) (stop : Int) (w : World) (h : PutsAt w X nx cx ops) :
    Calls Try.prog 9 #[.int .i64 most, .slice X nx cx, .int .i64 stop] w fun e w' => e = .returned (.bool true) ∧ Fresh w w' := by
  have hlen := h.len
  obtain ⟨mo, hmo⟩ : ∃ mo, mo = (if most < 0 then 0 else most) := ⟨_, rfl⟩
  have HMO := Lib.hid hmo
  have H := Lib.hid h; have HLEN := Lib.hid hlen
  clear h hlen hmo
  refine (callsIn_wide (n := 3)).1 ?_
  refine callsIn_of_wp_marks Try.func9 rfl trivial ?_ rfl
  simp only [Try.ntmps9, List.size_toArray, List.length_cons, List.length_nil, Nat.reduceAdd, Nat.reduceSub, Array.replicate_succ, Array.replicate_zero, List.push_toArray, List.append_toArray, List.nil_append, List.cons_append]
  refine wpIn_wide.2 ?_
  obtain ⟨w0, hw0⟩ : ∃ w0, w0 = (w.alloc (.cells #[.int .i64 stop] 3)).alloc (.cells #[.bool false] 4) := ⟨_, rfl⟩
  have HW0 := Lib.hid hw0
  have HS0 := Lib.hid (show Blk w0 w.heap.size 3 #[.int .i64 stop] by rw [hw0]; exact (Blk.new _ _ _).alloc _)
  have HR0 := Lib.hid (show Blk w0 (w.heap.size + 1) 4 #[.bool false] by rw [hw0]; have := Blk.new (w.alloc (.cells #[.int .i64 stop] 3)) 4 #[.bool false]; rwa [World.size_alloc] at this)
  have HF0 := Lib.hid (show Fresh w w0 by rw [hw0]; exact ((Touch.refl _ w).alloc _).alloc _)
  clear hw0
  go_wp2_with fail
  rw [← HW0.out]
  refine (newNetW_any most w0).mono ?_
  rintro e w1 ⟨bn, rfl, hf1, hbn, hn1⟩
  have HF1 := Lib.hid hf1; have HN1 := Lib.hid hn1; have HBN := Lib.hid hbn
  clear hf1 hn1 hbn
  go_wp2_with fail
  refine (newNetR_any most w1).mono ?_
  rw [← HMO.out]
  rintro e w2 ⟨br, rfl, hf2, hbr, hr2⟩
  have HF2 := Lib.hid hf2; have HR2 := Lib.hid hr2; have HBR := Lib.hid hbr
  clear hf2 hr2 hbr
  go_wp2_with fail
  obtain ⟨w3, hw3⟩ : ∃ w3, w3 = w2.alloc (.cells #[.pointer (some ⟨br, 0, none⟩)] 62) := ⟨_, rfl⟩
  have hf3 : Fresh w2 w3 := by rw [hw3]; exact (Touch.refl _ _).alloc _
  have HF3 := Lib.hid hf3
  have hf03 : Fresh w0 w3 := (HF1.out.trans HF2.out fun _ _ => id).trans hf3 fun _ _ => id
  have HB3 := Lib.hid (show NetB w.heap.size stop br w2.heap.size w3 from ⟨HS0.out.touch hf03 id, HR0.out.touch hf03 id, by rw [hw3]; exact Blk.new _ _ _⟩)
  have HT3 := Lib.hid (show TN w.heap.size w3 bn br most mo (.slice none 0 0) [] (.slice none 0 0) [] from by
    have h0 := HF0.out.size
    have h1 := HF1.out.size
    have h2 := HBN.out
    have h3 := HBR.out
    refine ⟨(HN1.out.fresh HF2.out).fresh hf3, HR2.out.fresh hf3, fun k hk => (by cases hk), ?_, ?_⟩
    · rintro k (rfl | e)
      · omega
      · cases e
    · rintro k (rfl | e)
      · omega
      · cases e)
  have HF := Lib.hid (show Fresh w w3 from HF0.out.trans hf03 fun _ _ => id)
  rw [← hw3]
  clear hw3 hf3 hf03
  go_loopw [9] (fun i wr => ∃ j : Nat, j ≤ nx ∧ j ≤ 200 ∧ i = .int .i64 j ∧ ∃ rv ps rrv rps, TN w.heap.size wr bn br most mo rv ps rrv rps ∧ ps.map Pc.pl = rps.map Pc.pl ∧ ps.length ≤ j ∧ NetB w.heap.size stop br w2.heap.size wr ∧ Touch (fun k => w.heap.size ≤ k) w wr) (fun i _ => nx - (intOf i).toNat)
  case atStart => exact ⟨0, by omega, by omega, rfl, _, _, _, _, HT3.out, rfl, Nat.zero_le _, HB3.out, HF.out.mono fun _ _ => False.elim⟩
  case round =>
    obtain ⟨j, hj, hj2, rfl, rv, ps, rrv, rps, ht, hpl, hpj, hnb, hT⟩ := hrel
    have hpl2 : rps.length = ps.length := by have := congrArg List.length hpl; simpa using this.symm
    have HTN := Lib.hid ht; have HPL := Lib.hid hpl; have HNB := Lib.hid hnb; have HT := Lib.hid hT; have HPL2 := Lib.hid hpl2
    clear ht hpl hnb hT hpl2
    by_cases hlt : j < nx ∧ j < 200
    · obtain ⟨hl1, hl2⟩ := hlt
      obtain ⟨b, off, rfl⟩ := H.out.vs.at_ (by omega)
      obtain ⟨o, ho⟩ : ∃ o, ops[j]? = some o := ⟨ops[j]'(by rw [HLEN.out]; exact hl1), List.getElem?_eq_getElem _⟩
      have hop := H.out.bs o (List.mem_of_getElem? ho)
      have hbk : b < w.heap.size := H.out.lt _ rfl (by omega)
      obtain ⟨c0, c1, c2, c3, c4⟩ : wr.cell? ⟨b, off + j * 5, none⟩ = some (.int .i64 o.Do) ∧ wr.cell? ⟨b, off + j * 5 + 1, none⟩ = some (.int .i64 o.i) ∧ wr.cell? ⟨b, off + j * 5 + 2, none⟩ = some (.int .i64 o.a) ∧ wr.cell? ⟨b, off + j * 5 + 3, none⟩ = some (.int .i64 o.b) ∧ wr.cell? ⟨b, off + j * 5 + 4, none⟩ = some (.slice o.A o.m o.c) := by
        have hv := H.out.vs.touch HT.out fun a ha h0 e => by
          injection ha with ha
          subst ha
          have e : w.heap.size ≤ b := e
          omega
        have hx := fun r hr => flat_at PutD.cells 5 (fun _ => rfl) ops j r o ho hr
        exact ⟨hv.cellAt (hx 0 (by omega)), hv.cellAt (hx 1 (by omega)), hv.cellAt (hx 2 (by omega)), hv.cellAt (hx 3 (by omega)), hv.cellAt (hx 4 (by omega))⟩
      obtain ⟨oDo, oi, oa, ob, oA, om, oc, oxs⟩ := o
      dsimp only at c0 c1 c2 c3 c4 hop
      have hbs := hop.1.touch HT.out fun a ha h0 e => by
        have := hop.2 a ha h0
        omega
      have HBS := Lib.hid hbs
      have HIN := Lib.hid (show ∀ W, Touch (fun k => w.heap.size ≤ k) w W → Bs W oA om oc oxs from fun W hW => hop.1.touch hW fun a ha h0 e => by
        have := hop.2 a ha h0
        omega)
      clear hbs hop ho
      go_wp2_with fail
      refine (clip_any oA om oc oxs _ (HBS.out.alloc _)).mono ?_
      rintro e wz ⟨rfl, m, hm1, hm2, rfl, hb1⟩
      obtain ⟨xs, hxs⟩ : ∃ xs, xs = oxs.take m := ⟨_, rfl⟩
      rw [← hxs] at hb1
      have HXT := Lib.hid hxs
      clear hxs
      have hxl : xs.length = m := hb1.1
      have HXS := Lib.hid hb1
      clear hb1
      go_wp2_with fail
      obtain ⟨D, hD⟩ : ∃ D, D = oDo % 5 := ⟨_, rfl⟩
      refine (within_any oDo 5 _ (by omega) (by omega)).mono ?_
      rintro e wz ⟨rfl, rfl⟩
      rw [← hD]
      obtain ⟨wb, hwb⟩ : ∃ wb, wb = wr.alloc (.cells #[.int .i64 oDo, .int .i64 oi, .int .i64 oa, .int .i64 ob, .slice oA m oc] 67) := ⟨_, rfl⟩
      rw [← hwb]
      have HFB := Lib.hid (show Fresh wr wb by rw [hwb]; exact (Touch.refl _ _).alloc _)
      have HPB := Lib.hid (show Blk wb wr.heap.size 67 #[.int .i64 oDo, .int .i64 oi, .int .i64 oa, .int .i64 ob, .slice oA m oc] by rw [hwb]; exact Blk.new _ _ _)
      have HTB := Lib.hid (HTN.out.fresh HFB.out)
      have HNBB := Lib.hid (HNB.out.fresh HFB.out)
      have HTTB := Lib.hid (HT.out.trans HFB.out fun _ _ => False.elim)
      have HXB := Lib.hid (show Bs wb oA m oc xs by rw [hwb, HXT.out]; exact (HBS.out.alloc _).take hm1)
      have hD5 : D = 0 ∨ D = 1 ∨ D = 2 ∨ D = 3 ∨ D = 4 := by omega
      have hB0 : w.heap.size ≤ wb.heap.size := by have := HTTB.out.size; exact this
      have hpl1 : ps.length ≤ 1000000 := by omega
      have hmb : m ≤ 1000000 := by omega
      have p0 := HPB.out.cell 0
      have p1 := HPB.out.cell 1
      have p2 := HPB.out.cell 2
      have p3 := HPB.out.cell 3
      have p4 := HPB.out.cell 4
      simp only [List.getElem?_toArray, List.getElem?_cons_zero, List.getElem?_cons_succ] at p0 p1 p2 p3 p4
      clear hwb hD c0 c1 c2 c3 c4 HXS HBS HTN HNB HT
      rcases hD5 with rfl | rfl | rfl | rfl | rfl
      · have p4a : ∀ o, (wb.alloc o).cell? ⟨wr.heap.size, 4, none⟩ = some (.slice oA m oc) := fun o => (HPB.out.alloc o).cell 4
        go_wp2_with fail
        refine (lend_any oA m oc xs _ (HXB.out.alloc _) (by omega)).mono ?_
        rintro e w5 ⟨hf5, B5, c5, rfl, hlt5, hnw5⟩
        obtain ⟨w4, hw4⟩ : ∃ w4, w4 = wb.alloc (.cells #[.int .i64 oa, .int .i64 ob, .slice oA m oc] 65) := ⟨_, rfl⟩
        rw [← hw4] at hf5 hnw5
        have hf45 : Fresh wb w4 := by rw [hw4]; exact (Touch.refl _ _).alloc _
        have hb4 : Blk w4 wb.heap.size 65 #[.int .i64 oa, .int .i64 ob, .slice oA m oc] := by rw [hw4]; exact Blk.new _ _ _
        have hs4 : wb.heap.size < w4.heap.size := hb4.lt
        have hb5 := hb4.touch hf5 id
        have hfb5 : Fresh wb w5 := hf45.trans hf5 fun _ _ => id
        have HFB5 := Lib.hid hfb5
        have hf5' := hb5.frozen
        have q2 := hb5.cell 2
        have q2' : w5.cell? ⟨wb.heap.size, 2, none⟩ = some (.slice oA m oc) := q2
        have hne : (Value.slice B5 m c5).ownBlock ≠ some wb.heap.size := fun e => by
          have := (hlt5.2.ne_blk hb5 (by decide))
          exact this (by rw [← e]; exact slice_own' _ _ _ _ _)
        obtain ⟨w6, hw6⟩ : ∃ w6, w6 = w5.setCell ⟨wb.heap.size, 2, none⟩ (.slice B5 m c5) := ⟨_, rfl⟩
        have HW6 := Lib.hid hw6
        have hb6 : Blk w6 wb.heap.size 65 #[.int .i64 oa, .int .i64 ob, .slice B5 m c5] := by rw [hw6]; simpa using hb5.set_ 2 (.slice B5 m c5)
        have hf6 : Fresh wb w6 := by rw [hw6]; exact hfb5.setCell (p := ⟨wb.heap.size, 2, none⟩) (.inl (Nat.le_refl _)) _
        have hlt6 : Lent w6 B5 m c5 xs := by
          rw [hw6]
          exact ⟨hlt5.1, hlt5.2.far (p := ⟨wb.heap.size, 2, none⟩) (fun e => hne (by rw [← e]; exact slice_own' _ _ _ _ _)) _⟩
        have x0 := hb6.cell 0
        have x1 := hb6.cell 1
        have x2 := hb6.cell 2
        simp only [List.getElem?_toArray, List.getElem?_cons_zero, List.getElem?_cons_succ] at x0 x1 x2
        have u0 := x0
        have u1 := x1
        have u2 := x2
        rw [hw6] at u0 u1 u2
        have q0 := hb5.cell 0
        have q1 := hb5.cell 1
        simp only [List.getElem?_toArray, List.getElem?_cons_zero, List.getElem?_cons_succ] at q0 q1
        have HL6 := Lib.hid hlt6; have HF6 := Lib.hid hf6; have HB6 := Lib.hid hb6
        have hlo : ∀ k, (Value.slice B5 m c5).ownBlock = some k → w4.heap.size ≤ k := by
          intro k hk
          cases B5 with
          | none => cases hk
          | some x =>
            have := hnw5 x rfl
            simp only [Value.ownBlock, Option.some.injEq] at hk
            omega
        have HLO := Lib.hid hlo
        obtain ⟨ok, hok⟩ : ∃ ok, ok = decide (¬ most ≤ (ps.length : Int)) := ⟨_, rfl⟩
        have KN := Lib.hid (sendW_any bn most rv ps oa ob B5 m c5 xs w6 (HTB.out.fresh hf6).n hpl1 hlt6.bs hmb)
        rw [← hok] at KN
        have HOK := Lib.hid hok
        clear hw4 hf5 hnw5 hf45 hb4 hb5 hfb5 hne hw6 hb6 hf6 hlt6 hlt5 hlo q2 hok
        go_wp2_with fail
        rw [← HW6.out]
        go_wp2_with fail
        refine KN.out.mono ?_
        rintro e w7 ⟨rfl, hT7, rv', ps', hn7, hq7, hf7, hg7⟩
        have HTB6 := Lib.hid (HTB.out.fresh HF6.out)
        have hB6 : w.heap.size ≤ w6.heap.size := by have := HF6.out.size; omega
        have HTN7 := Lib.hid (HTB6.out.goN hB6 hT7 hn7 hf7)
        have hx7 : ∀ k, k ≥ wb.heap.size → k < w6.heap.size → ¬ nfoot bn rv k := by
          rintro k h1 h2 (e | e)
          · have := HTB.out.n.blk.lt; omega
          · have := HTB.out.n.row.lt _ e; omega
        have hL7 : Lent w7 B5 m c5 xs := ⟨HL6.out.1, HL6.out.2.touch hT7 fun k hk e => row_apart HTB6.out.n HL6.out.2 (by decide) k e hk⟩
        have hb7 := HB6.out.touch hT7 (hx7 _ (Nat.le_refl _) HB6.out.lt)
        have hp7 := (HPB.out.touch HF6.out id).touch hT7 (blk_apart HTB6.out.n (HPB.out.touch HF6.out id) (by decide) (by decide))
        have hnb7 := (HNBB.out.fresh HF6.out).foot HTB6.out.n hT7 (by decide) (by decide) (by decide)
        have hT17 := (HTTB.out.trans HF6.out fun _ _ => False.elim).trans hT7 fun k _ e => HTB6.out.lo k e
        have hbs7 : Bs w7 oA m oc xs := by rw [HXT.out]; exact (HIN.out w7 hT17).take hm1
        have y2 := hb7.cell 2
        have p4 := hp7.cell 4
        simp only [List.getElem?_toArray, List.getElem?_cons_zero, List.getElem?_cons_succ] at y2 p4
        have HP7 := Lib.hid hp7; have HNB7 := Lib.hid hnb7; have HT17 := Lib.hid hT17; have HL7 := Lib.hid hL7
        have HQ7 := Lib.hid hq7; have HG7 := Lib.hid hg7
        have hs7 := hT7.size
        have hs6 := HF6.out.size
        have KI := Lib.hid (intact_any oA B5 m oc c5 xs w7 hbs7 hL7 (by omega))
        clear hT7 hn7 hq7 hf7 hg7 hx7 hL7 hb7 hp7 hnb7 hT17 hbs7 x0 x1 x2 u0 u1 u2 q0 q1 q2' hf5' p0 p1 p2 p3 p4a KN
        go_wp2_with fail
        refine KI.out.mono ?_
        rintro e w8 ⟨rfl, hT8⟩
        have hrow : Row w7 (.slice B5 (m + 4) c5) (xs ++ marks) := HL7.out.2
        have hT8' : Touch (fun k => (Value.slice B5 (m + 4) c5).ownBlock = some k) w7 w8 := hT8.mono fun k _ e => by rw [← e]; exact slice_own' _ _ _ _ _
        have hlo8 : ∀ k, (Value.slice B5 (m + 4) c5).ownBlock = some k → wb.heap.size ≤ k := fun k e => by
          have := HLO.out k (by rw [← e]; exact slice_own' _ _ _ _ _)
          omega
        have hhi8 : ∀ k, (Value.slice B5 (m + 4) c5).ownBlock = some k → k < w6.heap.size := HL6.out.2.lt
        have HTN8 := Lib.hid (HTN7.out.spoil hrow hT8' (Clear.step (b := w6.heap.size) (Clear.lt (b := wb.heap.size) HTB.out.n.byt_lt hlo8) hhi8 HG7.out) (Clear.lt (b := wb.heap.size) HTB.out.r.byt_lt hlo8))
        have hp8 := HP7.out.touch hT8' fun e => hrow.ne_blk HP7.out (by decide) e
        have hnb8 := HNB7.out.spoil hrow hT8'
        have hT18 := HT17.out.trans hT8' fun k _ e => by have := hlo8 k e; show w.heap.size ≤ k; omega
        have z2 := hp8.cell 2
        have z3 := hp8.cell 3
        have z4 := hp8.cell 4
        have z8 := hnb8.2.2.cell 0
        simp only [List.getElem?_toArray, List.getElem?_cons_zero, List.getElem?_cons_succ] at z2 z3 z4 z8
        have hbs8 : Bs w8 oA m oc xs := by rw [HXT.out]; exact (HIN.out w8 hT18).take hm1
        have hlR : rps.length ≤ 1000000 := by have := HPL2.out; omega
        have hok2 : ok = decide (¬ mo ≤ (rps.length : Int)) := by
          rw [HOK.out, HMO.out, HPL2.out]
          exact decide_eq_decide.2 (Int.not_le.symm.trans (not_congr (most_le most ps.length)))
        have KR := Lib.hid (sendR_any br mo rrv rps oa ob oA m oc xs w8 HTN8.out.r hlR hbs8 hmb)
        rw [← hok2] at KR
        have HOK2 := Lib.hid hok2
        have HNB8 := Lib.hid hnb8; have HT18 := Lib.hid hT18
        have hs8 := hT8.size
        clear hT8 hrow hT8' hlo8 hhi8 hp8 hnb8 hT18 hbs8 hok2 KI y2 p4
        have hokk : (ok != ok) = false := by simp
        go_wp2_with fail
        refine KR.out.mono ?_
        rintro e wt ⟨rfl, hT9, rrv', rps', hn9, hq9, hf9, hg9⟩
        have HTNt := Lib.hid (HTN8.out.goR (by omega) hT9 hn9 hf9)
        have HNBt := Lib.hid (HNB8.out.foot HTN8.out.r hT9 (by decide) (by decide) (by decide))
        have hmm : (most ≤ (ps.length : Int)) ↔ (mo ≤ (rps.length : Int)) := by
          rw [HMO.out, HPL2.out]
          exact most_le most ps.length
        have HPLt := Lib.hid (show ps'.map Pc.pl = rps'.map Pc.pl by
          rw [HQ7.out, hq9, HPL.out]
          by_cases h : most ≤ (ps.length : Int)
          · rw [if_pos h, if_pos (hmm.1 h)]
          · rw [if_neg h, if_neg (fun h' => h (hmm.2 h'))])
        have HLt := Lib.hid (show ps'.length ≤ j + 1 from by
          have h1 : ps'.length = (ps'.map Pc.pl).length := by rw [List.length_map]
          rw [HQ7.out] at h1
          split at h1 <;> simp at h1 <;> omega)
        have HTt := Lib.hid (HT18.out.trans hT9 fun k _ e => HTN8.out.lo2 k e)
        clear hT9 hn9 hq9 hf9 hg9 z2 z3 z4 z8 hmm KR HOK HOK2 HTN8 HTN7 HTB6 HTB
        generalize rv' = rvT at *
        generalize ps' = psT at *
        generalize rrv' = rrvT at *
        generalize rps' = rpsT at *
        have htn := HTNt.out
        obtain ⟨RR, rrc, rfl, _, _, _⟩ := htn.r.row.form
        have hle : rpsT.length = psT.length := by have := congrArg List.length HPLt.out; simpa using this.symm
        have hbe : ((psT.length : Int) != (rpsT.length : Int)) = false := by rw [hle]; simp
        have z8 := HNBt.out.2.2.cell 0
        have z1 := htn.r.blk.cell 1
        simp only [List.getElem?_toArray, List.getElem?_cons_zero, List.getElem?_cons_succ] at z8 z1
        have KL := Lib.hid (fun q => (lenW_any bn most rvT psT (wt.drewN q) (htn.n.drewN q)))
        clear htn hle
        go_wp2_with fail
        go_quiet ((go_at_call 48; exact Calls.quiet_of_same (KL.out _)))
        go_wp2_with fail
        go_roundw
        case rel =>
          have hdr : Fresh wt (wt.drewN nq) := (Touch.refl _ wt).drewN nq
          exact ⟨j + 1, by omega, by omega, by go_num, rvT, psT, .slice RR rpsT.length rrc, rpsT, HTNt.out.fresh hdr, HPLt.out, HLt.out, HNBt.out.fresh hdr, HTt.out.trans hdr fun _ _ => False.elim⟩
        case measure => simp [intOf] <;> omega
      · go_wp2_with fail
        refine (takeW_any bn most rv ps oi wb HTB.out.n hpl1).mono ?_
        rintro e w4 ⟨⟨⟨qa, qb, raw, qv⟩, rfl, hpv, hnew, hpl⟩, rv', ps', hT4, hn4, hq4, hf4, hs4⟩
        have hfm := hpv.1.form
        dsimp only at hfm
        obtain ⟨Q, cq, rfl, _, _, _⟩ := hfm
        have HTN4 := Lib.hid (HTB.out.goN hB0 hT4 hn4 hf4)
        have HNB4 := Lib.hid (HNBB.out.foot HTB.out.n hT4 (by decide) (by decide) (by decide))
        have hp4 := HPB.out.touch hT4 (blk_apart HTB.out.n HPB.out (by decide) (by decide))
        have HP4 := Lib.hid hp4
        have HT4 := Lib.hid (HTTB.out.trans hT4 fun k _ e => HTB.out.lo k e)
        have HPV := Lib.hid hpv; have HNEW := Lib.hid hnew; have HPLQ := Lib.hid hpl; have HQ4 := Lib.hid hq4; have HS4 := Lib.hid hs4
        have hsz4 := hT4.size
        clear hpv hnew hpl hT4 hn4 hq4 hf4 hs4 p0 p1 p2 p3 p4
        obtain ⟨w5, hw5⟩ : ∃ w5, w5 = w4.alloc (.cells #[.int .i64 qa, .int .i64 qb, .slice Q raw.length cq] 65) := ⟨_, rfl⟩
        have HW5 := Lib.hid hw5
        have HF5 := Lib.hid (show Fresh w4 w5 by rw [hw5]; exact (Touch.refl _ _).alloc _)
        have HB5 := Lib.hid (show Blk w5 w4.heap.size 65 #[.int .i64 qa, .int .i64 qb, .slice Q raw.length cq] by rw [hw5]; exact Blk.new _ _ _)
        have p1 : ∀ o, (w4.alloc o).cell? ⟨wr.heap.size, 1, none⟩ = some (.int .i64 oi) := fun o => (hp4.alloc o).cell 1
        have p8 : ∀ o, (w4.alloc o).cell? ⟨w2.heap.size, 0, none⟩ = some (.pointer (some ⟨br, 0, none⟩)) := fun o => (HNB4.out.2.2.alloc o).cell 0
        clear hw5 hp4
        have hlR : rps.length ≤ 1000000 := by have := HPL2.out; omega
        have KT := Lib.hid (takeR_any br mo rrv rps oi w5 (HTN4.out.fresh HF5.out).r hlR)
        rw [← HPL.out] at KT
        generalize at_ (ps.map Pc.pl) oi = ok at *
        go_wp2_with fail
        rw [← HW5.out]
        refine KT.out.mono ?_
        rintro e w6 ⟨⟨⟨sa, sb, sraw, sv⟩, rfl, hpv, hnew, hpl⟩, rrv', rps', hT6, hn6, hq6, hf6, hs6⟩
        have hfm := hpv.1.form
        dsimp only at hfm
        obtain ⟨S, cs, rfl, _, _, _⟩ := hfm
        have he : (qa, qb, raw) = (sa, sb, sraw) := HPLQ.out.trans hpl.symm
        injection he with ha he
        injection he with hb he
        subst ha hb he
        have HTN5 := Lib.hid (HTN4.out.fresh HF5.out)
        have hsz5 := HF5.out.size
        have hsz6 := hT6.size
        have HTN6 := Lib.hid (HTN5.out.goR (by omega) hT6 hn6 hf6)
        have HNB6 := Lib.hid ((HNB4.out.fresh HF5.out).foot HTN5.out.r hT6 (by decide) (by decide) (by decide))
        have hb6 := HB5.out.touch hT6 fun e => by
          rcases e with e | e
          · have := HTN4.out.r.blk.lt; omega
          · have := HTN4.out.r.row.lt _ e; omega
        have HB6 := Lib.hid hb6
        have HT6 := Lib.hid ((HT4.out.trans HF5.out fun _ _ => False.elim).trans hT6 fun k _ e => HTN5.out.lo2 k e)
        have HPQ6 := Lib.hid ((HPV.out.touch HF5.out fun _ _ => id).touch hT6 (pcv_apart HTN5.out.r (HPV.out.touch HF5.out fun _ _ => id) (by decide)))
        have HPR6 := Lib.hid hpv; have HQ6 := Lib.hid hq6; have HS6 := Lib.hid hs6
        clear hpv hnew hpl hT6 hn6 hq6 hf6 hs6 p1 p8 KT
        have x0 : ∀ o o', ((w6.alloc o).alloc o').cell? ⟨w4.heap.size, 0, none⟩ = some (.int .i64 qa) := fun o o' => ((hb6.alloc o).alloc o').cell 0
        have x1 : ∀ o o', ((w6.alloc o).alloc o').cell? ⟨w4.heap.size, 1, none⟩ = some (.int .i64 qb) := fun o o' => ((hb6.alloc o).alloc o').cell 1
        have x2 : ∀ o o', ((w6.alloc o).alloc o').cell? ⟨w4.heap.size, 2, none⟩ = some (.slice Q raw.length cq) := fun o o' => ((hb6.alloc o).alloc o').cell 2
        have y0 : ∀ o, (w6.alloc o).cell? ⟨w4.heap.size, 0, none⟩ = some (.int .i64 qa) := fun o => (hb6.alloc o).cell 0
        have y1 : ∀ o, (w6.alloc o).cell? ⟨w4.heap.size, 1, none⟩ = some (.int .i64 qb) := fun o => (hb6.alloc o).cell 1
        have y2 : ∀ o, (w6.alloc o).cell? ⟨w4.heap.size, 2, none⟩ = some (.slice Q raw.length cq) := fun o => (hb6.alloc o).cell 2
        clear hb6
        have hok : (ok.isSome != ok.isSome) = false := by simp
        go_wp2_with fail
        obtain ⟨w9, hw9⟩ : ∃ w9, w9 = ((w6.alloc (.cells #[.int .i64 qa, .int .i64 qb, .slice S raw.length cs] 65)).alloc (.cells #[.int .i64 qa, .int .i64 qb, .slice Q raw.length cq] 65)).alloc (.cells #[.int .i64 qa, .int .i64 qb, .slice S raw.length cs] 65) := ⟨_, rfl⟩
        have HF9 := Lib.hid (show Fresh w6 w9 by rw [hw9]; exact (((Touch.refl _ _).alloc _).alloc _).alloc _)
        have hb1 : Blk w9 (w6.heap.size + 1) 65 #[.int .i64 qa, .int .i64 qb, .slice Q raw.length cq] := by rw [hw9]; have := (Blk.new (w6.alloc (.cells #[.int .i64 qa, .int .i64 qb, .slice S raw.length cs] 65)) 65 #[.int .i64 qa, .int .i64 qb, .slice Q raw.length cq]).alloc (.cells #[.int .i64 qa, .int .i64 qb, .slice S raw.length cs] 65); rwa [World.size_alloc] at this
        have hb2 : Blk w9 (w6.heap.size + 1 + 1) 65 #[.int .i64 qa, .int .i64 qb, .slice S raw.length cs] := by rw [hw9]; have := Blk.new ((w6.alloc (.cells #[.int .i64 qa, .int .i64 qb, .slice S raw.length cs] 65)).alloc (.cells #[.int .i64 qa, .int .i64 qb, .slice Q raw.length cq] 65)) 65 #[.int .i64 qa, .int .i64 qb, .slice S raw.length cs]; rwa [World.size_alloc, World.size_alloc] at this
        rw [← hw9]
        have hq9 := HPQ6.out.touch HF9.out fun _ _ => id
        have hr9 := HPR6.out.touch HF9.out fun _ _ => id
        have KP := Lib.hid (parcels_one (w6.heap.size + 1) 0 1 (w6.heap.size + 1 + 1) 0 1 qa qb Q S cq cs raw w9 (hb1.cell 0) (hb1.cell 1) (hb1.cell 2) (Row.bs hq9.1) (hb2.cell 0) (hb2.cell 1) (hb2.cell 2) (Row.bs hr9.1))
        have HB9 := Lib.hid (HB6.out.touch HF9.out id)
        have HQ9 := Lib.hid hq9
        clear hw9 hb1 hb2 hq9 hr9 x0 x1 x2 y0 y1 y2 hok
        refine KP.out.mono ?_
        rintro e w10 ⟨rfl, q, hw10⟩
        have HF10 := Lib.hid (show Fresh w9 w10 by rw [hw10]; exact (Touch.refl _ _).drewN q)
        have hb10 := HB9.out.touch HF10.out id
        have x2 := hb10.cell 2
        simp only [List.getElem?_toArray, List.getElem?_cons_zero, List.getElem?_cons_succ] at x2
        have hf610 : Fresh w6 w10 := HF9.out.trans HF10.out fun _ _ => id
        have HF610 := Lib.hid hf610
        have HQ10 := Lib.hid (HQ9.out.touch HF10.out fun _ _ => id)
        have KS := Lib.hid (spoil_any raw (.slice Q raw.length cq) w10 HQ10.out.1 (by have := HQ10.out.2; exact Nat.le_trans this (by decide)))
        clear hw10 hb10 hf610 KP
        go_wp2_with fail
        refine KS.out.mono ?_
        rintro e wt ⟨rfl, hTt⟩
        have HTNt := Lib.hid ((HTN6.out.fresh HF610.out).spoil HQ10.out.1 hTt (Clear.lt (b := wb.heap.size) (fun p hp k hk => HTB.out.n.byt_lt p (HS4.out p hp) k hk) fun k hk => HNEW.out k hk) (Clear.lt (b := wb.heap.size) (fun p hp k hk => HTB.out.r.byt_lt p (HS6.out p hp) k hk) fun k hk => HNEW.out k hk))
        have HNBt := Lib.hid ((HNB6.out.fresh HF610.out).spoil HQ10.out.1 hTt)
        have HPLt := Lib.hid (show ps'.map Pc.pl = rps'.map Pc.pl by rw [HQ4.out, HQ6.out])
        have HLt := Lib.hid (show ps'.length ≤ j + 1 from by
          have h1 : ps'.length = (del_ (ps.map Pc.pl) oi).length := by rw [← HQ4.out, List.length_map]
          have h2 := del_len (ps.map Pc.pl) oi
          rw [List.length_map] at h2
          omega)
        have HTt := Lib.hid ((HT6.out.trans HF610.out fun _ _ => False.elim).trans hTt fun k _ e => by have := HNEW.out k e; show w.heap.size ≤ k; omega)
        clear hTt KS x2
        generalize rv' = rvT at *
        generalize ps' = psT at *
        generalize rrv' = rrvT at *
        generalize rps' = rpsT at *
        have htn := HTNt.out
        obtain ⟨RR, rrc, rfl, _, _, _⟩ := htn.r.row.form
        have hle : rpsT.length = psT.length := by have := congrArg List.length HPLt.out; simpa using this.symm
        have hbe : ((psT.length : Int) != (rpsT.length : Int)) = false := by rw [hle]; simp
        have z8 := HNBt.out.2.2.cell 0
        have z1 := htn.r.blk.cell 1
        simp only [List.getElem?_toArray, List.getElem?_cons_zero, List.getElem?_cons_succ] at z8 z1
        have KL := Lib.hid (fun q => (lenW_any bn most rvT psT (wt.drewN q) (htn.n.drewN q)))
        clear htn hle
        go_wp2_with fail
        go_quiet ((go_at_call 48; exact Calls.quiet_of_same (KL.out _)))
        go_wp2_with fail
        go_roundw
        case rel =>
          have hdr : Fresh wt (wt.drewN nq) := (Touch.refl _ wt).drewN nq
          exact ⟨j + 1, by omega, by omega, by go_num, rvT, psT, .slice RR rpsT.length rrc, rpsT, HTNt.out.fresh hdr, HPLt.out, HLt.out, HNBt.out.fresh hdr, HTt.out.trans hdr fun _ _ => False.elim⟩
        case measure => simp [intOf] <;> omega
      · have FK := Lib.hid (show ∀ W, Blk W wr.heap.size 67 #[.int .i64 oDo, .int .i64 oi, .int .i64 oa, .int .i64 ob, .slice oA m oc] → NetB w.heap.size stop br w2.heap.size W → (W.cell? ⟨wr.heap.size, 1, none⟩ = some (.int .i64 oi) ∧ W.cell? ⟨w2.heap.size, 0, none⟩ = some (.pointer (some ⟨br, 0, none⟩))) from fun W h1 h2 => ⟨h1.cell 1, h2.2.2.cell 0⟩)
        have hdr : Fresh wb wb.drew := (Touch.refl _ wb).drew
        have HTD := Lib.hid (HTB.out.fresh hdr); have HPD := Lib.hid (HPB.out.touch hdr id); have HND := Lib.hid (HNBB.out.fresh hdr)
        have HTTD := Lib.hid (HTTB.out.trans hdr fun _ _ => False.elim)
        have hBd : w.heap.size ≤ wb.drew.heap.size := hB0
        have hlR : rps.length ≤ 1000000 := by have := HPL2.out; omega
        have k0 := FK.out _ HPD.out HND.out
        have KN := Lib.hid (dropW_any bn most rv ps oi wb.drew HTD.out.n hpl1)
        have KR := Lib.hid (fun W (hr : NT W 76 br mo rrv rps) => dropR_any br mo rrv rps oi W hr hlR)
        rw [← HPL.out] at KR
        generalize at_ (ps.map Pc.pl) oi = ok at *
        have hok : (ok.isSome != ok.isSome) = false := by simp
        clear hdr p0 p1 p2 p3 p4
        go_upto_region 29 with fail
        refine wp_region_noPanic ?_
        go_region_held (fun W => W.cell? ⟨wr.heap.size, 1, none⟩ = some (.int .i64 oi) ∧ W.cell? ⟨w2.heap.size, 0, none⟩ = some (.pointer (some ⟨br, 0, none⟩)))
          (first | exact k0 | assumption)
          (first
            | (go_at_call 42; refine KN.out.mono ?_; rintro e w4 ⟨rfl, rv', ps', hT4, hn4, hq4, hf4, hg4⟩; have k4 := FK.out w4 (HPD.out.touch hT4 (blk_apart HTD.out.n HPD.out (by decide) (by decide))) (HND.out.foot HTD.out.n hT4 (by decide) (by decide) (by decide)); have HTN4 := Lib.hid (HTD.out.goN hBd hT4 hn4 hf4))
            | (go_at_call 43; refine (KR.out w4 HTN4.out.r).mono ?_; rintro e w5 ⟨rfl, rrv', rps', hT5, hn5, hq5, hf5, hg5⟩; have hb4 := (HPD.out.touch hT4 (blk_apart HTD.out.n HPD.out (by decide) (by decide))); have hn4' := (HND.out.foot HTD.out.n hT4 (by decide) (by decide) (by decide)); have k5 := FK.out w5 (hb4.touch hT5 (blk_apart HTN4.out.r hb4 (by decide) (by decide))) (hn4'.foot HTN4.out.r hT5 (by decide) (by decide) (by decide))))
        all_goals
          refine NoPanic.normal ?_
          have hs4 := hT4.size
          have hBd' : w.heap.size ≤ wb.heap.size := hB0
          have hBd2 : wb.heap.size ≤ w4.heap.size := hs4
          have HTNt := Lib.hid (HTN4.out.goR (by omega) hT5 hn5 hf5)
          have HNBt := Lib.hid (hn4'.foot HTN4.out.r hT5 (by decide) (by decide) (by decide))
          have HPLt := Lib.hid (show ps'.map Pc.pl = rps'.map Pc.pl by rw [hq4, hq5])
          have HTt := Lib.hid ((HTTD.out.trans hT4 fun k _ e => HTD.out.lo k e).trans hT5 fun k _ e => HTN4.out.lo2 k e)
          have HLt := Lib.hid (show ps'.length ≤ j + 1 from by
            have h1 : ps'.length = (del_ (ps.map Pc.pl) oi).length := by rw [← hq4, List.length_map]
            have h2 := del_len (ps.map Pc.pl) oi
            rw [List.length_map] at h2
            omega)
          clear k0 k4 k5 hb4 hn4' hT4 hT5 hn4 hn5 hq4 hq5 hf4 hf5 hg4 hg5 HTN4 KN KR HTD HPD HND
          generalize rv' = rvT at *
          generalize ps' = psT at *
          generalize rrv' = rrvT at *
          generalize rps' = rpsT at *
          generalize w5 = wt at *
          have htn := HTNt.out
          obtain ⟨RR, rrc, rfl, _, _, _⟩ := htn.r.row.form
          have hle : rpsT.length = psT.length := by have := congrArg List.length HPLt.out; simpa using this.symm
          have hbe : ((psT.length : Int) != (rpsT.length : Int)) = false := by rw [hle]; simp
          have z8 := HNBt.out.2.2.cell 0
          have z1 := htn.r.blk.cell 1
          simp only [List.getElem?_toArray, List.getElem?_cons_zero, List.getElem?_cons_succ] at z8 z1
          have KL := Lib.hid (fun q => (lenW_any bn most rvT psT (wt.drewN q) (htn.n.drewN q)))
          clear htn hle
          go_wp2_with fail
          go_quiet ((go_at_call 48; exact Calls.quiet_of_same (KL.out _)))
          go_wp2_with fail
          go_roundw
          case rel =>
            have hdr : Fresh wt (wt.drewN nq) := (Touch.refl _ wt).drewN nq
            exact ⟨j + 1, by omega, by omega, by go_num, rvT, psT, .slice RR rpsT.length rrc, rpsT, HTNt.out.fresh hdr, HPLt.out, HLt.out, HNBt.out.fresh hdr, HTt.out.trans hdr fun _ _ => False.elim⟩
          case measure => simp [intOf] <;> omega
      · have FK := Lib.hid (show ∀ W, Blk W wr.heap.size 67 #[.int .i64 oDo, .int .i64 oi, .int .i64 oa, .int .i64 ob, .slice oA m oc] → NetB w.heap.size stop br w2.heap.size W → (W.cell? ⟨wr.heap.size, 1, none⟩ = some (.int .i64 oi) ∧ W.cell? ⟨w2.heap.size, 0, none⟩ = some (.pointer (some ⟨br, 0, none⟩))) from fun W h1 h2 => ⟨h1.cell 1, h2.2.2.cell 0⟩)
        have hdr : Fresh wb wb.drew := (Touch.refl _ wb).drew
        have HTD := Lib.hid (HTB.out.fresh hdr); have HPD := Lib.hid (HPB.out.touch hdr id); have HND := Lib.hid (HNBB.out.fresh hdr)
        have HTTD := Lib.hid (HTTB.out.trans hdr fun _ _ => False.elim)
        have hBd : w.heap.size ≤ wb.drew.heap.size := hB0
        have hlR : rps.length ≤ 1000000 := by have := HPL2.out; omega
        have k0 := FK.out _ HPD.out HND.out
        have KN := Lib.hid (doubleW_any bn most rv ps oi wb.drew HTD.out.n hpl1)
        have KR := Lib.hid (fun W (hr : NT W 76 br mo rrv rps) => doubleR_any br mo rrv rps oi W hr hlR)
        rw [← HPL.out, HMO.out] at KR
        simp only [dbl_most] at KR
        rw [← HMO.out] at KR
        have hdl := dbl_len most (ps.map Pc.pl) oi
        generalize dbl_ most (ps.map Pc.pl) oi = d at *
        rw [List.length_map] at hdl
        have HDL := Lib.hid hdl
        have hok : (d.2 != d.2) = false := by simp
        clear hdl
        clear hdr p0 p1 p2 p3 p4
        go_upto_region 32 with fail
        refine wp_region_noPanic ?_
        go_region_held (fun W => W.cell? ⟨wr.heap.size, 1, none⟩ = some (.int .i64 oi) ∧ W.cell? ⟨w2.heap.size, 0, none⟩ = some (.pointer (some ⟨br, 0, none⟩)))
          (first | exact k0 | assumption)
          (first
            | (go_at_call 44; refine KN.out.mono ?_; rintro e w4 ⟨rfl, hT4, rv', ps', hn4, hq4, hf4, hg4⟩; have k4 := FK.out w4 (HPD.out.touch hT4 (blk_apart HTD.out.n HPD.out (by decide) (by decide))) (HND.out.foot HTD.out.n hT4 (by decide) (by decide) (by decide)); have HTN4 := Lib.hid (HTD.out.goN hBd hT4 hn4 hf4))
            | (go_at_call 45; refine (KR.out w4 HTN4.out.r).mono ?_; rintro e w5 ⟨rfl, hT5, rrv', rps', hn5, hq5, hf5, hg5⟩; have hb4 := (HPD.out.touch hT4 (blk_apart HTD.out.n HPD.out (by decide) (by decide))); have hn4' := (HND.out.foot HTD.out.n hT4 (by decide) (by decide) (by decide)); have k5 := FK.out w5 (hb4.touch hT5 (blk_apart HTN4.out.r hb4 (by decide) (by decide))) (hn4'.foot HTN4.out.r hT5 (by decide) (by decide) (by decide))))
        all_goals
          refine NoPanic.normal ?_
          have hs4 := hT4.size
          have hBd' : w.heap.size ≤ wb.heap.size := hB0
          have hBd2 : wb.heap.size ≤ w4.heap.size := hs4
          have HTNt := Lib.hid (HTN4.out.goR (by omega) hT5 hn5 hf5)
          have HNBt := Lib.hid (hn4'.foot HTN4.out.r hT5 (by decide) (by decide) (by decide))
          have HPLt := Lib.hid (show ps'.map Pc.pl = rps'.map Pc.pl by rw [hq4, hq5])
          have HTt := Lib.hid ((HTTD.out.trans hT4 fun k _ e => HTD.out.lo k e).trans hT5 fun k _ e => HTN4.out.lo2 k e)
          have HLt := Lib.hid (show ps'.length ≤ j + 1 from by
            have h1 : ps'.length = d.1.length := by rw [← hq4, List.length_map]
            have h2 := HDL.out
            omega)
          clear k0 k4 k5 hb4 hn4' hT4 hT5 hn4 hn5 hq4 hq5 hf4 hf5 hg4 hg5 HTN4 KN KR HTD HPD HND
          generalize rv' = rvT at *
          generalize ps' = psT at *
          generalize rrv' = rrvT at *
          generalize rps' = rpsT at *
          generalize w5 = wt at *
          have htn := HTNt.out
          obtain ⟨RR, rrc, rfl, _, _, _⟩ := htn.r.row.form
          have hle : rpsT.length = psT.length := by have := congrArg List.length HPLt.out; simpa using this.symm
          have hbe : ((psT.length : Int) != (rpsT.length : Int)) = false := by rw [hle]; simp
          have z8 := HNBt.out.2.2.cell 0
          have z1 := htn.r.blk.cell 1
          simp only [List.getElem?_toArray, List.getElem?_cons_zero, List.getElem?_cons_succ] at z8 z1
          have KL := Lib.hid (fun q => (lenW_any bn most rvT psT (wt.drewN q) (htn.n.drewN q)))
          clear htn hle
          go_wp2_with fail
          go_quiet ((go_at_call 48; exact Calls.quiet_of_same (KL.out _)))
          go_wp2_with fail
          go_roundw
          case rel =>
            have hdr : Fresh wt (wt.drewN nq) := (Touch.refl _ wt).drewN nq
            exact ⟨j + 1, by omega, by omega, by go_num, rvT, psT, .slice RR rpsT.length rrc, rpsT, HTNt.out.fresh hdr, HPLt.out, HLt.out, HNBt.out.fresh hdr, HTt.out.trans hdr fun _ _ => False.elim⟩
          case measure => simp [intOf] <;> omega
      · go_wp2_with fail
        refine (lookW_any bn most rv ps oi wb HTB.out.n hpl1).mono ?_
        rintro e w4 ⟨hT4, ⟨qa, qb, raw, qv⟩, rfl, hpv, hnew, hpl⟩
        have hfm := hpv.1.form
        dsimp only at hfm
        obtain ⟨Q, cq, rfl, _, _, _⟩ := hfm
        have HTN4 := Lib.hid (HTB.out.fresh hT4)
        have HNB4 := Lib.hid (HNBB.out.fresh hT4)
        have hp4 := HPB.out.touch hT4 id
        have HP4 := Lib.hid hp4
        have HT4 := Lib.hid (HTTB.out.trans hT4 fun _ _ => False.elim)
        have HPV := Lib.hid hpv; have HNEW := Lib.hid hnew; have HPLQ := Lib.hid hpl
        have hsz4 := hT4.size
        clear hpv hnew hpl hT4 p0 p1 p2 p3 p4
        obtain ⟨w5, hw5⟩ : ∃ w5, w5 = w4.alloc (.cells #[.int .i64 qa, .int .i64 qb, .slice Q raw.length cq] 65) := ⟨_, rfl⟩
        have HW5 := Lib.hid hw5
        have HF5 := Lib.hid (show Fresh w4 w5 by rw [hw5]; exact (Touch.refl _ _).alloc _)
        have HB5 := Lib.hid (show Blk w5 w4.heap.size 65 #[.int .i64 qa, .int .i64 qb, .slice Q raw.length cq] by rw [hw5]; exact Blk.new _ _ _)
        have p1 : ∀ o, (w4.alloc o).cell? ⟨wr.heap.size, 1, none⟩ = some (.int .i64 oi) := fun o => (hp4.alloc o).cell 1
        have p8 : ∀ o, (w4.alloc o).cell? ⟨w2.heap.size, 0, none⟩ = some (.pointer (some ⟨br, 0, none⟩)) := fun o => (HNB4.out.2.2.alloc o).cell 0
        clear hw5 hp4
        have hlR : rps.length ≤ 1000000 := by have := HPL2.out; omega
        have KT := Lib.hid (lookR_any br mo rrv rps oi w5 (HTN4.out.fresh HF5.out).r hlR)
        rw [← HPL.out] at KT
        generalize at_ (ps.map Pc.pl) oi = ok at *
        go_wp2_with fail
        rw [← HW5.out]
        refine KT.out.mono ?_
        rintro e w6 ⟨hT6, ⟨sa, sb, sraw, sv⟩, rfl, hpv, hnew, hpl⟩
        have hfm := hpv.1.form
        dsimp only at hfm
        obtain ⟨S, cs, rfl, _, _, _⟩ := hfm
        have he : (qa, qb, raw) = (sa, sb, sraw) := HPLQ.out.trans hpl.symm
        injection he with ha he
        injection he with hb he
        subst ha hb he
        have HTN5 := Lib.hid (HTN4.out.fresh HF5.out)
        have hsz5 := HF5.out.size
        have hsz6 := hT6.size
        have HTN6 := Lib.hid (HTN5.out.fresh hT6)
        have HNB6 := Lib.hid ((HNB4.out.fresh HF5.out).fresh hT6)
        have hb6 := HB5.out.touch hT6 id
        have HB6 := Lib.hid hb6
        have HT6 := Lib.hid ((HT4.out.trans HF5.out fun _ _ => False.elim).trans hT6 fun _ _ => False.elim)
        have HPQ6 := Lib.hid ((HPV.out.touch HF5.out fun _ _ => id).touch hT6 fun _ _ => id)
        have HPR6 := Lib.hid hpv
        clear hpv hnew hpl hT6 p1 p8 KT
        have x0 : ∀ o o', ((w6.alloc o).alloc o').cell? ⟨w4.heap.size, 0, none⟩ = some (.int .i64 qa) := fun o o' => ((hb6.alloc o).alloc o').cell 0
        have x1 : ∀ o o', ((w6.alloc o).alloc o').cell? ⟨w4.heap.size, 1, none⟩ = some (.int .i64 qb) := fun o o' => ((hb6.alloc o).alloc o').cell 1
        have x2 : ∀ o o', ((w6.alloc o).alloc o').cell? ⟨w4.heap.size, 2, none⟩ = some (.slice Q raw.length cq) := fun o o' => ((hb6.alloc o).alloc o').cell 2
        have y0 : ∀ o, (w6.alloc o).cell? ⟨w4.heap.size, 0, none⟩ = some (.int .i64 qa) := fun o => (hb6.alloc o).cell 0
        have y1 : ∀ o, (w6.alloc o).cell? ⟨w4.heap.size, 1, none⟩ = some (.int .i64 qb) := fun o => (hb6.alloc o).cell 1
        have y2 : ∀ o, (w6.alloc o).cell? ⟨w4.heap.size, 2, none⟩ = some (.slice Q raw.length cq) := fun o => (hb6.alloc o).cell 2
        clear hb6
        have hok : (ok.isSome != ok.isSome) = false := by simp
        go_wp2_with fail
        obtain ⟨w9, hw9⟩ : ∃ w9, w9 = ((w6.alloc (.cells #[.int .i64 qa, .int .i64 qb, .slice S raw.length cs] 65)).alloc (.cells #[.int .i64 qa, .int .i64 qb, .slice Q raw.length cq] 65)).alloc (.cells #[.int .i64 qa, .int .i64 qb, .slice S raw.length cs] 65) := ⟨_, rfl⟩
        have HF9 := Lib.hid (show Fresh w6 w9 by rw [hw9]; exact (((Touch.refl _ _).alloc _).alloc _).alloc _)
        have hb1 : Blk w9 (w6.heap.size + 1) 65 #[.int .i64 qa, .int .i64 qb, .slice Q raw.length cq] := by rw [hw9]; have := (Blk.new (w6.alloc (.cells #[.int .i64 qa, .int .i64 qb, .slice S raw.length cs] 65)) 65 #[.int .i64 qa, .int .i64 qb, .slice Q raw.length cq]).alloc (.cells #[.int .i64 qa, .int .i64 qb, .slice S raw.length cs] 65); rwa [World.size_alloc] at this
        have hb2 : Blk w9 (w6.heap.size + 1 + 1) 65 #[.int .i64 qa, .int .i64 qb, .slice S raw.length cs] := by rw [hw9]; have := Blk.new ((w6.alloc (.cells #[.int .i64 qa, .int .i64 qb, .slice S raw.length cs] 65)).alloc (.cells #[.int .i64 qa, .int .i64 qb, .slice Q raw.length cq] 65)) 65 #[.int .i64 qa, .int .i64 qb, .slice S raw.length cs]; rwa [World.size_alloc, World.size_alloc] at this
        rw [← hw9]
        have hq9 := HPQ6.out.touch HF9.out fun _ _ => id
        have hr9 := HPR6.out.touch HF9.out fun _ _ => id
        have KP := Lib.hid (parcels_one (w6.heap.size + 1) 0 1 (w6.heap.size + 1 + 1) 0 1 qa qb Q S cq cs raw w9 (hb1.cell 0) (hb1.cell 1) (hb1.cell 2) (Row.bs hq9.1) (hb2.cell 0) (hb2.cell 1) (hb2.cell 2) (Row.bs hr9.1))
        have HB9 := Lib.hid (HB6.out.touch HF9.out id)
        have HQ9 := Lib.hid hq9
        clear hw9 hb1 hb2 hq9 hr9 x0 x1 x2 y0 y1 y2 hok
        refine KP.out.mono ?_
        rintro e w10 ⟨rfl, q, hw10⟩
        have HF10 := Lib.hid (show Fresh w9 w10 by rw [hw10]; exact (Touch.refl _ _).drewN q)
        have hb10 := HB9.out.touch HF10.out id
        have x2 := hb10.cell 2
        simp only [List.getElem?_toArray, List.getElem?_cons_zero, List.getElem?_cons_succ] at x2
        have hf610 : Fresh w6 w10 := HF9.out.trans HF10.out fun _ _ => id
        have HF610 := Lib.hid hf610
        have HQ10 := Lib.hid (HQ9.out.touch HF10.out fun _ _ => id)
        have KS := Lib.hid (spoil_any raw (.slice Q raw.length cq) w10 HQ10.out.1 (by have := HQ10.out.2; exact Nat.le_trans this (by decide)))
        clear hw10 hb10 hf610 KP
        go_wp2_with fail
        refine KS.out.mono ?_
        rintro e wt ⟨rfl, hTt⟩
        have HTNt := Lib.hid ((HTN6.out.fresh HF610.out).spoil HQ10.out.1 hTt (Clear.lt (b := wb.heap.size) (HTB.out.n.byt_lt) fun k hk => HNEW.out k hk) (Clear.lt (b := wb.heap.size) (HTB.out.r.byt_lt) fun k hk => HNEW.out k hk))
        have HNBt := Lib.hid ((HNB6.out.fresh HF610.out).spoil HQ10.out.1 hTt)
        have HPLt := Lib.hid HPL.out
        have HLt := Lib.hid (show ps.length ≤ j + 1 from by omega)
        have HTt := Lib.hid ((HT6.out.trans HF610.out fun _ _ => False.elim).trans hTt fun k _ e => by have := HNEW.out k e; show w.heap.size ≤ k; omega)
        clear hTt KS x2
        clear HTB HTN4 HTN6 HTN5
        generalize rv = rvT at *
        generalize ps = psT at *
        generalize rrv = rrvT at *
        generalize rps = rpsT at *
        have htn := HTNt.out
        obtain ⟨RR, rrc, rfl, _, _, _⟩ := htn.r.row.form
        have hle : rpsT.length = psT.length := by have := congrArg List.length HPLt.out; simpa using this.symm
        have hbe : ((psT.length : Int) != (rpsT.length : Int)) = false := by rw [hle]; simp
        have z8 := HNBt.out.2.2.cell 0
        have z1 := htn.r.blk.cell 1
        simp only [List.getElem?_toArray, List.getElem?_cons_zero, List.getElem?_cons_succ] at z8 z1
        have KL := Lib.hid (fun q => (lenW_any bn most rvT psT (wt.drewN q) (htn.n.drewN q)))
        clear htn hle
        go_wp2_with fail
        go_quiet ((go_at_call 48; exact Calls.quiet_of_same (KL.out _)))
        go_wp2_with fail
        go_roundw
        case rel =>
          have hdr : Fresh wt (wt.drewN nq) := (Touch.refl _ wt).drewN nq
          exact ⟨j + 1, by omega, by omega, by go_num, rvT, psT, .slice RR rpsT.length rrc, rpsT, HTNt.out.fresh hdr, HPLt.out, HLt.out, HNBt.out.fresh hdr, HTt.out.trans hdr fun _ _ => False.elim⟩
        case measure => simp [intOf] <;> omega
    -- THE EXIT
    · have HL := Lib.hid (show ps.length ≤ 200 from by omega)
      by_cases hjn : j < nx
      · have hj200 : j = 200 := by omega
        subst hj200
        obtain ⟨R, rrc, rfl, hrc1, hrc2, hR⟩ := HTN.out.r.row.form
        obtain ⟨M, hM⟩ : ∃ M : Nat, stop % 20 = (M : Int) := ⟨(stop % 20).toNat, by omega⟩
        have hM2 : M < 20 := by omega
        have HWI := Lib.hid (show ∀ v, Calls Try.prog 19 #[.int .i64 stop, .int .i64 20] v fun e w' => e = .returned (.int .i64 (M : Int)) ∧ w' = v from fun v => (within_any stop 20 v (by omega) (by omega)).mono fun e w' ⟨h1, h2⟩ => ⟨by rw [h2, hM], h1.symm⟩)
        clear hM
        have hBk := HNB.out.1.lt
        have hBk1 := HNB.out.2.1.lt
        have hBk8 := HNB.out.2.2.lt
        obtain ⟨w7, hw7⟩ : ∃ w7, w7 = wr.alloc (.cells #[.int .i64 0] 3) := ⟨_, rfl⟩
        have HF7 := Lib.hid (show Fresh wr w7 by rw [hw7]; exact (Touch.refl _ _).alloc _)
        have HK7 := Lib.hid (show Blk w7 wr.heap.size 3 #[.int .i64 0] by rw [hw7]; exact Blk.new _ _ _)
        go_wp2_with fail
        rw [← hw7]
        refine (allW_any bn w7).mono ?_
        rintro e w8 ⟨rfl, hw8⟩
        have HF8 := Lib.hid (show Fresh w7 w8 by rw [hw8]; exact (Touch.refl _ _).alloc _)
        have HA := Lib.hid (show Blk w8 w7.heap.size 60 #[.pointer (some ⟨bn, 0, none⟩)] by rw [hw8]; exact Blk.new _ _ _)
        have HT8 := Lib.hid ((HTN.out.fresh HF7.out).fresh HF8.out)
        have HNB8 := Lib.hid ((HNB.out.fresh HF7.out).fresh HF8.out)
        have HK8 := Lib.hid (HK7.out.touch HF8.out id)
        have HFR := Lib.hid ((HT.out.old'.trans HF7.out fun _ _ => id).trans HF8.out fun _ _ => id)
        clear hw7 hw8 HTN HNB HT HK7
        go_wp2_with fail
        refine wpIn_wide (n := 3).1 ?_
        refine range_box (F := Fence.wide) (n := 3) rfl (by decide) (gf := 71) (lb := #[.pointer (some ⟨w7.heap.size, 0, none⟩)]) rfl trivial (enters_of Try.func71 (by kernel_rfl) rfl)
          (all_told 2 w7.heap.size bn most rv ps (fun k => k = wr.heap.size ∨ k = w.heap.size + 1) w8 (by decide) HA.out HT8.out.n (by have := HL.out; omega)
            (fun k hk => by
              rcases hk with rfl | rfl
              · exact HK8.out.lt
              · exact HNB8.out.2.1.lt)
            (fun p hp k hk e => by
              rcases e with rfl | rfl
              · exact (HT8.out.n.byt p hp).ne_blk HK8.out (by decide) hk
              · exact (HT8.out.n.byt p hp).ne_blk HNB8.out.2.1 (by decide) hk))
          (fun pre x V l o o' hok hl hc => hok.put hl hc) (fun pre x V V1 hok hf => hok.fresh hf) 65 pcBox (fun x bx => [(22, .int .i64 x.1), (23, .pointer (some ⟨bx, 0, none⟩))])
          (fun h => NKp.fresh h) (fun h1 h2 => h1.trans_ h2) (fun V l o o' _ hl hc _ => NKp.put V l o o' hl hc) (fun _ => rfl)
          (fun pre V => TN w.heap.size V bn br most mo rv ps (.slice R rps.length rrc) rps ∧ NetB w.heap.size stop br w2.heap.size V ∧ Blk V wr.heap.size 3 #[.int .i64 (pre.length : Int)] ∧ Below w.heap.size w V)
          (fun _ V => Blk V (w.heap.size + 1) 4 #[.bool true] ∧ Below w.heap.size w V)
          (fun s A B row hs hg hr => ⟨hs.1.own_ hg fun r e => (hr r e).2, hs.2.1.own_ hg fun r e => (hr r e).2, hs.2.2.1.own_ hg fun r e => (hr r e).2, (ownFrom_below (β := Unit) (Nat.le_refl _) HFR.out.size) () A B row hs.2.2.2 hg hr⟩)
          (fun s A B row hs hg hr => ⟨hs.1.own_ hg fun r e => (hr r e).2, (ownFrom_below (β := Unit) (Nat.le_refl _) HFR.out.size) () A B row hs.2 hg hr⟩)
          ⟨HT8.out, HNB8.out, HK8.out, Fresh.bel HFR.out⟩ ?_ ?_ ?_ ?_
        · rintro l pre ⟨k, pa, pb, raw, pv⟩ V K hok hK
          have hfm := hok.2.2.1.1.form
          dsimp only at hfm
          obtain ⟨A, cp, rfl, _⟩ := hfm
          clear hok
          simp only [pcEnc, List.zip_toArray, List.size_toArray, List.zip_cons_cons, List.zip_nil_left]
          gi_wp2
          exact hK V.heap.size _ _ (by simp [boxed, pcEnc]) ((Touch.refl _ V).alloc _) (Blk.new _ _ _)
        · rintro l pre ⟨k, pa, pb, raw, pv⟩ bx a1 V ha ⟨ht, hnb, hkb, hbl⟩ ⟨hkp, ⟨p, hp, hpe⟩, hpv, hnew⟩ hbx hlt
          dsimp only at hkp
          subst hkp
          have HT := Lib.hid ht; have HNB := Lib.hid hnb; have HKB := Lib.hid hkb; have HBL := Lib.hid hbl; have HBX := Lib.hid hbx
          obtain ⟨n, hn⟩ : ∃ n, n = pre.length := ⟨_, rfl⟩
          rw [← hn] at hp hlt ha hkb
          obtain ⟨q, hq, hqe⟩ : ∃ q, rps[n]? = some q ∧ q.pl = (pa, pb, raw) := by
            have h1 : (rps.map Pc.pl)[n]? = some p.pl := by rw [← HPL.out, List.getElem?_map, hp]; rfl
            rw [List.getElem?_map] at h1
            cases hq : rps[n]? with
            | none => rw [hq] at h1; cases h1
            | some q => rw [hq] at h1; exact ⟨q, rfl, (Option.some.inj h1 : q.pl = p.pl).trans hpe.symm⟩
          obtain ⟨qa, qb, raw2, qv⟩ := q
          simp only [Pc.pl, Prod.mk.injEq] at hqe
          obtain ⟨rfl, rfl, rfl⟩ := hqe
          have hfm := hpv.1.form
          dsimp only at hfm
          obtain ⟨A, cp, rfl, _⟩ := hfm
          have hqv := ht.r.byt _ (List.mem_of_getElem? hq)
          have hfq := hqv.1.form
          dsimp only at hfq
          obtain ⟨Q, cq, rfl, _⟩ := hfq
          have hrl : n < rps.length := (List.getElem?_eq_some_iff.1 hq).1
          obtain ⟨g, rfl⟩ : ∃ g, R = some ⟨g, 0, none⟩ := by
            rcases hR with ⟨_, h0, _⟩ | h
            · omega
            · exact h
          have j0 : V.cell? ⟨g, n * 3, none⟩ = some (.int .i64 qa) := by
            have := ht.r.row.cell (j := n * 3 + 0) (by omega)
            rw [pcCells_get hq 0 (by omega)] at this
            exact this
          have j1 : V.cell? ⟨g, n * 3 + 1, none⟩ = some (.int .i64 qb) := by
            have := ht.r.row.cell (j := n * 3 + 1) (by omega)
            rw [pcCells_get hq 1 (by omega)] at this
            exact this
          have j2 : V.cell? ⟨g, n * 3 + 2, none⟩ = some (.slice Q raw2.length cq) := by
            have := ht.r.row.cell (j := n * 3 + 2) (by omega)
            rw [pcCells_get hq 2 (by omega)] at this
            exact this
          have x0 := hbx.cell 0
          have x1 := hbx.cell 1
          have x2 := hbx.cell 2
          have ck := hkb.cell 0
          have c8 := hnb.2.2.cell 0
          have cr := ht.r.blk.cell 1
          simp only [pcBox, List.getElem?_toArray, List.getElem?_cons_zero, List.getElem?_cons_succ] at x0 x1 x2 ck c8 cr
          have hlt1 : V.heap.size < V.heap.size + 1 := Nat.lt_succ_self _
          obtain ⟨w1', hw1'⟩ : ∃ w1', w1' = (V.alloc (.cells #[.int .i64 qa, .int .i64 qb, .slice A raw2.length cp] 65)).drew := ⟨_, rfl⟩
          have HFW : Hid (Fresh V w1') := Lib.hid (by rw [hw1']; exact ((Touch.refl _ V).alloc _).drew)
          have hbw : Blk w1' V.heap.size 65 #[.int .i64 qa, .int .i64 qb, .slice A raw2.length cp] := by rw [hw1']; exact (Blk.new _ _ _).drew
          have KP := Lib.hid (parcels_one V.heap.size 0 1 g (n * 3) (rrc - n) qa qb A Q cp cq raw2 w1' (hbw.cell 0) (hbw.cell 1) (hbw.cell 2) (Row.bs (hpv.1.touch HFW.out fun _ _ => id))
            (HFW.out.cell j0 id) (HFW.out.cell j1 id) (HFW.out.cell j2 id) (Row.bs (hqv.1.touch HFW.out fun _ _ => id)))
          have HS1 := Lib.hid (show w1'.cell? ⟨wr.heap.size, 0, none⟩ = some (.int .i64 n) ∧ w1'.cell? ⟨w2.heap.size, 0, none⟩ = some (.pointer (some ⟨br, 0, none⟩)) ∧ w1'.cell? ⟨br, 1, none⟩ = some (.slice (some ⟨g, 0, none⟩) rps.length rrc) ∧ w1'.cell? ⟨bx, 0, none⟩ = some (.int .i64 qa) ∧ w1'.cell? ⟨bx, 1, none⟩ = some (.int .i64 qb) ∧ w1'.cell? ⟨bx, 2, none⟩ = some (.slice A raw2.length cp) from ⟨HFW.out.cell ck id, HFW.out.cell c8 id, HFW.out.cell cr id, HFW.out.cell x0 id, HFW.out.cell x1 id, HFW.out.cell x2 id⟩)
          have HW1 := Lib.hid hw1'
          have HN := Lib.hid hn
          have hn2 : n ≤ 200 := by have := HL.out; omega
          have e1 : ((n : Int) != (n : Int)) = false := by simp
          have e2 : decide ((rps.length : Int) ≤ (n : Int)) = false := by simp; omega
          have e3 : decide (rps.length ≤ n) = false := by simp; omega
          have g1 : IntKind.i64.wrap ((n : Int) + 1) = (n : Int) + 1 := IntWalk.i64_in _ (by omega)
          have e4 : (n : Int) + 1 ≤ (rrc : Int) := by omega
          have e5 : (0 : Int) ≤ (n : Int) := by omega
          have e7 : ¬ rrc = n := by omega
          have e6 : (n : Int) ≤ (n : Int) + 1 := by omega
          clear hpv hqv hp hpe hq ht hnb hkb hbl hbx hnew j0 j1 j2 hw1' hbw hlt1 hn
          subst ha
          simp only [boxed, pcEnc, ← Array.foldl_toList, Array.toList_zip, List.zip_cons_cons, List.zip_nil_left]
          simp only [List.foldl_cons, List.foldl_nil, List.setIfInBounds_toArray, List.set_cons_zero, List.set_cons_succ]
          gi_wp2
          refine region_held_round (fun W => W.cell? ⟨wr.heap.size, 0, none⟩ = some (.int .i64 n) ∧ W.cell? ⟨w2.heap.size, 0, none⟩ = some (.pointer (some ⟨br, 0, none⟩)) ∧ W.cell? ⟨br, 1, none⟩ = some (.slice (some ⟨g, 0, none⟩) rps.length rrc) ∧ W.cell? ⟨bx, 0, none⟩ = some (.int .i64 qa) ∧ W.cell? ⟨bx, 1, none⟩ = some (.int .i64 qb) ∧ W.cell? ⟨bx, 2, none⟩ = some (.slice A raw2.length cp)) l (by rintro ⟨_, _, h⟩; exact h) (by simp) (by kernel_rfl) ⟨ck, c8, cr, x0, x1, x2⟩ (fun hHeld => ?_)
          refine take_l (i := 0) (v := ?_) rfl (by kernel_rfl) (by kernel_rfl) (by kernel_rfl) (fun _ _ _ h => h) (Or.inl ⟨by rfl, ?_⟩) (by assumption) ?_
          rotate_left
          · intro W hSW
            try dsimp only at hSW
            go_simp
            all_goals with_reducible rfl
          try simp only [Act.put, List.setIfInBounds_toArray, List.set_cons_zero, List.set_cons_succ]
          refine take_l (i := 1) (v := ?_) rfl (by kernel_rfl) (by kernel_rfl) (by kernel_rfl) (fun _ _ _ h => h) (Or.inl ⟨by rfl, ?_⟩) (by assumption) ?_
          rotate_left
          · intro W hSW
            try dsimp only at hSW
            go_simp
            all_goals with_reducible rfl
          try simp only [Act.put, List.setIfInBounds_toArray, List.set_cons_zero, List.set_cons_succ]
          refine take_l (i := 2) (v := ?_) rfl (by kernel_rfl) (by kernel_rfl) (by kernel_rfl) (fun _ _ _ h => h) (Or.inl ⟨by rfl, ?_⟩) (by assumption) ?_
          rotate_left
          · intro W hSW
            try dsimp only at hSW
            go_simp
            all_goals with_reducible rfl
          try simp only [Act.put, List.setIfInBounds_toArray, List.set_cons_zero, List.set_cons_succ]
          refine take_l (i := 3) (v := ?_) rfl (by kernel_rfl) (by kernel_rfl) (by kernel_rfl) (fun _ _ _ h => h) (Or.inl ⟨by rfl, ?_⟩) (by assumption) ?_
          rotate_left
          · intro W hSW
            try dsimp only at hSW
            go_simp
            all_goals with_reducible rfl
          try simp only [Act.put, List.setIfInBounds_toArray, List.set_cons_zero, List.set_cons_succ]
          refine take_l (i := 4) (v := ?_) rfl (by kernel_rfl) (by kernel_rfl) (by kernel_rfl) (fun _ _ _ h => h) (Or.inl ⟨by rfl, ?_⟩) (by assumption) ?_
          rotate_left
          · intro W hSW
            try dsimp only at hSW
            go_simp
            all_goals with_reducible rfl
          try simp only [Act.put, List.setIfInBounds_toArray, List.set_cons_zero, List.set_cons_succ]
          refine take_l (i := 5) (v := ?_) rfl (by kernel_rfl) (by kernel_rfl) (by kernel_rfl) (fun _ _ _ h => h) (Or.inl ⟨by rfl, ?_⟩) (by assumption) ?_
          rotate_left
          · intro W hSW
            try dsimp only at hSW
            go_simp
            all_goals with_reducible rfl
          try simp only [Act.put, List.setIfInBounds_toArray, List.set_cons_zero, List.set_cons_succ]
          refine take_l (i := 6) (v := ?_) rfl (by kernel_rfl) (by kernel_rfl) (by kernel_rfl) (fun _ _ _ h => h) (Or.inl ⟨by rfl, ?_⟩) (by assumption) ?_
          rotate_left
          · intro W hSW
            try dsimp only at hSW
            go_simp
            all_goals with_reducible rfl
          try simp only [Act.put, List.setIfInBounds_toArray, List.set_cons_zero, List.set_cons_succ]
          refine take_l (i := 7) (v := ?_) rfl (by kernel_rfl) (by kernel_rfl) (by kernel_rfl) (fun _ _ _ h => h) (Or.inl ⟨by rfl, ?_⟩) (by assumption) ?_
          rotate_left
          · intro W hSW
            try dsimp only at hSW
            go_simp
            all_goals with_reducible rfl
          try simp only [Act.put, List.setIfInBounds_toArray, List.set_cons_zero, List.set_cons_succ]
          refine take_l (i := 8) (v := ?_) rfl (by kernel_rfl) (by kernel_rfl) (by kernel_rfl) (fun _ _ _ h => h) (Or.inl ⟨by rfl, ?_⟩) (by assumption) ?_
          rotate_left
          · intro W hSW
            try dsimp only at hSW
            go_simp
            all_goals with_reducible rfl
          try simp only [Act.put, List.setIfInBounds_toArray, List.set_cons_zero, List.set_cons_succ]
          refine take_l (i := 9) (v := ?_) rfl (by kernel_rfl) (by kernel_rfl) (by kernel_rfl) (fun _ _ _ h => h) (Or.inl ⟨by rfl, ?_⟩) (by assumption) ?_
          rotate_left
          · intro W hSW
            try dsimp only at hSW
            go_simp
            all_goals with_reducible rfl
          try simp only [Act.put, List.setIfInBounds_toArray, List.set_cons_zero, List.set_cons_succ]
          refine take_l (i := 10) (v := ?_) rfl (by kernel_rfl) (by kernel_rfl) (by kernel_rfl) (fun _ _ _ h => h) (Or.inl ⟨by rfl, ?_⟩) (by assumption) ?_
          rotate_left
          · intro W hSW
            try dsimp only at hSW
            go_simp
            all_goals with_reducible rfl
          try simp only [Act.put, List.setIfInBounds_toArray, List.set_cons_zero, List.set_cons_succ]
          refine take_l (i := 11) (v := ?_) rfl (by kernel_rfl) (by kernel_rfl) (by kernel_rfl) (fun _ _ _ h => h) (Or.inl ⟨by rfl, ?_⟩) (by assumption) ?_
          rotate_left
          · intro W hSW
            try dsimp only at hSW
            go_simp
            all_goals with_reducible rfl
          try simp only [Act.put, List.setIfInBounds_toArray, List.set_cons_zero, List.set_cons_succ]
          refine take_l (i := 12) (v := ?_) rfl (by kernel_rfl) (by kernel_rfl) (by kernel_rfl) (fun _ _ _ h => h) (Or.inl ⟨by rfl, ?_⟩) (by assumption) ?_
          rotate_left
          · intro W hSW
            try dsimp only at hSW
            go_simp
            all_goals with_reducible rfl
          try simp only [Act.put, List.setIfInBounds_toArray, List.set_cons_zero, List.set_cons_succ]
          refine take_l (i := 13) (v := ?_) rfl (by kernel_rfl) (by kernel_rfl) (by kernel_rfl) (fun _ _ _ h => h) (Or.inl ⟨by rfl, ?_⟩) (by assumption) ?_
          rotate_left
          · intro W hSW
            try dsimp only at hSW
            go_simp
            all_goals with_reducible rfl
          try simp only [Act.put, List.setIfInBounds_toArray, List.set_cons_zero, List.set_cons_succ]
          refine take_l (i := 15) (v := ?_) rfl (by kernel_rfl) (by kernel_rfl) (by kernel_rfl) (fun _ _ _ h => h) (Or.inl ⟨by rfl, ?_⟩) (by assumption) ?_
          rotate_left
          · intro W hSW
            try dsimp only at hSW
            go_simp
            all_goals with_reducible rfl
          try simp only [Act.put, List.setIfInBounds_toArray, List.set_cons_zero, List.set_cons_succ]
          refine take_l (i := 16) (v := ?_) rfl (by kernel_rfl) (by kernel_rfl) (by kernel_rfl) (fun _ _ _ h => h) (Or.inl ⟨by rfl, ?_⟩) (by assumption) ?_
          rotate_left
          · intro W hSW
            try dsimp only at hSW
            go_simp
            all_goals with_reducible rfl
          try simp only [Act.put, List.setIfInBounds_toArray, List.set_cons_zero, List.set_cons_succ]
          refine take_l (i := 17) (v := ?_) rfl (by kernel_rfl) (by kernel_rfl) (by kernel_rfl) (fun _ _ _ h => h) (Or.inl ⟨by rfl, ?_⟩) (by assumption) ?_
          rotate_left
          · intro W hSW
            try dsimp only at hSW
            go_simp
            all_goals with_reducible rfl
          try simp only [Act.put, List.setIfInBounds_toArray, List.set_cons_zero, List.set_cons_succ]
          refine take_l (i := 18) (v := ?_) rfl (by kernel_rfl) (by kernel_rfl) (by kernel_rfl) (fun _ _ _ h => h) (Or.inl ⟨by rfl, ?_⟩) (by assumption) ?_
          rotate_left
          · intro W hSW
            try dsimp only at hSW
            go_simp
            all_goals with_reducible rfl
          try simp only [Act.put, List.setIfInBounds_toArray, List.set_cons_zero, List.set_cons_succ]
          refine take_l (i := 19) (v := ?_) rfl (by kernel_rfl) (by kernel_rfl) (by kernel_rfl) (fun _ _ _ h => h) (Or.inl ⟨by rfl, ?_⟩) (by assumption) ?_
          rotate_left
          · intro W hSW
            try dsimp only at hSW
            go_simp
            all_goals with_reducible rfl
          try simp only [Act.put, List.setIfInBounds_toArray, List.set_cons_zero, List.set_cons_succ]
          refine take_l (i := 20) (v := ?_) rfl (by kernel_rfl) (by kernel_rfl) (by kernel_rfl) (fun _ _ _ h => h) (Or.inl ⟨by rfl, ?_⟩) (by assumption) ?_
          rotate_left
          · intro W hSW
            try dsimp only at hSW
            go_simp
            all_goals with_reducible rfl
          try simp only [Act.put, List.setIfInBounds_toArray, List.set_cons_zero, List.set_cons_succ]
          refine take_l (i := 21) (v := ?_) rfl (by kernel_rfl) (by kernel_rfl) (by kernel_rfl) (fun _ _ _ h => h) (Or.inl ⟨by rfl, ?_⟩) (by assumption) ?_
          rotate_left
          · intro W hSW
            try dsimp only at hSW
            go_simp
            all_goals with_reducible rfl
          try simp only [Act.put, List.setIfInBounds_toArray, List.set_cons_zero, List.set_cons_succ]
          refine take_l (i := 22) (v := ?_) rfl (by kernel_rfl) (by kernel_rfl) (by kernel_rfl) (fun _ _ _ h => h) (Or.inl ⟨by rfl, ?_⟩) (by assumption) ?_
          rotate_left
          · intro W hSW
            try dsimp only at hSW
            go_simp
            all_goals with_reducible rfl
          try simp only [Act.put, List.setIfInBounds_toArray, List.set_cons_zero, List.set_cons_succ]
          refine ready_l (i := 14) (by kernel_rfl) rfl (fun K hK => ?_)
          go_simp
          rw [← HW1.out]
          refine hK.out _ _ HS1.out (fun hHeld => ?_)
          clear hK K
          try simp only [Act.put, List.setIfInBounds_toArray, List.set_cons_zero, List.set_cons_succ]
          refine ready_l (i := 23) (by kernel_rfl) rfl (fun K hK => ?_)
          go_simp
          try rw [if_neg e7]
          refine KP.out.mono ?_
          rintro e V1 ⟨rfl, q, hq1⟩
          have HF1 := Lib.hid (show Fresh V V1 by rw [hq1]; exact HFW.out.drewN q)
          have hS1 := HS1.out
          have hHeld1 : V1.cell? ⟨wr.heap.size, 0, none⟩ = some (.int .i64 n) ∧ V1.cell? ⟨w2.heap.size, 0, none⟩ = some (.pointer (some ⟨br, 0, none⟩)) ∧ V1.cell? ⟨br, 1, none⟩ = some (.slice (some ⟨g, 0, none⟩) rps.length rrc) ∧ V1.cell? ⟨bx, 0, none⟩ = some (.int .i64 qa) ∧ V1.cell? ⟨bx, 1, none⟩ = some (.int .i64 qb) ∧ V1.cell? ⟨bx, 2, none⟩ = some (.slice A raw2.length cp) := by rw [hq1]; exact hS1
          clear hq1 hS1 hHeld
          go_simp
          refine hK.out _ _ hHeld1 (fun hHeld => ?_)
          clear hK K
          try simp only [Act.put, List.setIfInBounds_toArray, List.set_cons_zero, List.set_cons_succ]
          refine take_l (i := 24) (v := ?_) rfl (by kernel_rfl) (by kernel_rfl) (by kernel_rfl) (fun _ _ _ h => h) (Or.inl ⟨by rfl, ?_⟩) (by assumption) ?_
          rotate_left
          · intro W hSW
            try dsimp only at hSW
            go_simp
            all_goals with_reducible rfl
          try simp only [Act.put, List.setIfInBounds_toArray, List.set_cons_zero, List.set_cons_succ]
          refine take_l (i := 25) (v := ?_) rfl (by kernel_rfl) (by kernel_rfl) (by kernel_rfl) (fun _ _ _ h => h) (Or.inl ⟨by rfl, ?_⟩) (by assumption) ?_
          rotate_left
          · intro W hSW
            try dsimp only at hSW
            go_simp
            all_goals with_reducible rfl
          try simp only [Act.put, List.setIfInBounds_toArray, List.set_cons_zero, List.set_cons_succ]
          refine wpAnyH_done (by kernel_rfl) ?_ _
          clear hHeld hHeld1 KP HS1 HW1 ck c8 cr x0 x1 x2
          have hkb1 := (show Blk V wr.heap.size 3 #[.int .i64 (n : Int)] by rw [HN.out]; exact HKB.out).touch HF1.out id
          obtain ⟨V2, hV2⟩ : ∃ V2, V2 = V1.setCell ⟨wr.heap.size, 0, none⟩ (.int .i64 ((n : Int) + 1)) := ⟨_, rfl⟩
          have hkb2 : Blk V2 wr.heap.size 3 #[.int .i64 ((n : Int) + 1)] := by rw [hV2]; simpa using hkb1.set_ 0 (.int .i64 ((n : Int) + 1))
          have hT2 : Touch (fun k => k = wr.heap.size) V1 V2 := by rw [hV2]; exact (Touch.refl (fun k => k = wr.heap.size) V1).setCell (p := ⟨wr.heap.size, 0, none⟩) (.inr rfl) _
          have hnb1 := HNB.out.fresh HF1.out
          have HNB2 := Lib.hid (show NetB w.heap.size stop br w2.heap.size V2 from ⟨hnb1.1.touch hT2 (by omega), hnb1.2.1.touch hT2 (by omega), hnb1.2.2.touch hT2 (by omega)⟩)
          have HT2 := Lib.hid ((HT.out.fresh HF1.out).box hkb1 hT2)
          have HKB2 := Lib.hid hkb2
          have HBL2 := Lib.hid (show Below w.heap.size w V2 by rw [hV2]; exact (HBL.out.trans (HF1.out.bel.mono HBL.out.size)).setCell (p := ⟨wr.heap.size, 0, none⟩) (show w.heap.size ≤ wr.heap.size by omega) _)
          have HKO2 := Lib.hid (show KeepsOthers V V2 by rw [hV2]; exact KeepsOthers.trans (keepsF HF1.out) (KeepsOthers.setCell _ _ _))
          have HKP2 := Lib.hid (show NKp (fun k => k = wr.heap.size ∨ k = w.heap.size + 1) V V2 from (NKp.fresh HF1.out).trans_ (NKp.touch (hT2.mono fun _ _ => .inl)))
          have HV2 := Lib.hid hV2
          have ck1 := hkb1.cell 0
          have fk1 := hkb1.frozen 0
          simp only [List.getElem?_toArray, List.getElem?_cons_zero] at ck1
          have ck2 := hkb2.cell 0
          have cs2 := HNB2.out.1.cell 0
          simp only [List.getElem?_toArray, List.getElem?_cons_zero] at ck2 cs2
          have HWI2 := Lib.hid (fun v => callsIn_wide (n := 0).2 (HWI.out v))
          have hlen2 : (pre ++ [((n : Nat), (⟨qa, qb, raw2, .slice A raw2.length cp⟩ : Pc))]).length = n + 1 := by rw [List.length_append, HN.out]; rfl
          clear hkb1 hkb2 hT2 hnb1 hV2
          have g2 : IntKind.i64.wrap (1 + (M : Int)) = 1 + (M : Int) := IntWalk.i64_in _ (by omega)
          by_cases hW : n = M
          · obtain rfl : M = n := hW.symm
            have hWI : (((M : Int) + 1) == (1 + (M : Int))) = true := by simp; omega
            gi_wp2
            rw [← HV2.out]
            refine region_round l rfl (by simp) (by kernel_rfl) (by kernel_rfl) ?_
            repeat (gi_big_quiet_step ((gi_at_call 19; exact CallsIn.quiet_of_same (HWI2.out _))))
            refine wpQuietIn_nil ?_
            intro _ hw'
            obtain ⟨nr, hw''⟩ := hw'
            subst hw''
            gi_wp2
            refine CallsIn.mono (show CallsIn (Fence.wide.inRound l) 0 Try.prog 18 #[] (V2.drewN nr) (fun e w' => e = .returned (.bool true) ∧ Fresh (V2.drewN nr) w') from (callsIn_wide (n := 0)).2 (wakes_any _)) ?_
            rintro e w4 ⟨rfl, hf4⟩
            have hb4 := (HNB2.out.2.1.drewN nr).touch hf4 id
            have hc4 := hb4.cell 0
            have hz4 := hb4.frozen 0
            simp only [List.getElem?_toArray, List.getElem?_cons_zero] at hc4
            have HB4 := Lib.hid hb4; have HF4 := Lib.hid hf4
            clear hb4 hf4
            gi_wp2
            have hb5 : Below w.heap.size w w4 := (HBL2.out.trans (bel_drewN _ V2 nr)).trans (HF4.out.bel.mono HBL2.out.size)
            have hk4 : KeepsOthers V w4 := KeepsOthers.trans (KeepsOthers.trans HKO2.out (keepsD V2 nr)) (keepsF HF4.out)
            exact ⟨KeepsOthers.trans hk4 (KeepsOthers.setCell _ _ _), rfl, by simpa using HB4.out.set_ 0 (.bool true), hb5.setCell (p := ⟨w.heap.size + 1, 0, none⟩) (Nat.le_succ _) _⟩
          · have hWI : (((n : Int) + 1) == (1 + (M : Int))) = false := by simp; omega
            gi_wp2
            rw [← HV2.out]
            refine region_round l rfl (by simp) (by kernel_rfl) (by kernel_rfl) ?_
            repeat (gi_big_quiet_step ((gi_at_call 19; exact CallsIn.quiet_of_same (HWI2.out _))))
            refine wpQuietIn_nil ?_
            intro _ hw'
            obtain ⟨nr, hw''⟩ := hw'
            subst hw''
            gi_wp2
            refine ⟨KeepsOthers.trans HKO2.out (keepsD V2 nr), HKP2.out.trans_ (NKp.fresh ((Touch.refl _ V2).drewN nr)), HT2.out.fresh ((Touch.refl _ V2).drewN nr), HNB2.out.fresh ((Touch.refl _ V2).drewN nr), ?_, HBL2.out.trans (bel_drewN _ V2 nr)⟩
            have := HKB2.out.drewN nr
            rw [List.length_append, HN.out] at *
            exact this
        · rintro D ys V hD hS ⟨ht, hnb, hkb, hbl⟩ hKD
          have HBL := Lib.hid hbl; have HD := Lib.hid (Nat.le_trans HFR.out.size hD)
          have hle : ys.length = rps.length := by rw [hS]; exact HPL2.out.symm
          rw [hle] at hkb
          have hcr := hnb.2.1.cell 0
          have hfr0 := hnb.2.1.frozen 0
          have c8 := hnb.2.2.cell 0
          have cr := ht.r.blk.cell 1
          have hck := hkb.cell 0
          simp only [List.getElem?_toArray, List.getElem?_cons_zero, List.getElem?_cons_succ] at hcr c8 cr hck
          have e1 : ((rps.length : Int) == (rps.length : Int)) = true := by simp
          have e2 : decide (rps.length = rps.length) = true := by simp
          have HBR := Lib.hid hnb.2.1; have HKD := Lib.hid hKD
          clear hbl hD hle ht hnb hkb hKD hS
          go_wp2_with fail
          refine region_tail 8 (by kernel_rfl) (by kernel_rfl) rfl rfl ?_
          simp only [List.take_succ_cons, List.take_zero, List.drop_succ_cons, List.drop_zero]
          repeat (go_big_quiet_step (fail))
          refine wpQuiet_nil ?_
          go_wp2_with fail
          refine (wakes_any _).mono ?_
          rintro e w4 ⟨rfl, hf4⟩
          have hb4 := HBR.out.drew.touch hf4 id
          have hc4 := hb4.cell 0
          have hz4 := hb4.frozen 0
          simp only [List.getElem?_toArray, List.getElem?_cons_zero] at hc4
          have hd4 : w4.heap[D]? = some (.deferred (some [])) := hf4.heap HKD.out id
          have HB4 := Lib.hid (HBL.out.drew.trans (hf4.bel.mono HBL.out.size)); have HD4 := Lib.hid hd4
          clear hf4 hb4 hd4
          go_wp2_with fail
          have hK' := (KeepsOthers.setCell w4 ⟨w.heap.size + 1, 0, none⟩ (.bool true)).same D _ HD4.out rfl
          refine ⟨by simp, .inl ⟨_, _, rfl, run_takeDeferred hK', ?_⟩⟩
          have hc5 := cell_kept (World.cell?_setCell_same' w4 ⟨w.heap.size + 1, 0, none⟩ (.bool true) (by rw [hc4]; rfl)) (grownBy_putObj' _ D (.deferred none)) (fun r e => by cases e; exact ⟨_, hK', rfl⟩)
          refine ⟨.bool true, ?_, rfl, Below.fresh ((HB4.out.setCell (p := ⟨w.heap.size + 1, 0, none⟩) (Nat.le_succ _) _).trans (belowK_b (w := w) (Nat.le_refl _) _ D _ _ HD.out hK' rfl rfl))⟩
          simp [results, Try.results9, go_sem, hc5]
        · rintro D pre V hD hpre ⟨hbr, hbl⟩ hKD
          have HBL := Lib.hid hbl; have HD := Lib.hid (Nat.le_trans HFR.out.size hD)
          have hcr := hbr.cell 0
          simp only [List.getElem?_toArray, List.getElem?_cons_zero] at hcr
          have HKD := Lib.hid hKD
          clear hbl hD hbr hKD hpre
          refine wpIn_wide.2 ?_
          go_wp2_with fail
          refine ⟨by simp, .inl ⟨_, _, rfl, run_takeDeferred HKD.out, ?_⟩⟩
          have hc5 := cell_kept hcr (grownBy_putObj' _ D (.deferred none)) (fun r e => by cases e; exact ⟨_, HKD.out, rfl⟩)
          refine ⟨.bool true, ?_, rfl, Below.fresh (HBL.out.trans (belowK_b (w := w) (Nat.le_refl _) _ D _ _ HD.out HKD.out rfl rfl))⟩
          simp [results, Try.results9, go_sem, hc5]
      · have hjn2 : j = nx := by omega
        subst hjn2
        obtain ⟨R, rrc, rfl, hrc1, hrc2, hR⟩ := HTN.out.r.row.form
        obtain ⟨M, hM⟩ : ∃ M : Nat, stop % 20 = (M : Int) := ⟨(stop % 20).toNat, by omega⟩
        have hM2 : M < 20 := by omega
        have HWI := Lib.hid (show ∀ v, Calls Try.prog 19 #[.int .i64 stop, .int .i64 20] v fun e w' => e = .returned (.int .i64 (M : Int)) ∧ w' = v from fun v => (within_any stop 20 v (by omega) (by omega)).mono fun e w' ⟨h1, h2⟩ => ⟨by rw [h2, hM], h1.symm⟩)
        clear hM
        have hBk := HNB.out.1.lt
        have hBk1 := HNB.out.2.1.lt
        have hBk8 := HNB.out.2.2.lt
        obtain ⟨w7, hw7⟩ : ∃ w7, w7 = wr.alloc (.cells #[.int .i64 0] 3) := ⟨_, rfl⟩
        have HF7 := Lib.hid (show Fresh wr w7 by rw [hw7]; exact (Touch.refl _ _).alloc _)
        have HK7 := Lib.hid (show Blk w7 wr.heap.size 3 #[.int .i64 0] by rw [hw7]; exact Blk.new _ _ _)
        go_wp2_with fail
        rw [← hw7]
        refine (allW_any bn w7).mono ?_
        rintro e w8 ⟨rfl, hw8⟩
        have HF8 := Lib.hid (show Fresh w7 w8 by rw [hw8]; exact (Touch.refl _ _).alloc _)
        have HA := Lib.hid (show Blk w8 w7.heap.size 60 #[.pointer (some ⟨bn, 0, none⟩)] by rw [hw8]; exact Blk.new _ _ _)
        have HT8 := Lib.hid ((HTN.out.fresh HF7.out).fresh HF8.out)
        have HNB8 := Lib.hid ((HNB.out.fresh HF7.out).fresh HF8.out)
        have HK8 := Lib.hid (HK7.out.touch HF8.out id)
        have HFR := Lib.hid ((HT.out.old'.trans HF7.out fun _ _ => id).trans HF8.out fun _ _ => id)
        clear hw7 hw8 HTN HNB HT HK7
        go_wp2_with fail
        refine wpIn_wide (n := 3).1 ?_
        refine range_box (F := Fence.wide) (n := 3) rfl (by decide) (gf := 71) (lb := #[.pointer (some ⟨w7.heap.size, 0, none⟩)]) rfl trivial (enters_of Try.func71 (by kernel_rfl) rfl)
          (all_told 2 w7.heap.size bn most rv ps (fun k => k = wr.heap.size ∨ k = w.heap.size + 1) w8 (by decide) HA.out HT8.out.n (by have := HL.out; omega)
            (fun k hk => by
              rcases hk with rfl | rfl
              · exact HK8.out.lt
              · exact HNB8.out.2.1.lt)
            (fun p hp k hk e => by
              rcases e with rfl | rfl
              · exact (HT8.out.n.byt p hp).ne_blk HK8.out (by decide) hk
              · exact (HT8.out.n.byt p hp).ne_blk HNB8.out.2.1 (by decide) hk))
          (fun pre x V l o o' hok hl hc => hok.put hl hc) (fun pre x V V1 hok hf => hok.fresh hf) 65 pcBox (fun x bx => [(22, .int .i64 x.1), (23, .pointer (some ⟨bx, 0, none⟩))])
          (fun h => NKp.fresh h) (fun h1 h2 => h1.trans_ h2) (fun V l o o' _ hl hc _ => NKp.put V l o o' hl hc) (fun _ => rfl)
          (fun pre V => TN w.heap.size V bn br most mo rv ps (.slice R rps.length rrc) rps ∧ NetB w.heap.size stop br w2.heap.size V ∧ Blk V wr.heap.size 3 #[.int .i64 (pre.length : Int)] ∧ Below w.heap.size w V)
          (fun _ V => Blk V (w.heap.size + 1) 4 #[.bool true] ∧ Below w.heap.size w V)
          (fun s A B row hs hg hr => ⟨hs.1.own_ hg fun r e => (hr r e).2, hs.2.1.own_ hg fun r e => (hr r e).2, hs.2.2.1.own_ hg fun r e => (hr r e).2, (ownFrom_below (β := Unit) (Nat.le_refl _) HFR.out.size) () A B row hs.2.2.2 hg hr⟩)
          (fun s A B row hs hg hr => ⟨hs.1.own_ hg fun r e => (hr r e).2, (ownFrom_below (β := Unit) (Nat.le_refl _) HFR.out.size) () A B row hs.2 hg hr⟩)
          ⟨HT8.out, HNB8.out, HK8.out, Fresh.bel HFR.out⟩ ?_ ?_ ?_ ?_
        · rintro l pre ⟨k, pa, pb, raw, pv⟩ V K hok hK
          have hfm := hok.2.2.1.1.form
          dsimp only at hfm
          obtain ⟨A, cp, rfl, _⟩ := hfm
          clear hok
          simp only [pcEnc, List.zip_toArray, List.size_toArray, List.zip_cons_cons, List.zip_nil_left]
          gi_wp2
          exact hK V.heap.size _ _ (by simp [boxed, pcEnc]) ((Touch.refl _ V).alloc _) (Blk.new _ _ _)
        · rintro l pre ⟨k, pa, pb, raw, pv⟩ bx a1 V ha ⟨ht, hnb, hkb, hbl⟩ ⟨hkp, ⟨p, hp, hpe⟩, hpv, hnew⟩ hbx hlt
          dsimp only at hkp
          subst hkp
          have HT := Lib.hid ht; have HNB := Lib.hid hnb; have HKB := Lib.hid hkb; have HBL := Lib.hid hbl; have HBX := Lib.hid hbx
          obtain ⟨n, hn⟩ : ∃ n, n = pre.length := ⟨_, rfl⟩
          rw [← hn] at hp hlt ha hkb
          obtain ⟨q, hq, hqe⟩ : ∃ q, rps[n]? = some q ∧ q.pl = (pa, pb, raw) := by
            have h1 : (rps.map Pc.pl)[n]? = some p.pl := by rw [← HPL.out, List.getElem?_map, hp]; rfl
            rw [List.getElem?_map] at h1
            cases hq : rps[n]? with
            | none => rw [hq] at h1; cases h1
            | some q => rw [hq] at h1; exact ⟨q, rfl, (Option.some.inj h1 : q.pl = p.pl).trans hpe.symm⟩
          obtain ⟨qa, qb, raw2, qv⟩ := q
          simp only [Pc.pl, Prod.mk.injEq] at hqe
          obtain ⟨rfl, rfl, rfl⟩ := hqe
          have hfm := hpv.1.form
          dsimp only at hfm
          obtain ⟨A, cp, rfl, _⟩ := hfm
          have hqv := ht.r.byt _ (List.mem_of_getElem? hq)
          have hfq := hqv.1.form
          dsimp only at hfq
          obtain ⟨Q, cq, rfl, _⟩ := hfq
          have hrl : n < rps.length := (List.getElem?_eq_some_iff.1 hq).1
          obtain ⟨g, rfl⟩ : ∃ g, R = some ⟨g, 0, none⟩ := by
            rcases hR with ⟨_, h0, _⟩ | h
            · omega
            · exact h
          have j0 : V.cell? ⟨g, n * 3, none⟩ = some (.int .i64 qa) := by
            have := ht.r.row.cell (j := n * 3 + 0) (by omega)
            rw [pcCells_get hq 0 (by omega)] at this
            exact this
          have j1 : V.cell? ⟨g, n * 3 + 1, none⟩ = some (.int .i64 qb) := by
            have := ht.r.row.cell (j := n * 3 + 1) (by omega)
            rw [pcCells_get hq 1 (by omega)] at this
            exact this
          have j2 : V.cell? ⟨g, n * 3 + 2, none⟩ = some (.slice Q raw2.length cq) := by
            have := ht.r.row.cell (j := n * 3 + 2) (by omega)
            rw [pcCells_get hq 2 (by omega)] at this
            exact this
          have x0 := hbx.cell 0
          have x1 := hbx.cell 1
          have x2 := hbx.cell 2
          have ck := hkb.cell 0
          have c8 := hnb.2.2.cell 0
          have cr := ht.r.blk.cell 1
          simp only [pcBox, List.getElem?_toArray, List.getElem?_cons_zero, List.getElem?_cons_succ] at x0 x1 x2 ck c8 cr
          have hlt1 : V.heap.size < V.heap.size + 1 := Nat.lt_succ_self _
          obtain ⟨w1', hw1'⟩ : ∃ w1', w1' = (V.alloc (.cells #[.int .i64 qa, .int .i64 qb, .slice A raw2.length cp] 65)).drew := ⟨_, rfl⟩
          have HFW : Hid (Fresh V w1') := Lib.hid (by rw [hw1']; exact ((Touch.refl _ V).alloc _).drew)
          have hbw : Blk w1' V.heap.size 65 #[.int .i64 qa, .int .i64 qb, .slice A raw2.length cp] := by rw [hw1']; exact (Blk.new _ _ _).drew
          have KP := Lib.hid (parcels_one V.heap.size 0 1 g (n * 3) (rrc - n) qa qb A Q cp cq raw2 w1' (hbw.cell 0) (hbw.cell 1) (hbw.cell 2) (Row.bs (hpv.1.touch HFW.out fun _ _ => id))
            (HFW.out.cell j0 id) (HFW.out.cell j1 id) (HFW.out.cell j2 id) (Row.bs (hqv.1.touch HFW.out fun _ _ => id)))
          have HS1 := Lib.hid (show w1'.cell? ⟨wr.heap.size, 0, none⟩ = some (.int .i64 n) ∧ w1'.cell? ⟨w2.heap.size, 0, none⟩ = some (.pointer (some ⟨br, 0, none⟩)) ∧ w1'.cell? ⟨br, 1, none⟩ = some (.slice (some ⟨g, 0, none⟩) rps.length rrc) ∧ w1'.cell? ⟨bx, 0, none⟩ = some (.int .i64 qa) ∧ w1'.cell? ⟨bx, 1, none⟩ = some (.int .i64 qb) ∧ w1'.cell? ⟨bx, 2, none⟩ = some (.slice A raw2.length cp) from ⟨HFW.out.cell ck id, HFW.out.cell c8 id, HFW.out.cell cr id, HFW.out.cell x0 id, HFW.out.cell x1 id, HFW.out.cell x2 id⟩)
          have HW1 := Lib.hid hw1'
          have HN := Lib.hid hn
          have hn2 : n ≤ 200 := by have := HL.out; omega
          have e1 : ((n : Int) != (n : Int)) = false := by simp
          have e2 : decide ((rps.length : Int) ≤ (n : Int)) = false := by simp; omega
          have e3 : decide (rps.length ≤ n) = false := by simp; omega
          have g1 : IntKind.i64.wrap ((n : Int) + 1) = (n : Int) + 1 := IntWalk.i64_in _ (by omega)
          have e4 : (n : Int) + 1 ≤ (rrc : Int) := by omega
          have e5 : (0 : Int) ≤ (n : Int) := by omega
          have e7 : ¬ rrc = n := by omega
          have e6 : (n : Int) ≤ (n : Int) + 1 := by omega
          clear hpv hqv hp hpe hq ht hnb hkb hbl hbx hnew j0 j1 j2 hw1' hbw hlt1 hn
          subst ha
          simp only [boxed, pcEnc, ← Array.foldl_toList, Array.toList_zip, List.zip_cons_cons, List.zip_nil_left]
          simp only [List.foldl_cons, List.foldl_nil, List.setIfInBounds_toArray, List.set_cons_zero, List.set_cons_succ]
          gi_wp2
          refine region_held_round (fun W => W.cell? ⟨wr.heap.size, 0, none⟩ = some (.int .i64 n) ∧ W.cell? ⟨w2.heap.size, 0, none⟩ = some (.pointer (some ⟨br, 0, none⟩)) ∧ W.cell? ⟨br, 1, none⟩ = some (.slice (some ⟨g, 0, none⟩) rps.length rrc) ∧ W.cell? ⟨bx, 0, none⟩ = some (.int .i64 qa) ∧ W.cell? ⟨bx, 1, none⟩ = some (.int .i64 qb) ∧ W.cell? ⟨bx, 2, none⟩ = some (.slice A raw2.length cp)) l (by rintro ⟨_, _, h⟩; exact h) (by simp) (by kernel_rfl) ⟨ck, c8, cr, x0, x1, x2⟩ (fun hHeld => ?_)
          refine take_l (i := 0) (v := ?_) rfl (by kernel_rfl) (by kernel_rfl) (by kernel_rfl) (fun _ _ _ h => h) (Or.inl ⟨by rfl, ?_⟩) (by assumption) ?_
          rotate_left
          · intro W hSW
            try dsimp only at hSW
            go_simp
            all_goals with_reducible rfl
          try simp only [Act.put, List.setIfInBounds_toArray, List.set_cons_zero, List.set_cons_succ]
          refine take_l (i := 1) (v := ?_) rfl (by kernel_rfl) (by kernel_rfl) (by kernel_rfl) (fun _ _ _ h => h) (Or.inl ⟨by rfl, ?_⟩) (by assumption) ?_
          rotate_left
          · intro W hSW
            try dsimp only at hSW
            go_simp
            all_goals with_reducible rfl
          try simp only [Act.put, List.setIfInBounds_toArray, List.set_cons_zero, List.set_cons_succ]
          refine take_l (i := 2) (v := ?_) rfl (by kernel_rfl) (by kernel_rfl) (by kernel_rfl) (fun _ _ _ h => h) (Or.inl ⟨by rfl, ?_⟩) (by assumption) ?_
          rotate_left
          · intro W hSW
            try dsimp only at hSW
            go_simp
            all_goals with_reducible rfl
          try simp only [Act.put, List.setIfInBounds_toArray, List.set_cons_zero, List.set_cons_succ]
          refine take_l (i := 3) (v := ?_) rfl (by kernel_rfl) (by kernel_rfl) (by kernel_rfl) (fun _ _ _ h => h) (Or.inl ⟨by rfl, ?_⟩) (by assumption) ?_
          rotate_left
          · intro W hSW
            try dsimp only at hSW
            go_simp
            all_goals with_reducible rfl
          try simp only [Act.put, List.setIfInBounds_toArray, List.set_cons_zero, List.set_cons_succ]
          refine take_l (i := 4) (v := ?_) rfl (by kernel_rfl) (by kernel_rfl) (by kernel_rfl) (fun _ _ _ h => h) (Or.inl ⟨by rfl, ?_⟩) (by assumption) ?_
          rotate_left
          · intro W hSW
            try dsimp only at hSW
            go_simp
            all_goals with_reducible rfl
          try simp only [Act.put, List.setIfInBounds_toArray, List.set_cons_zero, List.set_cons_succ]
          refine take_l (i := 5) (v := ?_) rfl (by kernel_rfl) (by kernel_rfl) (by kernel_rfl) (fun _ _ _ h => h) (Or.inl ⟨by rfl, ?_⟩) (by assumption) ?_
          rotate_left
          · intro W hSW
            try dsimp only at hSW
            go_simp
            all_goals with_reducible rfl
          try simp only [Act.put, List.setIfInBounds_toArray, List.set_cons_zero, List.set_cons_succ]
          refine take_l (i := 6) (v := ?_) rfl (by kernel_rfl) (by kernel_rfl) (by kernel_rfl) (fun _ _ _ h => h) (Or.inl ⟨by rfl, ?_⟩) (by assumption) ?_
          rotate_left
          · intro W hSW
            try dsimp only at hSW
            go_simp
            all_goals with_reducible rfl
          try simp only [Act.put, List.setIfInBounds_toArray, List.set_cons_zero, List.set_cons_succ]
          refine take_l (i := 7) (v := ?_) rfl (by kernel_rfl) (by kernel_rfl) (by kernel_rfl) (fun _ _ _ h => h) (Or.inl ⟨by rfl, ?_⟩) (by assumption) ?_
          rotate_left
          · intro W hSW
            try dsimp only at hSW
            go_simp
            all_goals with_reducible rfl
          try simp only [Act.put, List.setIfInBounds_toArray, List.set_cons_zero, List.set_cons_succ]
          refine take_l (i := 8) (v := ?_) rfl (by kernel_rfl) (by kernel_rfl) (by kernel_rfl) (fun _ _ _ h => h) (Or.inl ⟨by rfl, ?_⟩) (by assumption) ?_
          rotate_left
          · intro W hSW
            try dsimp only at hSW
            go_simp
            all_goals with_reducible rfl
          try simp only [Act.put, List.setIfInBounds_toArray, List.set_cons_zero, List.set_cons_succ]
          refine take_l (i := 9) (v := ?_) rfl (by kernel_rfl) (by kernel_rfl) (by kernel_rfl) (fun _ _ _ h => h) (Or.inl ⟨by rfl, ?_⟩) (by assumption) ?_
          rotate_left
          · intro W hSW
            try dsimp only at hSW
            go_simp
            all_goals with_reducible rfl
          try simp only [Act.put, List.setIfInBounds_toArray, List.set_cons_zero, List.set_cons_succ]
          refine take_l (i := 10) (v := ?_) rfl (by kernel_rfl) (by kernel_rfl) (by kernel_rfl) (fun _ _ _ h => h) (Or.inl ⟨by rfl, ?_⟩) (by assumption) ?_
          rotate_left
          · intro W hSW
            try dsimp only at hSW
            go_simp
            all_goals with_reducible rfl
          try simp only [Act.put, List.setIfInBounds_toArray, List.set_cons_zero, List.set_cons_succ]
          refine take_l (i := 11) (v := ?_) rfl (by kernel_rfl) (by kernel_rfl) (by kernel_rfl) (fun _ _ _ h => h) (Or.inl ⟨by rfl, ?_⟩) (by assumption) ?_
          rotate_left
          · intro W hSW
            try dsimp only at hSW
            go_simp
            all_goals with_reducible rfl
          try simp only [Act.put, List.setIfInBounds_toArray, List.set_cons_zero, List.set_cons_succ]
          refine take_l (i := 12) (v := ?_) rfl (by kernel_rfl) (by kernel_rfl) (by kernel_rfl) (fun _ _ _ h => h) (Or.inl ⟨by rfl, ?_⟩) (by assumption) ?_
          rotate_left
          · intro W hSW
            try dsimp only at hSW
            go_simp
            all_goals with_reducible rfl
          try simp only [Act.put, List.setIfInBounds_toArray, List.set_cons_zero, List.set_cons_succ]
          refine take_l (i := 13) (v := ?_) rfl (by kernel_rfl) (by kernel_rfl) (by kernel_rfl) (fun _ _ _ h => h) (Or.inl ⟨by rfl, ?_⟩) (by assumption) ?_
          rotate_left
          · intro W hSW
            try dsimp only at hSW
            go_simp
            all_goals with_reducible rfl
          try simp only [Act.put, List.setIfInBounds_toArray, List.set_cons_zero, List.set_cons_succ]
          refine take_l (i := 15) (v := ?_) rfl (by kernel_rfl) (by kernel_rfl) (by kernel_rfl) (fun _ _ _ h => h) (Or.inl ⟨by rfl, ?_⟩) (by assumption) ?_
          rotate_left
          · intro W hSW
            try dsimp only at hSW
            go_simp
            all_goals with_reducible rfl
          try simp only [Act.put, List.setIfInBounds_toArray, List.set_cons_zero, List.set_cons_succ]
          refine take_l (i := 16) (v := ?_) rfl (by kernel_rfl) (by kernel_rfl) (by kernel_rfl) (fun _ _ _ h => h) (Or.inl ⟨by rfl, ?_⟩) (by assumption) ?_
          rotate_left
          · intro W hSW
            try dsimp only at hSW
            go_simp
            all_goals with_reducible rfl
          try simp only [Act.put, List.setIfInBounds_toArray, List.set_cons_zero, List.set_cons_succ]
          refine take_l (i := 17) (v := ?_) rfl (by kernel_rfl) (by kernel_rfl) (by kernel_rfl) (fun _ _ _ h => h) (Or.inl ⟨by rfl, ?_⟩) (by assumption) ?_
          rotate_left
          · intro W hSW
            try dsimp only at hSW
            go_simp
            all_goals with_reducible rfl
          try simp only [Act.put, List.setIfInBounds_toArray, List.set_cons_zero, List.set_cons_succ]
          refine take_l (i := 18) (v := ?_) rfl (by kernel_rfl) (by kernel_rfl) (by kernel_rfl) (fun _ _ _ h => h) (Or.inl ⟨by rfl, ?_⟩) (by assumption) ?_
          rotate_left
          · intro W hSW
            try dsimp only at hSW
            go_simp
            all_goals with_reducible rfl
          try simp only [Act.put, List.setIfInBounds_toArray, List.set_cons_zero, List.set_cons_succ]
          refine take_l (i := 19) (v := ?_) rfl (by kernel_rfl) (by kernel_rfl) (by kernel_rfl) (fun _ _ _ h => h) (Or.inl ⟨by rfl, ?_⟩) (by assumption) ?_
          rotate_left
          · intro W hSW
            try dsimp only at hSW
            go_simp
            all_goals with_reducible rfl
          try simp only [Act.put, List.setIfInBounds_toArray, List.set_cons_zero, List.set_cons_succ]
          refine take_l (i := 20) (v := ?_) rfl (by kernel_rfl) (by kernel_rfl) (by kernel_rfl) (fun _ _ _ h => h) (Or.inl ⟨by rfl, ?_⟩) (by assumption) ?_
          rotate_left
          · intro W hSW
            try dsimp only at hSW
            go_simp
            all_goals with_reducible rfl
          try simp only [Act.put, List.setIfInBounds_toArray, List.set_cons_zero, List.set_cons_succ]
          refine take_l (i := 21) (v := ?_) rfl (by kernel_rfl) (by kernel_rfl) (by kernel_rfl) (fun _ _ _ h => h) (Or.inl ⟨by rfl, ?_⟩) (by assumption) ?_
          rotate_left
          · intro W hSW
            try dsimp only at hSW
            go_simp
            all_goals with_reducible rfl
          try simp only [Act.put, List.setIfInBounds_toArray, List.set_cons_zero, List.set_cons_succ]
          refine take_l (i := 22) (v := ?_) rfl (by kernel_rfl) (by kernel_rfl) (by kernel_rfl) (fun _ _ _ h => h) (Or.inl ⟨by rfl, ?_⟩) (by assumption) ?_
          rotate_left
          · intro W hSW
            try dsimp only at hSW
            go_simp
            all_goals with_reducible rfl
          try simp only [Act.put, List.setIfInBounds_toArray, List.set_cons_zero, List.set_cons_succ]
          refine ready_l (i := 14) (by kernel_rfl) rfl (fun K hK => ?_)
          go_simp
          rw [← HW1.out]
          refine hK.out _ _ HS1.out (fun hHeld => ?_)
          clear hK K
          try simp only [Act.put, List.setIfInBounds_toArray, List.set_cons_zero, List.set_cons_succ]
          refine ready_l (i := 23) (by kernel_rfl) rfl (fun K hK => ?_)
          go_simp
          try rw [if_neg e7]
          refine KP.out.mono ?_
          rintro e V1 ⟨rfl, q, hq1⟩
          have HF1 := Lib.hid (show Fresh V V1 by rw [hq1]; exact HFW.out.drewN q)
          have hS1 := HS1.out
          have hHeld1 : V1.cell? ⟨wr.heap.size, 0, none⟩ = some (.int .i64 n) ∧ V1.cell? ⟨w2.heap.size, 0, none⟩ = some (.pointer (some ⟨br, 0, none⟩)) ∧ V1.cell? ⟨br, 1, none⟩ = some (.slice (some ⟨g, 0, none⟩) rps.length rrc) ∧ V1.cell? ⟨bx, 0, none⟩ = some (.int .i64 qa) ∧ V1.cell? ⟨bx, 1, none⟩ = some (.int .i64 qb) ∧ V1.cell? ⟨bx, 2, none⟩ = some (.slice A raw2.length cp) := by rw [hq1]; exact hS1
          clear hq1 hS1 hHeld
          go_simp
          refine hK.out _ _ hHeld1 (fun hHeld => ?_)
          clear hK K
          try simp only [Act.put, List.setIfInBounds_toArray, List.set_cons_zero, List.set_cons_succ]
          refine take_l (i := 24) (v := ?_) rfl (by kernel_rfl) (by kernel_rfl) (by kernel_rfl) (fun _ _ _ h => h) (Or.inl ⟨by rfl, ?_⟩) (by assumption) ?_
          rotate_left
          · intro W hSW
            try dsimp only at hSW
            go_simp
            all_goals with_reducible rfl
          try simp only [Act.put, List.setIfInBounds_toArray, List.set_cons_zero, List.set_cons_succ]
          refine take_l (i := 25) (v := ?_) rfl (by kernel_rfl) (by kernel_rfl) (by kernel_rfl) (fun _ _ _ h => h) (Or.inl ⟨by rfl, ?_⟩) (by assumption) ?_
          rotate_left
          · intro W hSW
            try dsimp only at hSW
            go_simp
            all_goals with_reducible rfl
          try simp only [Act.put, List.setIfInBounds_toArray, List.set_cons_zero, List.set_cons_succ]
          refine wpAnyH_done (by kernel_rfl) ?_ _
          clear hHeld hHeld1 KP HS1 HW1 ck c8 cr x0 x1 x2
          have hkb1 := (show Blk V wr.heap.size 3 #[.int .i64 (n : Int)] by rw [HN.out]; exact HKB.out).touch HF1.out id
          obtain ⟨V2, hV2⟩ : ∃ V2, V2 = V1.setCell ⟨wr.heap.size, 0, none⟩ (.int .i64 ((n : Int) + 1)) := ⟨_, rfl⟩
          have hkb2 : Blk V2 wr.heap.size 3 #[.int .i64 ((n : Int) + 1)] := by rw [hV2]; simpa using hkb1.set_ 0 (.int .i64 ((n : Int) + 1))
          have hT2 : Touch (fun k => k = wr.heap.size) V1 V2 := by rw [hV2]; exact (Touch.refl (fun k => k = wr.heap.size) V1).setCell (p := ⟨wr.heap.size, 0, none⟩) (.inr rfl) _
          have hnb1 := HNB.out.fresh HF1.out
          have HNB2 := Lib.hid (show NetB w.heap.size stop br w2.heap.size V2 from ⟨hnb1.1.touch hT2 (by omega), hnb1.2.1.touch hT2 (by omega), hnb1.2.2.touch hT2 (by omega)⟩)
          have HT2 := Lib.hid ((HT.out.fresh HF1.out).box hkb1 hT2)
          have HKB2 := Lib.hid hkb2
          have HBL2 := Lib.hid (show Below w.heap.size w V2 by rw [hV2]; exact (HBL.out.trans (HF1.out.bel.mono HBL.out.size)).setCell (p := ⟨wr.heap.size, 0, none⟩) (show w.heap.size ≤ wr.heap.size by omega) _)
          have HKO2 := Lib.hid (show KeepsOthers V V2 by rw [hV2]; exact KeepsOthers.trans (keepsF HF1.out) (KeepsOthers.setCell _ _ _))
          have HKP2 := Lib.hid (show NKp (fun k => k = wr.heap.size ∨ k = w.heap.size + 1) V V2 from (NKp.fresh HF1.out).trans_ (NKp.touch (hT2.mono fun _ _ => .inl)))
          have HV2 := Lib.hid hV2
          have ck1 := hkb1.cell 0
          have fk1 := hkb1.frozen 0
          simp only [List.getElem?_toArray, List.getElem?_cons_zero] at ck1
          have ck2 := hkb2.cell 0
          have cs2 := HNB2.out.1.cell 0
          simp only [List.getElem?_toArray, List.getElem?_cons_zero] at ck2 cs2
          have HWI2 := Lib.hid (fun v => callsIn_wide (n := 0).2 (HWI.out v))
          have hlen2 : (pre ++ [((n : Nat), (⟨qa, qb, raw2, .slice A raw2.length cp⟩ : Pc))]).length = n + 1 := by rw [List.length_append, HN.out]; rfl
          clear hkb1 hkb2 hT2 hnb1 hV2
          have g2 : IntKind.i64.wrap (1 + (M : Int)) = 1 + (M : Int) := IntWalk.i64_in _ (by omega)
          by_cases hW : n = M
          · obtain rfl : M = n := hW.symm
            have hWI : (((M : Int) + 1) == (1 + (M : Int))) = true := by simp; omega
            gi_wp2
            rw [← HV2.out]
            refine region_round l rfl (by simp) (by kernel_rfl) (by kernel_rfl) ?_
            repeat (gi_big_quiet_step ((gi_at_call 19; exact CallsIn.quiet_of_same (HWI2.out _))))
            refine wpQuietIn_nil ?_
            intro _ hw'
            obtain ⟨nr, hw''⟩ := hw'
            subst hw''
            gi_wp2
            refine CallsIn.mono (show CallsIn (Fence.wide.inRound l) 0 Try.prog 18 #[] (V2.drewN nr) (fun e w' => e = .returned (.bool true) ∧ Fresh (V2.drewN nr) w') from (callsIn_wide (n := 0)).2 (wakes_any _)) ?_
            rintro e w4 ⟨rfl, hf4⟩
            have hb4 := (HNB2.out.2.1.drewN nr).touch hf4 id
            have hc4 := hb4.cell 0
            have hz4 := hb4.frozen 0
            simp only [List.getElem?_toArray, List.getElem?_cons_zero] at hc4
            have HB4 := Lib.hid hb4; have HF4 := Lib.hid hf4
            clear hb4 hf4
            gi_wp2
            have hb5 : Below w.heap.size w w4 := (HBL2.out.trans (bel_drewN _ V2 nr)).trans (HF4.out.bel.mono HBL2.out.size)
            have hk4 : KeepsOthers V w4 := KeepsOthers.trans (KeepsOthers.trans HKO2.out (keepsD V2 nr)) (keepsF HF4.out)
            exact ⟨KeepsOthers.trans hk4 (KeepsOthers.setCell _ _ _), rfl, by simpa using HB4.out.set_ 0 (.bool true), hb5.setCell (p := ⟨w.heap.size + 1, 0, none⟩) (Nat.le_succ _) _⟩
          · have hWI : (((n : Int) + 1) == (1 + (M : Int))) = false := by simp; omega
            gi_wp2
            rw [← HV2.out]
            refine region_round l rfl (by simp) (by kernel_rfl) (by kernel_rfl) ?_
            repeat (gi_big_quiet_step ((gi_at_call 19; exact CallsIn.quiet_of_same (HWI2.out _))))
            refine wpQuietIn_nil ?_
            intro _ hw'
            obtain ⟨nr, hw''⟩ := hw'
            subst hw''
            gi_wp2
            refine ⟨KeepsOthers.trans HKO2.out (keepsD V2 nr), HKP2.out.trans_ (NKp.fresh ((Touch.refl _ V2).drewN nr)), HT2.out.fresh ((Touch.refl _ V2).drewN nr), HNB2.out.fresh ((Touch.refl _ V2).drewN nr), ?_, HBL2.out.trans (bel_drewN _ V2 nr)⟩
            have := HKB2.out.drewN nr
            rw [List.length_append, HN.out] at *
            exact this
        · rintro D ys V hD hS ⟨ht, hnb, hkb, hbl⟩ hKD
          have HBL := Lib.hid hbl; have HD := Lib.hid (Nat.le_trans HFR.out.size hD)
          have hle : ys.length = rps.length := by rw [hS]; exact HPL2.out.symm
          rw [hle] at hkb
          have hcr := hnb.2.1.cell 0
          have hfr0 := hnb.2.1.frozen 0
          have c8 := hnb.2.2.cell 0
          have cr := ht.r.blk.cell 1
          have hck := hkb.cell 0
          simp only [List.getElem?_toArray, List.getElem?_cons_zero, List.getElem?_cons_succ] at hcr c8 cr hck
          have e1 : ((rps.length : Int) == (rps.length : Int)) = true := by simp
          have e2 : decide (rps.length = rps.length) = true := by simp
          have HBR := Lib.hid hnb.2.1; have HKD := Lib.hid hKD
          clear hbl hD hle ht hnb hkb hKD hS
          go_wp2_with fail
          refine region_tail 8 (by kernel_rfl) (by kernel_rfl) rfl rfl ?_
          simp only [List.take_succ_cons, List.take_zero, List.drop_succ_cons, List.drop_zero]
          repeat (go_big_quiet_step (fail))
          refine wpQuiet_nil ?_
          go_wp2_with fail
          refine (wakes_any _).mono ?_
          rintro e w4 ⟨rfl, hf4⟩
          have hb4 := HBR.out.drew.touch hf4 id
          have hc4 := hb4.cell 0
          have hz4 := hb4.frozen 0
          simp only [List.getElem?_toArray, List.getElem?_cons_zero] at hc4
          have hd4 : w4.heap[D]? = some (.deferred (some [])) := hf4.heap HKD.out id
          have HB4 := Lib.hid (HBL.out.drew.trans (hf4.bel.mono HBL.out.size)); have HD4 := Lib.hid hd4
          clear hf4 hb4 hd4
          go_wp2_with fail
          have hK' := (KeepsOthers.setCell w4 ⟨w.heap.size + 1, 0, none⟩ (.bool true)).same D _ HD4.out rfl
          refine ⟨by simp, .inl ⟨_, _, rfl, run_takeDeferred hK', ?_⟩⟩
          have hc5 := cell_kept (World.cell?_setCell_same' w4 ⟨w.heap.size + 1, 0, none⟩ (.bool true) (by rw [hc4]; rfl)) (grownBy_putObj' _ D (.deferred none)) (fun r e => by cases e; exact ⟨_, hK', rfl⟩)
          refine ⟨.bool true, ?_, rfl, Below.fresh ((HB4.out.setCell (p := ⟨w.heap.size + 1, 0, none⟩) (Nat.le_succ _) _).trans (belowK_b (w := w) (Nat.le_refl _) _ D _ _ HD.out hK' rfl rfl))⟩
          simp [results, Try.results9, go_sem, hc5]
        · rintro D pre V hD hpre ⟨hbr, hbl⟩ hKD
          have HBL := Lib.hid hbl; have HD := Lib.hid (Nat.le_trans HFR.out.size hD)
          have hcr := hbr.cell 0
          simp only [List.getElem?_toArray, List.getElem?_cons_zero] at hcr
          have HKD := Lib.hid hKD
          clear hbl hD hbr hKD hpre
          refine wpIn_wide.2 ?_
          go_wp2_with fail
          refine ⟨by simp, .inl ⟨_, _, rfl, run_takeDeferred HKD.out, ?_⟩⟩
          have hc5 := cell_kept hcr (grownBy_putObj' _ D (.deferred none)) (fun r e => by cases e; exact ⟨_, HKD.out, rfl⟩)
          refine ⟨.bool true, ?_, rfl, Below.fresh (HBL.out.trans (belowK_b (w := w) (Nat.le_refl _) _ D _ _ HD.out HKD.out rfl rfl))⟩
          simp [results, Try.results9, go_sem, hc5]
end Go.Proofs.Ythmjnlkdoepmjaa
