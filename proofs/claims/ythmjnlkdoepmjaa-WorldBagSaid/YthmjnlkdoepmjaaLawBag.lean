/- The walk of the law WorldBag: it answers true. Conditions stand with it. -/
import Derived.Test.YthmjnlkdoepmjaaBagP
namespace Go.Proofs.Ythmjnlkdoepmjaa
open Go.RowKit
attribute [local go_sem] Oper.semAt_some

set_option maxRecDepth 100000 in
set_option maxHeartbeats 8000000 in
theorem law_bag (n : Int) (X : Option Addr) (nx cx : Nat) (ops : List PutD) (w : World) (h : PutsAt w X nx cx ops) :
    Calls Try.prog 10 #[.int .i64 n, .slice X nx cx] w fun e w' => e = .returned (.bool true) ∧ Fresh w w' := by
  have hlen := h.len
  have H := Lib.hid h; have HLEN := Lib.hid hlen
  clear h hlen
  have hM0 := Int.emod_nonneg n (show (20 : Int) ≠ 0 by omega)
  have hM1 := Int.emod_lt_of_pos n (show (0 : Int) < 20 by omega)
  obtain ⟨M, hM⟩ : ∃ M : Nat, 1 + n % 20 = M := ⟨(1 + n % 20).toNat, by omega⟩
  have gM : IntKind.i64.wrap (1 + n % 20) = 1 + n % 20 := IntWalk.i64_in _ (by omega)
  have hM20 : M ≤ 20 := by omega
  refine (callsIn_wide (n := 3)).1 ?_
  refine callsIn_of_wp_marks Try.func10 rfl trivial ?_ rfl
  simp only [Try.ntmps10, List.size_toArray, List.length_cons, List.length_nil, Nat.reduceAdd, Nat.reduceSub, Array.replicate_succ, Array.replicate_zero, List.push_toArray, List.append_toArray, List.nil_append, List.cons_append]
  refine wpIn_wide.2 ?_
  go_wp2_with fail
  refine (within_any n 20 _ (by omega) (by omega)).mono ?_
  rintro e wz ⟨rfl, rfl⟩
  go_wp2_with fail
  refine (newNetW_any 1000 _).mono ?_
  rintro e w1 ⟨bn, rfl, hf1, hbn, hn1⟩
  have HF1 := Lib.hid hf1; have HN1 := Lib.hid hn1; have HBN := Lib.hid hbn
  clear hf1 hn1 hbn
  go_wp2_with fail
  obtain ⟨w2, hw2⟩ : ∃ w2, w2 = w1.alloc (.cells #[.int .i64 0, .int .i64 0, .int .i64 0, .int .i64 0, .int .i64 0, .int .i64 0, .int .i64 0, .int .i64 0, .int .i64 0, .int .i64 0, .int .i64 0, .int .i64 0, .int .i64 0, .int .i64 0, .int .i64 0, .int .i64 0, .int .i64 0, .int .i64 0, .int .i64 0, .int .i64 0] 81) := ⟨_, rfl⟩
  have hf2 : Fresh w1 w2 := by rw [hw2]; exact (Touch.refl _ _).alloc _
  have HF2 := Lib.hid hf2
  have HC2 := Lib.hid (show CB w2 w1.heap.size (cnt (sent 0)) from by rw [hw2]; exact Blk.new _ _ _)
  have HN2 := Lib.hid (HN1.out.fresh hf2)
  rw [← hw2]
  clear hw2 hf2
  have hcb : w.heap.size ≤ w1.heap.size := HF1.out.size
  have HS2 := Lib.hid (show BagS w w2 bn w1.heap.size (.slice none 0 0) [] (cnt (sent 0)) from ⟨HN2.out, HC2.out, (by
    rintro q (rfl | e)
    · exact HBN.out
    · cases e), HF1.out.trans HF2.out fun _ _ => id⟩)
  go_loopw [8] (fun i wr => ∃ k : Nat, k ≤ M ∧ i = .int .i64 k ∧ ∃ rv ps, BagS w wr bn w1.heap.size rv ps (cnt (sent k)) ∧ ps.map Pc.pl = sent k) (fun i _ => M - (intOf i).toNat)
  case atStart =>
    exact ⟨0, Nat.zero_le _, rfl, _, _, HS2.out, rfl⟩
  case round =>
    obtain ⟨k, hk, rfl, rv, ps, hs, hq⟩ := hrel
    have hpl : ps.length = k := by have := congrArg List.length hq; rw [List.length_map, sent_length] at this; exact this
    have HS := Lib.hid hs; have HQ := Lib.hid hq; have HPL := Lib.hid hpl
    clear hs hq hpl
    by_cases hlt : k < M
    · have hk20 : k < 20 := by omega
      have gk : IntKind.u8.wrap (k : Int) = (k : Int) := IntWalk.u8_in _ (by omega)
      obtain ⟨w4, hw4⟩ : ∃ w4, w4 = wr.alloc (.cells #[.int .u8 k] 5) := ⟨_, rfl⟩
      have HW4 := Lib.hid hw4
      have hf4 : Fresh wr w4 := by rw [hw4]; exact (Touch.refl _ _).alloc _
      have hrow : Row w4 (.slice (some ⟨wr.heap.size, 0, none⟩) 1 1) [UInt8.ofNat k] := by
        rw [hw4]
        have := Row.lit (w := wr) [UInt8.ofNat k] #[.int .u8 k] (by simp [u8s]; omega) (by simp)
        exact this
      have HS4 := Lib.hid (HS.out.fresh hf4)
      have KS := Lib.hid (sendW_any bn 1000 rv ps 1 2 (some ⟨wr.heap.size, 0, none⟩) 1 1 [UInt8.ofNat k] w4 HS4.out.1 (by have := HPL.out; omega) (Row.bs hrow) (by omega))
      rw [if_neg (by have := HPL.out; omega), decide_eq_true (by have := HPL.out; omega)] at KS
      clear hw4 hf4 hrow
      go_wp2_with fail
      rw [← HW4.out]
      refine KS.out.mono ?_
      rintro e w5 ⟨rfl, hT5, rv', ps', hn5, hq5, hf5, _⟩
      have hs5 := HS4.out.go hT5 hn5 hf5
      have gc : IntKind.i64.wrap (cnt (sent k) k + 1) = cnt (sent k) k + 1 := IntWalk.i64_in _ (by have := cnt_le (sent k) k; rw [sent_length] at this; omega)
      have k5 := hs5.2.1.cell hk20
      have z5 := Blk.frozen hs5.2.1 k
      have HS5 := Lib.hid hs5; have HQ5 := Lib.hid hq5
      clear hs5 hT5 hn5 hq5 hf5
      go_wp2_with fail
      go_roundw
      case rel =>
        refine ⟨k + 1, by omega, by go_num, rv', ps', ?_, by rw [HQ5.out, HQ.out, sent_succ]⟩
        rw [sent_succ]
        exact HS5.out.set hcb fun j hj => cnt_send hk20 rfl hj
      case measure => simp [intOf] <;> omega
    · obtain rfl : k = M := by omega
      have HG := Lib.hid (show Good (ps.map Pc.pl) by rw [HQ.out]; exact sent_good hM20)
      have HS0 := Lib.hid (show BagS w wr bn w1.heap.size rv ps (cnt (ps.map Pc.pl)) by rw [HQ.out]; exact HS.out)
      have HL0 := Lib.hid (show ps.length ≤ 20 by have := HPL.out; omega)
      clear HQ HS HPL HS2 HN2 HC2 HF2
      go_wp2_with fail
      go_loopw [9] (fun i wr => ∃ j : Nat, j ≤ nx ∧ j ≤ 100 ∧ i = .int .i64 j ∧ ∃ rv ps, BagS w wr bn w1.heap.size rv ps (cnt (ps.map Pc.pl)) ∧ Good (ps.map Pc.pl) ∧ ps.length ≤ 20 + j) (fun i _ => nx - (intOf i).toNat)
      case atStart =>
        exact ⟨0, Nat.zero_le _, Nat.zero_le _, rfl, _, _, HS0.out, HG.out, HL0.out⟩
      case round =>
        clear HS0 HG HL0
        obtain ⟨j, hj, hj2, rfl, rv, ps, hs, hg, hl⟩ := hrel
        have HS := Lib.hid hs; have HG := Lib.hid hg; have HL := Lib.hid hl
        clear hs hg hl
        by_cases hlt : j < nx ∧ j < 100
        · obtain ⟨hl1, hl2⟩ := hlt
          obtain ⟨b, off, rfl⟩ := H.out.vs.at_ (by omega)
          obtain ⟨o, ho⟩ : ∃ o, ops[j]? = some o := ⟨ops[j]'(by rw [HLEN.out]; exact hl1), List.getElem?_eq_getElem _⟩
          obtain ⟨c0, c1, c2, c3, c4⟩ : wr.cell? ⟨b, off + j * 5, none⟩ = some (.int .i64 o.Do) ∧ wr.cell? ⟨b, off + j * 5 + 1, none⟩ = some (.int .i64 o.i) ∧ wr.cell? ⟨b, off + j * 5 + 2, none⟩ = some (.int .i64 o.a) ∧ wr.cell? ⟨b, off + j * 5 + 3, none⟩ = some (.int .i64 o.b) ∧ wr.cell? ⟨b, off + j * 5 + 4, none⟩ = some (.slice o.A o.m o.c) := by
            have hv := H.out.vs.touch HS.out.2.2.2 fun a ha h0 e => e
            have hx := fun r hr => flat_at PutD.cells 5 (fun _ => rfl) ops j r o ho hr
            exact ⟨hv.cellAt (hx 0 (by omega)), hv.cellAt (hx 1 (by omega)), hv.cellAt (hx 2 (by omega)), hv.cellAt (hx 3 (by omega)), hv.cellAt (hx 4 (by omega))⟩
          obtain ⟨oDo, oi, oa, ob, oA, om, oc, oxs⟩ := o
          dsimp only at c0 c1 c2 c3 c4
          clear ho
          obtain ⟨wb, hwb⟩ : ∃ wb, wb = wr.alloc (.cells #[.int .i64 oDo, .int .i64 oi, .int .i64 oa, .int .i64 ob, .slice oA om oc] 67) := ⟨_, rfl⟩
          have HWB := Lib.hid hwb
          have hfb : Fresh wr wb := by rw [hwb]; exact (Touch.refl _ _).alloc _
          have HB := Lib.hid (show Blk wb wr.heap.size 67 #[.int .i64 oDo, .int .i64 oi, .int .i64 oa, .int .i64 ob, .slice oA om oc] by rw [hwb]; exact Blk.new _ _ _)
          have HSB := Lib.hid (HS.out.fresh hfb)
          have KL := Lib.hid (lookW_any bn 1000 rv ps oi wb HSB.out.1 (by have := HL.out; omega))
          clear hwb hfb HS
          go_wp2_with fail
          rw [← HWB.out]
          refine KL.out.mono ?_
          rintro e w4 ⟨hf4, ⟨pa, pb, raw, pv⟩, rfl, hpv, hnew, hpl⟩
          have hfm := hpv.1.form
          dsimp only at hfm hpl
          obtain ⟨Q, cq, rfl, _, _, hQ⟩ := hfm
          obtain ⟨w5, hw5⟩ : ∃ w5, w5 = w4.alloc (.cells #[.int .i64 pa, .int .i64 pb, .slice Q raw.length cq] 65) := ⟨_, rfl⟩
          have hf5 : Fresh w4 w5 := by rw [hw5]; exact (Touch.refl _ _).alloc _
          have HX5 := Lib.hid (show Blk w5 w4.heap.size 65 #[.int .i64 pa, .int .i64 pb, .slice Q raw.length cq] by rw [hw5]; exact Blk.new _ _ _)
          have hf45 : Fresh wb w5 := hf4.trans hf5 fun _ _ => id
          have HS5 := Lib.hid (HSB.out.fresh hf45)
          have hb5 := HB.out.touch hf45 id
          have p1 : ∀ o, (w4.alloc o).cell? ⟨wr.heap.size, 1, none⟩ = some (.int .i64 oi) := fun o => ((HB.out.touch hf4 id).alloc o).cell 1
          have p1' := hb5.cell 1
          simp only [List.getElem?_toArray, List.getElem?_cons_zero, List.getElem?_cons_succ] at p1'
          have HB5 := Lib.hid hb5; have HPV5 := Lib.hid (hpv.touch hf5 fun _ _ => id); have HNEW := Lib.hid hnew; have HPQ := Lib.hid hpl; have HW5 := Lib.hid hw5
          have hsz5 := hf45.size
          have hs4 : wb.heap.size ≤ w4.heap.size := hf4.size
          have KN := Lib.hid (fun q => lenW_any bn 1000 rv ps (w5.drewN q) (HS5.out.1.drewN q))
          clear hf4 hf5 hf45 hb5 hpv hnew hpl hw5 c0 c1 c2 c3 c4
          cases hat : at_ (ps.map Pc.pl) oi with
          | none =>
            have hout : ∀ m : Nat, oi = (m : Int) → ps.length ≤ m := by
              rintro m rfl
              rw [at_pos] at hat
              have := List.getElem?_eq_none_iff.1 hat
              simpa using this
            by_cases hneg : oi < 0
            · have hg0 : decide (0 ≤ oi) = false := by simp; omega
              go_wp2_with fail
              rw [← HW5.out]
              go_quiet ((go_at_call 48; exact Calls.quiet_of_same (KN.out _)))
              go_wp2_with fail
              go_roundw
              case rel =>
                exact ⟨j + 1, by omega, by omega, by go_num, rv, ps, HS5.out.fresh ((Touch.refl _ w5).drewN nq), HG.out, by have := HL.out; omega⟩
              case measure => simp [intOf] <;> omega
            · have hge : (ps.length : Int) ≤ oi := by
                have := hout oi.toNat (by omega)
                omega
              have hg0 : decide (0 ≤ oi) = true := by simp; omega
              have hg1 : decide (oi < (ps.length : Int)) = false := by simp; omega
              go_wp2_with fail
              rw [← HW5.out]
              go_quiet ((go_at_call 48; exact Calls.quiet_of_same (KN.out _)))
              go_wp2_with fail
              go_roundw
              case rel =>
                exact ⟨j + 1, by omega, by omega, by go_num, rv, ps, HS5.out.fresh ((Touch.refl _ w5).drewN nq), HG.out, by have := HL.out; omega⟩
              case measure => simp [intOf] <;> omega
          | some q =>
            obtain ⟨m, rfl, hm, hqm⟩ := at_lt hat
            rw [List.length_map] at hm
            obtain ⟨i, hi, hqi⟩ := HG.out q (List.mem_of_getElem? hqm)
            have hraw : raw = [UInt8.ofNat i] := by
              have := HPQ.out
              rw [hat] at this
              simp only [Option.getD_some, Pc.pl] at this
              rw [← hqi, ← this]
            subst hraw
            obtain ⟨g, rfl⟩ := hQ (by simp)
            have HWE := Lib.hid (show w5 = w4.alloc (.cells #[.int .i64 pa, .int .i64 pb, .slice (some ⟨g, 0, none⟩) 1 cq] 65) from HW5.out)
            have hbyte : w5.cell? ⟨g, 0, none⟩ = some (.int .u8 (i : Int)) := by
              have := (Row.bs HPV5.out.1).cellAt (j := 0) (by simp)
              rw [Nat.add_zero] at this
              rw [this]
              simp only [List.getD_cons_zero]
              rw [u8_nat hi]
            have gi : IntKind.i64.wrap (i : Int) = (i : Int) := IntWalk.i64_in _ (by omega)
            have hg0 : decide (0 ≤ (m : Int)) = true := by simp
            have hg1 : decide ((m : Int) < (ps.length : Int)) = true := by simp; omega
            have hg2 : decide (m < ps.length) = true := by simp; omega
            have HQM := Lib.hid hqm; have HQI := Lib.hid hqi; have HAT := Lib.hid hat
            have hx2 := HX5.out.cell 2
            have hp0 := HB5.out.cell 0
            simp only [List.getElem?_toArray, List.getElem?_cons_zero, List.getElem?_cons_succ, List.length_cons, List.length_nil, Nat.zero_add] at hx2 hp0
            obtain ⟨D, hD⟩ : ∃ D, D = oDo % 3 := ⟨_, rfl⟩
            have hD3 : D = 0 ∨ D = 1 ∨ D = 2 := by omega
            clear hqm hqi hat hQ
            go_wp2_with fail
            rw [← HWE.out]
            go_quiet ((go_at_call 48; exact Calls.quiet_of_same (KN.out _)))
            have HS6 := Lib.hid (HS5.out.fresh ((Touch.refl _ w5).drewN nq)); have HB6 := Lib.hid (HB5.out.drewN nq); have HX6 := Lib.hid (HX5.out.drewN nq)
            have HPV6 := Lib.hid (HPV5.out.touch ((Touch.refl (fun _ => False) w5).drewN nq) fun _ _ => id)
            go_wp2_with fail
            refine (within_any oDo 3 _ (by omega) (by omega)).mono ?_
            rintro e wz ⟨rfl, rfl⟩
            rw [← hD]
            obtain ⟨w6, hw6⟩ : ∃ w6, w6 = w5.drewN nq := ⟨_, rfl⟩
            rw [← hw6] at HS6 HB6 HX6 HPV6 ⊢
            have hs56 : w5.heap.size ≤ w6.heap.size := by rw [hw6]; exact Nat.le_refl _
            have p1 := HB6.out.cell 1
            simp only [List.getElem?_toArray, List.getElem?_cons_zero, List.getElem?_cons_succ] at p1
            clear hw6 hD hx2 hp0 hbyte p1'
            rcases hD3 with rfl | rfl | rfl
            · have KT := Lib.hid (takeW_any bn 1000 rv ps m w6 HS6.out.1 (by have := HL.out; omega))
              go_wp2_with fail
              refine KT.out.mono ?_
              rintro e w7 ⟨⟨⟨sa, sb, sraw, sv⟩, rfl, hpv7, hnew7, hpl7⟩, rv', ps', hT7, hn7, hq7, hf7, hg7⟩
              have hfm := hpv7.1.form
              dsimp only at hfm hpl7
              obtain ⟨S, cs, rfl, _, _, _⟩ := hfm
              have hs7 := HS6.out.go hT7 hn7 hf7
              have hsr : sraw = [UInt8.ofNat i] := by
                rw [HAT.out] at hpl7
                simp only [Option.getD_some, Pc.pl] at hpl7
                rw [← HQI.out, ← hpl7]
              subst hsr
              obtain ⟨w8, hw8⟩ : ∃ w8, w8 = w7.alloc (.cells #[.int .i64 sa, .int .i64 sb, .slice S 1 cs] 65) := ⟨_, rfl⟩
              have hf8 : Fresh w7 w8 := by rw [hw8]; exact (Touch.refl _ _).alloc _
              have HW8 := Lib.hid hw8
              have nf : ∀ k, wb.heap.size ≤ k → ¬ nfoot bn rv k := by
                rintro k hk (e | e)
                · have := HSB.out.1.blk.lt; omega
                · have := HSB.out.1.row.lt _ e; omega
              have hx7 := HX6.out.touch hT7 (nf _ hs4)
              have hq7' := HPV6.out.touch hT7 fun k hk => nf k (HNEW.out k hk)
              have y2 : ∀ o, (w7.alloc o).cell? ⟨w4.heap.size, 2, none⟩ = some (.slice (some ⟨g, 0, none⟩) 1 cq) := fun o => (hx7.alloc o).cell 2
              have kQ : ∀ o, (convert 22 9 (.slice (some ⟨g, 0, none⟩) 1 cq)).run Try.prog (w7.alloc o) = .ok (.string ⟨#[UInt8.ofNat i]⟩) (w7.alloc o) := fun o => run_convert_Bs (P := Try.prog) 22 9 Try.underlying22 Try.underlying5 Try.underlying9 ((Row.bs hq7'.1).alloc o)
              have kS : ∀ o, (convert 22 9 (.slice S 1 cs)).run Try.prog (w7.alloc o) = .ok (.string ⟨#[UInt8.ofNat i]⟩) (w7.alloc o) := fun o => run_convert_Bs (P := Try.prog) 22 9 Try.underlying22 Try.underlying5 Try.underlying9 ((Row.bs hpv7.1).alloc o)
              have gc : IntKind.i64.wrap (cnt (ps.map Pc.pl) i - 1) = cnt (ps.map Pc.pl) i - 1 := IntWalk.i64_in _ (by have := cnt_le (ps.map Pc.pl) i; rw [List.length_map] at this; have := HL.out; omega)
              have k7 : ∀ o, (w7.alloc o).cell? ⟨w1.heap.size, i, none⟩ = some (.int .i64 (cnt (ps.map Pc.pl) i)) := fun o => (hs7.fresh ((Touch.refl _ w7).alloc o)).2.1.cell hi
              have f7 : ∀ o k, (w7.alloc o).frozen? ⟨w1.heap.size, k, none⟩ = false := fun o k => Blk.frozen (hs7.fresh ((Touch.refl _ w7).alloc o)).2.1 k
              have HSE := Lib.hid (hs7.fresh hf8)
              have HQ7 := Lib.hid (show ps'.map Pc.pl = (ps.map Pc.pl).eraseIdx m by rw [hq7, del_pos])
              rw [HW8.out] at HSE
              clear hx7 hq7' hpv7 hs7 hT7 hn7 hq7 hf7 hg7 hpl7 hnew7 hw8 hf8 KT p1 nf
              go_wp2_with fail
              go_roundw
              case rel =>
                refine ⟨j + 1, by omega, by omega, by go_num, rv', ps', ?_, ?_, ?_⟩
                · rw [HQ7.out]
                  exact BagS.set HSE.out hcb fun j hj => cnt_erase HQM.out hi HQI.out hj
                · rw [HQ7.out]
                  exact HG.out.erase m
                · have h1 := congrArg List.length HQ7.out
                  simp at h1
                  have := HL.out
                  rw [List.length_eraseIdx] at h1; split at h1 <;> simp at h1 <;> omega
              case measure => simp [intOf] <;> omega
            · have KT := Lib.hid (dropW_any bn 1000 rv ps m w6 HS6.out.1 (by have := HL.out; omega))
              go_wp2_with fail
              refine KT.out.mono ?_
              rintro e w7 ⟨rfl, rv', ps', hT7, hn7, hq7, hf7, hg7⟩
              have hs7 := HS6.out.go hT7 hn7 hf7
              have gc : IntKind.i64.wrap (cnt (ps.map Pc.pl) i - 1) = cnt (ps.map Pc.pl) i - 1 := IntWalk.i64_in _ (by have := cnt_le (ps.map Pc.pl) i; rw [List.length_map] at this; have := HL.out; omega)
              have k7 : w7.cell? ⟨w1.heap.size, i, none⟩ = some (.int .i64 (cnt (ps.map Pc.pl) i)) := hs7.2.1.cell hi
              have f7 : ∀ k, w7.frozen? ⟨w1.heap.size, k, none⟩ = false := fun k => Blk.frozen hs7.2.1 k
              have HSE := Lib.hid hs7
              have HQ7 := Lib.hid (show ps'.map Pc.pl = (ps.map Pc.pl).eraseIdx m by rw [hq7, del_pos])
              clear hs7 hT7 hn7 hq7 hf7 hg7 KT p1
              go_wp2_with fail
              go_roundw
              case rel =>
                refine ⟨j + 1, by omega, by omega, by go_num, rv', ps', ?_, ?_, ?_⟩
                · rw [HQ7.out]
                  exact BagS.set HSE.out hcb fun j hj => cnt_erase HQM.out hi HQI.out hj
                · rw [HQ7.out]
                  exact HG.out.erase m
                · have h1 := congrArg List.length HQ7.out
                  simp at h1
                  have := HL.out
                  rw [List.length_eraseIdx] at h1; split at h1 <;> simp at h1 <;> omega
              case measure => simp [intOf] <;> omega
            · have KT := Lib.hid (doubleW_any bn 1000 rv ps m w6 HS6.out.1 (by have := HL.out; omega))
              have hdb : dbl_ 1000 (ps.map Pc.pl) (m : Int) = (ps.map Pc.pl ++ [q], true) := by
                unfold dbl_
                rw [HAT.out]
                dsimp only
                rw [if_neg (by rw [List.length_map]; have := HL.out; omega)]
              rw [hdb] at KT
              clear hdb
              go_wp2_with fail
              refine KT.out.mono ?_
              rintro e w7 ⟨rfl, hT7, rv', ps', hn7, hq7, hf7, hg7⟩
              have hs7 := HS6.out.go hT7 hn7 hf7
              have gc : IntKind.i64.wrap (cnt (ps.map Pc.pl) i + 1) = cnt (ps.map Pc.pl) i + 1 := IntWalk.i64_in _ (by have := cnt_le (ps.map Pc.pl) i; rw [List.length_map] at this; have := HL.out; omega)
              have k7 : w7.cell? ⟨w1.heap.size, i, none⟩ = some (.int .i64 (cnt (ps.map Pc.pl) i)) := hs7.2.1.cell hi
              have f7 : ∀ k, w7.frozen? ⟨w1.heap.size, k, none⟩ = false := fun k => Blk.frozen hs7.2.1 k
              have HSE := Lib.hid hs7
              have HQ7 := Lib.hid (show ps'.map Pc.pl = ps.map Pc.pl ++ [q] from hq7)
              clear hs7 hT7 hn7 hq7 hf7 hg7 KT p1
              go_wp2_with fail
              go_roundw
              case rel =>
                refine ⟨j + 1, by omega, by omega, by go_num, rv', ps', ?_, ?_, ?_⟩
                · rw [HQ7.out]
                  exact BagS.set HSE.out hcb fun j hj => cnt_send hi HQI.out hj
                · rw [HQ7.out]
                  exact HG.out.send hi HQI.out
                · have h1 := congrArg List.length HQ7.out
                  simp at h1
                  have := HL.out
                  omega
              case measure => simp [intOf] <;> omega
        · by_cases hjn : j < nx
          · have hj100 : j = 100 := by omega
            subst hj100
            go_wp2_with fail
            refine (allW_any bn wr).mono ?_
            rintro e w8 ⟨rfl, hw8⟩
            have HF8 := Lib.hid (show Fresh wr w8 by rw [hw8]; exact (Touch.refl _ _).alloc _)
            have HA := Lib.hid (show Blk w8 wr.heap.size 60 #[.pointer (some ⟨bn, 0, none⟩)] by rw [hw8]; exact Blk.new _ _ _)
            have HS8 := Lib.hid (HS.out.fresh HF8.out)
            clear hw8
            go_wp2_with fail
            refine wpIn_wide (n := 3).1 ?_
            refine range_box (F := Fence.wide) (n := 3) rfl (by decide) (gf := 71) (lb := #[.pointer (some ⟨wr.heap.size, 0, none⟩)]) rfl trivial (enters_of Try.func71 (by kernel_rfl) rfl)
              (all_told 2 wr.heap.size bn 1000 rv ps (fun k => k = w1.heap.size) w8 (by decide) HA.out HS8.out.1 (by have := HL.out; omega)
                (fun k hk => by rw [hk]; exact Blk.lt HS8.out.2.1) (fun p hp k hk e => (HS8.out.1.byt p hp).ne_blk HS8.out.2.1 (by decide) (by rw [hk, e])))
              (fun pre x V l o o' hok hl hc => hok.put hl hc) (fun pre x V V1 hok hf => hok.fresh hf) 65 pcBox (fun x bx => [(17, .pointer (some ⟨bx, 0, none⟩))])
              (fun h => NKp.fresh h) (fun h1 h2 => h1.trans_ h2) (fun V l o o' _ hl hc _ => NKp.put V l o o' hl hc) (fun _ => rfl)
              (fun pre V => CB V w1.heap.size (fun i => cnt (ps.map Pc.pl) i - cnt ((ps.map Pc.pl).take pre.length) i) ∧ Below w.heap.size w V) (fun _ _ => False)
              (fun s A B row hs hg hr => ⟨Blk.own_ hs.1 hg fun r e => (hr r e).2, (ownFrom_below (β := Unit) (Nat.le_refl _) HS8.out.2.2.2.size) () A B row hs.2 hg hr⟩) (fun s A B row hs _ _ => hs)
              ⟨HS8.out.2.1.congr fun j _ => by simp [cnt_nil], Fresh.bel HS8.out.2.2.2⟩ ?_ ?_ ?_ ?_
            · rintro l pre ⟨k, pa, pb, raw, pv⟩ V K hok hK
              have hfm := hok.2.2.1.1.form
              dsimp only at hfm
              obtain ⟨A, cp, rfl, _⟩ := hfm
              clear hok
              simp only [pcEnc, List.zip_toArray, List.size_toArray, List.zip_cons_cons, List.zip_nil_left]
              gi_wp2
              exact hK V.heap.size _ _ (by simp [boxed, pcEnc]) ((Touch.refl _ V).alloc _) (Blk.new _ _ _)
            · rintro l pre ⟨k, pa, pb, raw, pv⟩ bx a1 V ha ⟨hc, hbl⟩ ⟨hkp, ⟨p, hp, hpe⟩, hpv, hnew⟩ hbx hlt
              have hpn : (ps.map Pc.pl)[pre.length]? = some p.pl := by rw [List.getElem?_map, hp]; rfl
              obtain ⟨i, hi, hqi⟩ := HG.out p.pl (List.mem_of_getElem? hpn)
              have hraw : raw = [UInt8.ofNat i] := by
                rw [← hqi, ← hpe]
                rfl
              subst hraw
              have hfm := hpv.1.form
              dsimp only [pcBox] at hfm hbx
              obtain ⟨A, cp, rfl, _, _, hA⟩ := hfm
              obtain ⟨g, rfl⟩ := hA (by simp)
              have hbyte : V.cell? ⟨g, 0, none⟩ = some (.int .u8 (i : Int)) := by
                have := (Row.bs hpv.1).cellAt (j := 0) (by simp)
                rw [Nat.add_zero] at this
                rw [this]
                simp only [List.getD_cons_zero]
                rw [u8_nat hi]
              have gi : IntKind.i64.wrap (i : Int) = (i : Int) := IntWalk.i64_in _ (by omega)
              have x2 := hbx.cell 2
              simp only [List.getElem?_toArray, List.getElem?_cons_zero, List.getElem?_cons_succ, List.length_cons, List.length_nil, Nat.zero_add] at x2
              have hb1 := cnt_le (ps.map Pc.pl) i
              have hb2 := cnt_le ((ps.map Pc.pl).take pre.length) i
              rw [List.length_map] at hb1
              have hb3 : ((ps.map Pc.pl).take pre.length).length ≤ ps.length := by rw [List.length_take, List.length_map]; omega
              have hLL := HL.out
              obtain ⟨v, hv⟩ : ∃ v, v = cnt (ps.map Pc.pl) i - cnt ((ps.map Pc.pl).take pre.length) i := ⟨_, rfl⟩
              have gc : IntKind.i64.wrap (v - 1) = v - 1 := IntWalk.i64_in _ (by omega)
              have k7 : V.cell? ⟨w1.heap.size, i, none⟩ = some (.int .i64 v) := by rw [hv]; exact hc.cell hi
              have f7 : ∀ k, V.frozen? ⟨w1.heap.size, k, none⟩ = false := fun k => Blk.frozen hc k
              have HC := Lib.hid hc; have HBL := Lib.hid hbl; have HPN := Lib.hid hpn; have HQI := Lib.hid hqi; have HV := Lib.hid hv
              clear hc hbl hpn hqi hp hpe hpv hnew hbx hA hb1 hb2 hb3 hLL hv hkp
              subst ha
              simp only [boxed, pcEnc, List.zip_toArray, List.size_toArray, List.zip_cons_cons, List.zip_nil_left]
              gi_wp2
              refine ⟨KeepsOthers.setCell _ _ _, NKp.touch ((Touch.refl (fun k => k = w1.heap.size) V).setCell (p := ⟨w1.heap.size, i, none⟩) (.inr rfl) _), ?_, HBL.out.setCell (p := ⟨w1.heap.size, i, none⟩) hcb _⟩
              refine HC.out.set fun j hj => ?_
              rw [List.length_append, List.length_singleton, cnt_step HPN.out hi HQI.out hj, HV.out]
            · rintro D ys V hD hS ⟨hc, hbl⟩ hKD
              have hz : CB V w1.heap.size (fun _ => 0) := hc.congr fun j _ => by
                rw [hS, List.take_of_length_le (by rw [List.length_map]; exact Nat.le_refl _)]
                omega
              have HZ := Lib.hid hz; have HBL := Lib.hid hbl; have HKD := Lib.hid hKD; have HD := Lib.hid hD
              have hz0 : ∀ i : Nat, i < 20 → V.cell? ⟨w1.heap.size, i, none⟩ = some (.int .i64 0) := fun i hi => hz.cell hi
              clear hz hc hbl hKD hD hS
              go_wp2_with fail
              go_loopw [18] (fun i wv => ∃ k : Nat, k ≤ 20 ∧ i = .int .i64 k ∧ wv = V) (fun i _ => 20 - (intOf i).toNat)
              case atStart => exact ⟨0, by omega, rfl, rfl⟩
              case round =>
                obtain ⟨k, hk, rfl, rfl⟩ := hrel
                by_cases hlt : k < 20
                · have hkc := hz0 k hlt
                  go_wp2_with fail
                  go_roundw
                  case rel => exact ⟨k + 1, by omega, by go_num, trivial⟩
                  case measure => simp [intOf] <;> omega
                · obtain rfl : k = 20 := by omega
                  go_wp2_with fail
                  refine (wakes_any _).mono ?_
                  rintro e w9 ⟨rfl, hf9⟩
                  have hd9 := hf9.heap HKD.out id
                  have HB9 := Lib.hid (HBL.out.trans (hf9.bel.mono HBL.out.size)); have HD9 := Lib.hid hd9
                  have hDs := Nat.le_trans HS8.out.2.2.2.size HD.out
                  clear hf9 hd9
                  go_wp2_with fail
                  refine ⟨by simp, .inl ⟨_, _, rfl, run_takeDeferred HD9.out, ?_⟩⟩
                  refine ⟨.bool true, ?_, rfl, Below.fresh (HB9.out.trans (belowK_b (w := w) (Nat.le_refl _) _ D _ _ hDs HD9.out rfl rfl))⟩
                  simp [results, Try.results10, go_sem]
            · rintro D pre V hD hpre hix hKD
              exact hix.elim
          · have hjn2 : j = nx := by omega
            subst hjn2
            go_wp2_with fail
            refine (allW_any bn wr).mono ?_
            rintro e w8 ⟨rfl, hw8⟩
            have HF8 := Lib.hid (show Fresh wr w8 by rw [hw8]; exact (Touch.refl _ _).alloc _)
            have HA := Lib.hid (show Blk w8 wr.heap.size 60 #[.pointer (some ⟨bn, 0, none⟩)] by rw [hw8]; exact Blk.new _ _ _)
            have HS8 := Lib.hid (HS.out.fresh HF8.out)
            clear hw8
            go_wp2_with fail
            refine wpIn_wide (n := 3).1 ?_
            refine range_box (F := Fence.wide) (n := 3) rfl (by decide) (gf := 71) (lb := #[.pointer (some ⟨wr.heap.size, 0, none⟩)]) rfl trivial (enters_of Try.func71 (by kernel_rfl) rfl)
              (all_told 2 wr.heap.size bn 1000 rv ps (fun k => k = w1.heap.size) w8 (by decide) HA.out HS8.out.1 (by have := HL.out; omega)
                (fun k hk => by rw [hk]; exact Blk.lt HS8.out.2.1) (fun p hp k hk e => (HS8.out.1.byt p hp).ne_blk HS8.out.2.1 (by decide) (by rw [hk, e])))
              (fun pre x V l o o' hok hl hc => hok.put hl hc) (fun pre x V V1 hok hf => hok.fresh hf) 65 pcBox (fun x bx => [(17, .pointer (some ⟨bx, 0, none⟩))])
              (fun h => NKp.fresh h) (fun h1 h2 => h1.trans_ h2) (fun V l o o' _ hl hc _ => NKp.put V l o o' hl hc) (fun _ => rfl)
              (fun pre V => CB V w1.heap.size (fun i => cnt (ps.map Pc.pl) i - cnt ((ps.map Pc.pl).take pre.length) i) ∧ Below w.heap.size w V) (fun _ _ => False)
              (fun s A B row hs hg hr => ⟨Blk.own_ hs.1 hg fun r e => (hr r e).2, (ownFrom_below (β := Unit) (Nat.le_refl _) HS8.out.2.2.2.size) () A B row hs.2 hg hr⟩) (fun s A B row hs _ _ => hs)
              ⟨HS8.out.2.1.congr fun j _ => by simp [cnt_nil], Fresh.bel HS8.out.2.2.2⟩ ?_ ?_ ?_ ?_
            · rintro l pre ⟨k, pa, pb, raw, pv⟩ V K hok hK
              have hfm := hok.2.2.1.1.form
              dsimp only at hfm
              obtain ⟨A, cp, rfl, _⟩ := hfm
              clear hok
              simp only [pcEnc, List.zip_toArray, List.size_toArray, List.zip_cons_cons, List.zip_nil_left]
              gi_wp2
              exact hK V.heap.size _ _ (by simp [boxed, pcEnc]) ((Touch.refl _ V).alloc _) (Blk.new _ _ _)
            · rintro l pre ⟨k, pa, pb, raw, pv⟩ bx a1 V ha ⟨hc, hbl⟩ ⟨hkp, ⟨p, hp, hpe⟩, hpv, hnew⟩ hbx hlt
              have hpn : (ps.map Pc.pl)[pre.length]? = some p.pl := by rw [List.getElem?_map, hp]; rfl
              obtain ⟨i, hi, hqi⟩ := HG.out p.pl (List.mem_of_getElem? hpn)
              have hraw : raw = [UInt8.ofNat i] := by
                rw [← hqi, ← hpe]
                rfl
              subst hraw
              have hfm := hpv.1.form
              dsimp only [pcBox] at hfm hbx
              obtain ⟨A, cp, rfl, _, _, hA⟩ := hfm
              obtain ⟨g, rfl⟩ := hA (by simp)
              have hbyte : V.cell? ⟨g, 0, none⟩ = some (.int .u8 (i : Int)) := by
                have := (Row.bs hpv.1).cellAt (j := 0) (by simp)
                rw [Nat.add_zero] at this
                rw [this]
                simp only [List.getD_cons_zero]
                rw [u8_nat hi]
              have gi : IntKind.i64.wrap (i : Int) = (i : Int) := IntWalk.i64_in _ (by omega)
              have x2 := hbx.cell 2
              simp only [List.getElem?_toArray, List.getElem?_cons_zero, List.getElem?_cons_succ, List.length_cons, List.length_nil, Nat.zero_add] at x2
              have hb1 := cnt_le (ps.map Pc.pl) i
              have hb2 := cnt_le ((ps.map Pc.pl).take pre.length) i
              rw [List.length_map] at hb1
              have hb3 : ((ps.map Pc.pl).take pre.length).length ≤ ps.length := by rw [List.length_take, List.length_map]; omega
              have hLL := HL.out
              obtain ⟨v, hv⟩ : ∃ v, v = cnt (ps.map Pc.pl) i - cnt ((ps.map Pc.pl).take pre.length) i := ⟨_, rfl⟩
              have gc : IntKind.i64.wrap (v - 1) = v - 1 := IntWalk.i64_in _ (by omega)
              have k7 : V.cell? ⟨w1.heap.size, i, none⟩ = some (.int .i64 v) := by rw [hv]; exact hc.cell hi
              have f7 : ∀ k, V.frozen? ⟨w1.heap.size, k, none⟩ = false := fun k => Blk.frozen hc k
              have HC := Lib.hid hc; have HBL := Lib.hid hbl; have HPN := Lib.hid hpn; have HQI := Lib.hid hqi; have HV := Lib.hid hv
              clear hc hbl hpn hqi hp hpe hpv hnew hbx hA hb1 hb2 hb3 hLL hv hkp
              subst ha
              simp only [boxed, pcEnc, List.zip_toArray, List.size_toArray, List.zip_cons_cons, List.zip_nil_left]
              gi_wp2
              refine ⟨KeepsOthers.setCell _ _ _, NKp.touch ((Touch.refl (fun k => k = w1.heap.size) V).setCell (p := ⟨w1.heap.size, i, none⟩) (.inr rfl) _), ?_, HBL.out.setCell (p := ⟨w1.heap.size, i, none⟩) hcb _⟩
              refine HC.out.set fun j hj => ?_
              rw [List.length_append, List.length_singleton, cnt_step HPN.out hi HQI.out hj, HV.out]
            · rintro D ys V hD hS ⟨hc, hbl⟩ hKD
              have hz : CB V w1.heap.size (fun _ => 0) := hc.congr fun j _ => by
                rw [hS, List.take_of_length_le (by rw [List.length_map]; exact Nat.le_refl _)]
                omega
              have HZ := Lib.hid hz; have HBL := Lib.hid hbl; have HKD := Lib.hid hKD; have HD := Lib.hid hD
              have hz0 : ∀ i : Nat, i < 20 → V.cell? ⟨w1.heap.size, i, none⟩ = some (.int .i64 0) := fun i hi => hz.cell hi
              clear hz hc hbl hKD hD hS
              go_wp2_with fail
              go_loopw [18] (fun i wv => ∃ k : Nat, k ≤ 20 ∧ i = .int .i64 k ∧ wv = V) (fun i _ => 20 - (intOf i).toNat)
              case atStart => exact ⟨0, by omega, rfl, rfl⟩
              case round =>
                obtain ⟨k, hk, rfl, rfl⟩ := hrel
                by_cases hlt : k < 20
                · have hkc := hz0 k hlt
                  go_wp2_with fail
                  go_roundw
                  case rel => exact ⟨k + 1, by omega, by go_num, trivial⟩
                  case measure => simp [intOf] <;> omega
                · obtain rfl : k = 20 := by omega
                  go_wp2_with fail
                  refine (wakes_any _).mono ?_
                  rintro e w9 ⟨rfl, hf9⟩
                  have hd9 := hf9.heap HKD.out id
                  have HB9 := Lib.hid (HBL.out.trans (hf9.bel.mono HBL.out.size)); have HD9 := Lib.hid hd9
                  have hDs := Nat.le_trans HS8.out.2.2.2.size HD.out
                  clear hf9 hd9
                  go_wp2_with fail
                  refine ⟨by simp, .inl ⟨_, _, rfl, run_takeDeferred HD9.out, ?_⟩⟩
                  refine ⟨.bool true, ?_, rfl, Below.fresh (HB9.out.trans (belowK_b (w := w) (Nat.le_refl _) _ D _ _ hDs HD9.out rfl rfl))⟩
                  simp [results, Try.results10, go_sem]
            · rintro D pre V hD hpre hix hKD
              exact hix.elim
end Go.Proofs.Ythmjnlkdoepmjaa
