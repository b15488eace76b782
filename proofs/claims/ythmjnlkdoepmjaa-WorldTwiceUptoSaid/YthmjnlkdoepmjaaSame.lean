/- The law's 'same': two disks that tell the same are found to do so. Conditions stand with it. -/
import Derived.Test.YthmjnlkdoepmjaaTwo
import Derived.Deep.RegionHeld
namespace Go.Proofs.Ythmjnlkdoepmjaa
open Go.RowKit

set_option maxRecDepth 20000 in
set_option maxHeartbeats 4000000 in
theorem same_any {B : Nat} {w : World} {S T : Nat → Prop} {bd br : Nat} {d : Dk} {r : Rk} {K : Nat} (h : Two B w S T bd br d r K) (hK : K ≤ 1000000) :
    Calls Try.prog 29 #[.pointer (some ⟨bd, 0, none⟩), .pointer (some ⟨br, 0, none⟩)] w fun e w' => e = .returned (.bool true) ∧ Fresh w w' := by
  have hfit := h.fit
  have hops : r.count = d.ops := h.sim.ops.symm
  have hfs : r.fs = d.fs := h.sim.fs.symm
  have hlen : d.fs.length ≤ 1000000 := Nat.le_trans h.small.many hK
  have HDF := Lib.hid (disk_files h.disk h.small (by omega))
  have KDO := Lib.hid (fun W (ht : Fresh w W) => disk_ops (h.disk.fresh ht))
  have KRF := Lib.hid (show ∀ W (_ : Fresh w W), Calls Try.prog 63 #[.pointer (some ⟨br, 0, none⟩)] W fun e w' => Fresh W w' ∧ ∃ B c, e = .returned (.slice B d.fs.length c) ∧ Own w' 3 1 (.slice B d.fs.length c) d.fs.length (intsV (d.fs.map Fl.n)) ∧ ∀ k, (Value.slice B d.fs.length c).ownBlock = some k → W.heap.size ≤ k from fun W ht => by
    have := rdisk_files (h.ref.fresh ht) hfit (by omega)
    rw [hfs] at this
    exact this)
  have KRC := Lib.hid (show ∀ W (_ : Fresh w W), W.cell? ⟨br, 3, none⟩ = some (.int .i64 d.ops) from fun W ht => by rw [← hops]; exact rdisk_count (h.ref.fresh ht))
  have KDR := Lib.hid (fun W (ht : Fresh w W) (n : Int) (hn : (Lit.int .i64 n).wf = true) => disk_read (h.disk.fresh ht) h.small (by omega) hn)
  have KDK := Lib.hid (fun W (ht : Fresh w W) (n : Int) (hn : (Lit.int .i64 n).wf = true) => disk_kept (h.disk.fresh ht) hn)
  have KDF := Lib.hid (fun W (ht : Fresh w W) => disk_files (h.disk.fresh ht) h.small (by omega))
  have KRR := Lib.hid (show ∀ W (_ : Fresh w W) (n : Int), Calls Try.prog 28 #[.pointer (some ⟨br, 0, none⟩), .int .i64 n] W fun e w' => Fresh W w' ∧ ∃ B c, e = .returned (.slice B (d.read n).length c) ∧ Row w' (.slice B (d.read n).length c) (d.read n) ∧ ∀ a, B = some a → W.heap.size ≤ a.block from fun W ht n => by
    have := rdisk_read (h.ref.fresh ht) hfit (by omega) n
    rw [← h.sim.read] at this
    exact this)
  have KRK := Lib.hid (show ∀ W (_ : Fresh w W) (n : Int), Calls Try.prog 65 #[.pointer (some ⟨br, 0, none⟩), .int .i64 n] W fun e w' => (∃ q, w' = W.drewN q) ∧ e = .returned (.int .i64 (d.kept n)) from fun W ht n => by
    have := rdisk_kept (h.ref.fresh ht) hfit (by omega) n
    rw [← h.sim.kept] at this
    exact this)
  have KWF := Lib.hid (show ∀ f ∈ d.fs, (Lit.int .i64 f.n).wf = true from fun f hf => (h.disk.good.1 f hf).2.2)
  have KRL := Lib.hid (show ∀ n, (d.read n).length ≤ 1000000 from fun n => by
    unfold Dk.read
    cases hf : Fl.at_ d.fs n with
    | none => simp
    | some f => exact Nat.le_trans (h.small.raw f (List.mem_of_find?_eq_some hf)) hK)
  have KCV := Lib.hid (fun (W : World) (A : Option Addr) (n c : Nat) (xs : List UInt8) (hb : Bs W A n c xs) => run_convert_Bs (P := Try.prog) 22 9 Try.underlying22 Try.underlying5 Try.underlying9 hb)
  have H := Lib.hid h; have HFIT := Lib.hid hfit; have HFS := Lib.hid hfs
  clear h hfit hops hfs
  go_enter Try.func29, Try.ntmps29
  go_wp2_with fail
  refine HDF.out.mono ?_
  rintro e w1 ⟨hf1, B1, c1, rfl, ho1, hn1⟩
  have HT1 := Lib.hid hf1; have HO1 := Lib.hid ho1; have HN1 := Lib.hid hn1
  have hc3 := KRC.out w1 hf1
  clear hf1 ho1 hn1 HDF
  have KA := Lib.hid (show ∀ W, (Fresh w1 W ∧ W.cell? ⟨br, 3, none⟩ = some (.int .i64 d.ops)) → Fresh w1 W from fun _ h => h.1)
  go_upto_region 2 with fail
  go_region_held (fun w' => Fresh w1 w' ∧ w'.cell? ⟨br, 3, none⟩ = some (.int .i64 d.ops))
    (first | exact ⟨(Touch.refl _ w1).drew, hc3⟩ | exact ⟨k1, k2⟩ | exact ⟨k3, k4⟩ | exact ⟨k5, k6⟩)
    (first
      | (go_at_call 63; refine (KRF.out _ (HT1.out.trans (KA.out _ (by assumption)) fun _ _ => id)).mono ?_; rintro e w2 ⟨hf2, B2, c2, rfl, ho2, hn2⟩; have k1 : Fresh w1 w2 := (Touch.trans (KA.out _ (by assumption)) hf2 fun _ _ => id); have k2 := KRC.out w2 (HT1.out.trans k1 fun _ _ => id))
      | (go_at_call 31; refine (ints_any _ _ _ _ _ _ _ (HO1.out.ints.touch (KA.out _ (by assumption)) fun _ _ _ => id) ho2.ints).mono ?_; rintro e w3 ⟨rfl, q3, rfl⟩; have k3 : Fresh w1 (w2.drewN q3) := k1.drewN q3; have k4 := KRC.out _ (HT1.out.trans k3 fun _ _ => id))
      | (go_at_call 21; refine (KDO.out _ (HT1.out.trans (KA.out _ (by assumption)) fun _ _ => id)).mono ?_; rintro e w4 ⟨rfl, rfl⟩; have k5 : Fresh w1 _ := (KA.out _ (by assumption)); have k6 := KRC.out _ (HT1.out.trans k5 fun _ _ => id)))
  have HO2 := Lib.hid ho2
  have hOS : Own (w2.drewN q3) 3 1 (.slice B1 d.fs.length c1) d.fs.length (intsV (d.fs.map Fl.n)) := HO1.out.touch k3 fun _ _ => id
  have HSP := Lib.hid (spoilInts_any _ _ _ _ _ hOS (by omega))
  have K3 := Lib.hid k3
  clear ho2 hn2 hf2 k1 k2 k3 k4 k5 k6 hc3 hOS KA
  go_wp2_with fail
  refine HSP.out.mono ?_
  rintro e w5 ⟨rfl, ht5⟩
  have hT5 : Fresh w w5 := ((HT1.out.trans K3.out fun _ _ => id).trans (S := fun _ => False) ht5 fun k hk e => by have := HN1.out k e; omega)
  have HT5 := Lib.hid hT5
  clear ht5 hT5 HSP
  go_wp2_with fail
  refine (KRF.out _ HT5.out).mono ?_
  rintro e w6 ⟨hf6, B6, c6, rfl, ho6, hn6⟩
  have HT6 := Lib.hid (HT5.out.trans hf6 fun _ _ => id); have HO6 := Lib.hid ho6; have HN6 := Lib.hid hn6
  clear hf6 ho6 hn6
  have hz : w.heap.size ≤ w5.heap.size := HT5.out.size
  go_wp2_with fail
  go_loopw [6, 7] (fun i b wr => ∃ j : Nat, j ≤ d.fs.length ∧ i = .int .i64 j ∧ Fresh w6 wr) (fun i _ _ => d.fs.length - (intOf i).toNat)
  case atStart => exact ⟨0, by omega, rfl, Touch.refl _ _⟩
  case round =>
    obtain ⟨j, hj, rfl, hTr⟩ := hrel
    have HTR := Lib.hid hTr
    have HTW := Lib.hid (HT6.out.trans hTr fun _ _ => id)
    clear hTr
    by_cases hlt : j < d.fs.length
    · obtain ⟨g6, rfl⟩ : ∃ g, B6 = some ⟨g, 0, none⟩ := by
        obtain ⟨A', c', hv, _, _, hA⟩ := HO6.out.form
        injection hv with e1 _ _
        rcases hA with ⟨_, h0, _⟩ | ⟨g, hg⟩
        · omega
        · exact ⟨g, e1.trans hg⟩
      obtain ⟨f, hf⟩ : ∃ f, d.fs[j]? = some f := ⟨d.fs[j], List.getElem?_eq_getElem hlt⟩
      have hwf := KWF.out f (List.mem_of_getElem? hf)
      have HCL := Lib.hid (show ∀ W, Fresh w6 W → W.cell? ⟨g6, j, none⟩ = some (.int .i64 f.n) from fun W hW => by
        have := (HO6.out.touch hW fun _ _ => id).cell (j := j) (by omega)
        rw [this, intsV_get, List.getElem?_map, hf]
        rfl)
      have hcl := HCL.out wr HTR.out
      have HRD := Lib.hid (KDR.out wr HTW.out f.n hwf)
      generalize hnn : f.n = n at *
      have HRL := Lib.hid (KRL.out n)
      have HWF := Lib.hid hwf
      clear hf hnn
      go_wp2_with fail
      refine HRD.out.mono ?_
      rintro e w7 ⟨hf7, B7, c7, rfl, hr7, hn7⟩
      have HT7 := Lib.hid (HTR.out.trans hf7 fun _ _ => id)
      have HR7 := Lib.hid hr7; have HN7 := Lib.hid hn7
      have hc7 := HCL.out w7 HT7.out
      have HK7 := Lib.hid (show ∀ W, Fresh w7 W → (convert 22 9 (.slice B7 (d.read n).length c7)).run Try.prog W = .ok (.string ⟨(d.read n).toArray⟩) W from fun W hW => KCV.out W _ _ _ _ ((Row.bs HR7.out).fresh hW))
      have hk7 := HK7.out w7 (Touch.refl _ _)
      clear hf7 hr7 hn7 HRD
      have KA := Lib.hid (show ∀ W, (Fresh w7 W ∧ W.cell? ⟨g6, j, none⟩ = some (.int .i64 n) ∧ (convert 22 9 (.slice B7 (d.read n).length c7)).run Try.prog W = .ok (.string ⟨(d.read n).toArray⟩) W) → Fresh w7 W from fun _ h => h.1)
      have KW7 := Lib.hid (show ∀ W, Fresh w7 W → Fresh w W from fun W hW => HT6.out.trans (HT7.out.trans hW fun _ _ => id) fun _ _ => id)
      have KS7 := Lib.hid (show ∀ W, Fresh w7 W → (Fresh w7 W ∧ W.cell? ⟨g6, j, none⟩ = some (.int .i64 n) ∧ (convert 22 9 (.slice B7 (d.read n).length c7)).run Try.prog W = .ok (.string ⟨(d.read n).toArray⟩) W) from fun W hW => ⟨hW, HCL.out W (HT7.out.trans hW fun _ _ => id), HK7.out W hW⟩)
      go_upto_region 10 with fail
      go_region_held (fun w' => Fresh w7 w' ∧ w'.cell? ⟨g6, j, none⟩ = some (.int .i64 n) ∧ (convert 22 9 (.slice B7 (d.read n).length c7)).run Try.prog w' = .ok (.string ⟨(d.read n).toArray⟩) w')
        (first | exact KS7.out _ ((Touch.refl _ w7).drew) | assumption)
        (first
          | (go_at_call 28; refine (KRR.out _ (KW7.out _ (KA.out _ (by assumption))) n).mono ?_; rintro e w8 ⟨hf8, B8, c8, rfl, hr8, hn8⟩; have k8 := KS7.out w8 ((KA.out _ (by assumption)).trans hf8 fun _ _ => id); have kc8 := KCV.out w8 _ _ _ _ (Row.bs hr8))
          | (go_at_call 17; refine (KDK.out _ (KW7.out _ (KA.out _ (by assumption))) n HWF.out).mono ?_; rintro e w9 ⟨rfl, rfl⟩)
          | (go_at_call 65; refine (KRK.out _ (KW7.out _ (KA.out _ (by assumption))) n).mono ?_; rintro e w10 ⟨⟨q10, rfl⟩, rfl⟩; have k10 := KS7.out _ (Touch.drewN (KA.out _ (by assumption)) q10)))
      have HT10 := Lib.hid (KA.out _ k10)
      have HSPB := Lib.hid (spoil_any (d.read n) _ _ (HR7.out.touch HT10.out fun _ _ => id) (by have := HRL.out; omega))
      generalize w8.drewN q10 = w11 at *
      clear k8 kc8 hf8 hr8 hn8 k10 hc7 hk7 KA KS7
      go_wp2_with fail
      refine HSPB.out.mono ?_
      rintro e w12 ⟨rfl, ht12⟩
      have hT12 : Fresh w6 w12 := (HT7.out.trans HT10.out fun _ _ => id).trans (S := fun _ => False) ht12 fun k hk e => by
        cases B7 with
        | none => cases e
        | some a =>
          have h1 := HN7.out a rfl
          have h2 := HTR.out.size
          simp only [Value.ownBlock, Option.some.injEq] at e
          omega
      have HT12 := Lib.hid hT12
      have KA := Lib.hid (show ∀ W, (Fresh w12 W ∧ W.cell? ⟨g6, j, none⟩ = some (.int .i64 n)) → Fresh w12 W from fun _ h => h.1)
      have KW12 := Lib.hid (show ∀ W, Fresh w12 W → Fresh w W from fun W hW => HT6.out.trans (HT12.out.trans hW fun _ _ => id) fun _ _ => id)
      have KS12 := Lib.hid (show ∀ W, Fresh w12 W → (Fresh w12 W ∧ W.cell? ⟨g6, j, none⟩ = some (.int .i64 n)) from fun W hW => ⟨hW, HCL.out W (HT12.out.trans hW fun _ _ => id)⟩)
      clear ht12 hT12 HSPB HT10
      go_upto_region 13 with fail
      go_region_held (fun w' => Fresh w12 w' ∧ w'.cell? ⟨g6, j, none⟩ = some (.int .i64 n))
        (first | exact KS12.out _ ((Touch.refl _ w12).drew) | assumption)
        (first
          | (go_at_call 16; refine (KDR.out _ (KW12.out _ (KA.out _ (by assumption))) n HWF.out).mono ?_; rintro e w13 ⟨hf13, B13, c13, rfl, hr13, hn13⟩; have k13 := KS12.out w13 ((KA.out _ (by assumption)).trans hf13 fun _ _ => id); have hb13 := Lib.hid (Row.bs hr13); have kc13 := KCV.out w13 _ _ _ _ hb13.out; clear hr13 hn13 hf13)
          | (go_at_call 28; refine (KRR.out _ (KW12.out _ (KA.out _ (by assumption))) n).mono ?_; rintro e w14 ⟨hf14, B14, c14, rfl, hr14, hn14⟩; have k14 := KS12.out w14 ((KA.out _ (by assumption)).trans hf14 fun _ _ => id); have kc14 := KCV.out w14 _ _ _ _ (Row.bs hr14); have kc13' := KCV.out w14 _ _ _ _ (hb13.out.fresh hf14); clear hr14 hn14 hf14))
      all_goals
        have HT14 := Lib.hid (HT12.out.trans (KA.out _ k14) fun _ _ => id)
        clear k13 k14 kc13 kc14 kc13' hb13 KA KS12
        go_wp2_with fail
        refine ⟨⟨j + 1, by omega, by simp, HT14.out⟩, by simp [intOf] <;> omega⟩
    · have : j = d.fs.length := by omega
      subst this
      have hi6 := HO6.out.ints.touch HTR.out fun _ _ _ => id
      have HI6 := Lib.hid hi6
      clear hi6
      go_wp2_with fail
      refine (KDF.out _ HTW.out).mono ?_
      rintro e w15 ⟨hf15, B15, c15, rfl, ho15, hn15⟩
      have HI := Lib.hid (ints_any _ _ _ _ _ _ _ ho15.ints (HI6.out.touch hf15 fun _ _ _ => id))
      have HT15 := Lib.hid (HTW.out.trans hf15 fun _ _ => id)
      clear hf15 ho15 hn15
      go_wp2_with fail
      refine HI.out.mono ?_
      rintro e w16 ⟨rfl, q16, rfl⟩
      go_wp2_with fail
      go_ret
      exact ⟨rfl, HT15.out.drewN q16⟩
end Go.Proofs.Ythmjnlkdoepmjaa
