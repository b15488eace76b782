/- ring.New. Condition: few hosts. -/
import Derived.Test.YtnbpmlbhigchnaaGreatDoorRing
namespace Go.Proofs.YtnbpmlbhigchnaaGreatDoor
open Go.RowKit Ieee Go.Sort

theorem spC_snoc (sps : List Sp) (x : Sp) : spC (sps ++ [x]) = spC sps ++ [.complex .f64 x.x x.y, .int .i64 x.h] := by simp [spC, Sp.enc]
theorem name_bytes (h k : Nat) : (({ data := #[104, 111, 115, 116, 47] } : ByteArray) ++ ⟨(Lib.decDigits h).toArray⟩ ++ ({ data := #[47] } : ByteArray) ++ ⟨(Lib.decDigits k).toArray⟩) = ⟨(nameZ h k).toArray⟩ := by
  apply ByteArray.ext
  simp [nameZ]
theorem name_point (m k : Nat) (hm : m < 16) (hk : k < 64) (W : World) : Calls Tryz.prog 18 #[.string ⟨(nameZ m k).toArray⟩] W fun e w' => (∃ X : Sp, e = .returned (.complex .f64 X.x X.y) ∧ X.key = spotK m k ∧ X.h = m) ∧ w' = W :=
  by
  have hlen : (nameZ m k).length ≤ 1000000 := by
    have h1 := dec_len (n := m) (by omega)
    have h2 := dec_len (n := k) (by omega)
    simp [nameZ]
    omega
  have hs : spotK (m : Int) k = (pointZ (nameZ m k), (m : Int)) := by unfold spotK; rw [Int.toNat_natCast]
  rw [hs]
  have hz := InZ.point (nameZ m k)
  have hp := point_any (nameZ m k) hlen W
  generalize pointZ (nameZ m k) = z at *
  exact hp.mono fun e w' ⟨⟨x, y, he, hx, hy⟩, hw⟩ => ⟨⟨⟨x, y, z, m, hx, hy, hz⟩, he, rfl, rfl⟩, hw⟩
theorem take_snoc {l : List Int} {j : Nat} {x : Int} (h : l[j]? = some x) : l.take (j + 1) = l.take j ++ [x] := by rw [List.take_add_one, h]; rfl

set_option maxRecDepth 20000 in
set_option maxHeartbeats 4000000 in
theorem new_any (A : Option Addr) (c : Nat) (l : List Int) (p : Int) (w : World) (hv : Vs w 1 A l.length c (iV l)) (hl : l.length ≤ 1000000) :
    Calls Tryz.prog 4 #[.slice A l.length c, .int .i64 p] w (NewEnd w l p) := by
  have HV := Lib.hid hv
  clear hv
  by_cases hp1 : p < 1
  · have HE := Lib.hid (show okNew l p = false by have : ¬ 1 ≤ p := (by omega); simp [okNew, this])
    go_enter Tryz.func4, Tryz.ntmps4
    go_wp2_with fail
    all_goals (go_ret2; exact NewEnd.bad HE.out (Touch.refl _ _))
  by_cases hp2 : 64 < p
  · have HE := Lib.hid (show okNew l p = false by have : ¬ p ≤ 64 := (by omega); simp [okNew, this])
    go_enter Tryz.func4, Tryz.ntmps4
    go_wp2_with fail
    all_goals (go_ret2; exact NewEnd.bad HE.out (Touch.refl _ _))
  obtain ⟨n, rfl⟩ := Int.eq_ofNat_of_zero_le (show 0 ≤ p by omega)
  have hn1 : 1 ≤ n := by omega
  have hn2 : n ≤ 64 := by omega
  have d1 : decide ((n : Int) < 1) = false := by simp; omega
  have d2 : decide ((64 : Int) < n) = false := by simp; omega
  clear hp1 hp2
  obtain ⟨W1, hW1⟩ : ∃ W1, W1 = w.alloc (.cells #[.slice none 0 0, .slice none 0 0] 55) := ⟨_, rfl⟩
  have HR := Lib.hid (show RN w W1 w.heap.size (.slice none 0 0) (.slice none 0 0) [] [] by
    have hb : Blk W1 w.heap.size 55 #[.slice none 0 0, .slice none 0 0] := by rw [hW1]; exact Blk.new _ _ _
    refine ⟨⟨hb, Own.nil_ _ _ _, Own.nil_ _ _ _⟩, by rw [hW1]; exact (Touch.refl _ w).alloc _, ?_⟩
    rintro k (rfl | e | e)
    · exact Nat.le_refl _
    · cases e
    · cases e)
  have HW := Lib.hid hW1
  clear hW1
  go_enter Tryz.func4, Tryz.ntmps4
  go_wp2_with fail
  rw [← HW.out]
  go_loopw [20] (fun i wr => ∃ (j : Nat) (hv sv : Value) (sps : List Sp), j ≤ l.length ∧ i = .int .i64 j ∧ RN w wr w.heap.size hv sv (l.take j) sps ∧ sps.map Sp.key = spotsOf (l.take j) n ∧ (l.take j).Nodup ∧ (l.take j).all okHost = true) (fun i _ => l.length - (intOf i).toNat)
  case atStart => exact ⟨0, _, _, [], Nat.zero_le _, rfl, HR.out, rfl, List.nodup_nil, rfl⟩
  case round =>
    clear HW HR
    obtain ⟨j, hv, sv, sps, hj, rfl, hR, hkeys, hnd, hall⟩ := hrel
    have HR := Lib.hid hR; have HK := Lib.hid hkeys; have HN := Lib.hid hnd; have HA := Lib.hid hall
    have c0 : wr.cell? ⟨w.heap.size, 0, none⟩ = some hv := hR.rg.blk.cell 0
    have c1 : wr.cell? ⟨w.heap.size, 1, none⟩ = some sv := hR.rg.blk.cell 1
    have hbw : w.heap.size < wr.heap.size := hR.rg.blk.lt
    have f0 := hR.rg.blk.frozen 0
    have f1 := hR.rg.blk.frozen 1
    clear hR hkeys hnd hall
    by_cases hlt : j < l.length
    · obtain ⟨x, hx⟩ : ∃ x, l[j]? = some x := ⟨_, List.getElem?_eq_getElem hlt⟩
      obtain ⟨b, o, rfl⟩ := HV.out.at_ (by omega)
      have cx : wr.cell? ⟨b, o + j, none⟩ = some (.int .i64 x) := (HV.out.fresh HR.out.fresh).cellAt (by simp [iV, hx])
      have HX := Lib.hid hx
      clear hx
      by_cases hx1 : x < 0
      · have HE := Lib.hid (okNew_bad (p := (n : Int)) HX.out (.inl (by have : ¬ 0 ≤ x := (by omega); simp [okHost, this])))
        go_wp2_with fail
        all_goals (go_ret2; exact NewEnd.bad HE.out HR.out.fresh)
      by_cases hx2 : 16 ≤ x
      · have HE := Lib.hid (okNew_bad (p := (n : Int)) HX.out (.inl (by have : ¬ x < 16 := (by omega); simp [okHost, this])))
        go_wp2_with fail
        all_goals (go_ret2; exact NewEnd.bad HE.out HR.out.fresh)
      obtain ⟨m, rfl⟩ := Int.eq_ofNat_of_zero_le (show 0 ≤ x by omega)
      have e1 : decide ((m : Int) < 0) = false := by simp
      have e2 : decide ((16 : Int) ≤ m) = false := by simp; omega
      have KH := Lib.hid (has_any HR.out.rg.hrow (by rw [List.length_take]; omega) (m : Int))
      have HM := Lib.hid (show m < 16 by omega)
      clear hx1 hx2
      cases hc : (l.take j).contains (m : Int) with
      | true =>
        rw [hc] at KH
        have HE := Lib.hid (okNew_bad (p := (n : Int)) HX.out (.inr (by simpa using hc)))
        clear hc
        go_wp2_with fail
        refine KH.out.mono ?_
        rintro e w1 ⟨rfl, hw1⟩
        rw [hw1]
        clear hw1 w1
        go_wp2_with fail
        all_goals (go_ret2; exact NewEnd.bad HE.out HR.out.fresh)
      | false =>
        rw [hc] at KH
        have HC := Lib.hid hc
        clear hc
        obtain ⟨t, ht⟩ : ∃ t, t = l.take j := ⟨_, rfl⟩
        have hts : l.take (j + 1) = t ++ [(m : Int)] := by rw [ht]; exact take_snoc HX.out
        rw [← ht] at HR HK HN HA HC
        have HTL := Lib.hid (show t.length ≤ 1000000 by rw [ht, List.length_take]; omega)
        have HTS := Lib.hid hts
        have HT := Lib.hid ht
        clear ht hts HX
        go_wp2_with fail
        refine KH.out.mono ?_
        rintro e w1 ⟨rfl, hw1⟩
        rw [hw1]
        clear hw1 w1 KH
        have HL := HTL.out
        go_wp2_with (at_builtin; refine wpList_own_src _ rfl _ _ 22 22 rfl 3 (.int .i64 0) 1 8 Tryz.info3 Tryz.underlying22 rfl hv t.length (iV t) rfl (HR.out.rg.hrow.alloc _) (iV_one _) (.slice (some ⟨wr.heap.size, 0, none⟩) 1 1) 1 [.int .i64 m] rfl (int_new wr m) (by unfold maxLen; omega) (by omega) ?_; intro D c4 w4 o4 g4 b4; have HB4 := Lib.hid (((HR.out.rg.blk.alloc _).grown g4 (fun e => HR.out.rg.hrow.ne_blk HR.out.rg.blk (by decide) e.symm))); have k0 := HB4.out.cell 0; have k1 := HB4.out.cell 1; have q0 := HB4.out.frozen 0; have q1 := HB4.out.frozen 1; have HS4 := Lib.hid (HR.out.host g4 o4 b4); clear o4 g4 b4)
        obtain ⟨hv', hhv⟩ : ∃ hv', hv' = Value.slice D (t.length + 1) c4 := ⟨_, rfl⟩
        rw [← hhv] at HS4 ⊢
        clear hhv
        go_loopw [49] (fun i wr => ∃ (k : Nat) (sv : Value) (sps : List Sp), k ≤ n ∧ i = .int .i64 k ∧ RN w wr w.heap.size hv' sv (t ++ [(m : Int)]) sps ∧ sps.map Sp.key = spotsOf t n ++ (List.range k).map (spotK m)) (fun i _ => n - (intOf i).toNat)
        case atStart => exact ⟨0, sv, sps, Nat.zero_le _, rfl, HS4.out, by rw [HK.out]; simp⟩
        case round =>
          clear HS4 HB4 k0 k1 q0 q1 c0 c1 f0 f1 cx hbw HK HR
          obtain ⟨k, sv, sps, hk, rfl, hR, hkeys⟩ := hrel
          have HR := Lib.hid hR; have HK := Lib.hid hkeys
          have c0 : wr.cell? ⟨w.heap.size, 0, none⟩ = some hv' := hR.rg.blk.cell 0
          have c1 : wr.cell? ⟨w.heap.size, 1, none⟩ = some sv := hR.rg.blk.cell 1
          have c1a : ∀ o, (wr.drew.alloc o).cell? ⟨w.heap.size, 1, none⟩ = some sv := fun o => (hR.rg.blk.drew.alloc o).cell 1
          have hbw : w.heap.size < wr.heap.size := hR.rg.blk.lt
          have f1 := hR.rg.blk.frozen 1
          have HSL := Lib.hid (show sps.length ≤ 100000000 by
            have := congrArg List.length hkeys
            rw [List.length_map, List.length_append, spotsOf_len, List.length_map, List.length_range] at this
            have := HTL.out
            have := Nat.mul_le_mul_left t.length hn2
            omega)
          clear hR hkeys
          by_cases hlk : k < n
          · have KI1 := Lib.hid (fun W => itoa_small m (by have := HM.out; omega) W)
            have KI2 := Lib.hid (fun W => itoa_small k (by omega) W)
            have KP := Lib.hid (fun W => name_point m k HM.out (by omega) W)
            have HSL' := HSL.out
            have g0 := dec_len (n := m) (by have := HM.out; omega)
            have g1 := dec_len (n := k) (by omega)
            have n1 : ¬ 9223372036854775807 < 5 + (Lib.decDigits m).length := by omega
            have n2 : ¬ 9223372036854775807 < 5 + (Lib.decDigits m).length + 1 := by omega
            have n3 : ¬ 9223372036854775807 < 5 + (Lib.decDigits m).length + 1 + (Lib.decDigits k).length := by omega
            clear g0 g1
            go_upto_region 13 with fail
            go_region_law (first
              | (refine step_own_src _ rfl _ _ 53 53 rfl 60 (.agg #[.complex .f64 0 0, .int .i64 0]) 2 24 Tryz.info60 Tryz.underlying53 rfl sv sps.length (spC sps) rfl (by exact (HR.out.rg.srow.drew).alloc _) (spC_one _) (.slice (some ⟨wr.heap.size, 0, none⟩) 1 1) 1 [.complex .f64 X.x X.y, .int .i64 m] rfl (by exact spot_new wr.drew X m) (by unfold maxLen; omega) (by omega) ?_; intro D5 c5 w5 o5 g5 b5; have HB5 := Lib.hid (((HR.out.rg.blk.drew.alloc _).grown g5 (fun e => HR.out.rg.srow.ne_blk HR.out.rg.blk (by decide) e.symm))); have k0 := HB5.out.cell 0; have k1 := HB5.out.cell 1; have q0 := HB5.out.frozen 0; have q1 := HB5.out.frozen 1; have HS5 := Lib.hid ((HR.out.on (Touch.refl _ wr).drew).spot g5 o5 b5 HX2.out); clear o5 g5 b5)
              | (go_simp; go_at_call 19; refine (KI1.out _).mono ?_; rintro e w1 ⟨rfl, rfl⟩)
              | (go_simp; go_at_call 19; refine (KI2.out _).mono ?_; rintro e w1 ⟨rfl, rfl⟩)
              | (go_simp; go_at_call 18; rw [name_bytes]; refine (KP.out _).mono ?_; rintro e w1 ⟨⟨X, rfl, hX1, hX2⟩, rfl⟩; have HX1 := Lib.hid hX1; have HX2 := Lib.hid hX2; clear hX1 hX2))
            all_goals
              clear k0 k1 q0 q1 c0 c1 c1a f1 n1 n2 n3 HB5
              go_wp2_with fail
              go_roundw
              case rel =>
                refine ⟨k + 1, _, sps ++ [X], by omega, by go_num, HS5.out, ?_⟩
                rw [List.map_append, HK.out, List.range_succ, List.map_append, List.append_assoc, List.map_cons, List.map_nil, List.map_cons, List.map_nil, HX1.out]
              case measure => simp [intOf] <;> omega
          · obtain rfl : k = n := by omega
            clear c0 c1 c1a f1
            go_wp2_with fail
            go_roundw
            case rel =>
              refine ⟨j + 1, _, _, sps, by omega, by go_num, by rw [HTS.out]; exact HR.out, ?_, ?_, ?_⟩
              · rw [HTS.out, HK.out, spotsOf_append]
                simp [spotsOf]
              · rw [HTS.out, List.nodup_append]
                refine ⟨HN.out, by simp, ?_⟩
                intro a ha b hb e
                simp only [List.mem_cons, List.not_mem_nil, or_false] at hb
                have hc := HC.out
                rw [e, hb] at ha
                have : t.contains (m : Int) = true := by simpa using ha
                rw [hc] at this
                cases this
              · rw [HTS.out, List.all_append, HA.out]
                have := HM.out
                simp [okHost]
                omega
            case measure => simp [intOf] <;> omega
    · obtain rfl : j = l.length := by omega
      rw [List.take_length] at HR HK HN HA
      have HE := Lib.hid (show okNew l (n : Int) = true by
        have h1 := HA.out; have h2 := HN.out
        simp only [okNew, Bool.and_eq_true, decide_eq_true_eq]
        exact ⟨⟨⟨by omega, by omega⟩, h1⟩, h2⟩)
      have HSL := Lib.hid (show sps.length ≤ 100000000 by
        have := congrArg List.length HK.out
        rw [List.length_map, spotsOf_len] at this
        have := Nat.mul_le_mul_left l.length hn2
        omega)
      have KS1 := Lib.hid (sortints_any HR.out.rg.hrow hl)
      go_wp2_with fail
      refine KS1.out.mono ?_
      rintro e w1 ⟨rfl, ht1, ho1⟩
      have hw1 := HR.out.halfway ht1
      have KS2 := Lib.hid (sortsp_any hw1.2 (by have := HSL.out; omega))
      have k1 : w1.cell? ⟨w.heap.size, 1, none⟩ = some sv := hw1.1.cell 1
      have HT1 := Lib.hid ht1; have HO1 := Lib.hid ho1
      clear ht1 ho1 hw1 KS1 c0 c1 f0 f1
      go_wp2_with fail
      refine KS2.out.mono ?_
      rintro e w2 ⟨rfl, ht2, sps', ho2, hperm, hsort⟩
      have HEND := Lib.hid (HR.out.sorted HT1.out HO1.out (sortI_len l) ht2 ho2)
      have HP := Lib.hid hperm; have HS := Lib.hid hsort
      clear ht2 ho2 hperm hsort KS2 k1
      go_wp2_with fail
      all_goals
        go_ret2
        refine ⟨fun _ => ⟨w.heap.size, hv, sv, sps', rfl, HEND.out, HS.out, ?_⟩, fun h => absurd (h.symm.trans HE.out) (by decide)⟩
        rw [Int.toNat_natCast, ← HK.out]
        exact HP.out.map _
end Go.Proofs.YtnbpmlbhigchnaaGreatDoor
