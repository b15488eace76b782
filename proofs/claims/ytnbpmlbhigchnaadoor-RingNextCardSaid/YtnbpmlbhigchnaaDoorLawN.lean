/- The walk of the law RingNext. Condition: numbers as an int holds them. -/
import Derived.Test.YtnbpmlbhigchnaaDoorNxt
namespace Go.Proofs.YtnbpmlbhigchnaaDoor
open Go.RowKit
attribute [local go_sem] Oper.semAt_some

theorem Below.fresh {w w' : World} (h : Below w.heap.size w w') : Fresh w w' := Touch.ofBelow h _

set_option maxRecDepth 100000 in
set_option maxHeartbeats 8000000 in
theorem law_next (A : Option Addr) (c : Nat) (l : List Int) (points : Int) (w : World) (h : IsInts w A l.length c l) :
    Calls Tryd.prog 8 #[.slice A l.length c, .int .i64 points] w fun e w' => e = .returned (.bool true) ∧ Fresh w w' := by
  have KW := Lib.hid (fun W => wakes_any W)
  have KH := Lib.hid (hosts_any A c l w h)
  have hok := hostsZ_ok l
  have hlen := hostsZ_len l
  generalize hostsZ l = al at *
  have HOK := Lib.hid hok
  clear h hok
  refine (callsIn_wide (n := 3)).1 ?_
  refine callsIn_of_wp_marks Tryd.func8 rfl trivial ?_ rfl
  simp only [Tryd.ntmps8, List.size_toArray, List.length_cons, List.length_nil, Nat.reduceAdd, Nat.reduceSub, Array.replicate_succ, Array.replicate_zero, List.push_toArray, List.append_toArray, List.nil_append, List.cons_append]
  refine wpIn_wide.2 ?_
  go_wp2_with fail
  refine KH.out.mono ?_
  rintro e w1 ⟨hf1, B, c1, rfl, ho1, hn1⟩
  have HF1 := Lib.hid hf1; have HO1 := Lib.hid ho1
  obtain ⟨B', c', hB', hc1, hc2, hBA⟩ := ho1.form
  injection hB' with e1 _ e3
  subst e1 e3
  have HBA := Lib.hid hBA
  unfold maxLen at hc2
  clear hf1 ho1 hn1 KH hBA
  by_cases h2 : al.length = 0
  · go_wp2_with fail
    refine (KW.out _).mono ?_
    rintro e w3 ⟨rfl, hf3⟩
    have HF3 := Lib.hid (HF1.out.trans hf3 fun _ _ => id)
    clear hf3 KW
    go_wp2_with fail
    refine ⟨.bool true, ?_, rfl, HF3.out⟩
    simp [results, Tryd.results8, go_sem]
  · have hq1 := Int.emod_nonneg points (show (16 : Int) ≠ 0 by decide)
    have hq2 := Int.emod_lt_of_pos points (show (0 : Int) < 16 by decide)
    have KP := Lib.hid (within_any points 16 w1 (by decide) (by decide))
    generalize points % 16 = pp at *
    obtain ⟨pn, rfl⟩ := Int.eq_ofNat_of_zero_le hq1
    have hwr : IntKind.i64.wrap (1 + (pn : Int)) = 1 + (pn : Int) := IntWalk.i64_in _ (by omega)
    have hne0 : ¬ (al.length : Int) = 0 := by omega
    have KN := Lib.hid (new_any B c1 al (1 + (pn : Int)) w1 HO1.out.vs_ (by omega))
    clear hq1
    go_wp2_with fail
    refine KP.out.mono ?_
    rintro e w2 ⟨hw2, rfl⟩
    rw [hw2]
    clear hw2 w2 KP
    go_wp2_with fail
    refine KN.out.mono ?_
    intro e3 w3 hend
    obtain ⟨bn, hv, sv, sps, rfl, hRA, hsA, hpA⟩ := hend.1 (okNew_mk HOK.out (by omega) (by omega))
    have HR := Lib.hid hRA.rg; have HP := Lib.hid hpA; have HF3 := Lib.hid (HF1.out.trans hRA.fresh fun _ _ => id)
    have HPOS := Lib.hid (spots_pos HOK.out.2 hpA)
    have HLS := Lib.hid (hRA.few hpA (by omega) (by omega))
    clear hend hRA hsA hpA KN
    go_wp2_with fail
    refine wp_loop (fun a wr => ∃ (j : Nat) (Ds : List Nat) (ds : List Deferred) (u0 u1 u2 u3 u5 u7 u8 u9 u10 u11 u12 u13 u14 u15 u16 u17 u18 u19 u20 u21 u22 u23 u24 u25 u26 u27 u28 u29 u30 u31 u32 u33 u34 u35 u36 u37 u38 u39 u40 u41 u42 u43 u44 u45 u46 u47 u48 u49 u50 u51 u52 u53 u54 u55 u56 u57 u58 u59 u60 u61 u62 u63 u64 u65 u66 u67 u68 u69 u70 u71 u72 u73 u74 u75 u76 u77 : Value), (j ≤ 16 ∧ u8 = .int .i64 j ∧ Touch (fun _ => False) w3 wr ∧ Ds.Nodup ∧ (∀ D ∈ Ds, w3.heap.size ≤ D ∧ wr.heap[D]? = some (.deferred (some []))) ∧ ds = Ds.map markD) ∧ a = { tmps := #[u0, u1, u2, u3, .bool false, u5, .pointer (some ⟨bn, 0, none⟩), u7, u8, u9, u10, u11, u12, u13, u14, u15, u16, u17, u18, u19, u20, u21, u22, u23, u24, u25, u26, u27, u28, u29, u30, u31, u32, u33, u34, u35, u36, u37, u38, u39, u40, u41, u42, u43, u44, u45, u46, u47, u48, u49, u50, u51, u52, u53, u54, u55, u56, u57, u58, u59, u60, u61, u62, u63, u64, u65, u66, u67, u68, u69, u70, u71, u72, u73, u74, u75, u76, u77], defers := ds }) (fun a _ => 16 - (intOf (a.tmps.getD 8 undef)).toNat) ?_ ?_
    · refine ⟨0, [], [], ?_⟩
      (repeat apply Exists.intro)
      exact ⟨⟨Nat.zero_le _, rfl, Touch.refl _ _, List.nodup_nil, fun D hD => absurd hD List.not_mem_nil, rfl⟩, rfl⟩
    · rintro a wr ⟨j, Ds, ds, u0, u1, u2, u3, u5, u7, _, u9, u10, u11, u12, u13, u14, u15, u16, u17, u18, u19, u20, u21, u22, u23, u24, u25, u26, u27, u28, u29, u30, u31, u32, u33, u34, u35, u36, u37, u38, u39, u40, u41, u42, u43, u44, u45, u46, u47, u48, u49, u50, u51, u52, u53, u54, u55, u56, u57, u58, u59, u60, u61, u62, u63, u64, u65, u66, u67, u68, u69, u70, u71, u72, u73, u74, u75, u76, u77, ⟨hj, rfl, hf, hnd, hds, hdd⟩, rfl⟩
      have HFR := Lib.hid hf; have HND := Lib.hid hnd; have HDS := Lib.hid hds; have HDD := Lib.hid hdd
      clear hf hnd hds hdd
      by_cases hlt : j < 16
      · have KD := Lib.hid (digits_any j (by omega) wr)
        have hdl := dec_len (n := j) (by omega)
        have KPT := Lib.hid (fun W => point_any ([115, 104, 97, 114, 100, 47] ++ Lib.decDigits j) (by simp; omega) W)
        go_wp2_with fail
        refine KD.out.mono ?_
        rintro e w4 ⟨rfl, hf4⟩
        have HF4 := Lib.hid (HFR.out.trans hf4 fun _ _ => id)
        have HFR4 := Lib.hid hf4
        clear hf4 KD
        go_wp2_with fail
        rw [shard_bytes]
        refine (KPT.out _).mono ?_
        rintro e w5 ⟨⟨x, y, rfl, hx, hy⟩, hw5⟩
        rw [hw5]
        clear hw5 w5 KPT
        have HX := Lib.hid hx; have HY := Lib.hid hy
        clear hx hy
        obtain ⟨W2, hW2⟩ : ∃ W2, W2 = (w4.alloc (.cells #[.complex .f64 0 0] 27)).setCell ⟨w4.heap.size, 0, none⟩ (.complex .f64 x y) := ⟨_, rfl⟩
        have HF2 := Lib.hid (show Fresh w4 W2 by rw [hW2]; exact ((Touch.refl _ w4).alloc _).setCell (p := ⟨w4.heap.size, 0, none⟩) (.inl (Nat.le_refl _)) _)
        have HB2 := Lib.hid (show Blk W2 w4.heap.size 27 #[.complex .f64 x y] by rw [hW2]; simpa using (Blk.new w4 27 #[.complex .f64 0 0]).set_ 0 (.complex .f64 x y))
        have kst : (store ⟨w4.heap.size, 0, none⟩ (.complex .f64 x y)).run Tryd.prog (w4.alloc (.cells #[.complex .f64 0 0] 27)) = .ok () W2 := by
          have h1 := (Blk.new w4 27 #[.complex .f64 0 0]).cell 0
          have h2 := (Blk.new w4 27 #[.complex .f64 0 0]).frozen 0
          simp only [List.getElem?_toArray, List.getElem?_cons_zero] at h1
          rw [run_store _ _ _ _ _ rfl, h1, h2, hW2]
          rfl
        have hs2 : W2.heap.size = w4.heap.size + 1 := by rw [hW2]; simp
        have HS2 := Lib.hid hs2
        clear hW2 hs2
        obtain ⟨q, hq⟩ : ∃ q, q = W2.heap.size := ⟨_, rfl⟩
        obtain ⟨w8, hw8⟩ : ∃ w8, w8 = ((W2.alloc (.cells #[.int .i64 0] 3)).alloc (.cells #[.int .i64 (-1)] 3)).alloc (.cells #[.bool false] 4) := ⟨_, rfl⟩
        have HW8 := Lib.hid hw8
        have HF8 := Lib.hid (show Fresh W2 w8 by rw [hw8]; exact (((Touch.refl _ W2).alloc _).alloc _).alloc _)
        have HZ := InZ.point ([115, 104, 97, 114, 100, 47] ++ Lib.decDigits j)
        obtain ⟨z, hz⟩ : ∃ z, z = shardP (Lib.decDigits j) := ⟨_, rfl⟩
        have HZE := Lib.hid hz
        have HNV := Lib.hid (show NV wr.heap.size wr w8 w4.heap.size q x y (wantH z []).1 (firstH []) (wantH z []).2 from ⟨HB2.out.touch HF8.out id,
          by rw [hq, hw8]; exact ((Blk.new W2 3 #[.int .i64 0]).alloc _).alloc _, by rw [hq, hw8]; have := (Blk.new (W2.alloc (.cells #[.int .i64 0] 3)) 3 #[.int .i64 (-1)]).alloc (.cells #[.bool false] 4); rwa [World.size_alloc] at this,
          by rw [hq, hw8]; have := Blk.new ((W2.alloc (.cells #[.int .i64 0] 3)).alloc (.cells #[.int .i64 (-1)] 3)) 4 #[.bool false]; rwa [World.size_alloc, World.size_alloc] at this,
          Fresh.bel ((HFR4.out.trans HF2.out fun _ _ => id).trans HF8.out fun _ _ => id), by have := HS2.out; omega, HFR4.out.size⟩)
        have hHZ : InZ z := by rw [hz]; exact HZ
        have HZ2 := Lib.hid hHZ
        rw [show pointZ ([115, 104, 97, 114, 100, 47] ++ Lib.decDigits j) = z from hz.symm] at HX HY
        have HQ := Lib.hid hq
        clear hw8 hz HZ hHZ hq
        go_wp2_with fail
        rw [← HW8.out]
        refine (allR_any bn w8).mono ?_
        rintro e w9 ⟨rfl, hw9⟩
        have HF9 := Lib.hid (show Fresh w8 w9 by rw [hw9]; exact (Touch.refl _ _).alloc _)
        have HA := Lib.hid (show Blk w9 w8.heap.size 39 #[.pointer (some ⟨bn, 0, none⟩)] by rw [hw9]; exact Blk.new _ _ _)
        have HNV9 := Lib.hid (HNV.out.fresh HF9.out)
        have HR9 := Lib.hid (HR.out.fresh ((((HFR.out.trans HFR4.out fun _ _ => id).trans HF2.out fun _ _ => id).trans HF8.out fun _ _ => id).trans HF9.out fun _ _ => id))
        have HS9 := Lib.hid (show wr.heap.size ≤ w9.heap.size from Nat.le_trans HFR4.out.size (Nat.le_trans HF2.out.size (Nat.le_trans HF8.out.size HF9.out.size)))
        rw [← HQ.out]
        clear hw9 HNV
        go_wp2_with fail
        refine wpIn_wide (n := 3).1 ?_
        refine range_flat (F := Fence.wide) (n := 3) rfl (by decide) (gf := 43) (lb := #[.pointer (some ⟨w8.heap.size, 0, none⟩)]) rfl trivial (enters_of Tryd.func43 (by kernel_rfl) rfl)
          (ring_told 2 w8.heap.size bn hv sv _ sps (SQ q) w9 (by decide) HA.out HR9.out HLS.out
            (fun k hk => by have h1 := HNV9.out.found.lt; rcases hk with rfl | rfl | rfl <;> omega)
            (fun k hk hs => by have h1 := HR.out.lt k hk; have h2 := HFR.out.size; have h3 := HNV9.out.lt; have h4 := HNV9.out.le; rcases hs with rfl | rfl | rfl <;> omega))
          (fun _ _ _ _ _ _ h _ _ => h) (fun _ _ _ _ h _ => h) (fun x => [(13, .complex .f64 x.x x.y), (14, .int .i64 x.h)])
          (fun h => NKp.fresh h) (fun h1 h2 => h1.trans_ h2) (fun V l o o' _ hl hc _ => NKp.put V l o o' hl hc) (fun _ => rfl)
          (fun pre V => NV wr.heap.size wr V w4.heap.size q x y (wantH z pre).1 (firstH pre) (wantH z pre).2) (NV.own (Nat.le_refl _) HS9.out) HNV9.out ?assign ?body ?done
        case assign =>
          intro l x V K hK
          have HK := Lib.hid hK
          clear hK
          simp only [spEnc, List.zip_toArray, List.size_toArray, List.zip_cons_cons, List.zip_nil_left]
          gi_wp2
          exact HK.out _ (by simp [flatA, spEnc])
        case body =>
          rintro l pre s a1 V rfl hnv ⟨htk, hxk⟩ hlt2
          have hp0 : ∀ t ∈ pre, 0 ≤ t.h := fun t ht => by rw [htk] at ht; exact HPOS.out t (List.mem_of_mem_take ht)
          have e1 := firstH_snoc pre s hp0
          have e2 := wantH_snoc z pre s
          have KB := Lib.hid (fun W => show CallsIn (Fence.wide.inRound l) 0 Tryd.prog 16 #[.complex .f64 s.x s.y, .complex .f64 x y] W _ from (callsIn_wide (n := 0)).2 (before_any s.hx s.hy HX.out HY.out s.hz HZ2.out W))
          obtain ⟨bf, hbf⟩ : ∃ bf, bf = befZ s.z z := ⟨_, rfl⟩
          rw [← hbf] at KB e2
          obtain ⟨wb, hwb⟩ : ∃ wb, wb = wantH z pre := ⟨_, rfl⟩
          rw [← hwb] at hnv e2
          obtain ⟨wv, bv⟩ := wb
          dsimp only at hnv e2
          obtain ⟨fv, hfv⟩ : ∃ fv, fv = firstH pre := ⟨_, rfl⟩
          rw [← hfv] at hnv e1
          have c0 := hnv.box.cell 0
          have c1 := hnv.want.cell 0
          have c2 := hnv.first.cell 0
          have c3 := hnv.found.cell 0
          have f1 := hnv.want.frozen 0
          have f2 := hnv.first.frozen 0
          have f3 := hnv.found.frozen 0
          simp only [List.getElem?_toArray, List.getElem?_cons_zero] at c0 c1 c2 c3
          have n0 : w4.heap.size ≠ q + 1 := by have := hnv.lt; omega
          have HN := Lib.hid hnv; have HE1 := Lib.hid e1; have HE2 := Lib.hid e2
          clear hnv htk hxk hlt2 hp0 e1 e2 hwb hfv hbf
          simp only [flatA, spEnc, List.zip_toArray, List.size_toArray, List.zip_cons_cons, List.zip_nil_left]
          by_cases hf : fv < 0
          · cases bv
            · gi_wp2
              first | refine ⟨trivial, (KB.out _).mono ?_⟩ | refine (KB.out _).mono ?_ | refine ⟨by decide, (KB.out _).mono ?_⟩
              rintro e Vb ⟨rfl, hVb⟩
              rw [hVb]
              clear hVb Vb KB
              cases bf
              · gi_wp2
                have hS := (((QS.refl q V).set (q + 1) (.inr (.inl rfl)) (.int .i64 s.h)).set q (.inl rfl) (.int .i64 s.h)).set (q + 1 + 1) (.inr (.inr rfl)) (.bool true)
                exact ⟨hS.1, hS.2, by show NV _ _ _ _ _ _ _ (wantH z (pre ++ [s])).1 (firstH (pre ++ [s])) (wantH z (pre ++ [s])).2; rw [HE1.out, HE2.out, if_pos hf]; exact ((HN.out.toFirst s.h).toWant s.h).toFound true⟩
              · gi_wp2
                have hS := ((QS.refl q V).set (q + 1) (.inr (.inl rfl)) (.int .i64 s.h))
                exact ⟨hS.1, hS.2, by show NV _ _ _ _ _ _ _ (wantH z (pre ++ [s])).1 (firstH (pre ++ [s])) (wantH z (pre ++ [s])).2; rw [HE1.out, HE2.out, if_pos hf]; exact HN.out.toFirst s.h⟩
            · gi_wp2
              refine ⟨trivial, ?_⟩
              gi_wp2
              have hS := ((QS.refl q V).set (q + 1) (.inr (.inl rfl)) (.int .i64 s.h))
              exact ⟨hS.1, hS.2, by show NV _ _ _ _ _ _ _ (wantH z (pre ++ [s])).1 (firstH (pre ++ [s])) (wantH z (pre ++ [s])).2; rw [HE1.out, HE2.out, if_pos hf]; exact HN.out.toFirst s.h⟩
          · cases bv
            · gi_wp2
              first | refine ⟨trivial, (KB.out _).mono ?_⟩ | refine (KB.out _).mono ?_ | refine ⟨by decide, (KB.out _).mono ?_⟩
              rintro e Vb ⟨rfl, hVb⟩
              rw [hVb]
              clear hVb Vb KB
              cases bf
              · gi_wp2
                have hS := (((QS.refl q V)).set q (.inl rfl) (.int .i64 s.h)).set (q + 1 + 1) (.inr (.inr rfl)) (.bool true)
                exact ⟨hS.1, hS.2, by show NV _ _ _ _ _ _ _ (wantH z (pre ++ [s])).1 (firstH (pre ++ [s])) (wantH z (pre ++ [s])).2; rw [HE1.out, HE2.out, if_neg (Int.not_lt.2 hf)]; exact ((HN.out).toWant s.h).toFound true⟩
              · gi_wp2
                have hS := ((QS.refl q V))
                exact ⟨hS.1, hS.2, by show NV _ _ _ _ _ _ _ (wantH z (pre ++ [s])).1 (firstH (pre ++ [s])) (wantH z (pre ++ [s])).2; rw [HE1.out, HE2.out, if_neg (Int.not_lt.2 hf)]; exact HN.out⟩
            · gi_wp2
              refine ⟨trivial, ?_⟩
              gi_wp2
              have hS := ((QS.refl q V))
              exact ⟨hS.1, hS.2, by show NV _ _ _ _ _ _ _ (wantH z (pre ++ [s])).1 (firstH (pre ++ [s])) (wantH z (pre ++ [s])).2; rw [HE1.out, HE2.out, if_neg (Int.not_lt.2 hf)]; exact HN.out⟩
        case done =>
          rintro D ys V hD hys hnv hKD
          rw [hys] at hnv
          clear hys
          have hne : sps ≠ [] := fun e => spots_ne HP.out (by intro e; rw [e] at h2; exact h2 rfl) (by omega) (by rw [e]; rfl)
          obtain ⟨t, hs, hval⟩ := wantH_next sps z hne
          obtain ⟨wb, hwb⟩ : ∃ wb, wb = wantH z sps := ⟨_, rfl⟩
          rw [← hwb] at hnv hval
          obtain ⟨wv, bv⟩ := wb
          dsimp only at hnv hval
          obtain ⟨fv, hfv⟩ : ∃ fv, fv = firstH sps := ⟨_, rfl⟩
          rw [← hfv] at hnv hval
          have c1 := hnv.want.cell 0
          have c2 := hnv.first.cell 0
          have c3 := hnv.found.cell 0
          have f1 := hnv.want.frozen 0
          simp only [List.getElem?_toArray, List.getElem?_cons_zero] at c1 c2 c3
          have HNV2 := Lib.hid hnv
          have HDL := Lib.hid hD
          clear hnv hwb hfv hne
          cases bv
          · have hval2 : t.2 = fv := hval
            obtain ⟨V2, hV2⟩ : ∃ V2, V2 = V.setCell ⟨q, 0, none⟩ (.int .i64 fv) := ⟨_, rfl⟩
            have HN2 := Lib.hid (HNV2.out.toWant fv)
            have hk2 := (KeepsOthers.setCell V ⟨q, 0, none⟩ (.int .i64 fv)).same D _ hKD rfl
            rw [← hV2] at HN2 hk2
            have HV2 := Lib.hid hV2
            have HK2 := Lib.hid hk2
            have HF2 := Lib.hid (show Fresh wr V2 from Below.fresh HN2.out.bel)
            have KA := Lib.hid (host_any bn hv sv _ sps (j : Int) (Lib.decDigits j) (by omega) V2 (HR.out.fresh (HFR.out.trans HF2.out fun _ _ => id)) HLS.out ((itoa_small j (by omega) V2).mono fun _ _ ⟨he, hw⟩ => ⟨he, by rw [hw]; exact Touch.refl _ _⟩))
            rw [hostOf_some (by rw [← HZE.out]; exact hs), hval2] at KA
            clear hk2 hKD hs hval hval2 hD hV2
            go_wp2_with fail
            rw [← HV2.out]
            refine KA.out.mono ?_
            rintro e V3 ⟨rfl, hf3⟩
            have c9 := (HN2.out.fresh hf3).want.cell 0
            simp only [List.getElem?_toArray, List.getElem?_cons_zero] at c9
            have HF3 := Lib.hid (HF2.out.trans hf3 fun _ _ => id)
            have HK3 := Lib.hid (hf3.heap HK2.out id)
            clear hf3 KA
            go_wp2_with fail
            refine ⟨⟨j + 1, D :: Ds, markD D :: ds, ?_⟩, ?measure⟩
            (repeat apply Exists.intro)
            refine ⟨⟨by omega, ?sl, HFR.out.trans HF3.out fun _ _ => id, List.nodup_cons.2 ⟨fun hm => ?_, HND.out⟩, fun D' hD' => ?_, by rw [HDD.out]; rfl⟩, rfl⟩
            case sl => go_num
            case measure => simp [intOf] <;> omega
            · have h1 := (Array.getElem?_eq_some_iff.1 (HDS.out D hm).2).1
              have h2 := HS9.out
              have h3 := HDL.out
              omega
            · rcases List.mem_cons.1 hD' with rfl | hm
              · exact ⟨Nat.le_trans HFR.out.size (Nat.le_trans HS9.out HDL.out), HK3.out⟩
              · exact ⟨(HDS.out D' hm).1, HF3.out.heap (HDS.out D' hm).2 id⟩
          · have hval2 : t.2 = wv := hval
            have HV2 := Lib.hid (rfl : V = V)
            have HN2 := HNV2
            have hk2 := hKD
            obtain ⟨V2, hV2⟩ : ∃ V2, V2 = V := ⟨_, rfl⟩
            rw [← hV2] at HN2 hk2
            have HK2 := Lib.hid hk2
            have HF2 := Lib.hid (show Fresh wr V2 from Below.fresh HN2.out.bel)
            have KA := Lib.hid (host_any bn hv sv _ sps (j : Int) (Lib.decDigits j) (by omega) V2 (HR.out.fresh (HFR.out.trans HF2.out fun _ _ => id)) HLS.out ((itoa_small j (by omega) V2).mono fun _ _ ⟨he, hw⟩ => ⟨he, by rw [hw]; exact Touch.refl _ _⟩))
            rw [hostOf_some (by rw [← HZE.out]; exact hs), hval2] at KA
            clear hk2 hKD hs hval hval2 hD
            subst hV2
            go_wp2_with fail
            refine KA.out.mono ?_
            rintro e V3 ⟨rfl, hf3⟩
            have c9 := (HN2.out.fresh hf3).want.cell 0
            simp only [List.getElem?_toArray, List.getElem?_cons_zero] at c9
            have HF3 := Lib.hid (HF2.out.trans hf3 fun _ _ => id)
            have HK3 := Lib.hid (hf3.heap HK2.out id)
            clear hf3 KA
            go_wp2_with fail
            refine ⟨⟨j + 1, D :: Ds, markD D :: ds, ?_⟩, ?measure⟩
            (repeat apply Exists.intro)
            refine ⟨⟨by omega, ?sl, HFR.out.trans HF3.out fun _ _ => id, List.nodup_cons.2 ⟨fun hm => ?_, HND.out⟩, fun D' hD' => ?_, by rw [HDD.out]; rfl⟩, rfl⟩
            case sl => go_num
            case measure => simp [intOf] <;> omega
            · have h1 := (Array.getElem?_eq_some_iff.1 (HDS.out D hm).2).1
              have h2 := HS9.out
              have h3 := HDL.out
              omega
            · rcases List.mem_cons.1 hD' with rfl | hm
              · exact ⟨Nat.le_trans HFR.out.size (Nat.le_trans HS9.out HDL.out), HK3.out⟩
              · exact ⟨(HDS.out D' hm).1, HF3.out.heap (HDS.out D' hm).2 id⟩
      · obtain rfl : j = 16 := by omega
        go_wp2_with fail
        refine (KW.out _).mono ?_
        rintro e w5 ⟨rfl, hf5⟩
        have HF5 := Lib.hid hf5
        clear hf5 KW
        go_wp2_with fail
        rw [HDD.out]
        refine leaves_marks (w := w) (fun V hb => ⟨.bool true, by simp [results, Tryd.results8, go_sem], rfl, Below.fresh hb⟩) Ds _ HND.out (fun D hD => ?_) (Fresh.bel ((HF3.out.trans HFR.out fun _ _ => id).trans HF5.out fun _ _ => id))
        have h1 := HDS.out D hD
        exact ⟨Nat.le_trans HF3.out.size h1.1, HF5.out.heap h1.2 id⟩
end Go.Proofs.YtnbpmlbhigchnaaDoor
