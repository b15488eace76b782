/- The reference's Host and Shards. Conditions stand with each. -/
import Derived.Test.YtnbpmlbhigchnaaGreatDoorZNew
namespace Go.Proofs.YtnbpmlbhigchnaaGreatDoor
open Go.RowKit Ieee Go.Sort

theorem itoa_nat (j : Nat) : Lib.itoa (j : Int) = Lib.decDigits j := by unfold Lib.itoa; rw [if_neg (by omega)]; rfl
theorem dec_pow : ∀ (k n : Nat), n < 10 ^ (k + 1) → (Lib.decDigits n).length ≤ k + 1
  | 0, n, h => by rw [Lib.decDigits_one (by simpa using h)]; simp
  | k + 1, n, h => by
    by_cases h1 : n < 10
    · rw [Lib.decDigits_one h1]; simp
    · rw [dec_more h1, List.length_append, List.length_singleton]
      have := dec_pow k (n / 10) (by rw [Nat.pow_succ] at h; omega)
      omega
theorem itoa_len (n : Int) (h1 : -9223372036854775808 ≤ n) (h2 : n ≤ 9223372036854775807) : (Lib.itoa n).length ≤ 100 := by
  have hd : ∀ m : Nat, m ≤ 9223372036854775808 → (Lib.decDigits m).length ≤ 20 := fun m hm => dec_pow 19 m (by omega)
  unfold Lib.itoa
  split
  · rw [List.length_cons]
    have := hd n.natAbs (by omega)
    omega
  · have := hd n.toNat (by omega)
    omega
theorem find_at {α : Type} (p : α → Bool) : ∀ (l : List α) (j : Nat) (s : α), l[j]? = some s → (∀ t ∈ l.take j, p t = false) → p s = true → l.find? p = some s
  | [], _, _, h, _, _ => by cases h
  | a :: l, 0, s, h, _, hp => by
    simp only [List.getElem?_cons_zero, Option.some.injEq] at h
    rw [h, List.find?_cons, hp]
  | a :: l, j + 1, s, h, hn, hp => by
    rw [List.find?_cons, hn a (by simp)]
    exact find_at p l j s (by simpa using h) (fun t ht => hn t (by simp [ht])) hp

set_option maxRecDepth 20000 in
set_option maxHeartbeats 4000000 in
theorem refhost_any (bn : Nat) (lv hv : Value) (hs : List Int) (ks : List Key) (sh : Int) (h1 : -9223372036854775808 ≤ sh) (h2 : sh ≤ 9223372036854775807) (w : World) (hQ : QG w bn lv hv ks hs) (hl : ks.length ≤ 1000000) :
    Calls Tryz.prog 11 #[.pointer (some ⟨bn, 0, none⟩), .int .i64 sh] w fun e w' => e = .returned (hostOf ks (Lib.itoa sh)) ∧ Fresh w w' := by
  have c0 : w.cell? ⟨bn, 0, none⟩ = some lv := hQ.blk.cell 0
  obtain ⟨A, c, rfl, hc1, hc2, hA⟩ := hQ.lrow.form
  unfold maxLen at hc2
  by_cases hne : ks = []
  · subst hne
    clear hQ hA
    go_enter Tryz.func11, Tryz.ntmps11
    go_wp2_with fail
    all_goals (go_ret2; exact ⟨rfl, Touch.refl _ _⟩)
  · have hpos : 0 < ks.length := List.length_pos_iff.2 hne
    obtain ⟨g, rfl⟩ : ∃ g, A = some ⟨g, 0, none⟩ := by
      rcases hA with ⟨_, h0, _⟩ | hg
      · omega
      · exact hg
    have hn0 : ¬ ks.length = 0 := by omega
    have h0 : ((ks.length : Int) == 0) = false := by simp; exact hne
    have HQ := Lib.hid hQ
    have hil := itoa_len sh h1 h2
    have KS := Lib.hid (signed_any sh h1 h2 w)
    obtain ⟨bs, hbs⟩ : ∃ bs, bs = Lib.itoa sh := ⟨_, rfl⟩
    have HIB := Lib.hid hbs
    rw [← hbs] at KS hil ⊢
    have hdl : bs.length ≤ 100 := hil
    have n1 : ¬ 9223372036854775807 < 6 + bs.length := by omega
    have KP := Lib.hid (fun W => refpoint_any ([115, 104, 97, 114, 100, 47] ++ bs) (by simp; omega) W)
    obtain ⟨z, hz⟩ : ∃ z, z = shardP bs := ⟨_, rfl⟩
    have hzz : pointZ ([115, 104, 97, 114, 100, 47] ++ bs) = z := hz.symm
    rw [hzz] at KP
    have HZ := Lib.hid hz
    have HNE := Lib.hid hne
    clear hQ hA hzz hz hbs hil hne
    go_enter Tryz.func11, Tryz.ntmps11
    go_wp2_with fail
    refine KS.out.mono ?_
    rintro e w1 ⟨rfl, hf1⟩
    have HF1 := Lib.hid hf1
    clear hf1 KS
    go_wp2_with fail
    rw [shard_bytes]
    refine (KP.out _).mono ?_
    rintro e w2 ⟨rfl, hf2⟩
    have HF2 := Lib.hid (HF1.out.trans hf2 fun _ _ => id)
    dsimp only [zV]
    clear hf2 KP
    obtain ⟨W3, hW3⟩ : ∃ W3, W3 = w2.alloc (.cells #[.int .i64 z.1, .int .i64 z.2] 47) := ⟨_, rfl⟩
    have HB := Lib.hid (show Blk W3 w2.heap.size 47 #[.int .i64 z.1, .int .i64 z.2] by rw [hW3]; exact Blk.new _ _ _)
    have HF3 := Lib.hid (show Fresh w W3 by rw [hW3]; exact HF2.out.alloc _)
    have HW3 := Lib.hid hW3
    clear hW3
    go_wp2_with fail
    rw [← HW3.out]
    go_loopw [7] (fun i wr => ∃ j : Nat, j ≤ ks.length ∧ i = .int .i64 j ∧ Fresh W3 wr ∧ ∀ t ∈ ks.take j, befZ t.1 z = true) (fun i _ => ks.length - (intOf i).toNat)
    case atStart => exact ⟨0, Nat.zero_le _, rfl, Touch.refl _ _, by simp⟩
    case round =>
      obtain ⟨j, hj, rfl, hf, hbe⟩ := hrel
      have HF := Lib.hid hf; have HBE := Lib.hid hbe
      have hq := HQ.out.fresh (HF3.out.trans hf fun _ _ => id)
      have hb := HB.out.touch hf id
      have b0 : ∀ n os, (Sort.grow (wr.drewN n) os).cell? ⟨w2.heap.size, 0, none⟩ = some (.int .i64 z.1) := cell_grown hb.lt (hb.cell 0)
      have b1 : ∀ n os, (Sort.grow (wr.drewN n) os).cell? ⟨w2.heap.size, 1, none⟩ = some (.int .i64 z.2) := cell_grown hb.lt (hb.cell 1)
      have r0 : ∀ n os, (Sort.grow (wr.drewN n) os).cell? ⟨bn, 0, none⟩ = some (.slice (some ⟨g, 0, none⟩) ks.length c) := cell_grown hq.blk.lt (hq.blk.cell 0)
      have r00 : wr.cell? ⟨bn, 0, none⟩ = some (.slice (some ⟨g, 0, none⟩) ks.length c) := hq.blk.cell 0
      have HQR := Lib.hid hq
      clear hf hbe hb hq
      by_cases hlt : j < ks.length
      · obtain ⟨s, hs⟩ : ∃ s, ks[j]? = some s := ⟨_, List.getElem?_eq_getElem hlt⟩
        have s0 : ∀ n os, (Sort.grow (wr.drewN n) os).cell? ⟨g, j * 3, none⟩ = some (.int .i64 s.1.1) := cell_grown (HQR.out.lrow.lt g rfl) (by
          rw [HQR.out.lrow.cell (j := j * 3) (by omega)]
          exact flat_at kV 3 kV_len ks j 0 s hs (by omega))
        have s1 : ∀ n os, (Sort.grow (wr.drewN n) os).cell? ⟨g, j * 3 + 1, none⟩ = some (.int .i64 s.1.2) := cell_grown (HQR.out.lrow.lt g rfl) (by
          rw [HQR.out.lrow.cell (j := j * 3 + 1) (by omega)]
          exact flat_at kV 3 kV_len ks j 1 s hs (by omega))
        have s2 : ∀ n os, (Sort.grow (wr.drewN n) os).cell? ⟨g, j * 3 + 2, none⟩ = some (.int .i64 s.2) := cell_grown (HQR.out.lrow.lt g rfl) (by
          rw [HQR.out.lrow.cell (j := j * 3 + 2) (by omega)]
          exact flat_at kV 3 kV_len ks j 2 s hs (by omega))
        have mixed : Tryz.prog.follows .mixedOrders = true := by kernel_rfl
        have KB := Lib.hid (fun W => refbefore_grown s.1 z W)
        have HTS := Lib.hid (show ks.take (j + 1) = ks.take j ++ [s] by rw [List.take_add_one, hs]; rfl)
        have HS := Lib.hid hs
        obtain ⟨bb, hbb⟩ : ∃ bb, bb = befZ s.1 z := ⟨_, rfl⟩
        rw [← hbb] at KB
        have HBB := Lib.hid hbb
        clear hs hbb
        cases bb with
        | true =>
          go_upto_region 7 with fail
          refine wp_region_quiet_grown (by kernel_rfl) (by kernel_rfl) ?_
          repeat (go_big_quiet_step (first | (go_at_call 33; exact Calls.grown_of (KB.out _))))
          refine wpQuiet_nil ?_
          intro _ hw'
          obtain ⟨⟨nq, osq⟩, hw''⟩ := hw'
          subst hw''
          have HG := Lib.hid (Fresh.grow_ wr nq osq)
          clear b0 b1 r0 r00 s0 s1 s2
          go_wp2_with fail
          go_roundw
          case rel =>
            refine ⟨j + 1, by omega, by go_num, HF.out.trans HG.out fun _ _ => id, fun t ht => ?_⟩
            rw [HTS.out] at ht
            rcases List.mem_append.1 ht with ht | ht
            · exact HBE.out t ht
            · rw [List.mem_singleton] at ht; rw [ht]; exact HBB.out.symm
          case measure => simp [intOf] <;> omega
        | false =>
          have HFI := Lib.hid (show nextK ks (shardP bs) = some s by
            unfold nextK
            rw [← HZ.out, find_at (fun t : Key => !befZ t.1 z) ks j s HS.out (fun t ht => by rw [HBE.out t ht]; rfl) (by rw [← HBB.out]; rfl)])
          go_upto_region 7 with fail
          refine wp_region_quiet_grown (by kernel_rfl) (by kernel_rfl) ?_
          repeat (go_big_quiet_step (first | (go_at_call 33; exact Calls.grown_of (KB.out _))))
          refine wpQuiet_nil ?_
          intro _ hw'
          obtain ⟨⟨nq, osq⟩, hw''⟩ := hw'
          subst hw''
          have HG := Lib.hid (Fresh.grow_ wr nq osq)
          go_wp2_with fail
          all_goals
            go_ret2
            rw [hostOf_some HFI.out]
            exact ⟨rfl, (HF3.out.trans HF.out fun _ _ => id).trans HG.out fun _ _ => id⟩
      · obtain rfl : j = ks.length := by omega
        obtain ⟨s, hs⟩ : ∃ s, ks[0]? = some s := ⟨_, List.getElem?_eq_getElem hpos⟩
        have s2 : wr.cell? ⟨g, 2, none⟩ = some (.int .i64 s.2) := by
          rw [HQR.out.lrow.cell (j := 2) (by omega)]
          have := flat_at kV 3 kV_len ks 0 2 s hs (by omega)
          rwa [Nat.zero_mul, Nat.zero_add] at this
        have HFI := Lib.hid (show nextK ks (shardP bs) = some s by
          unfold nextK
          rw [← HZ.out, List.find?_eq_none.2 (fun t ht => by
            have := HBE.out t (by rw [List.take_length]; exact ht)
            simp [this])]
          cases ks with
          | nil => cases hs
          | cons a l => exact hs)
        clear b0 b1 r0 hs
        go_wp2_with fail
        all_goals
          go_ret2
          rw [hostOf_some HFI.out]
          exact ⟨rfl, HF3.out.trans HF.out fun _ _ => id⟩

set_option maxRecDepth 20000 in
set_option maxHeartbeats 4000000 in
theorem refshards_any (bn : Nat) (lv hv : Value) (hs : List Int) (ks : List Key) (h : Int) (w : World) (hR : QG w bn lv hv ks hs) (hl : ks.length ≤ 1000000) :
    Calls Tryz.prog 13 #[.pointer (some ⟨bn, 0, none⟩), .int .i64 h, .int .i64 16] w fun e w' => Fresh w w' ∧ ∃ B c', e = .returned (.slice B (shardsOf ks h 16).length c') ∧
      Own w' 3 1 (.slice B (shardsOf ks h 16).length c') (shardsOf ks h 16).length (iV (shardsOf ks h 16)) ∧ ∀ k, (Value.slice B (shardsOf ks h 16).length c').ownBlock = some k → w.heap.size ≤ k := by
  have HR := Lib.hid hR
  have HL := Lib.hid hl
  clear hR hl
  go_enter Tryz.func13, Tryz.ntmps13
  go_wp2_with fail
  go_loopw [7, 8] (fun v i wr => ∃ (j : Nat) (r : List Int), j ≤ 16 ∧ i = .int .i64 j ∧ r = shardsOf ks h j ∧ Own wr 3 1 v r.length (iV r) ∧ (∀ k, v.ownBlock = some k → w.heap.size ≤ k) ∧ Fresh w wr) (fun _ i _ => 16 - (intOf i).toNat)
  case atStart => exact ⟨0, [], Nat.zero_le _, rfl, rfl, Own.nil_ _ _ _, fun k hk => by (cases hk), Touch.refl _ _⟩
  case round =>
    obtain ⟨j, r, hj, rfl, hr, hO, hN, hT⟩ := hrel
    have hrl : r.length ≤ 16 := by
      have := shardsOf_len ks h j
      rw [← hr] at this
      omega
    have HRR := Lib.hid hr; have HO := Lib.hid hO; have HN := Lib.hid hN; have HT := Lib.hid hT
    obtain ⟨RA, rc, rfl, hr1, hr2, _⟩ := hO.form
    unfold maxLen at hr2
    clear hr hO hN hT
    by_cases hlt : j < 16
    · have KA := Lib.hid (refhost_any bn lv hv hs ks (j : Int) (by omega) (by omega) wr (HR.out.fresh HT.out) HL.out)
      rw [show Lib.itoa (j : Int) = Lib.decDigits j from itoa_nat j] at KA
      rcases hostOf_owns ks h j with ⟨x, hx, hiff⟩ | ⟨hx, hno⟩
      · rw [hx] at KA
        have HS := Lib.hid (shardsOf_succ ks h j)
        by_cases hxh : x = h
        · have HE := Lib.hid (show shardsOf ks h (j + 1) = r ++ [(j : Int)] by rw [HS.out, if_pos (hiff.1 hxh), HRR.out])
          clear hx hiff HS
          go_wp2_with fail
          refine KA.out.mono ?_
          rintro e w5 ⟨rfl, hf5⟩
          have HF5 := Lib.hid (HT.out.trans hf5 fun _ _ => id)
          have HO5 := Lib.hid (HO.out.touch hf5 fun _ _ => id)
          subst hxh
          clear hf5 KA
          go_wp2_with (at_builtin; refine wpList_own_src _ rfl _ _ 22 22 rfl 3 (.int .i64 0) 1 8 Tryz.info3 Tryz.underlying22 rfl (.slice RA r.length rc) r.length (iV r) rfl (HO5.out.alloc _) (iV_one _) (.slice (some ⟨w5.heap.size, 0, none⟩) 1 1) 1 [.int .i64 j] rfl (by exact int_new w5 j) (by unfold maxLen; omega) (by omega) ?_; intro B1 c1 w3 o1 g1 b1; have HO3 := Lib.hid o1; have HB3 := Lib.hid b1; have HT3 := Lib.hid ((HF5.out.alloc _).grown g1 fun k hk => .inl (HN.out k hk)); clear o1 g1 b1)
          go_roundw
          case rel =>
            refine ⟨j + 1, r ++ [(j : Int)], by omega, by go_num, HE.out.symm, ?_, ?_, HT3.out⟩
            · rw [List.length_append, show iV (r ++ [(j : Int)]) = iV r ++ [.int .i64 j] by simp [iV]]
              exact HO3.out
            · intro k hk
              rcases HB3.out with h | h
              · exact HN.out k (h.symm.trans hk)
              · rw [hk, World.size_alloc] at h
                injection h with h
                have := HF5.out.size
                omega
          case measure => simp [intOf] <;> omega
        · have HE := Lib.hid (show shardsOf ks h (j + 1) = r by rw [HS.out, if_neg (fun e => hxh (hiff.2 e)), HRR.out])
          clear hx hiff HS
          go_wp2_with fail
          refine KA.out.mono ?_
          rintro e w5 ⟨rfl, hf5⟩
          have HF5 := Lib.hid (HT.out.trans hf5 fun _ _ => id)
          have HO5 := Lib.hid (HO.out.touch hf5 fun _ _ => id)
          clear hf5 KA
          go_wp2_with fail
          go_roundw
          case rel => exact ⟨j + 1, r, by omega, by go_num, HE.out.symm, HO5.out, HN.out, HF5.out⟩
          case measure => simp [intOf] <;> omega
      · rw [hx] at KA
        have HE := Lib.hid (show shardsOf ks h (j + 1) = r by rw [shardsOf_succ, hno, HRR.out]; rfl)
        clear hx hno
        go_wp2_with fail
        refine KA.out.mono ?_
        rintro e w5 ⟨rfl, hf5⟩
        have HF5 := Lib.hid (HT.out.trans hf5 fun _ _ => id)
        have HO5 := Lib.hid (HO.out.touch hf5 fun _ _ => id)
        clear hf5 KA
        go_wp2_with fail
        go_roundw
        case rel => exact ⟨j + 1, r, by omega, by go_num, HE.out.symm, HO5.out, HN.out, HF5.out⟩
        case measure => simp [intOf] <;> omega
    · obtain rfl : j = 16 := by omega
      have HE := HRR.out
      go_wp2_with fail
      go_ret
      exact ⟨HT.out, RA, rc, by rw [← HRR.out]; rfl, by rw [← HRR.out]; exact HO.out, by rw [← HRR.out]; exact HN.out⟩

end Go.Proofs.YtnbpmlbhigchnaaGreatDoor
