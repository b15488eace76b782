/- The law RingMoves, walked; what goes and comes with a host. Condition: numbers as an int holds them. -/
import Derived.Test.YtnbpmlbhigchnaaDoorHosts
namespace Go.Proofs.YtnbpmlbhigchnaaDoor
open Go.RowKit

theorem spots_filter (p : Int → Bool) (l : List Int) (n : Nat) : spotsOf (l.filter p) n = (spotsOf l n).filter fun s => p s.2 := by
  induction l with
  | nil => rfl
  | cons a l ih =>
    have e : spotsOf (a :: l) n = (List.range n).map (spotK a) ++ spotsOf l n := rfl
    rw [e, List.filter_append, ← ih, List.filter_cons]
    cases h : p a with
    | true =>
      have : ((List.range n).map (spotK a)).filter (fun s => p s.2) = (List.range n).map (spotK a) := by
        rw [List.filter_eq_self]
        intro s hs
        obtain ⟨k, _, rfl⟩ := List.mem_map.1 hs
        exact h
      rw [this, if_pos rfl]
      rfl
    | false =>
      have : ((List.range n).map (spotK a)).filter (fun s => p s.2) = [] := by
        rw [List.filter_eq_nil_iff]
        intro s hs
        obtain ⟨k, _, rfl⟩ := List.mem_map.1 hs
        rw [show (spotK a k).2 = a from rfl, h]
        simp
      rw [this]
      rfl
theorem keys_filter {K L : List Key} {l : List Int} {n : Nat} (p : Int → Bool) (hk : SortK K) (hl : SortK L) (pk : K.Perm (spotsOf l n)) (pl : L.Perm (spotsOf (l.filter p) n)) : L = K.filter fun s => p s.2 := by
  refine SortK.uniq hl (hk.filter _) (pl.trans ?_)
  rw [spots_filter]
  exact (pk.filter _).symm
theorem spots_ne {l : List Int} {n : Nat} {K : List Key} (pk : K.Perm (spotsOf l n)) (hl : l ≠ []) (hn : 1 ≤ n) : K ≠ [] := by
  intro e
  rw [e] at pk
  have := pk.length_eq
  rw [spotsOf_len] at this
  have h1 : 0 < l.length := List.length_pos_iff.2 hl
  have := Nat.mul_pos h1 (show 0 < n by omega)
  simp only [List.length_nil] at *
  omega
/-- whose a shard is, without one host -/
theorem moves {K L : List Key} {l : List Int} {n : Nat} (gone : Int) (hk : SortK K) (hl : SortK L) (pk : K.Perm (spotsOf l n)) (pl : L.Perm (spotsOf (l.filter fun h => h != gone) n)) (hne : L ≠ []) (bs : List UInt8) :
    ∃ x y : Int, hostOf K bs = .tuple #[.int .i64 x, .bool true] ∧ hostOf L bs = .tuple #[.int .i64 y, .bool true] ∧ y ≠ gone ∧ (x ≠ gone → x = y) := by
  have e := keys_filter (fun h => h != gone) hk hl pk pl
  have hK : K ≠ [] := by intro h; rw [h] at e; exact hne (by rw [e]; rfl)
  obtain ⟨s, hs⟩ := nextK_some (shardP bs) hK
  obtain ⟨t, ht⟩ := nextK_some (shardP bs) hne
  refine ⟨s.2, t.2, hostOf_some hs, hostOf_some ht, ?_, fun hx => ?_⟩
  · have := nextK_mem ht
    rw [e] at this
    have := (List.mem_filter.1 this).2
    simpa using this
  · have := nextK_filter (p := fun s => s.2 != gone) hs (by simpa using hx)
    rw [← e, ht] at this
    injection this with this
    rw [this]
theorem okNew_mk {l : List Int} {p : Int} (h : l.Nodup ∧ l.all okHost = true) (h1 : 1 ≤ p) (h2 : p ≤ 64) : okNew l p = true := by
  simp only [okNew, Bool.and_eq_true, decide_eq_true_eq]
  exact ⟨⟨⟨h1, h2⟩, h.2⟩, h.1⟩
theorem RN.few {w0 w : World} {bn : Nat} {hv sv : Value} {hs l : List Int} {sps : List Sp} {n : Nat} (_ : RN w0 w bn hv sv hs sps) (hp : (sps.map Sp.key).Perm (spotsOf l n)) (hl : l.length ≤ 1000) (hn : n ≤ 64) : sps.length ≤ 1000000000 := by
  have := hp.length_eq
  rw [List.length_map, spotsOf_len] at this
  have := Nat.mul_le_mul hl hn
  omega
theorem Own.vs_ {w : World} {A : Option Addr} {n c : Nat} {l : List Int} (h : Own w 3 1 (.slice A n c) n (iV l)) : Vs w 1 A n c (iV l) := (Own.ints h).vs

set_option maxRecDepth 20000 in
set_option maxHeartbeats 8000000 in
theorem law_moves (A : Option Addr) (c : Nat) (l : List Int) (which points : Int) (w : World) (h : IsInts w A l.length c l) :
    Calls Tryd.prog 4 #[.slice A l.length c, .int .i64 which, .int .i64 points] w fun e w' => e = .returned (.bool true) ∧ Fresh w w' := by
  have KW := Lib.hid (fun W => wakes_any W)
  have KH := Lib.hid (hosts_any A c l w h)
  have hok := hostsZ_ok l
  have hlen := hostsZ_len l
  generalize hostsZ l = al at *
  have HOK := Lib.hid hok
  clear h hok
  go_enter Tryd.func4, Tryd.ntmps4
  go_wp2_with fail
  refine KH.out.mono ?_
  rintro e w1 ⟨hf1, B, c1, rfl, ho1, hn1⟩
  have HF1 := Lib.hid hf1; have HO1 := Lib.hid ho1
  obtain ⟨B', c', hB', hc1, hc2, hBA⟩ := ho1.form
  injection hB' with e1 _ e3
  subst e1 e3
  have HBA := Lib.hid hBA
  unfold maxLen at hc2
  clear hf1 ho1 hn1 KH hBA
  by_cases h2 : al.length < 2
  · go_wp2_with fail
    refine (KW.out _).mono ?_
    rintro e w3 ⟨rfl, hf3⟩
    have HF3 := Lib.hid (HF1.out.trans hf3 fun _ _ => id)
    clear hf3 KW
    go_wp2_with fail
    all_goals (go_ret; exact ⟨rfl, HF3.out⟩)
  have d2 : ¬ (al.length : Int) < 2 := by omega
  have hq1 := Int.emod_nonneg points (show (64 : Int) ≠ 0 by decide)
  have hq2 := Int.emod_lt_of_pos points (show (0 : Int) < 64 by decide)
  have KP := Lib.hid (within_any points 64 w1 (by decide) (by decide))
  generalize points % 64 = pp at *
  obtain ⟨pn, rfl⟩ := Int.eq_ofNat_of_zero_le hq1
  have hg1 := Int.emod_nonneg which (show (al.length : Int) ≠ 0 by omega)
  have hg2 := Int.emod_lt_of_pos which (show (0 : Int) < (al.length : Int) by omega)
  have KG := Lib.hid (within_any which al.length w1 (by omega) (by omega))
  generalize which % (al.length : Int) = gg at *
  obtain ⟨gi, rfl⟩ := Int.eq_ofNat_of_zero_le hg1
  have hgi : gi < al.length := by omega
  obtain ⟨gone, hgone⟩ : ∃ x, al[gi]? = some x := ⟨_, List.getElem?_eq_getElem hgi⟩
  obtain ⟨g, rfl⟩ : ∃ g, B = some ⟨g, 0, none⟩ := by
    rcases HBA.out with ⟨_, h0, _⟩ | hA
    · omega
    · exact hA
  have cg : w1.cell? ⟨g, gi, none⟩ = some (.int .i64 gone) := by
    rw [HO1.out.cell (j := gi) (by omega)]
    simp [iV, hgone]
  have HGONE := Lib.hid hgone
  have hwr : IntKind.i64.wrap (1 + (pn : Int)) = 1 + (pn : Int) := IntWalk.i64_in _ (by omega)
  clear hgone hq1 hg1
  go_wp2_with fail
  refine KP.out.mono ?_
  rintro e w2 ⟨hw2, rfl⟩
  rw [hw2]
  clear hw2 w2 KP
  go_wp2_with fail
  refine KG.out.mono ?_
  rintro e w2 ⟨hw2, rfl⟩
  rw [hw2]
  clear hw2 w2 KG
  go_wp2_with fail
  go_loopw [10, 11] (fun v i wr => ∃ (j : Nat) (r : List Int), j ≤ al.length ∧ i = .int .i64 j ∧ r = (al.take j).filter (fun h => h != gone) ∧ Own wr 3 1 v r.length (iV r) ∧ (∀ k, v.ownBlock = some k → w1.heap.size ≤ k) ∧ Fresh w1 wr) (fun _ i _ => al.length - (intOf i).toNat)
  case atStart => exact ⟨0, [], Nat.zero_le _, rfl, rfl, Own.nil_ _ _ _, fun k hk => by (cases hk), Touch.refl _ _⟩
  case round =>
    clear cg
    obtain ⟨j, r, hj, rfl, hr, hO, hN, hT⟩ := hrel
    have HR := Lib.hid hr; have HO := Lib.hid hO; have HN := Lib.hid hN; have HT := Lib.hid hT
    have hrl : r.length ≤ 12 := by
      have := List.length_filter_le (fun h => h != gone) (al.take j)
      rw [← hr, List.length_take] at this
      omega
    obtain ⟨RA, rc, rfl, hr1, hr2, _⟩ := hO.form
    unfold maxLen at hr2
    clear hr hO hN hT
    by_cases hlt : j < al.length
    · obtain ⟨x, hx⟩ : ∃ x, al[j]? = some x := ⟨_, List.getElem?_eq_getElem hlt⟩
      have cx : wr.cell? ⟨g, j, none⟩ = some (.int .i64 x) := by
        refine HT.out.cell ?_ id
        rw [HO1.out.cell (j := j) (by omega)]
        simp [iV, hx]
      have HTK := Lib.hid (take_snoc hx)
      have cx' : ∀ o, (wr.alloc o).cell? ⟨g, j, none⟩ = some (.int .i64 x) := fun o => ((Touch.refl (fun _ => False) wr).alloc o).cell cx id
      clear hx
      by_cases hxg : x = gone
      · have HE := Lib.hid (show (al.take (j + 1)).filter (fun h => h != gone) = r by rw [HTK.out, List.filter_append, ← HR.out]; simp [hxg])
        subst hxg
        go_wp2_with fail
        go_roundw
        case rel => exact ⟨j + 1, r, by omega, by go_num, HE.out.symm, HO.out, HN.out, HT.out⟩
        case measure => simp [intOf] <;> omega
      · have HE := Lib.hid (show (al.take (j + 1)).filter (fun h => h != gone) = r ++ [x] by rw [HTK.out, List.filter_append, ← HR.out]; simp [hxg])
        go_wp2_with (at_builtin; refine wpList_own_src _ rfl _ _ 36 36 rfl 3 (.int .i64 0) 1 8 Tryd.info3 Tryd.underlying36 rfl (.slice RA r.length rc) r.length (iV r) rfl (HO.out.alloc _) (iV_one _) (.slice (some ⟨wr.heap.size, 0, none⟩) 1 1) 1 [.int .i64 x] rfl (by exact int_new wr x) (by unfold maxLen; omega) (by omega) ?_; intro B1 c1 w3 o1 g1 b1; have HO3 := Lib.hid o1; have HB3 := Lib.hid b1; have HT3 := Lib.hid ((HT.out.alloc _).grown g1 fun k hk => .inl (HN.out k hk)); clear o1 g1 b1)
        go_roundw
        case rel =>
          refine ⟨j + 1, r ++ [x], by omega, by go_num, HE.out.symm, ?_, ?_, HT3.out⟩
          · rw [List.length_append, show iV (r ++ [x]) = iV r ++ [.int .i64 x] by simp [iV]]
            exact HO3.out
          · intro k hk
            rcases HB3.out with h | h
            · exact HN.out k (h.symm.trans hk)
            · rw [hk, World.size_alloc] at h
              injection h with h
              have := HT.out.size
              omega
        case measure => simp [intOf] <;> omega
    · obtain rfl : j = al.length := by omega
      rw [List.take_length] at HR
      have hrne : r ≠ [] := by
        intro e
        have hr := HR.out
        rw [e] at hr
        have hall := List.filter_eq_nil_iff.1 hr.symm
        have hnd := HOK.out.1
        obtain ⟨a, b, t, rfl⟩ : ∃ a b t, al = a :: b :: t := by
          match al, h2 with
          | a :: b :: t, _ => exact ⟨a, b, t, rfl⟩
          | [], h2 => exact absurd (by simp) h2
          | [a], h2 => exact absurd (by simp) h2
        have ha := hall a (by simp)
        have hb := hall b (by simp)
        simp only [bne_iff_ne, ne_eq, Decidable.not_not] at ha hb
        rw [ha, hb] at hnd
        simp at hnd
      have hrok : r.Nodup ∧ r.all okHost = true := by
        rw [HR.out]
        refine ⟨HOK.out.1.filter _, ?_⟩
        rw [List.all_eq_true]
        intro x hx
        exact List.all_eq_true.1 HOK.out.2 x (List.mem_filter.1 hx).1
      have KNA := Lib.hid (new_any (some ⟨g, 0, none⟩) c1 al (1 + (pn : Int)) wr ((HO1.out.touch HT.out fun _ _ => id).vs_) (by omega))
      have HRNE := Lib.hid hrne; have HROK := Lib.hid hrok
      clear hrne hrok
      go_wp2_with fail
      refine KNA.out.mono ?_
      intro e w3 hend
      obtain ⟨bA, hvA, svA, spA, rfl, hRA, hsA, hpA⟩ := hend.1 (okNew_mk HOK.out (by omega) (by omega))
      have hsz3 := hRA.fresh
      have KNB := Lib.hid (new_any RA rc r (1 + (pn : Int)) w3 ((HO.out.touch hsz3 fun _ _ => id).vs_) (by omega))
      have HRA := Lib.hid hRA; have HSA := Lib.hid hsA; have HPA := Lib.hid hpA
      clear hend hRA hsA hpA hsz3 KNA
      go_wp2_with fail
      refine KNB.out.mono ?_
      intro e w4 hend
      obtain ⟨bB, hvB, svB, spB, rfl, hRB, hsB, hpB⟩ := hend.1 (okNew_mk HROK.out (by omega) (by omega))
      have HRB := Lib.hid hRB; have HSB := Lib.hid hsB; have HPB := Lib.hid hpB
      have HRA4 := Lib.hid (HRA.out.rg.fresh hRB.fresh)
      have HF4 := Lib.hid (((HF1.out.trans HT.out fun _ _ => id).trans HRA.out.fresh fun _ _ => id).trans hRB.fresh fun _ _ => id)
      have HLA := Lib.hid (HRA.out.few HPA.out (by omega) (by omega))
      have HLB := Lib.hid (HRB.out.few HPB.out (by omega) (by omega))
      have htn : (1 + (pn : Int)).toNat = pn + 1 := by omega
      rw [htn] at HPA HPB
      rw [HR.out] at HPB
      have HNE := Lib.hid (spots_ne HPB.out (by rw [← HR.out]; exact HRNE.out) (by omega))
      have HMV := Lib.hid (fun bs => moves gone HSA.out HSB.out HPA.out HPB.out HNE.out bs)
      clear hend hRB hsB hpB KNB htn
      go_wp2_with fail
      go_loopw [16] (fun i wr => ∃ s : Nat, s ≤ 16 ∧ i = .int .i64 s ∧ Fresh w4 wr) (fun i _ => 16 - (intOf i).toNat)
      case atStart => exact ⟨0, Nat.zero_le _, rfl, Touch.refl _ _⟩
      case round =>
        obtain ⟨s, hs, rfl, hf⟩ := hrel
        have HFS := Lib.hid hf
        clear hf
        by_cases hs16 : s < 16
        · obtain ⟨x, y, hx, hy, hyg, hxy⟩ := HMV.out (Lib.decDigits s)
          have KA := Lib.hid (host_any bA hvA svA _ spA (s : Int) (Lib.decDigits s) (by have := dec_len (n := s) (by omega); omega) wr (HRA4.out.fresh HFS.out) HLA.out ((itoa_small s (by omega) wr).mono fun _ _ ⟨he, hw⟩ => ⟨he, by rw [hw]; exact Touch.refl _ _⟩))
          rw [hx] at KA
          clear hx
          go_wp2_with fail
          refine KA.out.mono ?_
          rintro e w5 ⟨rfl, hf5⟩
          have hf45 := HFS.out.trans hf5 fun _ _ => id
          have KB := Lib.hid (host_any bB hvB svB _ spB (s : Int) (Lib.decDigits s) (by have := dec_len (n := s) (by omega); omega) w5 (HRB.out.rg.fresh hf45) HLB.out ((itoa_small s (by omega) w5).mono fun _ _ ⟨he, hw⟩ => ⟨he, by rw [hw]; exact Touch.refl _ _⟩))
          rw [hy] at KB
          have HF5 := Lib.hid hf45
          clear hy hf5 hf45 KA
          go_wp2_with fail
          refine KB.out.mono ?_
          rintro e w6 ⟨rfl, hf6⟩
          have HF6 := Lib.hid (HF5.out.trans hf6 fun _ _ => id)
          clear hf6 KB
          by_cases hxg : x = gone
          · subst hxg
            clear hxy
            go_wp2_with fail
            go_roundw
            case rel => exact ⟨s + 1, by omega, by go_num, HF6.out⟩
            case measure => simp [intOf] <;> omega
          · obtain rfl := hxy hxg
            clear hxy
            go_wp2_with fail
            go_roundw
            case rel => exact ⟨s + 1, by omega, by go_num, HF6.out⟩
            case measure => simp [intOf] <;> omega
        · obtain rfl : s = 16 := by omega
          go_wp2_with fail
          refine (KW.out _).mono ?_
          rintro e w7 ⟨rfl, hf7⟩
          have HF7 := Lib.hid ((HF4.out.trans HFS.out fun _ _ => id).trans hf7 fun _ _ => id)
          clear hf7 KW
          go_wp2_with fail
          all_goals (go_ret; exact ⟨rfl, HF7.out⟩)
end Go.Proofs.YtnbpmlbhigchnaaDoor
