/- The reference's New. Condition: few hosts. -/
import Derived.Test.YtnbpmlbhigchnaaGreatDoorZPut
namespace Go.Proofs.YtnbpmlbhigchnaaGreatDoor
open Go.RowKit Ieee Go.Sort

theorem perm_mem {α : Type} : ∀ {l m : List α}, l.Nodup → m.Nodup → (∀ x, x ∈ l ↔ x ∈ m) → l.Perm m
  | [], m, _, _, h => by
    cases m with
    | nil => exact List.Perm.refl _
    | cons y m => exact absurd ((h y).2 (List.mem_cons_self ..)) (by simp)
  | x :: l, m, hl, hm, h => by
    obtain ⟨m1, m2, rfl⟩ := List.append_of_mem ((h x).1 (List.mem_cons_self ..))
    have hx := (List.nodup_cons.1 hl).1
    have hp : (m1 ++ x :: m2).Perm (x :: (m1 ++ m2)) := List.perm_middle
    have hm2 := hp.nodup_iff.1 hm
    refine List.Perm.trans (List.Perm.cons x (perm_mem (List.nodup_cons.1 hl).2 (List.nodup_cons.1 hm2).2 fun y => ?_)) hp.symm
    have h1 := h y
    constructor
    · intro hy
      have h2 := hp.mem_iff.1 (h1.1 (List.mem_cons_of_mem _ hy))
      rcases List.mem_cons.1 h2 with rfl | h2
      · exact absurd hy hx
      · exact h2
    · intro hy
      have h2 := h1.2 (hp.mem_iff.2 (List.mem_cons_of_mem _ hy))
      rcases List.mem_cons.1 h2 with rfl | h2
      · exact absurd hy (List.nodup_cons.1 hm2).1
      · exact h2
/-- the hosts below a number, rising -/
def hostsB (l : List Int) (h : Nat) : List Int := ((List.range h).filter fun m : Nat => l.contains (m : Int)).map fun m : Nat => (m : Int)
theorem hostsB_succ (l : List Int) (h : Nat) : hostsB l (h + 1) = hostsB l h ++ (if l.contains (h : Int) then [(h : Int)] else []) := by
  unfold hostsB
  rw [List.range_succ, List.filter_append, List.map_append, List.filter_cons, List.filter_nil]
  split <;> simp
theorem hostsB_mem {l : List Int} {h : Nat} {x : Int} : x ∈ hostsB l h ↔ 0 ≤ x ∧ x < h ∧ x ∈ l := by
  unfold hostsB
  rw [List.mem_map]
  constructor
  · rintro ⟨m, hm, rfl⟩
    obtain ⟨h1, h2⟩ := List.mem_filter.1 hm
    have h3 := List.mem_range.1 h1
    exact ⟨by omega, by omega, by simpa using h2⟩
  · rintro ⟨h1, h2, h3⟩
    refine ⟨x.toNat, List.mem_filter.2 ⟨List.mem_range.2 (by omega), ?_⟩, by omega⟩
    rw [Int.toNat_of_nonneg h1]
    simpa using h3
theorem hostsB_sort (l : List Int) (h : Nat) : (hostsB l h).Pairwise (· < ·) := by
  unfold hostsB
  rw [List.pairwise_map]
  exact (List.pairwise_lt_range.filter _).imp fun {a b} hab => by omega
theorem hostsB_perm {l : List Int} (h1 : l.Nodup) (h2 : l.all okHost = true) : (hostsB l 16).Perm l := by
  refine perm_mem ((hostsB_sort l 16).imp fun {a b} hab => by omega) h1 fun x => ?_
  rw [hostsB_mem]
  refine ⟨fun h => h.2.2, fun h => ?_⟩
  have := List.all_eq_true.1 h2 x h
  simp only [okHost, Bool.and_eq_true, decide_eq_true_eq] at this
  exact ⟨this.1, this.2, h⟩
theorem hostsB_all {l : List Int} (h1 : l.Nodup) (h2 : l.all okHost = true) : hostsB l 16 = sortI l := by
  have hp : (hostsB l 16).Perm (sortI l) := (hostsB_perm h1 h2).trans (sortI_perm l).symm
  have tr : ∀ a b c : Int, decide (a ≤ b) = true → decide (b ≤ c) = true → decide (a ≤ c) = true := fun a b c h1 h2 => by
    simp only [decide_eq_true_eq] at *; omega
  have tot : ∀ a b : Int, (decide (a ≤ b) || decide (b ≤ a)) = true := fun a b => by
    simp only [Bool.or_eq_true, decide_eq_true_eq]; omega
  have s1 : (sortI l).Pairwise fun a b => decide (a ≤ b) = true := List.pairwise_mergeSort tr tot l
  have s2 : (hostsB l 16).Pairwise fun a b => decide (a ≤ b) = true := (hostsB_sort l 16).imp fun {a b} h => by simp; omega
  refine List.Perm.eq_of_pairwise (le := fun a b => decide (a ≤ b) = true) (fun a b _ _ h1 h2 => ?_) s2 s1 hp
  simp only [decide_eq_true_eq] at h1 h2
  omega
/-- a host more -/
theorem QN.host {w0 W W2 : World} {bn : Nat} {lv hv : Value} {ks : List Key} {hs : List Int} {x : Int} {D : Option Addr} {c4 : Nat} (h : QN w0 W bn lv hv ks hs) (hg : (W.alloc (.cells #[.int .i64 x] 3)).grownBy W2 hv.ownBlock)
    (ho : Own W2 3 1 (.slice D (hs.length + 1) c4) (hs.length + 1) (iV hs ++ [.int .i64 x]))
    (hd : (Value.slice D (hs.length + 1) c4).ownBlock = hv.ownBlock ∨ (Value.slice D (hs.length + 1) c4).ownBlock = some (W.alloc (.cells #[.int .i64 x] 3)).heap.size) :
    QN w0 (W2.setCell ⟨bn, 1, none⟩ (.slice D (hs.length + 1) c4)) bn lv (.slice D (hs.length + 1) c4) ks (hs ++ [x]) := by
  have hsz := h.fresh.size
  have hb2 : Blk W2 bn 37 #[lv, hv] := (h.rg.blk.alloc _).grown hg fun e => h.rg.hrow.ne_blk h.rg.blk (by decide) e.symm
  have hs2 : Own W2 49 3 lv ks.length (ksV ks) := (h.rg.lrow.alloc _).grown hg fun k hk e => h.rg.lrow.ne_own h.rg.hrow (by decide) k hk e.symm
  have hF : Fresh w0 W2 := (h.fresh.alloc _).grown hg fun k hk => .inl (h.new k (.inr (.inr hk)))
  refine ⟨⟨?_, ?_, ?_⟩, hF.setCell (p := ⟨bn, 1, none⟩) (.inl (h.new bn (.inl rfl))) _, ?_⟩
  · simpa using hb2.set_ 1 (.slice D (hs.length + 1) c4)
  · exact hs2.far (p := ⟨bn, 1, none⟩) (hs2.ne_blk hb2 (by decide)) _
  · have e : (hs ++ [x]).length = hs.length + 1 := by simp
    rw [e, show iV (hs ++ [x]) = iV hs ++ [.int .i64 x] by simp [iV]]
    exact ho.far (p := ⟨bn, 1, none⟩) (ho.ne_blk hb2 (by decide)) _
  · rintro k (e | e | e)
    · exact h.new k (.inl e)
    · exact h.new k (.inr (.inl e))
    · rcases hd with h1 | h1
      · exact h.new k (.inr (.inr (h1.symm.trans e)))
      · rw [e] at h1
        injection h1 with h1
        rw [h1, World.size_alloc]
        omega
/-- what the reference's New leaves -/
def RNewEnd (w : World) (l : List Int) (p : Int) (e : Ending) (w' : World) : Prop :=
  (okNew l p = true → ∃ bn lv hv ks, e = .returned (.tuple #[.pointer (some ⟨bn, 0, none⟩), .int .i64 0]) ∧ QN w w' bn lv hv ks (sortI l) ∧ SortK ks ∧ ks.Perm (spotsOf l p.toNat)) ∧
  (okNew l p = false → e = .returned (.tuple #[.pointer none, .int .i64 1]) ∧ Fresh w w')
/-- spots so far: sorted, of these hosts, none above -/
structure SoFar (ks K : List Key) (h : Int) : Prop where
  sort : SortK ks
  perm : ks.Perm K
  le : ∀ s ∈ ks, s.2 ≤ h
theorem SoFar.put {ks K : List Key} {h : Int} {x : Key} (H : SoFar ks K h) (hx : x.2 = h) : SoFar (insK x ks) (K ++ [x]) h := by
  refine ⟨?_, (insK_perm x ks).trans ?_, fun s hs => ?_⟩
  · have := insK_sort x ks.reverse (by rw [List.reverse_reverse]; exact H.sort) fun s hs => by rw [hx]; exact H.le s (List.mem_reverse.1 hs)
    rwa [List.reverse_reverse] at this
  · exact (List.Perm.cons x H.perm).trans (List.perm_append_singleton x K).symm
  · rcases List.mem_cons.1 ((insK_perm x ks).mem_iff.1 hs) with rfl | hs
    · omega
    · exact H.le s hs
theorem SoFar.up {ks K : List Key} {h h' : Int} (H : SoFar ks K h) (hh : h ≤ h') : SoFar ks K h' := ⟨H.sort, H.perm, fun s hs => by have := H.le s hs; omega⟩

set_option maxRecDepth 20000 in
set_option maxHeartbeats 4000000 in
theorem refnew_any (A : Option Addr) (c : Nat) (l : List Int) (p : Int) (w : World) (h : IsInts w A l.length c l) (hl : l.length ≤ 1000) :
    Calls Tryz.prog 5 #[.slice A l.length c, .int .i64 p] w (RNewEnd w l p) := by
  have KW := Lib.hid (wrong_any A c l p w h)
  have HI := Lib.hid h
  have hcl := h.2.1
  have hcm := h.2.2.1
  unfold maxLen at hcm
  clear h
  cases hok : okNew l p with
  | false =>
    rw [hok] at KW
    have HE := Lib.hid hok
    clear hok
    go_enter Tryz.func5, Tryz.ntmps5
    go_wp2_with fail
    refine KW.out.mono ?_
    rintro e w1 ⟨rfl, q, rfl⟩
    go_wp2_with fail
    all_goals (go_ret2; exact ⟨fun h => absurd (h.symm.trans HE.out) (by decide), fun _ => ⟨rfl, (Touch.refl _ w).drewN q⟩⟩)
  | true =>
    rw [hok] at KW
    have hp : 1 ≤ p ∧ p ≤ 64 ∧ l.all okHost = true ∧ l.Nodup := by
      simp only [okNew, Bool.and_eq_true, decide_eq_true_eq] at hok
      exact ⟨hok.1.1.1, hok.1.1.2, hok.1.2, hok.2⟩
    have HE := Lib.hid hok
    obtain ⟨hp1, hp2, hall, hnd⟩ := hp
    obtain ⟨n, rfl⟩ := Int.eq_ofNat_of_zero_le (show 0 ≤ p by omega)
    have HAL := Lib.hid hall; have HND := Lib.hid hnd
    clear hok hall hnd
    go_enter Tryz.func5, Tryz.ntmps5
    go_wp2_with fail
    refine KW.out.mono ?_
    rintro e w1 ⟨rfl, q, rfl⟩
    clear KW
    obtain ⟨W1, hW1⟩ : ∃ W1, W1 = (w.drewN q).alloc (.cells #[.slice none 0 0, .slice none 0 0] 37) := ⟨_, rfl⟩
    have HQ := Lib.hid (show QN w W1 w.heap.size (.slice none 0 0) (.slice none 0 0) [] [] by
      have hb : Blk W1 w.heap.size 37 #[.slice none 0 0, .slice none 0 0] := by rw [hW1]; exact Blk.new (w.drewN q) _ _
      refine ⟨⟨hb, Own.nil_ _ _ _, Own.nil_ _ _ _⟩, by rw [hW1]; exact ((Touch.refl _ w).drewN q).alloc _, ?_⟩
      rintro k (rfl | e | e)
      · exact Nat.le_refl _
      · cases e
      · cases e)
    have HW := Lib.hid hW1
    clear hW1
    go_wp2_with fail
    rw [← HW.out]
    go_loopw [7] (fun i wr => ∃ (m : Nat) (lv hv : Value) (ks : List Key), m ≤ 16 ∧ i = .int .i64 m ∧ QN w wr w.heap.size lv hv ks (hostsB l m) ∧ SoFar ks (spotsOf (hostsB l m) n) m) (fun i _ => 16 - (intOf i).toNat)
    case atStart => exact ⟨0, _, _, [], Nat.zero_le _, rfl, HQ.out, ⟨List.Pairwise.nil, List.Perm.refl _, by simp⟩⟩
    case round =>
      clear HQ HW
      obtain ⟨m, lv, hv, ks, hm, rfl, hQ, hS⟩ := hrel
      have HQ := Lib.hid hQ; have HS := Lib.hid hS
      clear hQ hS
      by_cases hm16 : m < 16
      · have d16 : decide ((m : Int) < 16) = true := by simp; omega
        go_wp2_with fail
        try rw [d16]
        go_loopw [8] (fun i wr => ∃ (j : Nat) (lv hv : Value) (ks : List Key), j ≤ l.length ∧ i = .int .i64 j ∧ QN w wr w.heap.size lv hv ks (hostsB l m ++ (if (l.take j).contains (m : Int) then [(m : Int)] else [])) ∧ SoFar ks (spotsOf (hostsB l m ++ (if (l.take j).contains (m : Int) then [(m : Int)] else [])) n) m) (fun i _ => l.length - (intOf i).toNat)
        case atStart => exact ⟨0, lv, hv, ks, Nat.zero_le _, rfl, by simpa using HQ.out, by simpa using HS.out⟩
        case round =>
          clear HQ HS
          obtain ⟨j, lv, hv, ks, hj, rfl, hQ, hS⟩ := hrel
          have HQ := Lib.hid hQ; have HS := Lib.hid hS
          have hbw : w.heap.size < wr.heap.size := hQ.rg.blk.lt
          have c1 : wr.cell? ⟨w.heap.size, 1, none⟩ = some hv := hQ.rg.blk.cell 1
          have f1 := hQ.rg.blk.frozen 1
          clear hQ hS
          by_cases hlt : j < l.length
          · obtain ⟨x, hx⟩ : ∃ x, l[j]? = some x := ⟨_, List.getElem?_eq_getElem hlt⟩
            obtain ⟨b, o, rfl, hc⟩ := HI.out.2.2.2 (by omega)
            have cx : wr.cell? ⟨b, o + j, none⟩ = some (.int .i64 x) := HQ.out.fresh.cell (hc j x hx) id
            have HTS := Lib.hid (take_snoc hx)
            have HX := Lib.hid hx
            clear hc hx
            by_cases hxm : x = (m : Int)
            · subst hxm
              have hno : (l.take j).contains (m : Int) = false := by
                have h1 := HND.out
                have h2 : (l.take (j + 1)).Nodup := h1.sublist (List.take_sublist _ _)
                rw [HTS.out] at h2
                have h3 := (List.nodup_append.1 h2).2.2
                cases hcc : (l.take j).contains (m : Int) with
                | false => rfl
                | true => exact absurd rfl (h3 _ (by simpa using hcc) _ (List.mem_singleton.2 rfl))
              have hyes : (l.take (j + 1)).contains (m : Int) = true := by rw [HTS.out]; simp
              obtain ⟨t, ht⟩ : ∃ t, t = hostsB l m := ⟨_, rfl⟩
              rw [hno, ← ht] at HQ HS
              have HQ := Lib.hid (show QN w wr w.heap.size lv hv ks t by simpa using HQ.out)
              have HS := Lib.hid (show SoFar ks (spotsOf t n) m by simpa using HS.out)
              have HY := Lib.hid hyes; have HT := Lib.hid ht
              have htl : t.length ≤ 16 := by
                rw [ht]
                unfold hostsB
                rw [List.length_map]
                have := List.length_filter_le (fun k : Nat => l.contains (k : Int)) (List.range m)
                rw [List.length_range] at this
                omega
              clear hno hyes ht
              go_wp2_with (at_builtin; refine wpList_own_src _ rfl _ _ 22 22 rfl 3 (.int .i64 0) 1 8 Tryz.info3 Tryz.underlying22 rfl hv t.length (iV t) rfl (HQ.out.rg.hrow.alloc _) (iV_one _) (.slice (some ⟨wr.heap.size, 0, none⟩) 1 1) 1 [.int .i64 m] rfl (int_new wr m) (by unfold maxLen; omega) (by omega) ?_; intro D c4 w4 o4 g4 b4; have HB4 := Lib.hid (((HQ.out.rg.blk.alloc _).grown g4 (fun e => HQ.out.rg.hrow.ne_blk HQ.out.rg.blk (by decide) e.symm))); have k1 := HB4.out.cell 1; have q1 := HB4.out.frozen 1; have HS4 := Lib.hid (HQ.out.host g4 o4 b4); clear o4 g4 b4)
              obtain ⟨hv', hhv⟩ : ∃ hv', hv' = Value.slice D (t.length + 1) c4 := ⟨_, rfl⟩
              rw [← hhv] at HS4 ⊢
              clear hhv
              go_loopw [9] (fun i wr => ∃ (k : Nat) (lv : Value) (ks : List Key), k ≤ n ∧ i = .int .i64 k ∧ QN w wr w.heap.size lv hv' ks (t ++ [(m : Int)]) ∧ SoFar ks (spotsOf t n ++ (List.range k).map (spotK m)) m) (fun i _ => n - (intOf i).toNat)
              case atStart => exact ⟨0, lv, ks, Nat.zero_le _, rfl, HS4.out, by simpa using HS.out⟩
              case round =>
                clear HS4 HB4 k1 q1 c1 f1 cx hbw HQ HS
                obtain ⟨k, lv, ks, hk, rfl, hQ, hS⟩ := hrel
                have HQ := Lib.hid hQ; have HS := Lib.hid hS
                have hksl : ks.length ≤ 1000000 := by
                  have := hS.perm.length_eq
                  rw [List.length_append, spotsOf_len, List.length_map, List.length_range] at this
                  have := Nat.mul_le_mul htl (show n ≤ 64 by omega)
                  omega
                clear hQ hS
                by_cases hlk : k < n
                · have KT1 := Lib.hid (fun W => text_any m (by omega) W)
                  have KT2 := Lib.hid (fun W => text_any k (by omega) W)
                  have g0 := dec_len (n := m) (by omega)
                  have g1 := dec_len (n := k) (by omega)
                  have KP := Lib.hid (fun W => refpoint_any (nameZ m k) (by simp [nameZ]; omega) W)
                  have n1 : ¬ 9223372036854775807 < 5 + (Lib.decDigits m).length := by omega
                  have n2 : ¬ 9223372036854775807 < 5 + (Lib.decDigits m).length + 1 := by omega
                  have n3 : ¬ 9223372036854775807 < 5 + (Lib.decDigits m).length + 1 + (Lib.decDigits k).length := by omega
                  obtain ⟨X, hX⟩ : ∃ X : Key, X = spotK m k := ⟨_, rfl⟩
                  have hX1 : pointZ (nameZ m k) = X.1 := by rw [hX]; unfold spotK; rw [Int.toNat_natCast]
                  have hX2 : (m : Int) = X.2 := by rw [hX]; rfl
                  rw [hX1] at KP
                  have HX := Lib.hid hX; have HX2 := Lib.hid hX2
                  clear g0 g1 hX hX1 hX2
                  go_wp2_with fail
                  refine (KT1.out _).mono ?_
                  rintro e w5 ⟨rfl, hf5⟩
                  have HF5 := Lib.hid hf5
                  clear hf5 KT1
                  go_wp2_with fail
                  refine (KT2.out _).mono ?_
                  rintro e w6 ⟨rfl, hf6⟩
                  have HF6 := Lib.hid (HF5.out.trans hf6 fun _ _ => id)
                  clear hf6 KT2
                  go_wp2_with fail
                  rw [name_bytes]
                  refine (KP.out _).mono ?_
                  rintro e w7 ⟨rfl, hf7⟩
                  have KU := Lib.hid (put_any X w.heap.size lv hv' ks _ w w7 (HQ.out.on (HF6.out.trans hf7 fun _ _ => id)) hksl)
                  dsimp only [zV]
                  clear hf7 KP
                  rw [← HX2.out] at KU
                  go_wp2_with fail
                  refine KU.out.mono ?_
                  rintro e w8 ⟨rfl, lv8, hQ8⟩
                  have HQ8 := Lib.hid hQ8
                  clear hQ8 KU
                  go_wp2_with fail
                  go_roundw
                  case rel =>
                    refine ⟨k + 1, lv8, insK X ks, by omega, by go_num, HQ8.out, ?_⟩
                    rw [List.range_succ, List.map_append, ← List.append_assoc, List.map_singleton, ← HX.out]
                    exact HS.out.put HX2.out.symm
                  case measure => simp [intOf] <;> omega
                · have hkn : k = n := by omega
                  have HKN := Lib.hid hkn
                  clear hkn
                  go_wp2_with fail
                  go_roundw
                  case rel =>
                    refine ⟨j + 1, lv, hv', ks, by omega, by go_num, ?_, ?_⟩
                    · rw [HY.out, ← HT.out]
                      exact HQ.out
                    · rw [HY.out, ← HT.out, if_pos rfl, spotsOf_append]
                      have := HS.out
                      rw [HKN.out] at this
                      simpa [spotsOf] using this
                  case measure => simp [intOf] <;> omega
            · have hsame : (l.take (j + 1)).contains (m : Int) = (l.take j).contains (m : Int) := by
                rw [HTS.out]
                have : ¬ (m : Int) = x := fun e => hxm e.symm
                simp [this]
              have HSM := Lib.hid hsame
              clear hsame
              go_wp2_with fail
              go_roundw
              case rel => exact ⟨j + 1, lv, hv, ks, by omega, by go_num, by rw [HSM.out]; exact HQ.out, by rw [HSM.out]; exact HS.out⟩
              case measure => simp [intOf] <;> omega
          · obtain rfl : j = l.length := by omega
            rw [List.take_length, ← hostsB_succ] at HQ HS
            go_wp2_with fail
            go_roundw
            case rel => exact ⟨m + 1, lv, hv, ks, by omega, by go_num, HQ.out, HS.out.up (by omega)⟩
            case measure => simp [intOf] <;> omega
      · obtain rfl : m = 16 := by omega
        have hpm := hostsB_perm HND.out HAL.out
        have hps := HS.out.perm
        have HPM := Lib.hid (show ks.Perm (spotsOf l n) from hps.trans (hpm.flatMap_right _))
        rw [hostsB_all HND.out HAL.out] at HQ
        clear hpm hps
        go_wp2_with fail
        all_goals
          go_ret2
          refine ⟨fun _ => ⟨w.heap.size, lv, hv, ks, rfl, HQ.out, HS.out.sort, ?_⟩, fun h => absurd (h.symm.trans HE.out) (by decide)⟩
          rw [Int.toNat_natCast]
          exact HPM.out
end Go.Proofs.YtnbpmlbhigchnaaGreatDoor
