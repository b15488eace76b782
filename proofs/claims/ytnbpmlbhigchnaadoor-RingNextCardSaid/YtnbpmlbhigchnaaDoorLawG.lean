/- The ring's Hosts; the law RingGiven, walked. Condition: numbers as an int holds them. -/
import Derived.Test.YtnbpmlbhigchnaaDoorLawR
import Derived.Deep.RegionLaw
namespace Go.Proofs.YtnbpmlbhigchnaaDoor
open Go.RowKit

theorem Own.lit0' (w : World) (e : TypeId) (size : Nat) : Own (w.alloc (.cells #[] e)) e size (.slice (some ⟨w.heap.size, 0, none⟩) 0 0) 0 [] := Own.lit0 w e size
theorem Own.takeSrc {P : Program} {w : World} {e t e' : TypeId} {size n c : Nat} {A : Option Addr} {xs : List Value} (h : Own w e size (.slice A n c) n xs) (ht : P.underlying t = some (.slice e')) (h1 : ∀ u ∈ xs, u.oneCell' = true) {k : Nat} (hk : k ≤ n) : Src P size t (.slice A k c) k (xs.take (k * size)) w := by
  obtain ⟨A', c', hv, hle, hm, hA⟩ := h.form
  injection hv with e1 _ e3
  subst e1 e3
  rcases hA with ⟨rfl, h0, rfl⟩ | ⟨g, rfl⟩
  · have : k = 0 := by omega
    subst this
    rw [Nat.zero_mul, List.take_zero]
    exact Src.ofNil w ht 0
  · exact Own.src (h.cut hk (by omega) (Nat.le_refl _)) ht fun u hu => h1 u (List.mem_of_mem_take hu)
theorem Own.dropSrc {P : Program} {w : World} {e t e' : TypeId} {size n c g : Nat} {xs : List Value} (h : Own w e size (.slice (some ⟨g, 0, none⟩) n c) n xs) (ht : P.underlying t = some (.slice e')) (h1 : ∀ u ∈ xs, u.oneCell' = true) {k : Nat} (_hk : k ≤ n) (m c' : Nat) (hm : m = n - k) : Src P size t (.slice (some ⟨g, k * size, none⟩) m c') m (xs.drop (k * size)) w := by
  subst hm
  refine Src.ofSlice w ht _ _ _ _ (by rw [List.length_drop, h.1, Nat.sub_mul]) (fun j u hu => ?_) fun u hu => h1 u (List.mem_of_mem_drop hu)
  rw [List.getElem?_drop] at hu
  have hj : k * size + j < n * size := by have := (List.getElem?_eq_some_iff.1 hu).1; have := h.1; omega
  rw [add_flat, h.cell hj]
  exact hu
theorem Own.dropSrc0 {P : Program} {w : World} {e t e' : TypeId} {size n : Nat} {v : Value} {xs : List Value} (h : Own w e size v n xs) (ht : P.underlying t = some (.slice e')) {k : Nat} (hk : n ≤ k) (a : Addr) (m c' : Nat) (hm : m = n - k) : Src P size t (.slice (some a) m c') m (xs.drop (k * size)) w := by
  subst hm
  have h0 : n - k = 0 := by omega
  have h1 : xs.drop (k * size) = [] := List.drop_eq_nil_of_le (by rw [h.1]; exact Nat.mul_le_mul_right _ hk)
  rw [h0, h1]
  exact Src.ofSlice w ht a 0 c' [] (by simp) (by simp) (by simp)
theorem sortI_perm_eq {l m : List Int} (h : l.Perm m) : sortI l = sortI m := by
  have hp : (sortI l).Perm (sortI m) := (sortI_perm l).trans (h.trans (sortI_perm m).symm)
  have tr : ∀ a b c : Int, decide (a ≤ b) = true → decide (b ≤ c) = true → decide (a ≤ c) = true := fun a b c h1 h2 => by
    simp only [decide_eq_true_eq] at *; omega
  have tot : ∀ a b : Int, (decide (a ≤ b) || decide (b ≤ a)) = true := fun a b => by
    simp only [Bool.or_eq_true, decide_eq_true_eq]; omega
  have s1 : (sortI l).Pairwise fun a b => decide (a ≤ b) = true := List.pairwise_mergeSort tr tot l
  have s2 : (sortI m).Pairwise fun a b => decide (a ≤ b) = true := List.pairwise_mergeSort tr tot m
  refine List.Perm.eq_of_pairwise (le := fun a b => decide (a ≤ b) = true) (fun a b _ _ h1 h2 => ?_) s1 s2 hp
  simp only [decide_eq_true_eq] at h1 h2
  omega

set_option maxRecDepth 20000 in
theorem hostsR_any (bn : Nat) (hv sv : Value) (hs : List Int) (sps : List Sp) (w : World) (hR : RG w bn hv sv hs sps) (hl : hs.length ≤ 1000000) :
    Calls Tryd.prog 29 #[.pointer (some ⟨bn, 0, none⟩)] w fun e w' => Fresh w w' ∧ ∃ B c', e = .returned (.slice B hs.length c') ∧ Own w' 3 1 (.slice B hs.length c') hs.length (intsV hs) ∧ ∀ k, (Value.slice B hs.length c').ownBlock = some k → w.heap.size ≤ k := by
  have c0 : w.cell? ⟨bn, 0, none⟩ = some hv := hR.blk.cell 0
  obtain ⟨A, c, rfl, _⟩ := hR.hrow.form
  have KC := Lib.hid (cloneI_any A hs.length c hs w (Own.ints hR.hrow) hl)
  clear hR
  go_enter Tryd.func29, Tryd.ntmps29
  go_wp2_with fail
  refine KC.out.mono ?_
  rintro e w1 ⟨hf, B, c', rfl, ho, hn⟩
  have HF := Lib.hid hf; have HO := Lib.hid ho; have HN := Lib.hid hn
  clear hf ho hn KC
  go_wp2_with fail
  go_ret
  exact ⟨HF.out, B, c', rfl, HO.out, HN.out⟩

/-- the list turned about -/
structure Turned (w1 w : World) (al : List Int) (k : Nat) (v : Value) : Prop where
  row : ∃ E e', v = .slice E al.length e' ∧ Own w 3 1 (.slice E al.length e') al.length (iV (al.drop k ++ al.take k))
  fresh : Fresh w1 w
set_option maxRecDepth 20000 in
set_option maxHeartbeats 8000000 in
theorem law_given (A : Option Addr) (c : Nat) (l : List Int) (points turn : Int) (w : World) (h : IsInts w A l.length c l) :
    Calls Tryd.prog 9 #[.slice A l.length c, .int .i64 points, .int .i64 turn] w fun e w' => e = .returned (.bool true) ∧ Fresh w w' := by
  have KW := Lib.hid (fun W => wakes_any W)
  have KH := Lib.hid (hosts_any A c l w h)
  have hok := hostsZ_ok l
  have hlen := hostsZ_len l
  generalize hostsZ l = al at *
  have HOK := Lib.hid hok
  clear h hok
  go_enter Tryd.func9, Tryd.ntmps9
  go_wp2_with fail
  refine KH.out.mono ?_
  rintro e w1 ⟨hf1, B, c1, rfl, ho1, hn1⟩
  have HF1 := Lib.hid hf1; have HO1 := Lib.hid ho1
  obtain ⟨B', c', hB', hc1, hc2, hBA⟩ := ho1.form
  injection hB' with e1 _ e3
  subst e1 e3
  have HBA := Lib.hid hBA
  unfold maxLen at hc2
  clear hf1 ho1 hn1 KH hBA
  have hq1 := Int.emod_nonneg points (show (20 : Int) ≠ 0 by decide)
  have hq2 := Int.emod_lt_of_pos points (show (0 : Int) < 20 by decide)
  have KP := Lib.hid (within_any points 20 w1 (by decide) (by decide))
  generalize points % 20 = pp at *
  obtain ⟨pn, rfl⟩ := Int.eq_ofNat_of_zero_le hq1
  have hwr : IntKind.i64.wrap (1 + (pn : Int)) = 1 + (pn : Int) := IntWalk.i64_in _ (by omega)
  have hwl : IntKind.i64.wrap ((al.length : Int) + 1) = (al.length : Int) + 1 := IntWalk.i64_in _ (by omega)
  have hs1 := Int.emod_nonneg turn (show (al.length : Int) + 1 ≠ 0 by omega)
  have hs2 := Int.emod_lt_of_pos turn (show (0 : Int) < (al.length : Int) + 1 by omega)
  have KT := Lib.hid (within_any turn ((al.length : Int) + 1) w1 (by omega) (by omega))
  generalize turn % ((al.length : Int) + 1) = tt at *
  obtain ⟨k, rfl⟩ := Int.eq_ofNat_of_zero_le hs1
  have hk : k ≤ al.length := by omega
  clear hq1 hs1
  go_wp2_with fail
  refine KP.out.mono ?_
  rintro e w2 ⟨hw2, rfl⟩
  rw [hw2]
  clear hw2 w2 KP
  go_wp2_with fail
  refine KT.out.mono ?_
  rintro e w2 ⟨hw2, rfl⟩
  rw [hw2]
  clear hw2 w2 KT
  go_upto_region 4 with fail
  go_cut [10] from 30 (fun v wc => Turned w1 wc al k v)
  case first =>
    clear HF1 HOK KW
    have z1 : (k : Int) ≤ (al.length : Int) := by omega
    have z2 : k ≤ c1 := by omega
    have KL := Lib.hid ((Own.lit0 w1 3 1).drew)
    have KO := Lib.hid (show ∀ u ∈ (iV al).drop k, u.oneCell' = true from fun u hu => iV_one al u (List.mem_of_mem_drop hu))
    have fin : ∀ (w4 w5 : World) (B4 : Option Addr) (m4 c4 : Nat) (B5 : Option Addr) (m5 c5 : Nat), ((w1.alloc (.cells #[] 3)).drew).grownBy w4 (some w1.heap.size) → ((Value.slice B4 m4 c4).ownBlock = some w1.heap.size ∨ (Value.slice B4 m4 c4).ownBlock = some ((w1.alloc (.cells #[] 3)).drew).heap.size) →
        w4.grownBy w5 (Value.slice B4 m4 c4).ownBlock → m5 = al.length → Own w5 3 1 (.slice B5 m5 c5) m5 ((iV al).drop k ++ (iV al).take k) → Turned w1 w5 al k (.slice B5 al.length c5) := by
      intro w4 w5 B4 m4 c4 B5 m5 c5 g4 b4 g5 hm o5
      subst hm
      have h4 : Fresh w1 w4 := (((Touch.refl (fun _ => False) w1).alloc _).drew).grown g4 fun q hq => .inl (by injection hq with hq; omega)
      have h5 : Fresh w1 w5 := h4.grown g5 fun q hq => .inl (by
        rcases b4 with h | h
        · rw [hq] at h; injection h with h; omega
        · rw [hq] at h; injection h with h; have h : q = (w1.alloc (.cells #[] 3)).heap.size := h; rw [World.size_alloc] at h; omega)
      exact ⟨⟨B5, c5, rfl, by rw [show iV (al.drop k ++ al.take k) = (iV al).drop k ++ (iV al).take k by simp [iV]]; exact o5⟩, h5⟩
    rcases HBA.out with ⟨rfl, h0, rfl⟩ | ⟨g, rfl⟩
    · have hal : al = [] := List.eq_nil_of_length_eq_zero h0
      subst hal
      have hk0 : k = 0 := by simpa using hk
      subst hk0
      go_region_law (fail)
      all_goals
        go_wp2_with fail
        go_meet
        case rel => exact ⟨⟨_, _, rfl, by simpa [iV] using KL.out⟩, ((Touch.refl (fun _ => False) w1).alloc _).drew⟩
    · by_cases hkc : c1 = k
      · subst hkc
        have KS2 := Lib.hid (show Src Tryd.prog 1 36 (.slice (some ⟨g, 0, none⟩) c1 c1) c1 ((iV al).take c1) ((w1.alloc (.cells #[] 3)).drew) from by
          have := Own.takeSrc (((HO1.out).alloc (.cells #[] 3)).drew) Tryd.underlying36 (iV_one _) hk
          rwa [Nat.mul_one] at this)
        have HLC := Lib.hid (show al.length = c1 by omega)
        go_region_law (first
          | (refine step_own_src _ rfl (.tmp 34) (.tmp 37) 36 36 rfl 3 (.int .i64 0) 1 8 Tryd.info3 Tryd.underlying36 rfl (.slice (some ⟨w1.heap.size, 0, none⟩) 0 0) 0 [] rfl KL.out (by simp) (Value.slice (some ⟨g, 0, none⟩) c1 c1) c1 ((iV al).take c1) rfl KS2.out (by unfold maxLen; omega) (by omega) ?_; intro B5 c5 w5 o5 g5 b5; simp only [Nat.zero_add, List.nil_append] at o5 g5 b5 ⊢; have HO5 := Lib.hid o5; have HT5 := Lib.hid (show Fresh w1 w5 from (((Touch.refl (fun _ => False) w1).alloc _).drew).grown g5 fun q hq => .inl (by simp only [Value.ownBlock, Option.some.injEq] at hq; rw [← hq]; exact Nat.le_refl _)); clear o5 g5 b5))
        all_goals
          go_wp2_with fail
          go_meet
          case rel =>
            refine ⟨⟨B5, c5, by rw [HLC.out], ?_⟩, HT5.out⟩
            have h1 : al.drop c1 = [] := List.drop_eq_nil_of_le (by rw [HLC.out]; exact Nat.le_refl _)
            rw [h1, List.nil_append, show iV (al.take c1) = (iV al).take c1 by simp [iV], HLC.out]
            exact HO5.out
      · have hne : ¬ c1 = k := hkc
        have KS1 := Lib.hid (show Src Tryd.prog 1 36 (.slice (some ⟨g, k, none⟩) (al.length - k) (c1 - k)) (al.length - k) ((iV al).drop k) (w1.alloc (.cells #[] 3)).drew from by
          have := Own.dropSrc (((HO1.out).alloc (.cells #[] 3)).drew) Tryd.underlying36 (iV_one _) hk (al.length - k) (c1 - k) rfl
          rwa [Nat.mul_one] at this)
        have KS2 := Lib.hid (show ∀ w4, ((w1.alloc (.cells #[] 3)).drew).grownBy w4 (some w1.heap.size) → Src Tryd.prog 1 36 (.slice (some ⟨g, 0, none⟩) k c1) k ((iV al).take k) w4 from fun w4 hg => by
          have := Own.takeSrc (HO1.out.touch ((((Touch.refl (fun _ => False) w1).alloc _).drew).grown hg fun q hq => .inl (by injection hq with hq; omega)) fun _ _ => id) Tryd.underlying36 (iV_one _) hk
          rwa [Nat.mul_one] at this)
        go_region_law (first
          | (refine step_own_src _ rfl (.tmp 30) (.tmp 33) 36 36 rfl 3 (.int .i64 0) 1 8 Tryd.info3 Tryd.underlying36 rfl (.slice (some ⟨w1.heap.size, 0, none⟩) 0 0) 0 [] rfl (by exact KL.out) (by simp) (Value.slice (some ⟨g, k, none⟩) (al.length - k) (c1 - k)) (al.length - k) ((iV al).drop k) rfl KS1.out (by unfold maxLen; omega) (by omega) ?_; intro B4 c4 w4 o4 g4 b4; simp only [Nat.zero_add, List.nil_append] at o4 g4 b4 ⊢; have HO4 := Lib.hid o4; have HG4 := Lib.hid g4; have HB4 := Lib.hid b4; clear o4 g4 b4)
          | (refine step_own_src _ rfl (.tmp 34) (.tmp 37) 36 36 rfl 3 (.int .i64 0) 1 8 Tryd.info3 Tryd.underlying36 rfl (.slice B4 (al.length - k) c4) (al.length - k) ((iV al).drop k) rfl HO4.out KO.out (Value.slice (some ⟨g, 0, none⟩) k c1) k ((iV al).take k) rfl (KS2.out w4 HG4.out) (by unfold maxLen; omega) (by omega) ?_; intro B5 c5 w5 o5 g5 b5; have HFN := Lib.hid (fin w4 w5 B4 _ c4 B5 _ c5 HG4.out HB4.out g5 (by omega) o5); clear o5 g5 b5))
        all_goals
          go_wp2_with fail
          go_meet
          case rel => exact HFN.out
  case rest =>
    obtain ⟨⟨E, e', rfl, hoE⟩, hfE⟩ := hcut
    have HOE := Lib.hid hoE; have HFE := Lib.hid hfE
    obtain ⟨m, hm⟩ : ∃ m, m = al.drop k ++ al.take k := ⟨_, rfl⟩
    have hperm : m.Perm al := by
      rw [hm]
      have h1 : (al.take k ++ al.drop k).Perm al := by rw [List.take_append_drop]
      exact List.perm_append_comm.trans h1
    have hml : m.length = al.length := hperm.length_eq
    rw [← hm] at HOE
    rw [← hml] at HOE ⊢
    have hmok : m.Nodup ∧ m.all okHost = true := ⟨hperm.nodup_iff.2 HOK.out.1, by
      rw [List.all_eq_true]
      intro x hx
      exact List.all_eq_true.1 HOK.out.2 x (hperm.mem_iff.1 hx)⟩
    have HM := Lib.hid hmok; have HPM := Lib.hid hperm
    clear hoE hfE hm hmok hperm
    rw [hml]
    have KNA := Lib.hid (new_any B c1 al (1 + (pn : Int)) wc ((HO1.out.touch HFE.out fun _ _ => id).vs_) (by omega))
    go_wp2_with fail
    refine KNA.out.mono ?_
    intro e3 w3 hend
    obtain ⟨bA, hvA, svA, spA, rfl, hRA, hsA, hpA⟩ := hend.1 (okNew_mk HOK.out (by omega) (by omega))
    have hfA := hRA.fresh
    have KNB := Lib.hid (new_any E e' m (1 + (pn : Int)) w3 ((HOE.out.touch hfA fun _ _ => id).vs_) (by omega))
    have HRA := Lib.hid hRA; have HSA := Lib.hid hsA; have HPA := Lib.hid hpA
    rw [hml] at KNB
    clear hend hRA hsA hpA hfA KNA
    go_wp2_with fail
    refine KNB.out.mono ?_
    intro e4 w4 hend
    obtain ⟨bB, hvB, svB, spB, rfl, hRB, hsB, hpB⟩ := hend.1 (okNew_mk HM.out (by omega) (by omega))
    have HRB := Lib.hid hRB; have HSB := Lib.hid hsB; have HPB := Lib.hid hpB
    have HRA4 := Lib.hid (HRA.out.rg.fresh hRB.fresh)
    have HF4 := Lib.hid (((HF1.out.trans HFE.out fun _ _ => id).trans HRA.out.fresh fun _ _ => id).trans hRB.fresh fun _ _ => id)
    have HLA := Lib.hid (HRA.out.few HPA.out (by omega) (by omega))
    have HLB := Lib.hid (HRB.out.few HPB.out (by omega) (by omega))
    have hkeys : spB.map Sp.key = spA.map Sp.key := SortK.uniq HSB.out HSA.out (HPB.out.trans ((HPM.out.flatMap_right _).trans HPA.out.symm))
    have hsort : sortI m = sortI al := sortI_perm_eq HPM.out
    have HKEY := Lib.hid hkeys; have HSRT := Lib.hid hsort
    have hsl : (sortI al).length ≤ 1000000 := by rw [sortI_len]; omega
    have KHA := Lib.hid (hostsR_any bA hvA svA _ spA w4 HRA4.out hsl)
    clear hend hRB hsB hpB KNB hkeys hsort
    go_wp2_with fail
    refine KHA.out.mono ?_
    rintro e5 w5 ⟨hf5, C1, r1, rfl, ho5, hn5⟩
    have KHB := Lib.hid (hostsR_any bB hvB svB _ spB w5 (HRB.out.rg.fresh hf5) (by rw [HSRT.out]; exact hsl))
    rw [HSRT.out] at KHB
    have HF5 := Lib.hid hf5; have HO5 := Lib.hid ho5
    clear hf5 ho5 hn5 KHA
    go_wp2_with fail
    refine KHB.out.mono ?_
    rintro e6 w6 ⟨hf6, C2, r2, rfl, ho6, hn6⟩
    have KI := Lib.hid (ints_any w6 C1 C2 _ r1 r2 (sortI al) ((HO5.out.touch hf6 fun _ _ => id).ints) ho6.ints)
    have HF6 := Lib.hid (HF5.out.trans hf6 fun _ _ => id)
    clear hf6 ho6 hn6 KHB
    go_wp2_with fail
    refine KI.out.mono ?_
    rintro e7 w7 ⟨rfl, q7, rfl⟩
    have HF7 := Lib.hid (HF6.out.drewN q7)
    clear KI
    go_wp2_with fail
    go_loopw [15] (fun i wr => ∃ s : Nat, s ≤ 16 ∧ i = .int .i64 s ∧ Fresh w4 wr) (fun i _ => 16 - (intOf i).toNat)
    case atStart => exact ⟨0, Nat.zero_le _, rfl, HF7.out⟩
    case round =>
      obtain ⟨s, hs, rfl, hf⟩ := hrel
      have HFS := Lib.hid hf
      clear hf
      by_cases hs16 : s < 16
      · have hcase : ∃ (x : Int) (ok : Bool), hostOf (spA.map Sp.key) (Lib.decDigits s) = .tuple #[.int .i64 x, .bool ok] := by
          rcases hostOf_owns (spA.map Sp.key) 0 s with ⟨x, hx, _⟩ | ⟨hx, _⟩
          · exact ⟨x, true, hx⟩
          · exact ⟨0, false, hx⟩
        obtain ⟨x, ok, hx⟩ := hcase
        have KA := Lib.hid (host_any bA hvA svA _ spA (s : Int) (Lib.decDigits s) (by have := dec_len (n := s) (by omega); omega) wr (HRA4.out.fresh HFS.out) HLA.out ((itoa_small s (by omega) wr).mono fun _ _ ⟨he, hw⟩ => ⟨he, by rw [hw]; exact Touch.refl _ _⟩))
        rw [hx] at KA
        go_wp2_with fail
        refine KA.out.mono ?_
        rintro e8 w8 ⟨rfl, hf8⟩
        have hf48 := HFS.out.trans hf8 fun _ _ => id
        have KB := Lib.hid (host_any bB hvB svB _ spB (s : Int) (Lib.decDigits s) (by have := dec_len (n := s) (by omega); omega) w8 (HRB.out.rg.fresh hf48) HLB.out ((itoa_small s (by omega) w8).mono fun _ _ ⟨he, hw⟩ => ⟨he, by rw [hw]; exact Touch.refl _ _⟩))
        rw [HKEY.out, hx] at KB
        have HF8 := Lib.hid hf48
        clear hx hf8 hf48 KA
        go_wp2_with fail
        refine KB.out.mono ?_
        rintro e9 w9 ⟨rfl, hf9⟩
        have HF9 := Lib.hid (HF8.out.trans hf9 fun _ _ => id)
        clear hf9 KB
        go_wp2_with fail
        go_roundw
        case rel => exact ⟨s + 1, by omega, by go_num, HF9.out⟩
        case measure => simp [intOf] <;> omega
      · obtain rfl : s = 16 := by omega
        go_wp2_with fail
        refine (KW.out _).mono ?_
        rintro e10 w10 ⟨rfl, hf10⟩
        have HF10 := Lib.hid ((HF4.out.trans HFS.out fun _ _ => id).trans hf10 fun _ _ => id)
        clear hf10 KW
        go_wp2_with fail
        all_goals (go_ret; exact ⟨rfl, HF10.out⟩)
end Go.Proofs.YtnbpmlbhigchnaaDoor
