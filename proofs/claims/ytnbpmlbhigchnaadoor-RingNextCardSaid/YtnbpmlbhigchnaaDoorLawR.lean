/- Shards; the law RingParts, walked. Condition: numbers as an int holds them. -/
import Derived.Test.YtnbpmlbhigchnaaDoorLawM
namespace Go.Proofs.YtnbpmlbhigchnaaDoor
open Go.RowKit

/-- is a shard a host's? -/
def owns (K : List Key) (h : Int) (i : Nat) : Bool := match nextK K (shardP (Lib.decDigits i)) with
  | some s => s.2 == h
  | none => false
def shardsOf (K : List Key) (h : Int) (n : Nat) : List Int := ((List.range n).filter (owns K h)).map fun (i : Nat) => (i : Int)
theorem shardsOf_succ (K : List Key) (h : Int) (n : Nat) : shardsOf K h (n + 1) = if owns K h n then shardsOf K h n ++ [(n : Int)] else shardsOf K h n := by
  unfold shardsOf
  rw [List.range_succ, List.filter_append, List.map_append, List.filter_cons, List.filter_nil]
  cases owns K h n <;> simp
theorem shardsOf_len (K : List Key) (h : Int) (n : Nat) : (shardsOf K h n).length ≤ n := by
  have := List.length_filter_le (owns K h) (List.range n)
  rw [List.length_range] at this
  unfold shardsOf
  rw [List.length_map]
  exact this
theorem hostOf_owns (K : List Key) (h : Int) (i : Nat) : (∃ x : Int, hostOf K (Lib.decDigits i) = .tuple #[.int .i64 x, .bool true] ∧ (x = h ↔ owns K h i = true)) ∨ (hostOf K (Lib.decDigits i) = .tuple #[.int .i64 0, .bool false] ∧ owns K h i = false) := by
  unfold hostOf owns
  cases nextK K (shardP (Lib.decDigits i)) with
  | none => exact .inr ⟨rfl, rfl⟩
  | some s => exact .inl ⟨s.2, rfl, by simp⟩

set_option maxRecDepth 20000 in
set_option maxHeartbeats 4000000 in
theorem shards_any (bn : Nat) (hv sv : Value) (hs : List Int) (sps : List Sp) (h : Int) (n : Nat) (hn : n ≤ 16) (w : World) (hR : RG w bn hv sv hs sps) (hl : sps.length ≤ 1000000000) :
    Calls Tryd.prog 25 #[.pointer (some ⟨bn, 0, none⟩), .int .i64 h, .int .i64 n] w fun e w' => Fresh w w' ∧ ∃ B c', e = .returned (.slice B (shardsOf (sps.map Sp.key) h n).length c') ∧
      Own w' 3 1 (.slice B (shardsOf (sps.map Sp.key) h n).length c') (shardsOf (sps.map Sp.key) h n).length (iV (shardsOf (sps.map Sp.key) h n)) ∧ ∀ k, (Value.slice B (shardsOf (sps.map Sp.key) h n).length c').ownBlock = some k → w.heap.size ≤ k := by
  have HR := Lib.hid hR
  have HL := Lib.hid hl
  clear hR hl
  have hmin : min (n : Int) 16 = n := by omega
  obtain ⟨K, hK⟩ : ∃ K, K = sps.map Sp.key := ⟨_, rfl⟩
  rw [← hK]
  have HK := Lib.hid hK
  clear hK
  go_enter Tryd.func25, Tryd.ntmps25
  go_wp2_with fail
  go_loopw [7, 13] (fun v i wr => ∃ (j : Nat) (r : List Int), j ≤ n ∧ i = .int .i64 j ∧ r = shardsOf K h j ∧ Own wr 3 1 v r.length (iV r) ∧ (∀ k, v.ownBlock = some k → w.heap.size ≤ k) ∧ Fresh w wr) (fun _ i _ => n - (intOf i).toNat)
  case atStart => exact ⟨0, [], Nat.zero_le _, rfl, rfl, Own.nil_ _ _ _, fun k hk => by (cases hk), Touch.refl _ _⟩
  case round =>
    obtain ⟨j, r, hj, rfl, hr, hO, hN, hT⟩ := hrel
    have hrl : r.length ≤ 16 := by
      have := shardsOf_len K h j
      rw [← hr] at this
      omega
    have HRR := Lib.hid hr; have HO := Lib.hid hO; have HN := Lib.hid hN; have HT := Lib.hid hT
    obtain ⟨RA, rc, rfl, hr1, hr2, _⟩ := hO.form
    unfold maxLen at hr2
    clear hr hO hN hT
    by_cases hlt : j < n
    · have KA := Lib.hid (host_any bn hv sv hs sps (j : Int) (Lib.decDigits j) (by have := dec_len (n := j) (by omega); omega) wr (HR.out.fresh HT.out) HL.out ((itoa_small j (by omega) wr).mono fun _ _ ⟨he, hw⟩ => ⟨he, by rw [hw]; exact Touch.refl _ _⟩))
      rw [← HK.out] at KA
      rcases hostOf_owns K h j with ⟨x, hx, hiff⟩ | ⟨hx, hno⟩
      · rw [hx] at KA
        have HS := Lib.hid (shardsOf_succ K h j)
        by_cases hxh : x = h
        · have HE := Lib.hid (show shardsOf K h (j + 1) = r ++ [(j : Int)] by rw [HS.out, if_pos (hiff.1 hxh), HRR.out])
          clear hx hiff HS
          go_wp2_with fail
          refine KA.out.mono ?_
          rintro e w5 ⟨rfl, hf5⟩
          have HF5 := Lib.hid (HT.out.trans hf5 fun _ _ => id)
          have HO5 := Lib.hid (HO.out.touch hf5 fun _ _ => id)
          subst hxh
          clear hf5 KA
          go_wp2_with (at_builtin; refine wpList_own_src _ rfl _ _ 36 36 rfl 3 (.int .i64 0) 1 8 Tryd.info3 Tryd.underlying36 rfl (.slice RA r.length rc) r.length (iV r) rfl (HO5.out.alloc _) (iV_one _) (.slice (some ⟨w5.heap.size, 0, none⟩) 1 1) 1 [.int .i64 j] rfl (by exact int_new w5 j) (by unfold maxLen; omega) (by omega) ?_; intro B1 c1 w3 o1 g1 b1; have HO3 := Lib.hid o1; have HB3 := Lib.hid b1; have HT3 := Lib.hid ((HF5.out.alloc _).grown g1 fun k hk => .inl (HN.out k hk)); clear o1 g1 b1)
          go_roundw
          case rel =>
            refine ⟨j + 1, r ++ [(j : Int)], by omega, by go_num, HE.out.symm, ?_, ?_, HT3.out⟩
            · rw [List.length_append, show iV (r ++ [(j : Int)]) = iV r ++ [.int .i64 j] by simp [iV]]
              exact HO3.out
            · intro k hk
              rcases HB3.out with h | h
              · exact HN.out k (h.symm.trans hk)
              · rw [hk, World.size_alloc] at h
                injection h with h
                have := HF5.out.size
                omega
          case measure => simp [intOf] <;> omega
        · have HE := Lib.hid (show shardsOf K h (j + 1) = r by rw [HS.out, if_neg (fun e => hxh (hiff.2 e)), HRR.out])
          clear hx hiff HS
          go_wp2_with fail
          refine KA.out.mono ?_
          rintro e w5 ⟨rfl, hf5⟩
          have HF5 := Lib.hid (HT.out.trans hf5 fun _ _ => id)
          have HO5 := Lib.hid (HO.out.touch hf5 fun _ _ => id)
          clear hf5 KA
          go_wp2_with fail
          go_roundw
          case rel => exact ⟨j + 1, r, by omega, by go_num, HE.out.symm, HO5.out, HN.out, HF5.out⟩
          case measure => simp [intOf] <;> omega
      · rw [hx] at KA
        have HE := Lib.hid (show shardsOf K h (j + 1) = r by rw [shardsOf_succ, hno, HRR.out]; rfl)
        clear hx hno
        go_wp2_with fail
        refine KA.out.mono ?_
        rintro e w5 ⟨rfl, hf5⟩
        have HF5 := Lib.hid (HT.out.trans hf5 fun _ _ => id)
        have HO5 := Lib.hid (HO.out.touch hf5 fun _ _ => id)
        clear hf5 KA
        go_wp2_with fail
        go_roundw
        case rel => exact ⟨j + 1, r, by omega, by go_num, HE.out.symm, HO5.out, HN.out, HF5.out⟩
        case measure => simp [intOf] <;> omega
    · obtain rfl : j = n := by omega
      have HE := HRR.out
      go_wp2_with fail
      go_ret
      exact ⟨HT.out, RA, rc, by rw [← HRR.out]; rfl, by rw [← HRR.out]; exact HO.out, by rw [← HRR.out]; exact HN.out⟩

/-- the sixteen counters -/
def seenC (f : Nat → Nat) : List Value := (List.range 16).map fun x => Value.int .i64 (f x : Int)
def SeenB (w : World) (b : Nat) (f : Nat → Nat) : Prop := Blk w b 50 (seenC f).toArray
def bump (f : Nat → Nat) (x : Nat) (y : Nat) : Nat := if y = x then f y + 1 else f y
theorem seenC_get (f : Nat → Nat) (x : Nat) (hx : x < 16) : (seenC f)[x]? = some (.int .i64 (f x : Int)) := by
  unfold seenC
  rw [List.getElem?_map, List.getElem?_range hx]
  rfl
theorem seenC_len (f : Nat → Nat) : (seenC f).length = 16 := by simp [seenC]
theorem SeenB.cell_ {w : World} {b : Nat} {f : Nat → Nat} (h : SeenB w b f) (x : Nat) (hx : x < 16) : w.cell? ⟨b, x, none⟩ = some (.int .i64 (f x : Int)) := by
  rw [Blk.cell (t := 50) h x, List.getElem?_toArray, seenC_get f x hx]
theorem SeenB.bump_ {w : World} {b : Nat} {f : Nat → Nat} (h : SeenB w b f) (x : Nat) : SeenB (w.setCell ⟨b, x, none⟩ (.int .i64 ((f x : Int) + 1))) b (bump f x) := by
  have h1 := Blk.set_ (t := 50) h x (.int .i64 ((f x : Int) + 1))
  have e : (seenC f).toArray.setIfInBounds x (.int .i64 ((f x : Int) + 1)) = (seenC (bump f x)).toArray := by
    rw [List.setIfInBounds_toArray]
    congr 1
    apply List.ext_getElem?
    intro y
    by_cases hy : y < 16
    · rw [seenC_get _ y hy, List.getElem?_set]
      split
      · rename_i e
        subst e
        rw [if_pos (by rw [seenC_len]; exact hy)]
        simp [bump]
      · rename_i e
        rw [seenC_get f y hy]
        have : ¬ y = x := fun h => e h.symm
        simp [bump, this]
    · rw [List.getElem?_eq_none (by rw [List.length_set, seenC_len]; omega), List.getElem?_eq_none (by rw [seenC_len]; omega)]
  rw [e] at h1
  exact h1
def cntP (K : List Key) (n : Nat) (l : List Int) (x : Nat) : Nat := (l.filter fun h => decide (x < n) && owns K h x).length
theorem cntP_snoc (K : List Key) (n : Nat) (l : List Int) (h : Int) (x : Nat) : cntP K n (l ++ [h]) x = cntP K n l x + (if x < n ∧ owns K h x = true then 1 else 0) := by
  unfold cntP
  rw [List.filter_append, List.length_append]
  congr 1
  rw [List.filter_cons, List.filter_nil]
  by_cases h1 : x < n <;> by_cases h2 : owns K h x = true <;> simp [h1, h2]
/-- how often a shard stands in the beginning of a host's shards -/
def inS (S : List Int) (k : Nat) (x : Nat) : Nat := ((S.take k).filter fun y => y == (x : Int)).length
theorem inS_succ {S : List Int} {k : Nat} {z : Nat} (h : S[k]? = some (z : Int)) (x : Nat) : inS S (k + 1) x = inS S k x + (if x = z then 1 else 0) := by
  unfold inS
  rw [take_snoc h, List.filter_append, List.length_append]
  congr 1
  rw [List.filter_cons, List.filter_nil]
  by_cases e : x = z
  · subst e; simp
  · have : ¬ (z : Int) = (x : Int) := fun h => e (by omega)
    simp [e, this]
theorem inS_all (K : List Key) (h : Int) (x : Nat) : ∀ n : Nat, inS (shardsOf K h n) (shardsOf K h n).length x = if x < n ∧ owns K h x = true then 1 else 0
  | 0 => by simp [inS, shardsOf]
  | n + 1 => by
    have ih := inS_all K h x n
    unfold inS at ih ⊢
    rw [List.take_length] at ih ⊢
    rw [shardsOf_succ]
    cases ho : owns K h n with
    | true =>
      rw [if_pos rfl, List.filter_append, List.length_append, ih, List.filter_cons, List.filter_nil]
      by_cases e : x = n
      · subst e; simp [ho]
      · have h1 : ¬ (n : Int) = (x : Int) := fun h => e (by omega)
        have h2 : (x < n + 1 ∧ owns K h x = true) ↔ (x < n ∧ owns K h x = true) := by constructor <;> (rintro ⟨a, b⟩; exact ⟨by omega, b⟩)
        simp [h1, h2]
    | false =>
      rw [if_neg (by simp), ih]
      by_cases e : x = n
      · subst e; simp [ho]
      · have h2 : (x < n + 1 ∧ owns K h x = true) ↔ (x < n ∧ owns K h x = true) := by constructor <;> (rintro ⟨a, b⟩; exact ⟨by omega, b⟩)
        simp [h2]
theorem shardsOf_mem {K : List Key} {h : Int} {n k : Nat} {y : Int} (e : (shardsOf K h n)[k]? = some y) : ∃ z : Nat, y = z ∧ z < n := by
  have := List.mem_of_getElem? e
  unfold shardsOf at this
  obtain ⟨z, hz, rfl⟩ := List.mem_map.1 this
  exact ⟨z, rfl, List.mem_range.1 (List.mem_filter.1 hz).1⟩
theorem one_nodup {a : Int} : ∀ {l : List Int}, l.Nodup → a ∈ l → (l.filter fun h => a == h).length = 1
  | b :: l, hn, hm => by
    obtain ⟨h1, h2⟩ := List.nodup_cons.1 hn
    rw [List.filter_cons]
    by_cases e : a = b
    · subst e
      have : (l.filter fun h => a == h) = [] := by
        rw [List.filter_eq_nil_iff]
        intro x hx e
        have : a = x := by simpa using e
        exact h1 (this ▸ hx)
      simp [this]
    · have hm' : a ∈ l := by
        rcases List.mem_cons.1 hm with h | h
        · exact absurd h e
        · exact h
      have := one_nodup h2 hm'
      simp [e, this]
theorem parts_one {K : List Key} {al : List Int} {p n x : Nat} (hn : al.Nodup) (pk : K.Perm (spotsOf al p)) (hne : al ≠ []) (hp : 1 ≤ p) (hx : x < n) : cntP K n al x = 1 := by
  obtain ⟨s, hs⟩ := nextK_some (shardP (Lib.decDigits x)) (spots_ne pk hne hp)
  have hm := pk.mem_iff.1 (nextK_mem hs)
  have hin : s.2 ∈ al := by
    unfold spotsOf at hm
    obtain ⟨h, hh, hk⟩ := List.mem_flatMap.1 hm
    obtain ⟨k, _, rfl⟩ := List.mem_map.1 hk
    exact hh
  have e : (fun h => decide (x < n) && owns K h x) = fun h => s.2 == h := by
    funext h
    unfold owns
    rw [hs]
    simp [hx]
  unfold cntP
  rw [e]
  exact one_nodup hn hin
theorem SeenB.touch_ {w w' : World} {b : Nat} {f : Nat → Nat} (h : SeenB w b f) (hf : Fresh w w') : SeenB w' b f := Blk.touch (t := 50) h hf id

set_option maxRecDepth 20000 in
set_option maxHeartbeats 8000000 in
theorem law_parts (A : Option Addr) (c : Nat) (l : List Int) (points shards : Int) (w : World) (h : IsInts w A l.length c l) :
    Calls Tryd.prog 7 #[.slice A l.length c, .int .i64 points, .int .i64 shards] w fun e w' => e = .returned (.bool true) ∧ Fresh w w' := by
  have KW := Lib.hid (fun W => wakes_any W)
  have KH := Lib.hid (hosts_any A c l w h)
  have hok := hostsZ_ok l
  have hlen := hostsZ_len l
  generalize hostsZ l = al at *
  have HOK := Lib.hid hok
  clear h hok
  go_enter Tryd.func7, Tryd.ntmps7
  go_wp2_with fail
  refine KH.out.mono ?_
  rintro e w1 ⟨hf1, B, c1, rfl, ho1, hn1⟩
  have HF1 := Lib.hid hf1; have HO1 := Lib.hid ho1
  obtain ⟨B', c', hB', hc1, hc2, hBA⟩ := ho1.form
  injection hB' with e1 _ e3
  subst e1 e3
  have HBA := Lib.hid hBA
  unfold maxLen at hc2
  clear hf1 ho1 hn1 KH hBA
  have hs1 := Int.emod_nonneg shards (show (17 : Int) ≠ 0 by decide)
  have hs2 := Int.emod_lt_of_pos shards (show (0 : Int) < 17 by decide)
  have KS := Lib.hid (within_any shards 17 w1 (by decide) (by decide))
  generalize shards % 17 = ss at *
  obtain ⟨n, rfl⟩ := Int.eq_ofNat_of_zero_le hs1
  have hq1 := Int.emod_nonneg points (show (64 : Int) ≠ 0 by decide)
  have hq2 := Int.emod_lt_of_pos points (show (0 : Int) < 64 by decide)
  have KP := Lib.hid (within_any points 64 w1 (by decide) (by decide))
  generalize points % 64 = pp at *
  obtain ⟨pn, rfl⟩ := Int.eq_ofNat_of_zero_le hq1
  have hn16 : n ≤ 16 := by omega
  have hwr : IntKind.i64.wrap (1 + (pn : Int)) = 1 + (pn : Int) := IntWalk.i64_in _ (by omega)
  have KN := Lib.hid (new_any B c1 al (1 + (pn : Int)) w1 HO1.out.vs_ (by omega))
  clear hq1 hs1
  go_wp2_with fail
  refine KS.out.mono ?_
  rintro e w2 ⟨hw2, rfl⟩
  rw [hw2]
  clear hw2 w2 KS
  go_wp2_with fail
  refine KP.out.mono ?_
  rintro e w2 ⟨hw2, rfl⟩
  rw [hw2]
  clear hw2 w2 KP
  go_wp2_with fail
  refine KN.out.mono ?_
  intro e w3 hend
  obtain ⟨bn, hv, sv, sps, rfl, hR, hsort, hperm⟩ := hend.1 (okNew_mk HOK.out (by omega) (by omega))
  have htn : (1 + (pn : Int)).toNat = pn + 1 := by omega
  rw [htn] at hperm
  have HR := Lib.hid hR; have HP := Lib.hid hperm
  have HL := Lib.hid (hR.few hperm (by omega) (by omega))
  clear hend hR hsort hperm htn KN
  obtain ⟨K, hK⟩ : ∃ K, K = sps.map Sp.key := ⟨_, rfl⟩
  rw [← hK] at HP
  have HK := Lib.hid hK
  clear hK
  obtain ⟨W4, hW4⟩ : ∃ W4, W4 = w3.alloc (.cells (seenC fun _ => 0).toArray 50) := ⟨_, rfl⟩
  have HF4 := Lib.hid (show Fresh w3 W4 by rw [hW4]; exact (Touch.refl _ w3).alloc _)
  have HS4 := Lib.hid (show SeenB W4 w3.heap.size (cntP K n []) by rw [hW4]; exact Blk.new _ _ _)
  have hW4' : w3.alloc (.cells #[.int .i64 0, .int .i64 0, .int .i64 0, .int .i64 0, .int .i64 0, .int .i64 0, .int .i64 0, .int .i64 0, .int .i64 0, .int .i64 0, .int .i64 0, .int .i64 0, .int .i64 0, .int .i64 0, .int .i64 0, .int .i64 0] 50) = W4 := by rw [hW4]; rfl
  have HW4 := Lib.hid hW4'
  clear hW4 hW4'
  go_wp2_with fail
  rw [HW4.out]
  have HRb := Lib.hid (show ∀ k, rfoot bn hv sv k → k < w3.heap.size from HR.out.rg.lt)
  go_loopw [12] (fun i wr => ∃ j : Nat, j ≤ al.length ∧ i = .int .i64 j ∧ Fresh w3 wr ∧ SeenB wr w3.heap.size (cntP K n (al.take j))) (fun i _ => al.length - (intOf i).toNat)
  case atStart => exact ⟨0, Nat.zero_le _, rfl, HF4.out, HS4.out⟩
  case round =>
    clear HF4 HS4 HW4
    obtain ⟨j, hj, rfl, hf, hsb⟩ := hrel
    have HF := Lib.hid hf; have HSB := Lib.hid hsb
    clear hf hsb
    by_cases hlt : j < al.length
    · obtain ⟨h, hh⟩ : ∃ h, al[j]? = some h := ⟨_, List.getElem?_eq_getElem hlt⟩
      obtain ⟨g, rfl⟩ : ∃ g, B = some ⟨g, 0, none⟩ := by
        rcases HBA.out with ⟨_, h0, _⟩ | hA
        · omega
        · exact hA
      have ch : wr.cell? ⟨g, j, none⟩ = some (.int .i64 h) := by
        refine HF.out.cell (HR.out.fresh.cell ?_ id) id
        rw [HO1.out.cell (j := j) (by omega)]
        simp [iV, hh]
      have HTK := Lib.hid (take_snoc hh)
      have KSH := Lib.hid (shards_any bn hv sv _ sps h n hn16 wr (HR.out.rg.fresh HF.out) HL.out)
      rw [← HK.out] at KSH
      clear hh
      go_wp2_with fail
      refine KSH.out.mono ?_
      rintro e w5 ⟨hf5, D, d', rfl, ho5, hn5⟩
      obtain ⟨S, hS⟩ : ∃ S, S = shardsOf K h n := ⟨_, rfl⟩
      rw [← hS] at ho5 hn5 ⊢
      have HSS := Lib.hid hS
      have hSl : S.length ≤ 16 := by
        have := shardsOf_len K h n
        rw [← hS] at this
        omega
      have HF5 := Lib.hid (HF.out.trans hf5 fun _ _ => id)
      have HSB5 := Lib.hid (HSB.out.touch_ hf5)
      have HO5 := Lib.hid ho5
      have HN5 := Lib.hid (show ∀ q, (Value.slice D S.length d').ownBlock = some q → w3.heap.size < q from fun q hq => Nat.lt_of_lt_of_le (Blk.lt (t := 50) HSB.out) (hn5 q hq))
      obtain ⟨D', dd', hD', hd1, hd2, hDA⟩ := ho5.form
      injection hD' with e1 _ e3
      subst e1 e3
      have HDA := Lib.hid hDA
      unfold maxLen at hd2
      clear hf5 ho5 hn5 KSH hS hDA ch
      go_wp2_with fail
      go_loopw [14] (fun i wr => ∃ k : Nat, k ≤ S.length ∧ i = .int .i64 k ∧ Touch (fun q => q = w3.heap.size) w5 wr ∧ SeenB wr w3.heap.size (fun x => cntP K n (al.take j) x + inS S k x)) (fun i _ => S.length - (intOf i).toNat)
      case atStart => exact ⟨0, Nat.zero_le _, rfl, Touch.refl _ _, HSB5.out⟩
      case round =>
        obtain ⟨k, hk, rfl, ht, hsb⟩ := hrel
        have HT := Lib.hid ht; have HSK := Lib.hid hsb
        clear ht hsb
        by_cases hkl : k < S.length
        · obtain ⟨y, hy⟩ : ∃ y, S[k]? = some y := ⟨_, List.getElem?_eq_getElem hkl⟩
          obtain ⟨z, rfl, hz⟩ := shardsOf_mem (K := K) (h := h) (n := n) (k := k) (by rw [← HSS.out]; exact hy)
          obtain ⟨gd, rfl⟩ : ∃ g, D = some ⟨g, 0, none⟩ := by
            rcases HDA.out with ⟨_, h0, _⟩ | hA
            · omega
            · exact hA
          have cz : wr.cell? ⟨gd, k, none⟩ = some (.int .i64 z) := by
            refine HT.out.cell ?_ (fun e => by have := HN5.out gd rfl; have e : gd = w3.heap.size := e; omega)
            rw [HO5.out.cell (j := k) (by omega)]
            simp [iV, hy]
          have hfz : cntP K n (al.take j) z + inS S k z ≤ 1000 := by
            have h1 : cntP K n (al.take j) z ≤ (al.take j).length := List.length_filter_le _ _
            have h2 : inS S k z ≤ (S.take k).length := List.length_filter_le _ _
            rw [List.length_take] at h1 h2
            omega
          have cs : wr.cell? ⟨w3.heap.size, z, none⟩ = some (.int .i64 ((cntP K n (al.take j) z + inS S k z : Nat) : Int)) := HSK.out.cell_ z (by omega)
          have fs : wr.frozen? ⟨w3.heap.size, z, none⟩ = false := Blk.frozen (t := 50) HSK.out z
          have hbmp := HSK.out.bump_ z
          have hfun : bump (fun x => cntP K n (al.take j) x + inS S k x) z = fun x => cntP K n (al.take j) x + inS S (k + 1) x := by
            funext x
            rw [inS_succ hy]
            unfold bump
            by_cases e : x = z
            · subst e; rw [if_pos rfl, if_pos rfl]; dsimp only; omega
            · rw [if_neg e, if_neg e]; rfl
          rw [hfun] at hbmp
          have HBMP := Lib.hid hbmp
          have HTS := Lib.hid (HT.out.setCell (p := ⟨w3.heap.size, z, none⟩) (.inr rfl) (.int .i64 (((cntP K n (al.take j) z + inS S k z : Nat) : Int) + 1)))
          generalize cntP K n (al.take j) z + inS S k z = fz at *
          have hw1 : IntKind.i64.wrap ((fz : Int) + 1) = (fz : Int) + 1 := IntWalk.i64_in _ (by omega)
          have hz16 : (z : Int) < 16 := by omega
          have hzn : ¬ (n : Int) ≤ (z : Int) := by omega
          clear hbmp hfun hy
          go_wp2_with fail
          go_roundw
          case rel => exact ⟨k + 1, by omega, by go_num, HTS.out, HBMP.out⟩
          case measure => simp [intOf] <;> omega
        · obtain rfl : k = S.length := by omega
          go_wp2_with fail
          go_roundw
          case rel =>
            refine ⟨j + 1, by omega, by go_num, HF5.out.trans HT.out fun i hi e => by have e : i = w3.heap.size := e; omega, ?_⟩
            have := HSK.out
            have hfun : (fun x => cntP K n (al.take j) x + inS S S.length x) = cntP K n (al.take (j + 1)) := by
              funext x
              rw [HTK.out, cntP_snoc, HSS.out, inS_all]
            rw [hfun] at this
            exact this
          case measure => simp [intOf] <;> omega
    · obtain rfl : j = al.length := by omega
      rw [List.take_length] at HSB
      go_wp2_with fail
      go_loopw [15] (fun i wr2 => ∃ x : Nat, x ≤ n ∧ i = .int .i64 x ∧ wr2 = wr) (fun i _ => n - (intOf i).toNat)
      case atStart => exact ⟨0, Nat.zero_le _, rfl, rfl⟩
      case round =>
        obtain ⟨x, hx, rfl, rfl⟩ := hrel
        by_cases hxn : x < n
        · have cx := HSB.out.cell_ x (by omega)
          have hx16 : (x : Int) < 16 := by omega
          by_cases hne : al = []
          · have h0 : cntP K n al x = 0 := by rw [hne]; rfl
            rw [h0] at cx
            have hl0 : al.length = 0 := by rw [hne]; rfl
            clear h0
            subst hne
            go_wp2_with fail
            go_roundw
            case rel => exact ⟨x + 1, by omega, by go_num, by first | rfl | trivial⟩
            case measure => simp [intOf] <;> omega
          · have h1 := parts_one (x := x) HOK.out.1 HP.out hne (by omega) hxn
            rw [h1] at cx
            have hl0 : ¬ al.length = 0 := fun e => hne (List.eq_nil_of_length_eq_zero e)
            have hl1 : (0 : Int) < (al.length : Int) := by omega
            clear h1
            go_wp2_with fail
            go_roundw
            case rel => exact ⟨x + 1, by omega, by go_num, by first | rfl | trivial⟩
            case measure => simp [intOf] <;> omega
        · obtain rfl : x = n := by omega
          go_wp2_with fail
          refine (KW.out _).mono ?_
          rintro e w7 ⟨rfl, hf7⟩
          have HF7 := Lib.hid (((HF1.out.trans HR.out.fresh fun _ _ => id).trans HF.out fun _ _ => id).trans hf7 fun _ _ => id)
          clear hf7 KW
          go_wp2_with fail
          all_goals (go_ret; exact ⟨rfl, HF7.out⟩)
end Go.Proofs.YtnbpmlbhigchnaaDoor
