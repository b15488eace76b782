/- Shards; the law RingParts, walked. Condition: numbers as an int holds them. -/
import Derived.Test.YtnbpmlbhigchnaaGreatDoorLawM
namespace Go.Proofs.YtnbpmlbhigchnaaGreatDoor
open Go.RowKit

/-- is a shard a host's? -/
def owns (K : List Key) (h : Int) (i : Nat) : Bool := match nextK K (shardP (Lib.decDigits i)) with
  | some s => s.2 == h
  | none => false
def shardsOf (K : List Key) (h : Int) (n : Nat) : List Int := ((List.range n).filter (owns K h)).map fun (i : Nat) => (i : Int)
theorem shardsOf_succ (K : List Key) (h : Int) (n : Nat) : shardsOf K h (n + 1) = if owns K h n then shardsOf K h n ++ [(n : Int)] else shardsOf K h n := by
  unfold shardsOf
  rw [List.range_succ, List.filter_append, List.map_append, List.filter_cons, List.filter_nil]
  cases owns K h n <;> simp
theorem shardsOf_len (K : List Key) (h : Int) (n : Nat) : (shardsOf K h n).length ≤ n := by
  have := List.length_filter_le (owns K h) (List.range n)
  rw [List.length_range] at this
  unfold shardsOf
  rw [List.length_map]
  exact this
theorem hostOf_owns (K : List Key) (h : Int) (i : Nat) : (∃ x : Int, hostOf K (Lib.decDigits i) = .tuple #[.int .i64 x, .bool true] ∧ (x = h ↔ owns K h i = true)) ∨ (hostOf K (Lib.decDigits i) = .tuple #[.int .i64 0, .bool false] ∧ owns K h i = false) := by
  unfold hostOf owns
  cases nextK K (shardP (Lib.decDigits i)) with
  | none => exact .inr ⟨rfl, rfl⟩
  | some s => exact .inl ⟨s.2, rfl, by simp⟩

set_option maxRecDepth 20000 in
set_option maxHeartbeats 4000000 in
theorem shards_any (bn : Nat) (hv sv : Value) (hs : List Int) (sps : List Sp) (h : Int) (n : Nat) (hn : n ≤ 16) (w : World) (hR : RG w bn hv sv hs sps) (hl : sps.length ≤ 1000000000) :
    Calls Tryz.prog 12 #[.pointer (some ⟨bn, 0, none⟩), .int .i64 h, .int .i64 n] w fun e w' => Fresh w w' ∧ ∃ B c', e = .returned (.slice B (shardsOf (sps.map Sp.key) h n).length c') ∧
      Own w' 3 1 (.slice B (shardsOf (sps.map Sp.key) h n).length c') (shardsOf (sps.map Sp.key) h n).length (iV (shardsOf (sps.map Sp.key) h n)) ∧ ∀ k, (Value.slice B (shardsOf (sps.map Sp.key) h n).length c').ownBlock = some k → w.heap.size ≤ k := by
  have HR := Lib.hid hR
  have HL := Lib.hid hl
  clear hR hl
  have hmin : min (n : Int) 16 = n := by omega
  obtain ⟨K, hK⟩ : ∃ K, K = sps.map Sp.key := ⟨_, rfl⟩
  rw [← hK]
  have HK := Lib.hid hK
  clear hK
  go_enter Tryz.func12, Tryz.ntmps12
  go_wp2_with fail
  go_loopw [7, 13] (fun v i wr => ∃ (j : Nat) (r : List Int), j ≤ n ∧ i = .int .i64 j ∧ r = shardsOf K h j ∧ Own wr 3 1 v r.length (iV r) ∧ (∀ k, v.ownBlock = some k → w.heap.size ≤ k) ∧ Fresh w wr) (fun _ i _ => n - (intOf i).toNat)
  case atStart => exact ⟨0, [], Nat.zero_le _, rfl, rfl, Own.nil_ _ _ _, fun k hk => by (cases hk), Touch.refl _ _⟩
  case round =>
    obtain ⟨j, r, hj, rfl, hr, hO, hN, hT⟩ := hrel
    have hrl : r.length ≤ 16 := by
      have := shardsOf_len K h j
      rw [← hr] at this
      omega
    have HRR := Lib.hid hr; have HO := Lib.hid hO; have HN := Lib.hid hN; have HT := Lib.hid hT
    obtain ⟨RA, rc, rfl, hr1, hr2, _⟩ := hO.form
    unfold maxLen at hr2
    clear hr hO hN hT
    by_cases hlt : j < n
    · have KA := Lib.hid (host_any bn hv sv hs sps (j : Int) (Lib.decDigits j) (by have := dec_len (n := j) (by omega); omega) wr (HR.out.fresh HT.out) HL.out ((itoa_small j (by omega) wr).mono fun _ _ ⟨he, hw⟩ => ⟨he, by rw [hw]; exact Touch.refl _ _⟩))
      rw [← HK.out] at KA
      rcases hostOf_owns K h j with ⟨x, hx, hiff⟩ | ⟨hx, hno⟩
      · rw [hx] at KA
        have HS := Lib.hid (shardsOf_succ K h j)
        by_cases hxh : x = h
        · have HE := Lib.hid (show shardsOf K h (j + 1) = r ++ [(j : Int)] by rw [HS.out, if_pos (hiff.1 hxh), HRR.out])
          clear hx hiff HS
          go_wp2_with fail
          refine KA.out.mono ?_
          rintro e w5 ⟨rfl, hf5⟩
          have HF5 := Lib.hid (HT.out.trans hf5 fun _ _ => id)
          have HO5 := Lib.hid (HO.out.touch hf5 fun _ _ => id)
          subst hxh
          clear hf5 KA
          go_wp2_with (at_builtin; refine wpList_own_src _ rfl _ _ 22 22 rfl 3 (.int .i64 0) 1 8 Tryz.info3 Tryz.underlying22 rfl (.slice RA r.length rc) r.length (iV r) rfl (HO5.out.alloc _) (iV_one _) (.slice (some ⟨w5.heap.size, 0, none⟩) 1 1) 1 [.int .i64 j] rfl (by exact int_new w5 j) (by unfold maxLen; omega) (by omega) ?_; intro B1 c1 w3 o1 g1 b1; have HO3 := Lib.hid o1; have HB3 := Lib.hid b1; have HT3 := Lib.hid ((HF5.out.alloc _).grown g1 fun k hk => .inl (HN.out k hk)); clear o1 g1 b1)
          go_roundw
          case rel =>
            refine ⟨j + 1, r ++ [(j : Int)], by omega, by go_num, HE.out.symm, ?_, ?_, HT3.out⟩
            · rw [List.length_append, show iV (r ++ [(j : Int)]) = iV r ++ [.int .i64 j] by simp [iV]]
              exact HO3.out
            · intro k hk
              rcases HB3.out with h | h
              · exact HN.out k (h.symm.trans hk)
              · rw [hk, World.size_alloc] at h
                injection h with h
                have := HF5.out.size
                omega
          case measure => simp [intOf] <;> omega
        · have HE := Lib.hid (show shardsOf K h (j + 1) = r by rw [HS.out, if_neg (fun e => hxh (hiff.2 e)), HRR.out])
          clear hx hiff HS
          go_wp2_with fail
          refine KA.out.mono ?_
          rintro e w5 ⟨rfl, hf5⟩
          have HF5 := Lib.hid (HT.out.trans hf5 fun _ _ => id)
          have HO5 := Lib.hid (HO.out.touch hf5 fun _ _ => id)
          clear hf5 KA
          go_wp2_with fail
          go_roundw
          case rel => exact ⟨j + 1, r, by omega, by go_num, HE.out.symm, HO5.out, HN.out, HF5.out⟩
          case measure => simp [intOf] <;> omega
      · rw [hx] at KA
        have HE := Lib.hid (show shardsOf K h (j + 1) = r by rw [shardsOf_succ, hno, HRR.out]; rfl)
        clear hx hno
        go_wp2_with fail
        refine KA.out.mono ?_
        rintro e w5 ⟨rfl, hf5⟩
        have HF5 := Lib.hid (HT.out.trans hf5 fun _ _ => id)
        have HO5 := Lib.hid (HO.out.touch hf5 fun _ _ => id)
        clear hf5 KA
        go_wp2_with fail
        go_roundw
        case rel => exact ⟨j + 1, r, by omega, by go_num, HE.out.symm, HO5.out, HN.out, HF5.out⟩
        case measure => simp [intOf] <;> omega
    · obtain rfl : j = n := by omega
      have HE := HRR.out
      go_wp2_with fail
      go_ret
      exact ⟨HT.out, RA, rc, by rw [← HRR.out]; rfl, by rw [← HRR.out]; exact HO.out, by rw [← HRR.out]; exact HN.out⟩

/-- the sixteen counters -/
def seenC (f : Nat → Nat) : List Value := (List.range 16).map fun x => Value.int .i64 (f x : Int)
def bump (f : Nat → Nat) (x : Nat) (y : Nat) : Nat := if y = x then f y + 1 else f y
theorem seenC_get (f : Nat → Nat) (x : Nat) (hx : x < 16) : (seenC f)[x]? = some (.int .i64 (f x : Int)) := by
  unfold seenC
  rw [List.getElem?_map, List.getElem?_range hx]
  rfl
theorem seenC_len (f : Nat → Nat) : (seenC f).length = 16 := by simp [seenC]
def cntP (K : List Key) (n : Nat) (l : List Int) (x : Nat) : Nat := (l.filter fun h => decide (x < n) && owns K h x).length
theorem cntP_snoc (K : List Key) (n : Nat) (l : List Int) (h : Int) (x : Nat) : cntP K n (l ++ [h]) x = cntP K n l x + (if x < n ∧ owns K h x = true then 1 else 0) := by
  unfold cntP
  rw [List.filter_append, List.length_append]
  congr 1
  rw [List.filter_cons, List.filter_nil]
  by_cases h1 : x < n <;> by_cases h2 : owns K h x = true <;> simp [h1, h2]
/-- how often a shard stands in the beginning of a host's shards -/
def inS (S : List Int) (k : Nat) (x : Nat) : Nat := ((S.take k).filter fun y => y == (x : Int)).length
theorem inS_succ {S : List Int} {k : Nat} {z : Nat} (h : S[k]? = some (z : Int)) (x : Nat) : inS S (k + 1) x = inS S k x + (if x = z then 1 else 0) := by
  unfold inS
  rw [take_snoc h, List.filter_append, List.length_append]
  congr 1
  rw [List.filter_cons, List.filter_nil]
  by_cases e : x = z
  · subst e; simp
  · have : ¬ (z : Int) = (x : Int) := fun h => e (by omega)
    simp [e, this]
theorem inS_all (K : List Key) (h : Int) (x : Nat) : ∀ n : Nat, inS (shardsOf K h n) (shardsOf K h n).length x = if x < n ∧ owns K h x = true then 1 else 0
  | 0 => by simp [inS, shardsOf]
  | n + 1 => by
    have ih := inS_all K h x n
    unfold inS at ih ⊢
    rw [List.take_length] at ih ⊢
    rw [shardsOf_succ]
    cases ho : owns K h n with
    | true =>
      rw [if_pos rfl, List.filter_append, List.length_append, ih, List.filter_cons, List.filter_nil]
      by_cases e : x = n
      · subst e; simp [ho]
      · have h1 : ¬ (n : Int) = (x : Int) := fun h => e (by omega)
        have h2 : (x < n + 1 ∧ owns K h x = true) ↔ (x < n ∧ owns K h x = true) := by constructor <;> (rintro ⟨a, b⟩; exact ⟨by omega, b⟩)
        simp [h1, h2]
    | false =>
      rw [if_neg (by simp), ih]
      by_cases e : x = n
      · subst e; simp [ho]
      · have h2 : (x < n + 1 ∧ owns K h x = true) ↔ (x < n ∧ owns K h x = true) := by constructor <;> (rintro ⟨a, b⟩; exact ⟨by omega, b⟩)
        simp [h2]
theorem shardsOf_mem {K : List Key} {h : Int} {n k : Nat} {y : Int} (e : (shardsOf K h n)[k]? = some y) : ∃ z : Nat, y = z ∧ z < n := by
  have := List.mem_of_getElem? e
  unfold shardsOf at this
  obtain ⟨z, hz, rfl⟩ := List.mem_map.1 this
  exact ⟨z, rfl, List.mem_range.1 (List.mem_filter.1 hz).1⟩
theorem one_nodup {a : Int} : ∀ {l : List Int}, l.Nodup → a ∈ l → (l.filter fun h => a == h).length = 1
  | b :: l, hn, hm => by
    obtain ⟨h1, h2⟩ := List.nodup_cons.1 hn
    rw [List.filter_cons]
    by_cases e : a = b
    · subst e
      have : (l.filter fun h => a == h) = [] := by
        rw [List.filter_eq_nil_iff]
        intro x hx e
        have : a = x := by simpa using e
        exact h1 (this ▸ hx)
      simp [this]
    · have hm' : a ∈ l := by
        rcases List.mem_cons.1 hm with h | h
        · exact absurd h e
        · exact h
      have := one_nodup h2 hm'
      simp [e, this]
theorem parts_one {K : List Key} {al : List Int} {p n x : Nat} (hn : al.Nodup) (pk : K.Perm (spotsOf al p)) (hne : al ≠ []) (hp : 1 ≤ p) (hx : x < n) : cntP K n al x = 1 := by
  obtain ⟨s, hs⟩ := nextK_some (shardP (Lib.decDigits x)) (spots_ne pk hne hp)
  have hm := pk.mem_iff.1 (nextK_mem hs)
  have hin : s.2 ∈ al := by
    unfold spotsOf at hm
    obtain ⟨h, hh, hk⟩ := List.mem_flatMap.1 hm
    obtain ⟨k, _, rfl⟩ := List.mem_map.1 hk
    exact hh
  have e : (fun h => decide (x < n) && owns K h x) = fun h => s.2 == h := by
    funext h
    unfold owns
    rw [hs]
    simp [hx]
  unfold cntP
  rw [e]
  exact one_nodup hn hin
end Go.Proofs.YtnbpmlbhigchnaaGreatDoor
