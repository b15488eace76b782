/- keep.Within; the law's hosts. Conditions stand with each. -/
import Derived.Test.YtnbpmlbhigchnaaDoorInts
import Derived.Deep.Cut
namespace Go.Proofs.YtnbpmlbhigchnaaDoor
open Go.RowKit

theorem emod_tmod (i m : Int) (h0 : 0 < m) : i % m = if i.tmod m < 0 then i.tmod m + m else i.tmod m := by
  have h1 := Int.tmod_eq_emod (a := i) (b := m)
  have h2 := Int.emod_nonneg i (show m ≠ 0 by omega)
  have h3 := Int.emod_lt_of_pos i h0
  by_cases h : 0 ≤ i ∨ m ∣ i
  · rw [if_pos h] at h1
    rw [if_neg (by omega)]
    omega
  · rw [if_neg h] at h1
    rw [if_pos (by omega)]
    omega
set_option maxRecDepth 20000 in
theorem within_any (i m : Int) (w : World) (h0 : 0 < m) (h1 : m ≤ 1000) :
    Calls Tryd.prog 20 #[.int .i64 i, .int .i64 m] w fun e w' => w' = w ∧ e = .returned (.int .i64 (i % m)) := by
  have hz : m ≠ 0 := by omega
  have hlt : i.tmod m < m := Int.tmod_lt_of_pos i h0
  have hgt : -m < i.tmod m := by
    have := Int.tmod_lt_of_pos (-i) h0
    rw [Int.neg_tmod] at this
    omega
  have hwr : IntKind.i64.wrap (i.tmod m) = i.tmod m := IntWalk.i64_in _ (by omega)
  have HEM := Lib.hid (emod_tmod i m h0)
  by_cases hn : i.tmod m < 0
  · have hwa : IntKind.i64.wrap (i.tmod m + m) = i.tmod m + m := IntWalk.i64_in _ (by omega)
    go_enter Tryd.func20, Tryd.ntmps20
    go_wp2_with fail
    go_ret
    have h2 := HEM.out
    rw [if_pos hn] at h2
    rw [h2]
    exact ⟨rfl, rfl⟩
  · go_enter Tryd.func20, Tryd.ntmps20
    go_wp2_with fail
    go_ret
    have h2 := HEM.out
    rw [if_neg (by omega)] at h2
    rw [h2]
    exact ⟨rfl, rfl⟩

/-- the law's hosts: each once, in range, out of the first twelve -/
def addH (out : List Int) (x : Int) : List Int := if out.contains (x % 16) then out else out ++ [x % 16]
def hostsZ (l : List Int) : List Int := (l.take 12).foldl addH []
theorem addH_ok {out : List Int} {x : Int} (h : out.Nodup ∧ out.all okHost = true) : (addH out x).Nodup ∧ (addH out x).all okHost = true := by
  unfold addH
  split
  · exact h
  · rename_i hc
    refine ⟨?_, ?_⟩
    · rw [List.nodup_append]
      refine ⟨h.1, by simp, ?_⟩
      intro a ha b hb e
      simp only [List.mem_cons, List.not_mem_nil, or_false] at hb
      rw [e, hb] at ha
      exact hc (by simpa using ha)
    · rw [List.all_append, h.2]
      have h1 := Int.emod_nonneg x (show (16 : Int) ≠ 0 by decide)
      have h2 := Int.emod_lt_of_pos x (show (0 : Int) < 16 by decide)
      simp [okHost, h1, h2]
theorem fold_ok (l : List Int) : ∀ out : List Int, (out.Nodup ∧ out.all okHost = true) → ((l.foldl addH out).Nodup ∧ (l.foldl addH out).all okHost = true) := by
  induction l with
  | nil => exact fun _ h => h
  | cons x l ih => exact fun out h => ih _ (addH_ok h)
theorem hostsZ_ok (l : List Int) : (hostsZ l).Nodup ∧ (hostsZ l).all okHost = true := fold_ok _ _ ⟨List.nodup_nil, rfl⟩
theorem addH_len (out : List Int) (x : Int) : (addH out x).length ≤ out.length + 1 := by
  unfold addH
  split
  · omega
  · simp
theorem fold_len (l : List Int) : ∀ out : List Int, (l.foldl addH out).length ≤ out.length + l.length := by
  induction l with
  | nil => simp
  | cons x l ih =>
    intro out
    have h1 := ih (addH out x)
    have h2 := addH_len out x
    rw [List.foldl_cons, List.length_cons]
    omega
theorem hostsZ_len (l : List Int) : (hostsZ l).length ≤ 12 := by
  have := fold_len (l.take 12) []
  unfold hostsZ
  rw [List.length_take, List.length_nil] at this
  omega

set_option maxRecDepth 20000 in
set_option maxHeartbeats 4000000 in
theorem hosts_any (A : Option Addr) (c : Nat) (l : List Int) (w : World) (h : IsInts w A l.length c l) :
    Calls Tryd.prog 19 #[.slice A l.length c] w fun e w' => Fresh w w' ∧ ∃ B c', e = .returned (.slice B (hostsZ l).length c') ∧ Own w' 3 1 (.slice B (hostsZ l).length c') (hostsZ l).length (iV (hostsZ l)) ∧ ∀ k, (Value.slice B (hostsZ l).length c').ownBlock = some k → w.heap.size ≤ k := by
  have hlc := h.2.1
  have hcm := h.2.2.1
  unfold maxLen at hcm
  have HI := Lib.hid h
  clear h
  go_enter Tryd.func19, Tryd.ntmps19
  go_wp2_with fail
  go_loopw [3, 4] (fun v i wr => ∃ (j : Nat) (out : List Int), j ≤ l.length ∧ j ≤ 12 ∧ i = .int .i64 j ∧ out = (l.take j).foldl addH [] ∧ Own wr 3 1 v out.length (iV out) ∧ (∀ k, v.ownBlock = some k → w.heap.size ≤ k) ∧ Fresh w wr) (fun _ i _ => 12 - (intOf i).toNat)
  case atStart => exact ⟨0, [], Nat.zero_le _, Nat.zero_le _, rfl, rfl, Own.nil_ _ _ _, fun k hk => by (cases hk), Touch.refl _ _⟩
  case round =>
    obtain ⟨j, out, hj, hj2, rfl, hout, hO, hN, hT⟩ := hrel
    have HOUT := Lib.hid hout; have HO := Lib.hid hO; have HN := Lib.hid hN; have HT := Lib.hid hT
    have hol : out.length ≤ 12 := by
      have := fold_len (l.take j) []
      rw [← hout, List.length_take, List.length_nil] at this
      omega
    obtain ⟨OA, oc, rfl, ho1, ho2, hOA⟩ := hO.form
    have HOA := Lib.hid hOA
    unfold maxLen at ho2
    clear hout hO hN hT hOA
    by_cases hlt : j < l.length
    · by_cases h12 : j < 12
      · obtain ⟨x, hx⟩ : ∃ x, l[j]? = some x := ⟨_, List.getElem?_eq_getElem hlt⟩
        obtain ⟨b, o, rfl, hc⟩ := HI.out.2.2.2 (by omega)
        have cx : wr.cell? ⟨b, o + j, none⟩ = some (.int .i64 x) := HT.out.cell (hc j x hx) id
        have HTK := Lib.hid (take_snoc hx)
        have KW := Lib.hid (within_any x 16 wr (by decide) (by decide))
        clear hc hx
        go_wp2_with fail
        refine KW.out.mono ?_
        rintro e w1 ⟨hw1, rfl⟩
        rw [hw1]
        clear hw1 w1 KW cx
        obtain ⟨y, hy⟩ : ∃ y, y = x % 16 := ⟨_, rfl⟩
        rw [← hy]
        have HY := Lib.hid hy
        clear hy
        go_wp2_with fail
        go_loop [6, 7] (fun th i => ∃ k : Nat, k ≤ out.length ∧ i = .int .i64 k ∧ th = .bool ((out.take k).contains y)) (fun _ i => out.length - (intOf i).toNat)
        case atStart => exact ⟨0, Nat.zero_le _, rfl, by simp⟩
        case round =>
          obtain ⟨k, hk, rfl, rfl⟩ := hrel
          by_cases hkl : k < out.length
          · obtain ⟨g, rfl⟩ : ∃ g, OA = some ⟨g, 0, none⟩ := by
              rcases HOA.out with ⟨_, h0, _⟩ | hA
              · omega
              · exact hA
            obtain ⟨z, hz⟩ : ∃ z, out[k]? = some z := ⟨_, List.getElem?_eq_getElem hkl⟩
            have cz : wr.cell? ⟨g, k, none⟩ = some (.int .i64 z) := by
              rw [HO.out.cell (j := k) (by omega)]
              simp [iV, hz]
            have HTZ := Lib.hid (take_snoc hz)
            clear hz
            cases hct : (out.take k).contains y with
            | true =>
              have HE := Lib.hid (show (out.take (k + 1)).contains y = true by
                rw [HTZ.out]
                have : y ∈ out.take k := by simpa using hct
                simp [this])
              clear hct
              go_wp2_with fail
              go_round
              case rel => exact ⟨k + 1, by omega, by go_num, by rw [HE.out]⟩
              case measure => simp [intOf] <;> omega
            | false =>
              have HE := Lib.hid (show (out.take (k + 1)).contains y = decide (z = y) by
                rw [HTZ.out]
                have h1 : y ∉ out.take k := by
                  intro hm
                  have : (out.take k).contains y = true := by simpa using hm
                  rw [hct] at this
                  cases this
                rw [List.contains_eq_mem]
                simp only [List.mem_append, h1, false_or, List.mem_cons, List.not_mem_nil, or_false]
                exact decide_eq_decide.2 ⟨fun h => h.symm, fun h => h.symm⟩)
              clear hct
              go_wp2_with fail
              go_round
              case rel => exact ⟨k + 1, by omega, by go_num, by rw [HE.out]; rfl⟩
              case measure => simp [intOf] <;> omega
          · obtain rfl : k = out.length := by omega
            rw [List.take_length]
            cases hct : out.contains y with
            | true =>
              have HE := Lib.hid (show addH out x = out by unfold addH; rw [← HY.out, if_pos hct])
              clear hct
              go_wp2_with fail
              go_roundw
              case rel => exact ⟨j + 1, out, by omega, by omega, by go_num, by rw [HTK.out, List.foldl_append, ← HOUT.out, List.foldl_cons, List.foldl_nil, HE.out], HO.out, HN.out, HT.out⟩
              case measure => simp [intOf] <;> omega
            | false =>
              have HE := Lib.hid (show addH out x = out ++ [y] by unfold addH; rw [← HY.out, if_neg (by rw [hct]; simp)])
              clear hct
              go_wp2_with (at_builtin; refine wpList_own_src _ rfl _ _ 36 36 rfl 3 (.int .i64 0) 1 8 Tryd.info3 Tryd.underlying36 rfl (.slice OA out.length oc) out.length (iV out) rfl (HO.out.alloc _) (iV_one _) (.slice (some ⟨wr.heap.size, 0, none⟩) 1 1) 1 [.int .i64 y] rfl (by exact int_new wr y) (by unfold maxLen; omega) (by omega) ?_; intro B1 c1 w1 o1 g1 b1; have HO1 := Lib.hid o1; have HB1 := Lib.hid b1; have HT1 := Lib.hid ((HT.out.alloc _).grown g1 fun k hk => .inl (HN.out k hk)); clear o1 g1 b1)
              go_roundw
              case rel =>
                refine ⟨j + 1, out ++ [y], by omega, by omega, by go_num, by rw [HTK.out, List.foldl_append, ← HOUT.out, List.foldl_cons, List.foldl_nil, HE.out], ?_, ?_, HT1.out⟩
                · rw [List.length_append, show iV (out ++ [y]) = iV out ++ [.int .i64 y] by simp [iV]]
                  exact HO1.out
                · intro k hk
                  rcases HB1.out with h | h
                  · exact HN.out k (h.symm.trans hk)
                  · rw [hk, World.size_alloc] at h
                    injection h with h
                    have := HT.out.size
                    omega
              case measure => simp [intOf] <;> omega
      · obtain rfl : j = 12 := by omega
        have h0 : (12 : Int) < (l.length : Int) := by omega
        have HE := Lib.hid (show hostsZ l = out from HOUT.out.symm)
        go_wp2_with fail
        go_ret
        exact ⟨HT.out, OA, oc, by rw [HE.out]; rfl, by rw [HE.out]; exact HO.out, by rw [HE.out]; exact HN.out⟩
    · obtain rfl : j = l.length := by omega
      have HE := Lib.hid (show hostsZ l = out by rw [HOUT.out, List.take_length]; unfold hostsZ; rw [List.take_of_length_le hj2])
      go_wp2_with fail
      go_ret
      exact ⟨HT.out, OA, oc, by rw [HE.out]; rfl, by rw [HE.out]; exact HO.out, by rw [HE.out]; exact HN.out⟩
end Go.Proofs.YtnbpmlbhigchnaaDoor
