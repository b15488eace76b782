/- The law's clip; the laws RingExact and RingShards, walked. Conditions stand with each. -/
import Derived.Test.YtnbpmlbhigchnaaDoorWakes
import Derived.Laws.DeepStrings4
namespace Go.Proofs.YtnbpmlbhigchnaaDoor
open Go.RowKit Ieee Go.Sort

theorem run_convert_Bs {P : Program} {w : World} {A : Option Addr} {n c : Nat} {xs : List UInt8} (src dst : TypeId) (hs : P.underlying src = some (.slice 5)) (he : P.underlying 5 = some (.int .u8)) (hd : P.underlying dst = some .string)
    (h : Bs w A n c xs) : (convert src dst (.slice A n c)).run P w = .ok (.string ⟨xs.toArray⟩) w := by
  have hl := h.1
  have hnil : xs = [] → ∀ ad, (convert src dst (.slice (some ad) n c)).run P w = .ok (.string ⟨xs.toArray⟩) w := by
    intro e ad
    subst e
    have hn : n = 0 := by simpa using hl.symm
    subst hn
    rw [run_convert_bytes_string w src dst _ _ 0 c hs he hd, run_bytesToString w _ 0 c [] (by simp [loadCells, loadCellsFrom])]
    rfl
  rcases Nat.eq_zero_or_pos n with h0 | h0
  · have e : xs = [] := List.eq_nil_of_length_eq_zero (by omega)
    cases A with
    | none =>
      subst e
      exact run_convert_bytes_nil w src 5 hs he n c dst hd
    | some ad => exact hnil e ad
  · obtain ⟨b, o, rfl⟩ := h.at_ h0
    have := run_convert_bytes_arg (P := P) w src 5 hs he b o n c (xs.map fun x => (x.toNat : Int)) (by simpa using hl) (by
      intro i hi
      rw [h.cellAt hi]
      have hi' : i < xs.length := by omega
      simp [List.getD_eq_getElem?_getD, hi']) dst hd
    rw [this]
    congr 2
    simp [strOfNums, Function.comp_def]
theorem bytes_one (w : World) (b : UInt8) : Bs (w.alloc (.cells #[.int .u8 (b.toNat : Int)] 5)) (some ⟨w.heap.size, 0, none⟩) 1 1 [b] := by
  refine ⟨rfl, Nat.le_refl _, by unfold maxLen; omega, fun _ => ⟨w.heap.size, 0, rfl, fun j x hx => ?_⟩⟩
  rw [(Blk.new w 5 #[.int .u8 (b.toNat : Int)]).cell, Nat.zero_add]
  cases j with
  | zero => simp at hx; subst hx; rfl
  | succ j => simp at hx
theorem snoc_bytes (s : List UInt8) (b : UInt8) : ((⟨s.toArray⟩ : ByteArray) ++ ⟨[b].toArray⟩) = ⟨(s ++ [b]).toArray⟩ := by
  apply ByteArray.ext
  simp
theorem take_bytes (s : List UInt8) : (⟨s.toArray⟩ : ByteArray).extract 0 500 = ⟨(s.take 500).toArray⟩ := by
  apply ByteArray.ext
  simp

set_option maxRecDepth 20000 in
theorem clip_any (s : List UInt8) (hs : s.length ≤ maxLen) (w : World) : Calls Tryd.prog 12 #[.string ⟨s.toArray⟩] w fun e w' => e = .returned (.string ⟨(s.take 500).toArray⟩) ∧ w' = w := by
  have hsz : (⟨s.toArray⟩ : ByteArray).size = s.length := rfl
  unfold maxLen at hs
  by_cases h : 500 < s.length
  · have h1 : (500 : Int) ≤ (s.length : Int) := by omega
    have h2 : 500 ≤ s.length := by omega
    have HT := Lib.hid (take_bytes s)
    go_enter Tryd.func12, Tryd.ntmps12
    go_wp2_with fail
    all_goals (go_ret; exact ⟨by first | rfl | (simp [HT.out]), rfl⟩)
  · have HT := Lib.hid (show s.take 500 = s from List.take_of_length_le (by omega))
    have h1 : ¬ (500 : Int) < (s.length : Int) := by omega
    go_enter Tryd.func12, Tryd.ntmps12
    go_wp2_with fail
    all_goals (go_ret; exact ⟨by rw [HT.out]; rfl, rfl⟩)
theorem clip_len (s : List UInt8) : (s.take 500).length ≤ 500 := by rw [List.length_take]; omega

set_option maxRecDepth 20000 in
set_option maxHeartbeats 2000000 in
theorem law_exact (s : List UInt8) (hs : s.length ≤ maxLen) (b : UInt8) (w : World) : Calls Tryd.prog 5 #[.string ⟨s.toArray⟩, .int .u8 (b.toNat : Int)] w fun e w' => e = .returned (.bool true) ∧ Fresh w w' := by
  have KC := Lib.hid (clip_any s hs w)
  have hlen := clip_len s
  generalize s.take 500 = t at *
  have n1 : ¬ 9223372036854775807 < t.length + 1 := by omega
  have kv : ∀ W, (convert 46 9 (.slice (some ⟨(W : World).heap.size, 0, none⟩) 1 1)).run Tryd.prog (W.alloc (.cells #[.int .u8 (b.toNat : Int)] 5)) = .ok (.string ⟨[b].toArray⟩) (W.alloc (.cells #[.int .u8 (b.toNat : Int)] 5)) := fun W => run_convert_Bs _ _ Tryd.underlying46 Tryd.underlying5 Tryd.underlying9 (bytes_one W b)
  have KP := Lib.hid (fun W => point_any (t ++ [b]) (by simp; omega) W)
  have KR := Lib.hid (fun W => refpoint_any (t ++ [b]) (by simp; omega) W)
  have hz := InZ.point (t ++ [b])
  obtain ⟨h1, h2, h3, h4⟩ := hz
  dsimp only [pM] at *
  generalize pointZ (t ++ [b]) = z at *
  have KW := Lib.hid (fun W => wakes_any W)
  clear hs
  go_enter Tryd.func5, Tryd.ntmps5
  go_wp2_with fail
  refine KC.out.mono ?_
  rintro e w1 ⟨rfl, hw1⟩
  rw [hw1]
  clear hw1 w1 KC
  go_wp2_with fail
  rw [snoc_bytes]
  refine (KP.out _).mono ?_
  rintro e w1 ⟨⟨x, y, rfl, hx, hy⟩, hw1⟩
  rw [hw1]
  clear hw1 w1 KP
  have kx : ∀ w, (convert 31 3 (.float .f64 x)).run Tryd.prog w = .ok (.int .i64 z.1) w := fun w => run_convert_float_int w _ _ .f64 .i64 x z.1 (by rw [Tryd.underlying31]; rfl) Tryd.underlying3 (hx.toInt (lt53 (by omega) (by omega)))
  have ky : ∀ w, (convert 31 3 (.float .f64 y)).run Tryd.prog w = .ok (.int .i64 z.2) w := fun w => run_convert_float_int w _ _ .f64 .i64 y z.2 (by rw [Tryd.underlying31]; rfl) Tryd.underlying3 (hy.toInt (lt53 (by omega) (by omega)))
  have o1 : FloatKind.f64.format.order x (floatOfInt .f64 z.1) = some .eq := hx.same (FV.ofInt _) (lt53 (by omega) (by omega))
  have o2 : FloatKind.f64.format.order y (floatOfInt .f64 z.2) = some .eq := hy.same (FV.ofInt _) (lt53 (by omega) (by omega))
  clear hx hy
  obtain ⟨W1, hW1⟩ : ∃ W1, W1 = w.alloc (.cells #[.int .u8 (b.toNat : Int)] 5) := ⟨_, rfl⟩
  have HF1 := Lib.hid (show Fresh w W1 by rw [hW1]; exact (Touch.refl _ w).alloc _)
  rw [← hW1]
  clear hW1
  go_wp2_with fail
  rw [snoc_bytes]
  refine (KR.out _).mono ?_
  rintro e w2 ⟨rfl, hf2⟩
  have HF2 := Lib.hid (show Fresh w w2 from (HF1.out.alloc _).trans hf2 fun _ _ => id)
  clear hf2 KR
  dsimp only [zV]
  go_wp2_with fail
  refine (KW.out _).mono ?_
  rintro e w3 ⟨rfl, hf3⟩
  have HF3 := Lib.hid (show Fresh w w3 from (HF2.out.alloc _).trans hf3 fun _ _ => id)
  clear hf3 KW
  go_wp2_with fail
  all_goals (go_ret; exact ⟨rfl, HF3.out⟩)

/-- a list of texts as a slice's cells hold it -/
def strV (l : List (List UInt8)) : List Value := l.map fun s => .string ⟨s.toArray⟩
theorem shardZ_in (s : List UInt8) (n : Int) : 0 ≤ shardZ s n ∧ (1 ≤ n → shardZ s n < n) := by
  unfold shardZ
  obtain ⟨h1, h2, h3, h4⟩ := InZ.point s
  split
  · exact ⟨Int.le_refl _, fun h => by omega⟩
  · exact ⟨Int.tmod_nonneg n (by omega), fun h => Int.tmod_lt_of_pos _ (by omega)⟩

set_option maxRecDepth 20000 in
set_option maxHeartbeats 2000000 in
theorem law_shards (A : Option Addr) (c : Nat) (l : List (List UInt8)) (n : Int) (w : World) (hv : Vs w 1 A l.length c (strV l)) (hl : ∀ s ∈ l, s.length ≤ maxLen) (hn : n ≤ 9223372036854775807) :
    Calls Tryd.prog 6 #[.slice A l.length c, .int .i64 n] w fun e w' => e = .returned (.bool true) ∧ Fresh w w' := by
  have HV := Lib.hid hv; have HL := Lib.hid hl
  have hlc := hv.2.1
  have hcm := hv.2.2.1
  unfold maxLen at hcm
  clear hv hl
  have KW := Lib.hid (fun W => wakes_any W)
  go_enter Tryd.func6, Tryd.ntmps6
  go_wp2_with fail
  go_loopw [5] (fun i wr => ∃ j : Nat, j ≤ l.length ∧ j ≤ 20 ∧ i = .int .i64 j ∧ Fresh w wr) (fun i _ => 20 - (intOf i).toNat)
  case atStart => exact ⟨0, Nat.zero_le _, Nat.zero_le _, rfl, Touch.refl _ _⟩
  case round =>
    obtain ⟨j, hj, hj2, rfl, hf⟩ := hrel
    have HF := Lib.hid hf
    clear hf
    by_cases hlt : j < l.length
    · by_cases h20 : j < 20
      · obtain ⟨s, hs⟩ : ∃ s, l[j]? = some s := ⟨_, List.getElem?_eq_getElem hlt⟩
        obtain ⟨b, o, rfl⟩ := HV.out.at_ (by omega)
        have cx : wr.cell? ⟨b, o + j, none⟩ = some (.string ⟨s.toArray⟩) := (HV.out.fresh HF.out).cellAt (by simp [strV, hs])
        have KC := Lib.hid (fun W => clip_any s (HL.out s (List.mem_of_getElem? hs)) W)
        have hcl := clip_len s
        clear hs
        generalize s.take 500 = t at *
        have KS := Lib.hid (fun W => shard_any t (by omega) n hn W)
        have KR := Lib.hid (fun W => refshard_any t (by omega) n hn W)
        have hin := shardZ_in t n
        generalize shardZ t n = r at *
        obtain ⟨hr0, hr1⟩ := hin
        have d1 : decide (r < 0) = false := by simp; omega
        have HR1 := Lib.hid hr1
        clear hcl hr1
        go_wp2_with fail
        refine (KC.out _).mono ?_
        rintro e w1 ⟨rfl, hw1⟩
        rw [hw1]
        clear hw1 w1
        go_wp2_with fail
        refine (KS.out _).mono ?_
        rintro e w1 ⟨rfl, hw1⟩
        rw [hw1]
        clear hw1 w1
        go_wp2_with fail
        refine (KC.out _).mono ?_
        rintro e w1 ⟨rfl, hw1⟩
        rw [hw1]
        clear hw1 w1
        go_wp2_with fail
        refine (KR.out _).mono ?_
        rintro e w1 ⟨rfl, hf1⟩
        have HF1 := Lib.hid (HF.out.trans hf1 fun _ _ => id)
        clear hf1 KC KS KR
        by_cases hn1 : 1 ≤ n
        · have hr2 : ¬ n ≤ r := by have := HR1.out hn1; omega
          go_wp2_with fail
          go_roundw
          case rel => exact ⟨j + 1, by omega, by omega, by go_num, HF1.out⟩
          case measure => simp [intOf] <;> omega
        · go_wp2_with fail
          go_roundw
          case rel => exact ⟨j + 1, by omega, by omega, by go_num, HF1.out⟩
          case measure => simp [intOf] <;> omega
      · obtain rfl : j = 20 := by omega
        have h0 : (20 : Int) < (l.length : Int) := by omega
        go_wp2_with fail
        refine (KW.out _).mono ?_
        rintro e w3 ⟨rfl, hf3⟩
        have HF3 := Lib.hid (HF.out.trans hf3 fun _ _ => id)
        clear hf3 KW
        go_wp2_with fail
        all_goals (go_ret; exact ⟨rfl, HF3.out⟩)
    · obtain rfl : j = l.length := by omega
      go_wp2_with fail
      refine (KW.out _).mono ?_
      rintro e w3 ⟨rfl, hf3⟩
      have HF3 := Lib.hid (HF.out.trans hf3 fun _ _ => id)
      clear hf3 KW
      go_wp2_with fail
      all_goals (go_ret; exact ⟨rfl, HF3.out⟩)
end Go.Proofs.YtnbpmlbhigchnaaDoor
