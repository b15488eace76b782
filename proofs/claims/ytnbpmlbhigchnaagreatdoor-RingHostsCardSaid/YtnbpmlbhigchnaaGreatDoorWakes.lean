/- The ring's wakes: it answers true. No condition. -/
import Derived.Test.YtnbpmlbhigchnaaGreatDoorHost
namespace Go.Proofs.YtnbpmlbhigchnaaGreatDoor
open Go.RowKit Ieee Go.Sort

theorem FV.same {x y : Nat} {a : Int} (hx : FV x a) (hy : FV y a) (ha : a.natAbs < 2 ^ 53) : FloatKind.f64.format.order x y = some .eq := by
  have := hx.order hy ha ha
  rw [Int.compare_eq_eq.2 rfl] at this
  exact this
theorem wk_keys {K : List Key} (h : K.Perm (spotsOf [0] 4)) (bs : List UInt8) : hostOf K bs = .tuple #[.int .i64 0, .bool true] := by
  have hne : K ≠ [] := by
    intro e
    rw [e] at h
    have := h.length_eq
    rw [spotsOf_len] at this
    simp at this
  obtain ⟨s, hs⟩ := nextK_some (shardP bs) hne
  have hm := h.mem_iff.1 (nextK_mem hs)
  rw [hostOf_some hs]
  simp only [spotsOf, List.flatMap_cons, List.flatMap_nil, List.append_nil, List.mem_map] at hm
  obtain ⟨k, _, rfl⟩ := hm
  rfl
theorem ints_vs (w : World) (x : Int) : Vs (w.alloc (.cells #[.int .i64 x] 3)) 1 (some ⟨w.heap.size, 0, none⟩) 1 1 (iV [x]) := by
  refine ⟨rfl, Nat.le_refl _, by unfold maxLen; omega, fun _ => ⟨w.heap.size, 0, rfl, fun j u hu => ?_⟩⟩
  rw [(Blk.new w 3 #[.int .i64 x]).cell, Nat.zero_add, ← hu]
  simp [iV]
theorem wk_empty : pointZ [] = (16777190, 55) := by decide

set_option maxRecDepth 20000 in
set_option maxHeartbeats 2000000 in
theorem wakes_any (w : World) : Calls Tryz.prog 7 #[] w fun e w' => e = .returned (.bool true) ∧ Fresh w w' := by
  have KN := Lib.hid (new_any (some ⟨w.heap.size, 0, none⟩) 1 [0] 4 (w.alloc (.cells #[.int .i64 0] 3)) (ints_vs w 0) (by decide))
  have hok : okNew [0] 4 = true := by decide
  have KP := Lib.hid (fun W => point_any [] (by decide) W)
  rw [wk_empty] at KP
  have KT := Lib.hid (fun W => turn_any (x := 4613937818241073152) (y := 4616189618054758400) (z := (3, 4)) (.inl (by decide)) (.inl (by decide)) (by decide) W)
  go_enter Tryz.func7, Tryz.ntmps7
  go_wp2_with fail
  refine KN.out.mono ?_
  intro e w1 hend
  obtain ⟨bn, hv, sv, sps, rfl, hRN, hsort, hperm⟩ := hend.1 hok
  have hlen : sps.length = 4 := by
    have := hperm.length_eq
    rw [List.length_map, spotsOf_len] at this
    exact this
  have KH := Lib.hid (host_any bn hv sv _ sps 3 (Lib.decDigits 3) (by rw [Lib.decDigits_one (by decide)]; decide) w1 hRN.rg (by omega) ((itoa_small 3 (by decide) w1).mono fun _ _ ⟨he, hw⟩ => ⟨he, by rw [hw]; exact Touch.refl _ _⟩))
  rw [wk_keys hperm] at KH
  have HF1 := Lib.hid (show Fresh w w1 from ((Touch.refl _ w).alloc _).trans hRN.fresh fun _ _ => id)
  clear hend hRN hsort hperm hlen hok KN
  go_wp2_with fail
  refine KH.out.mono ?_
  rintro e w2 ⟨rfl, hf2⟩
  have HF2 := Lib.hid (HF1.out.trans hf2 fun _ _ => id)
  clear hf2 KH HF1
  go_wp2_with fail
  refine (KP.out _).mono ?_
  rintro e w3 ⟨⟨x, y, rfl, hx, hy⟩, hw3⟩
  rw [hw3]
  have o1 : FloatKind.f64.format.order x 4715268795898265600 = some .eq := hx.same (.inl (by decide)) (by decide)
  have o2 : FloatKind.f64.format.order y 4632937379169042432 = some .eq := hy.same (.inl (by decide)) (by decide)
  clear hw3 w3 KP hx hy
  go_wp2_with fail
  refine (KT.out _).mono ?_
  rintro e w3 ⟨⟨x', y', rfl, hx, hy⟩, hw3⟩
  rw [hw3]
  have o3 : FloatKind.f64.format.order x' 13839561654909534208 = some .eq := hx.same (.inl (by decide)) (by decide)
  have o4 : FloatKind.f64.format.order y' 4613937818241073152 = some .eq := hy.same (.inl (by decide)) (by decide)
  clear hw3 w3 KT hx hy
  go_wp2_with fail
  all_goals (go_ret; exact ⟨rfl, HF2.out⟩)
end Go.Proofs.YtnbpmlbhigchnaaGreatDoor
