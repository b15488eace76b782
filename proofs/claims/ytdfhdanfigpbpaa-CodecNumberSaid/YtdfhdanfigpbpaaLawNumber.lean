/- The walk of the law CodecNumber: it answers true. Conditions stand with it. -/
import Derived.Test.YtdfhdanfigpbpaaWakes
import Derived.Test.YtdfhdanfigpbpaaPlain
import Derived.Test.YtdfhdanfigpbpaaReadNum
namespace Go.Proofs.Ytdfhdanfigpbpaa
open Go.RowKit

set_option maxRecDepth 100000 in
set_option maxHeartbeats 8000000 in
theorem law_number (u : Int) (A : Option Addr) (n c : Nat) (xs : List UInt8) (w : World) (hbs : Bs w A n c xs) (hA : ∀ a, A = some a → 0 < n → a.block < w.heap.size) :
    Calls Try.prog 7 #[.int .i64 u, .slice A n c] w fun e w' => e = .returned (.bool true) ∧ Fresh w w' := by
  have HC := Lib.hid (clip_any A n c xs w hbs)
  have HBSO := Lib.hid hbs; have HA := Lib.hid hA
  clear hbs hA
  go_enter Try.func7, Try.ntmps7
  go_wp2_with fail
  refine HC.out.mono ?_
  rintro e w1 ⟨rfl, m, hm1, hm2, rfl, hb⟩
  obtain ⟨zs, hzs⟩ : ∃ zs, zs = xs.take m := ⟨_, rfl⟩
  rw [← hzs] at hb
  have hzl : zs.length = m := hb.1
  have HZL := Lib.hid hzl
  have hab : ∀ a, A = some a → 0 < m → a.block < w1.heap.size := fun a ha h0 => HA.out a ha (by omega)
  have HBSW := Lib.hid hb; have HAB := Lib.hid hab
  have hmc := hb.2.1
  have hcm := hb.2.2.1
  unfold maxLen at hcm
  clear hb hab hzs hzl
  go_wp2_with fail
  refine (numberE_any u w1).mono ?_
  intro e w2 h
  rcases h.cases with ⟨hr, rfl, hf⟩ | ⟨ys, B, cb, hr, rfl, hrow, hnew, hf⟩
  · have HR := Lib.hid hr
    have HF2 := Lib.hid hf
    clear hr hf h
    go_wp2_with fail
    refine (refnumberE_any u w2).mono ?_
    intro e w3 h
    rcases h.cases with ⟨hr3, rfl, hf3⟩ | ⟨ys, B, cb, hr3, rfl, hrow, hnew, hf3⟩
    rotate_left
    · have := HR.out.symm.trans hr3; cases this
    have hcv := run_convert_Bs (P := Try.prog) (w := w3) 24 9 Try.underlying24 Try.underlying5 Try.underlying9 (A := none) (n := 0) (c := 0) (xs := []) ⟨rfl, Nat.le_refl _, by decide, fun h => by omega⟩
    have HWK := Lib.hid (HF2.out.trans hf3 (fun _ _ h => h))
    have HBSK := Lib.hid (HBSW.out.fresh HWK.out)
    clear hr3 hf3 h
    go_wp2_with fail
    refine (readnum_any A m c zs w3 HBSK.out (fun a ha h0 => by have h1 := HAB.out a ha h0; have h2 := HWK.out.size; omega)).mono ?_
    rintro e w4 ⟨hf4, hm4⟩
    have HF4 := Lib.hid (HWK.out.trans hf4 (fun _ _ h => h))
    have HBS4 := Lib.hid (HBSK.out.fresh hf4)
    have HM4 := Lib.hid hm4
    clear hf4 hm4
    obtain ⟨r, hr⟩ : ∃ r, r = Dec.plain zs 0 := ⟨_, rfl⟩
    have hm4 := HM4.out
    rw [← hr] at hm4
    have HD := Lib.hid hr
    cases r with
    | error a =>
      have hm4 : e = .returned (.tuple #[.int .i64 0, .int .i64 (a : Nat), .int .i64 2]) := hm4
      subst hm4
      clear hr HM4
      go_wp2_with fail
      refine (refreadnum_any A m c zs w4 HBS4.out (fun a ha h0 => by have h1 := HAB.out a ha h0; have h2 := HF4.out.size; omega) (by omega)).mono ?_
      rintro e w5 ⟨hf5, hm5⟩
      rw [← HD.out] at hm5
      have hm5 : e = .returned (.tuple #[.int .i64 0, .int .i64 (a : Nat), .int .i64 2]) := hm5
      subst hm5
      have HF5 := Lib.hid (HF4.out.trans hf5 (fun _ _ h => h))
      clear hf5
      go_wp2_with fail
      refine (wakes_any w5).mono ?_
      rintro e w6 ⟨rfl, hf6⟩
      have HF6 := Lib.hid (HF5.out.trans hf6 (fun _ _ h => h))
      clear hf6
      go_wp2_with fail
      go_ret
      exact ⟨rfl, HF6.out⟩
    | ok y =>
      obtain ⟨x, q⟩ := y
      have hm4 : e = .returned (.tuple #[.int .i64 x, .int .i64 (q : Nat), .int .i64 0]) := hm4
      subst hm4
      clear hr HM4
      go_wp2_with fail
      refine (refreadnum_any A m c zs w4 HBS4.out (fun a ha h0 => by have h1 := HAB.out a ha h0; have h2 := HF4.out.size; omega) (by omega)).mono ?_
      rintro e w5 ⟨hf5, hm5⟩
      rw [← HD.out] at hm5
      have hm5 : e = .returned (.tuple #[.int .i64 x, .int .i64 (q : Nat), .int .i64 0]) := hm5
      subst hm5
      have HF5 := Lib.hid (HF4.out.trans hf5 (fun _ _ h => h))
      clear hf5
      go_wp2_with fail
      refine (wakes_any w5).mono ?_
      rintro e w6 ⟨rfl, hf6⟩
      have HF6 := Lib.hid (HF5.out.trans hf6 (fun _ _ h => h))
      clear hf6
      go_wp2_with fail
      go_ret
      exact ⟨rfl, HF6.out⟩
  · have HR := Lib.hid hr
    have HROW := Lib.hid hrow
    have HF2 := Lib.hid hf
    clear hr hf h hrow hnew
    go_wp2_with fail
    refine (refnumberE_any u w2).mono ?_
    intro e w3 h
    rcases h.cases with ⟨hr3, rfl, hf3⟩ | ⟨ys', C, cc, hr3, rfl, hrow3, hnew3, hf3⟩
    · have := HR.out.symm.trans hr3; cases this
    obtain rfl : ys = ys' := Option.some.inj (HR.out.symm.trans hr3)
    have hrowb3 := HROW.out.touch hf3 (fun _ _ => id)
    have hcv := run_convert_Bs (P := Try.prog) 24 9 Try.underlying24 Try.underlying5 Try.underlying9 (Row.bs hrowb3)
    have hcv' := run_convert_Bs (P := Try.prog) 24 9 Try.underlying24 Try.underlying5 Try.underlying9 (Row.bs hrow3)
    have hpl : Enc.plain u = some ys := by have := HR.out; unfold Enc.numberE at this; rwa [Enc.nil0, Enc.nil_cat] at this
    have hsz := Enc.plain_size hpl
    have HPL := Lib.hid hpl
    have HROWB := Lib.hid hrowb3
    have HF3 := Lib.hid (HF2.out.trans hf3 (fun _ _ h => h))
    clear hr3 hf3 h hrowb3 hrow3 hnew3 hpl
    go_wp2_with (first
      | (at_builtin; refine wpList_row_bs _ rfl _ _ 24 rfl Try.info5 Try.underlying24 (.slice (some ⟨w3.heap.size, 0, none⟩) 0 0) [] rfl (Row.lit [] #[] rfl (by simp)) B ys.length cb ys rfl (HROWB.out.bs.alloc _) (by simp only [List.length_nil]; omega) ?_; intro B1 c1 v1 r1 g1 o1; simp only [List.length_nil, Nat.zero_add, List.nil_append] at r1 g1 o1)
      | (at_builtin; go_loud (refine wpList_row_bs _ rfl _ _ 24 rfl Try.info5 Try.underlying24 _ ys rfl r1 A m c zs rfl (HBSW.out.fresh (((HF3.out.alloc _).grown g1 (fun k hk => .inl (by simp only [Value.ownBlock, Option.some.injEq] at hk; have := HF3.out.size; omega))))) (by have := HZL.out; omega) ?_); intro B2 c2 v2 r2 g2 o2))
    have hs3 := HF3.out.size
    have hT1 : Fresh w1 v1 := (HF3.out.alloc _).grown g1 (fun k hk => .inl (by simp only [Value.ownBlock, Option.some.injEq] at hk; omega))
    have hN1 : ∀ k, (Value.slice B1 ys.length c1).ownBlock = some k → w3.heap.size ≤ k := by
      intro k hk
      rcases o1 with h | h
      · rw [h] at hk
        simp only [Value.ownBlock, Option.some.injEq] at hk
        omega
      · rw [h] at hk
        simp only [alloc_size, Option.some.injEq] at hk
        omega
    have hT2 : Fresh w1 v2 := hT1.grown g2 (fun k hk => .inl (by have := hN1 k hk; omega))
    have hlt2 := r2.lt
    have HR2 := Lib.hid r2
    have HT2 := Lib.hid hT2
    have HLT2 := Lib.hid hlt2
    clear o1 o2 g1 g2 r1 r2 hT1 hT2 hN1 hlt2
    have hrd := readnum_any B2 (ys.length + zs.length) c2 (ys ++ zs) v2 (Row.bs (by have := HR2.out; rwa [← List.length_append] at this ⊢)) (fun a ha _ => HLT2.out a.block (by rw [ha]; rfl))
    rw [Plain.plain_enc (raw := ys ++ zs) (p := 0) (post := zs) HPL.out rfl] at hrd
    refine hrd.mono ?_
    rintro e v3 ⟨hf3, he3⟩
    have he3 : e = .returned (.tuple #[.int .i64 u, .int .i64 ((0 + ys.length : Nat) : Int), .int .i64 0]) := he3
    rw [Nat.zero_add] at he3
    subst he3
    have HWK := Lib.hid (HT2.out.trans hf3 (fun _ _ h => h))
    have HBSK := Lib.hid (HBSW.out.fresh HWK.out)
    clear hf3 hrd
    go_wp2_with fail
    refine (readnum_any A m c zs v3 HBSK.out (fun a ha h0 => by have h1 := HAB.out a ha h0; have h2 := HWK.out.size; omega)).mono ?_
    rintro e w4 ⟨hf4, hm4⟩
    have HF4 := Lib.hid (HWK.out.trans hf4 (fun _ _ h => h))
    have HBS4 := Lib.hid (HBSK.out.fresh hf4)
    have HM4 := Lib.hid hm4
    clear hf4 hm4
    obtain ⟨r, hr⟩ : ∃ r, r = Dec.plain zs 0 := ⟨_, rfl⟩
    have hm4 := HM4.out
    rw [← hr] at hm4
    have HD := Lib.hid hr
    cases r with
    | error a =>
      have hm4 : e = .returned (.tuple #[.int .i64 0, .int .i64 (a : Nat), .int .i64 2]) := hm4
      subst hm4
      clear hr HM4
      go_wp2_with fail
      refine (refreadnum_any A m c zs w4 HBS4.out (fun a ha h0 => by have h1 := HAB.out a ha h0; have h2 := HF4.out.size; omega) (by omega)).mono ?_
      rintro e w5 ⟨hf5, hm5⟩
      rw [← HD.out] at hm5
      have hm5 : e = .returned (.tuple #[.int .i64 0, .int .i64 (a : Nat), .int .i64 2]) := hm5
      subst hm5
      have HF5 := Lib.hid (HF4.out.trans hf5 (fun _ _ h => h))
      clear hf5
      go_wp2_with fail
      refine (wakes_any w5).mono ?_
      rintro e w6 ⟨rfl, hf6⟩
      have HF6 := Lib.hid (HF5.out.trans hf6 (fun _ _ h => h))
      clear hf6
      go_wp2_with fail
      go_ret
      exact ⟨rfl, HF6.out⟩
    | ok y =>
      obtain ⟨x, q⟩ := y
      have hm4 : e = .returned (.tuple #[.int .i64 x, .int .i64 (q : Nat), .int .i64 0]) := hm4
      subst hm4
      clear hr HM4
      go_wp2_with fail
      refine (refreadnum_any A m c zs w4 HBS4.out (fun a ha h0 => by have h1 := HAB.out a ha h0; have h2 := HF4.out.size; omega) (by omega)).mono ?_
      rintro e w5 ⟨hf5, hm5⟩
      rw [← HD.out] at hm5
      have hm5 : e = .returned (.tuple #[.int .i64 x, .int .i64 (q : Nat), .int .i64 0]) := hm5
      subst hm5
      have HF5 := Lib.hid (HF4.out.trans hf5 (fun _ _ h => h))
      clear hf5
      go_wp2_with fail
      refine (wakes_any w5).mono ?_
      rintro e w6 ⟨rfl, hf6⟩
      have HF6 := Lib.hid (HF5.out.trans hf6 (fun _ _ h => h))
      clear hf6
      go_wp2_with fail
      go_ret
      exact ⟨rfl, HF6.out⟩
end Go.Proofs.Ytdfhdanfigpbpaa
