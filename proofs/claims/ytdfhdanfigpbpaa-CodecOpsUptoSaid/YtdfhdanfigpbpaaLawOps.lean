/- The walk of the law CodecOps: it answers true (printed by gen_lawl.py). Conditions stand with it. -/
import Derived.Test.YtdfhdanfigpbpaaWakes
import Derived.Test.YtdfhdanfigpbpaaLawEvent
import Derived.Test.YtdfhdanfigpbpaaOpsR
import Derived.Test.YtdfhdanfigpbpaaOpsRr
import Derived.Test.YtdfhdanfigpbpaaOpsK
namespace Go.Proofs.Ytdfhdanfigpbpaa
open Go.RowKit

theorem opsAll_inv : ∀ {l : List Dec.Op} {ys : List UInt8}, Enc.catAll (l.map Enc.op) = some ys → l.length ≤ ys.length ∧ ys.length ≤ l.length * 2097200 ∧ ∀ o ∈ l, o.k.length ≤ 1048576 ∧ o.v.length ≤ 1048576
  | [], ys, h => by
    simp only [List.map_nil, Enc.catAll, Option.some.injEq] at h
    subst h
    exact ⟨Nat.le_refl _, Nat.zero_le _, fun o ho => by cases ho⟩
  | x :: l, ys, h => by
    simp only [List.map_cons, Enc.catAll] at h
    obtain ⟨y1, y2, h1, h2, rfl⟩ := Plain.cat_inv h
    obtain ⟨i1, i2, i3⟩ := opsAll_inv h2
    unfold Enc.op at h1
    obtain ⟨z1, z3, g1, g3, rfl⟩ := Plain.cat_inv h1
    obtain ⟨z0, z2, g0, g2, rfl⟩ := Plain.cat_inv g1
    simp only [Enc.flag, Option.some.injEq] at g2
    subst g2
    have t0 := text_len g0
    have s0 := text_size g0
    have hv : x.v.length ≤ 1048576 ∧ z3.length ≤ 1048584 := by
      split at g3
      · split at g3
        · rename_i hv
          injection g3 with g3
          subst g3
          rw [hv]
          simp
        · cases g3
      · exact ⟨(text_len g3).2, text_size g3⟩
    refine ⟨?_, ?_, ?_⟩
    · simp only [List.length_append, List.length_cons, List.length_nil]; omega
    · simp only [List.length_append, List.length_cons, List.length_nil]; omega
    · intro o ho
      rcases List.mem_cons.1 ho with rfl | ho
      · exact ⟨t0.2, hv.1⟩
      · exact i3 o ho
theorem ops_inv {l : List Dec.Op} {ys : List UInt8} (h : Enc.ops l = some ys) : l.length ≤ ys.length ∧ ys.length ≤ 8 + l.length * 2097200 ∧ ∀ o ∈ l, o.k.length ≤ 1048576 ∧ o.v.length ≤ 1048576 := by
  obtain ⟨y1, y2, h1, h2, rfl⟩ := Plain.cat_inv h
  obtain ⟨i1, i2, i3⟩ := opsAll_inv h2
  have := Enc.plain_size h1
  refine ⟨?_, ?_, i3⟩
  · rw [List.length_append]; omega
  · rw [List.length_append]; omega

set_option maxRecDepth 100000 in
set_option maxHeartbeats 8000000 in
theorem law_ops (X : Option Addr) (nx cx : Nat) (l : List Dec.Op) (A : Option Addr) (n c : Nat) (xs : List UInt8) (w : World) (hvx : Vs w 3 X nx cx (opsV l)) (hX : ∀ a, X = some a → 0 < nx → a.block < w.heap.size) (hnx : nx ≤ 1048576)
    (hsx : ∀ o ∈ l, o.k.length ≤ 1048576 ∧ o.v.length ≤ 1048576) (hbs : Bs w A n c xs) (hA : ∀ a, A = some a → 0 < n → a.block < w.heap.size) :
    Calls Try.prog 8 #[.slice X nx cx, .slice A n c] w fun e w' => e = .returned (.bool true) ∧ Fresh w w' := by
  have hlx : l.length = nx := by have := hvx.1; rw [opsV_length] at this; omega
  have HC := Lib.hid (clip_any A n c xs w hbs)
  have HBSO := Lib.hid hbs; have HA := Lib.hid hA; have HX := Lib.hid hX; have HVX := Lib.hid hvx; have HSX := Lib.hid hsx
  have hsm : ∀ o ∈ l, o.k.length ≤ maxLen ∧ o.v.length ≤ maxLen := fun o ho => by have := hsx o ho; unfold maxLen; omega
  have HSM := Lib.hid hsm
  have hXN : ∀ (wx : World), Fresh w wx → ∀ a, X = some a → 0 < nx → a.block < wx.heap.size := fun wx h a ha h0 => by have := hX a ha h0; have := h.size; omega
  have HXN := Lib.hid hXN
  clear hbs hA hX hvx hsx hsm hXN
  go_enter Try.func8, Try.ntmps8
  go_wp2_with fail
  refine HC.out.mono ?_
  rintro e w1 ⟨rfl, m, hm1, hm2, rfl, hb⟩
  obtain ⟨zs, hzs⟩ : ∃ zs, zs = xs.take m := ⟨_, rfl⟩
  rw [← hzs] at hb
  have hzl : zs.length = m := hb.1
  have HZL := Lib.hid hzl
  have hbw : Bs w1 A m c zs := by rw [hzs]; exact HBSO.out.take hm1
  have hab : ∀ a, A = some a → 0 < m → a.block < w1.heap.size := fun a ha h0 => HA.out a ha (by omega)
  have HBSW := Lib.hid hbw; have HAB := Lib.hid hab
  clear hb hbw hab hzs hzl
  go_wp2_with fail
  refine (ops_any X nx cx l w1 HVX.out HX.out hnx HSM.out).mono ?_
  intro e w2 h
  rcases h.cases with ⟨hr, rfl, hf⟩ | ⟨ys, B, cb, hr, rfl, hrow, hnew, hf⟩
  · have HR := Lib.hid hr
    have HF2 := Lib.hid hf
    clear hr hf h
    go_wp2_with fail
    refine (refops_any X nx cx l w2 (HVX.out.fresh HF2.out) (HXN.out _ HF2.out) hnx HSX.out).mono ?_
    intro e w3 h
    rcases h.cases with ⟨hr3, rfl, hf3⟩ | ⟨ys, B, cb, hr3, rfl, hrow, hnew, hf3⟩
    rotate_left
    · have := HR.out.symm.trans hr3; cases this
    have hcv := run_convert_Bs (P := Try.prog) (w := w3) 24 9 Try.underlying24 Try.underlying5 Try.underlying9 (A := none) (n := 0) (c := 0) (xs := []) ⟨rfl, Nat.le_refl _, by decide, fun h => by omega⟩
    have HWK := Lib.hid (HF2.out.trans hf3 (fun _ _ h => h))
    have HBSK := Lib.hid (HBSW.out.fresh HWK.out)
    clear hr3 hf3 h
    go_wp2_with fail
    refine (lend_any A m c zs w3 HBSK.out (by omega)).mono ?_
    rintro e w4 ⟨hf4, L, cl, rfl, hl4, hnl⟩
    have hlt4 : ∀ a, L = some a → a.block < w4.heap.size := fun a ha => hl4.2.lt a.block (by rw [ha]; rfl)
    have hwk := HWK.out.size
    have HF4 := Lib.hid (HWK.out.trans hf4 (fun _ _ h => h))
    have HL4 := Lib.hid hl4
    have HNL := Lib.hid hnl
    have HLT4 := Lib.hid hlt4
    have HBS4 := Lib.hid (HBSK.out.fresh hf4)
    clear hf4 hl4 hnl hlt4
    go_wp2_with fail
    refine (ops_read L m cl zs w4 HL4.out.bs (fun a ha _ => HLT4.out a ha) (by omega)).mono ?_
    intro e w5 h
    rcases h.cases with ⟨a, hr5, rfl, hf5⟩ | ⟨l5, D, cd5, hr5, rfl, hv5, ho5, hf5⟩
    · have HR5 := Lib.hid hr5
      have HF45 := Lib.hid hf5
      have hs45 := hf5.size
      clear hf5 h hr5
      go_wp2_with fail
      refine (refops_read A m c zs w5 (HBS4.out.fresh HF45.out) (fun a ha h0 => by have h1 := HAB.out a ha h0; have h2 := HF4.out.size; have h3 := HF45.out.size; omega) (by omega)).mono ?_
      intro e w6 h
      rcases h.cases with ⟨a', hr6, rfl, hf6⟩ | ⟨l6, D6, cd6, hr6, rfl, hv6, ho6, hf6⟩
      rotate_left
      · have := HR5.out.symm.trans hr6; cases this
      obtain rfl : a = a' := by have := HR5.out.symm.trans hr6; injection this
      have HF46 := Lib.hid (HF45.out.trans hf6 (fun _ _ h => h))
      have hs56 := hf6.size
      clear hf6 h hr6
      go_wp2_with fail
      have hl6 : Lent w6 L m cl zs := ⟨HL4.out.1, HL4.out.2.touch HF46.out (fun _ _ => id)⟩
      refine (intact_any A L m c cl zs w6 (HBS4.out.fresh HF46.out) hl6 (by omega)).mono ?_
      rintro e w7 ⟨rfl, ht7⟩
      have hown : ∀ q, (Value.slice L m cl).ownBlock = some q → q < w4.heap.size ∧ w1.heap.size ≤ q := by
        intro q hq
        cases L with
        | none => cases hq
        | some a => simp only [Value.ownBlock, Option.some.injEq] at hq; have h1 := HLT4.out a rfl; have h2 := HNL.out a rfl; omega
      have HF7 := Lib.hid (show Fresh w1 w7 from (HF4.out.trans HF46.out (fun _ _ h => h)).trans ht7 (fun i hi hs => by have := hown i hs; omega))
      have hnot : ∀ (x : Bool) (w : World), (Op.unary .not (.bool x)).run Try.prog w = .ok (.bool (!x)) w := fun _ _ => rfl
      clear ht7 hl6 hown
      go_wp2_with fail
      refine (keepops_any none none 0 0 0 [] w7 (VRow.rd (VRow.nil_ w7 114 3)) (VRow.rd (VRow.nil_ w7 114 3)) (by omega)).mono ?_
      rintro e w8 ⟨rfl, hf8⟩
      have HF8 := Lib.hid (HF7.out.trans hf8 (fun _ _ h => h))
      clear hf8
      go_wp2_with fail
      refine (wakes_any w8).mono ?_
      rintro e w9 ⟨rfl, hf9⟩
      have HF9 := Lib.hid (HF8.out.trans hf9 (fun _ _ h => h))
      clear hf9
      go_wp2_with fail
      go_ret
      exact ⟨rfl, HF9.out⟩
    · have HR5 := Lib.hid hr5
      have HF45 := Lib.hid hf5
      have hs45 := hf5.size
      have HV5 := Lib.hid hv5
      have HO5 := Lib.hid ho5
      clear hv5 ho5
      clear hf5 h hr5
      go_wp2_with fail
      refine (refops_read A m c zs w5 (HBS4.out.fresh HF45.out) (fun a ha h0 => by have h1 := HAB.out a ha h0; have h2 := HF4.out.size; have h3 := HF45.out.size; omega) (by omega)).mono ?_
      intro e w6 h
      rcases h.cases with ⟨a, hr6, rfl, hf6⟩ | ⟨l6, D6, cd6, hr6, rfl, hv6, ho6, hf6⟩
      · have := HR5.out.symm.trans hr6; cases this
      obtain rfl : l5 = l6 := by have := HR5.out.symm.trans hr6; injection this
      have HV6 := Lib.hid hv6
      have HV56 := Lib.hid (HV5.out.touch hf6 (fun _ _ => id))
      have HO6 := Lib.hid ho6
      clear hv6 ho6
      have HF46 := Lib.hid (HF45.out.trans hf6 (fun _ _ h => h))
      have hs56 := hf6.size
      clear hf6 h hr6
      go_wp2_with fail
      have hl6 : Lent w6 L m cl zs := ⟨HL4.out.1, HL4.out.2.touch HF46.out (fun _ _ => id)⟩
      refine (intact_any A L m c cl zs w6 (HBS4.out.fresh HF46.out) hl6 (by omega)).mono ?_
      rintro e w7 ⟨rfl, ht7⟩
      have hown : ∀ q, (Value.slice L m cl).ownBlock = some q → q < w4.heap.size ∧ w1.heap.size ≤ q := by
        intro q hq
        cases L with
        | none => cases hq
        | some a => simp only [Value.ownBlock, Option.some.injEq] at hq; have h1 := HLT4.out a rfl; have h2 := HNL.out a rfl; omega
      have HF7 := Lib.hid (show Fresh w1 w7 from (HF4.out.trans HF46.out (fun _ _ h => h)).trans ht7 (fun i hi hs => by have := hown i hs; omega))
      have HV57 := Lib.hid (HV56.out.touch ht7 (fun k hk hs => by have h1 := hown k hs; have h2 := HO5.out k hk; omega))
      have HV67 := Lib.hid (HV6.out.touch ht7 (fun k hk hs => by have h1 := hown k hs; have h2 := HO6.out k hk; omega))
      have hnot : ∀ (x : Bool) (w : World), (Op.unary .not (.bool x)).run Try.prog w = .ok (.bool (!x)) w := fun _ _ => rfl
      clear ht7 hl6 hown
      go_wp2_with fail
      have hback : Enc.ops l5 = some zs := Plain.ops_back (by rw [HZL.out]; exact HR5.out)
      have hlen := ops_inv hback
      have HBACK := Lib.hid hback
      have HLEN := Lib.hid hlen
      clear hback hlen
      have hl5 : l5.length ≤ m := by have := HLEN.out.1; have := HZL.out; omega
      refine (keepops_any D D6 l5.length cd5 cd6 l5 w7 (VRow.rd HV57.out) (VRow.rd HV67.out) (by omega)).mono ?_
      rintro e w8 ⟨rfl, hf8⟩
      have HF8 := Lib.hid (HF7.out.trans hf8 (fun _ _ h => h))
      have HV58 := Lib.hid (HV57.out.touch hf8 (fun _ _ => id))
      clear hf8
      go_wp2_with fail
      refine (ops_any D l5.length cd5 l5 w8 (VRow.rd HV58.out) (fun a ha _ => HV58.out.lt a.block (by rw [ha]; rfl)) (by omega) (fun o ho => by have := HLEN.out.2.2 o ho; unfold maxLen; omega)).mono ?_
      intro e w9 h
      rcases h.cases with ⟨hr9, _⟩ | ⟨ys9, B9, c9, hr9, rfl, hrow9, _, hf9⟩
      · have := HBACK.out.symm.trans hr9; cases this
      obtain rfl : zs = ys9 := Option.some.inj (HBACK.out.symm.trans hr9)
      have hcv9 := run_convert_Bs (P := Try.prog) 24 9 Try.underlying24 Try.underlying5 Try.underlying9 (Row.bs hrow9)
      have hcv9' := run_convert_Bs (P := Try.prog) 24 9 Try.underlying24 Try.underlying5 Try.underlying9 (HBSW.out.fresh (HF8.out.trans hf9 (fun _ _ h => h)))
      have HF9 := Lib.hid (HF8.out.trans hf9 (fun _ _ h => h))
      clear hrow9 hf9 hr9 h
      go_wp2_with fail
      refine (wakes_any w9).mono ?_
      rintro e w10 ⟨rfl, hf10⟩
      have HF10 := Lib.hid (HF9.out.trans hf10 (fun _ _ h => h))
      clear hf10
      go_wp2_with fail
      go_ret
      exact ⟨rfl, HF10.out⟩
  · have HR := Lib.hid hr
    have HROW := Lib.hid hrow
    have HNEW := Lib.hid hnew
    have HF2 := Lib.hid hf
    have hys := ops_inv hr
    clear hr hf h hrow hnew
    go_wp2_with fail
    refine (refops_any X nx cx l w2 (HVX.out.fresh HF2.out) (HXN.out _ HF2.out) hnx HSX.out).mono ?_
    intro e w3 h
    rcases h.cases with ⟨hr3, rfl, hf3⟩ | ⟨ys', C, cc, hr3, rfl, hrow3, hnew3, hf3⟩
    · have := HR.out.symm.trans hr3; cases this
    obtain rfl : ys = ys' := Option.some.inj (HR.out.symm.trans hr3)
    have hrowb3 := HROW.out.touch hf3 (fun _ _ => id)
    have hcv := run_convert_Bs (P := Try.prog) 24 9 Try.underlying24 Try.underlying5 Try.underlying9 (Row.bs hrowb3)
    have hcv' := run_convert_Bs (P := Try.prog) 24 9 Try.underlying24 Try.underlying5 Try.underlying9 (Row.bs hrow3)
    have HROWB := Lib.hid hrowb3
    have HROWC := Lib.hid hrow3
    have HNEWC := Lib.hid hnew3
    have HF3 := Lib.hid (HF2.out.trans hf3 (fun _ _ h => h))
    have HYS := Lib.hid hys
    clear hr3 hf3 h hrowb3 hrow3 hnew3 hys
    go_wp2_with fail
    have hrd := ops_read B ys.length cb ys w3 HROWB.out.bs (fun a ha _ => HROWB.out.lt a.block (by rw [ha]; rfl)) (by have := HYS.out.2.1; omega)
    rw [Plain.ops_whole l HR.out] at hrd
    refine hrd.mono ?_
    intro e w4 h
    rcases h.cases with ⟨a, hr4, _⟩ | ⟨l4, D4, cd4, hr4, rfl, hv4, ho4, hf4⟩
    · cases hr4
    obtain rfl : l = l4 := by injection hr4
    have HF34 := Lib.hid hf4
    have HV4 := Lib.hid hv4
    clear hrd hf4 hv4 ho4 hr4 h
    have hnot : ∀ (x : Bool) (w : World), (Op.unary .not (.bool x)).run Try.prog w = .ok (.bool (!x)) w := fun _ _ => rfl
    go_wp2_with fail
    have HF4 := Lib.hid (HF3.out.trans HF34.out (fun _ _ h => h))
    have hv4' : Vs w4 3 D4 nx cd4 (opsV l) := by have := VRow.rd HV4.out; rw [hlx] at this; exact this
    refine (keepops_any D4 X nx cd4 cx l w4 hv4' (HVX.out.fresh HF4.out) (by omega)).mono ?_
    clear hv4'
    rintro e w5 ⟨rfl, hf5⟩
    have HF5 := Lib.hid (HF4.out.trans hf5 (fun _ _ h => h))
    have HROWB5 := Lib.hid ((HROWB.out.touch HF34.out (fun _ _ => id)).touch hf5 (fun _ _ => id))
    have HROWC5 := Lib.hid ((HROWC.out.touch HF34.out (fun _ _ => id)).touch hf5 (fun _ _ => id))
    clear hf5
    go_wp2_with fail
    refine (spoil_any ys (.slice B ys.length cb) w5 HROWB5.out (by have := HYS.out.2.1; omega)).mono ?_
    rintro e w6 ⟨rfl, ht6⟩
    have hnb : ∀ q, (Value.slice B ys.length cb).ownBlock = some q → w1.heap.size ≤ q ∧ q < w2.heap.size := fun q hq => ⟨HNEW.out q hq, HROW.out.lt q hq⟩
    have HF6 := Lib.hid (show Fresh w1 w6 from HF5.out.trans ht6 (fun i hi hs => by have h1 := hnb i hs; omega))
    have HROW6 := Lib.hid (HROWC5.out.touch ht6 (fun q hq hs => by have h1 := hnb _ hs; have h2 := HNEWC.out q hq; omega))
    clear ht6 hnb
    go_wp2_with fail
    refine (ops_any X nx cx l w6 (HVX.out.fresh HF6.out) (HXN.out _ HF6.out) hnx HSM.out).mono ?_
    intro e w7 h
    rcases h.cases with ⟨hr7, _⟩ | ⟨ys', E7, ce, hr7, rfl, hrow7, _, hf7⟩
    · have := HR.out.symm.trans hr7; cases this
    obtain rfl : ys = ys' := Option.some.inj (HR.out.symm.trans hr7)
    have hcv7 := run_convert_Bs (P := Try.prog) 24 9 Try.underlying24 Try.underlying5 Try.underlying9 (Row.bs hrow7)
    have hcv7' := run_convert_Bs (P := Try.prog) 24 9 Try.underlying24 Try.underlying5 Try.underlying9 (Row.bs (HROW6.out.touch hf7 (fun _ _ => id)))
    have HWK := Lib.hid (HF6.out.trans hf7 (fun _ _ h => h))
    have HBSK := Lib.hid (HBSW.out.fresh HWK.out)
    clear hr7 hf7 h hrow7
    go_wp2_with fail
    refine (lend_any A m c zs w7 HBSK.out (by omega)).mono ?_
    rintro e w4 ⟨hf4, L, cl, rfl, hl4, hnl⟩
    have hlt4 : ∀ a, L = some a → a.block < w4.heap.size := fun a ha => hl4.2.lt a.block (by rw [ha]; rfl)
    have hwk := HWK.out.size
    have HF4 := Lib.hid (HWK.out.trans hf4 (fun _ _ h => h))
    have HL4 := Lib.hid hl4
    have HNL := Lib.hid hnl
    have HLT4 := Lib.hid hlt4
    have HBS4 := Lib.hid (HBSK.out.fresh hf4)
    clear hf4 hl4 hnl hlt4
    go_wp2_with fail
    refine (ops_read L m cl zs w4 HL4.out.bs (fun a ha _ => HLT4.out a ha) (by omega)).mono ?_
    intro e w5 h
    rcases h.cases with ⟨a, hr5, rfl, hf5⟩ | ⟨l5, D, cd5, hr5, rfl, hv5, ho5, hf5⟩
    · have HR5 := Lib.hid hr5
      have HF45 := Lib.hid hf5
      have hs45 := hf5.size
      clear hf5 h hr5
      go_wp2_with fail
      refine (refops_read A m c zs w5 (HBS4.out.fresh HF45.out) (fun a ha h0 => by have h1 := HAB.out a ha h0; have h2 := HF4.out.size; have h3 := HF45.out.size; omega) (by omega)).mono ?_
      intro e w6 h
      rcases h.cases with ⟨a', hr6, rfl, hf6⟩ | ⟨l6, D6, cd6, hr6, rfl, hv6, ho6, hf6⟩
      rotate_left
      · have := HR5.out.symm.trans hr6; cases this
      obtain rfl : a = a' := by have := HR5.out.symm.trans hr6; injection this
      have HF46 := Lib.hid (HF45.out.trans hf6 (fun _ _ h => h))
      have hs56 := hf6.size
      clear hf6 h hr6
      go_wp2_with fail
      have hl6 : Lent w6 L m cl zs := ⟨HL4.out.1, HL4.out.2.touch HF46.out (fun _ _ => id)⟩
      refine (intact_any A L m c cl zs w6 (HBS4.out.fresh HF46.out) hl6 (by omega)).mono ?_
      rintro e w7 ⟨rfl, ht7⟩
      have hown : ∀ q, (Value.slice L m cl).ownBlock = some q → q < w4.heap.size ∧ w1.heap.size ≤ q := by
        intro q hq
        cases L with
        | none => cases hq
        | some a => simp only [Value.ownBlock, Option.some.injEq] at hq; have h1 := HLT4.out a rfl; have h2 := HNL.out a rfl; omega
      have HF7 := Lib.hid (show Fresh w1 w7 from (HF4.out.trans HF46.out (fun _ _ h => h)).trans ht7 (fun i hi hs => by have := hown i hs; omega))
      have hnot : ∀ (x : Bool) (w : World), (Op.unary .not (.bool x)).run Try.prog w = .ok (.bool (!x)) w := fun _ _ => rfl
      clear ht7 hl6 hown
      go_wp2_with fail
      refine (keepops_any none none 0 0 0 [] w7 (VRow.rd (VRow.nil_ w7 114 3)) (VRow.rd (VRow.nil_ w7 114 3)) (by omega)).mono ?_
      rintro e w8 ⟨rfl, hf8⟩
      have HF8 := Lib.hid (HF7.out.trans hf8 (fun _ _ h => h))
      clear hf8
      go_wp2_with fail
      refine (wakes_any w8).mono ?_
      rintro e w9 ⟨rfl, hf9⟩
      have HF9 := Lib.hid (HF8.out.trans hf9 (fun _ _ h => h))
      clear hf9
      go_wp2_with fail
      go_ret
      exact ⟨rfl, HF9.out⟩
    · have HR5 := Lib.hid hr5
      have HF45 := Lib.hid hf5
      have hs45 := hf5.size
      have HV5 := Lib.hid hv5
      have HO5 := Lib.hid ho5
      clear hv5 ho5
      clear hf5 h hr5
      go_wp2_with fail
      refine (refops_read A m c zs w5 (HBS4.out.fresh HF45.out) (fun a ha h0 => by have h1 := HAB.out a ha h0; have h2 := HF4.out.size; have h3 := HF45.out.size; omega) (by omega)).mono ?_
      intro e w6 h
      rcases h.cases with ⟨a, hr6, rfl, hf6⟩ | ⟨l6, D6, cd6, hr6, rfl, hv6, ho6, hf6⟩
      · have := HR5.out.symm.trans hr6; cases this
      obtain rfl : l5 = l6 := by have := HR5.out.symm.trans hr6; injection this
      have HV6 := Lib.hid hv6
      have HV56 := Lib.hid (HV5.out.touch hf6 (fun _ _ => id))
      have HO6 := Lib.hid ho6
      clear hv6 ho6
      have HF46 := Lib.hid (HF45.out.trans hf6 (fun _ _ h => h))
      have hs56 := hf6.size
      clear hf6 h hr6
      go_wp2_with fail
      have hl6 : Lent w6 L m cl zs := ⟨HL4.out.1, HL4.out.2.touch HF46.out (fun _ _ => id)⟩
      refine (intact_any A L m c cl zs w6 (HBS4.out.fresh HF46.out) hl6 (by omega)).mono ?_
      rintro e w7 ⟨rfl, ht7⟩
      have hown : ∀ q, (Value.slice L m cl).ownBlock = some q → q < w4.heap.size ∧ w1.heap.size ≤ q := by
        intro q hq
        cases L with
        | none => cases hq
        | some a => simp only [Value.ownBlock, Option.some.injEq] at hq; have h1 := HLT4.out a rfl; have h2 := HNL.out a rfl; omega
      have HF7 := Lib.hid (show Fresh w1 w7 from (HF4.out.trans HF46.out (fun _ _ h => h)).trans ht7 (fun i hi hs => by have := hown i hs; omega))
      have HV57 := Lib.hid (HV56.out.touch ht7 (fun k hk hs => by have h1 := hown k hs; have h2 := HO5.out k hk; omega))
      have HV67 := Lib.hid (HV6.out.touch ht7 (fun k hk hs => by have h1 := hown k hs; have h2 := HO6.out k hk; omega))
      have hnot : ∀ (x : Bool) (w : World), (Op.unary .not (.bool x)).run Try.prog w = .ok (.bool (!x)) w := fun _ _ => rfl
      clear ht7 hl6 hown
      go_wp2_with fail
      have hback : Enc.ops l5 = some zs := Plain.ops_back (by rw [HZL.out]; exact HR5.out)
      have hlen := ops_inv hback
      have HBACK := Lib.hid hback
      have HLEN := Lib.hid hlen
      clear hback hlen
      have hl5 : l5.length ≤ m := by have := HLEN.out.1; have := HZL.out; omega
      refine (keepops_any D D6 l5.length cd5 cd6 l5 w7 (VRow.rd HV57.out) (VRow.rd HV67.out) (by omega)).mono ?_
      rintro e w8 ⟨rfl, hf8⟩
      have HF8 := Lib.hid (HF7.out.trans hf8 (fun _ _ h => h))
      have HV58 := Lib.hid (HV57.out.touch hf8 (fun _ _ => id))
      clear hf8
      go_wp2_with fail
      refine (ops_any D l5.length cd5 l5 w8 (VRow.rd HV58.out) (fun a ha _ => HV58.out.lt a.block (by rw [ha]; rfl)) (by omega) (fun o ho => by have := HLEN.out.2.2 o ho; unfold maxLen; omega)).mono ?_
      intro e w9 h
      rcases h.cases with ⟨hr9, _⟩ | ⟨ys9, B9, c9, hr9, rfl, hrow9, _, hf9⟩
      · have := HBACK.out.symm.trans hr9; cases this
      obtain rfl : zs = ys9 := Option.some.inj (HBACK.out.symm.trans hr9)
      have hcv9 := run_convert_Bs (P := Try.prog) 24 9 Try.underlying24 Try.underlying5 Try.underlying9 (Row.bs hrow9)
      have hcv9' := run_convert_Bs (P := Try.prog) 24 9 Try.underlying24 Try.underlying5 Try.underlying9 (HBSW.out.fresh (HF8.out.trans hf9 (fun _ _ h => h)))
      have HF9 := Lib.hid (HF8.out.trans hf9 (fun _ _ h => h))
      clear hrow9 hf9 hr9 h
      go_wp2_with fail
      refine (wakes_any w9).mono ?_
      rintro e w10 ⟨rfl, hf10⟩
      have HF10 := Lib.hid (HF9.out.trans hf10 (fun _ _ h => h))
      clear hf10
      go_wp2_with fail
      go_ret
      exact ⟨rfl, HF10.out⟩
end Go.Proofs.Ytdfhdanfigpbpaa
