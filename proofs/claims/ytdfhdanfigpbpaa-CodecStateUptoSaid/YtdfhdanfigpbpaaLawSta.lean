/- The walk of the law CodecState: it answers true (printed by gen_laws.py). Conditions stand with it. -/
import Derived.Test.YtdfhdanfigpbpaaWakes
import Derived.Test.YtdfhdanfigpbpaaLawEvent
import Derived.Test.YtdfhdanfigpbpaaStaR
import Derived.Test.YtdfhdanfigpbpaaStaRr
import Derived.Test.YtdfhdanfigpbpaaStaK
namespace Go.Proofs.Ytdfhdanfigpbpaa
open Go.RowKit

theorem all_inv {α : Type} {e : α → Enc.Enc} {P : α → Prop} {M : Nat} (he : ∀ o y, e o = some y → 0 < y.length ∧ y.length ≤ M ∧ P o) : ∀ {l : List α} {ys : List UInt8}, Enc.catAll (l.map e) = some ys → l.length ≤ ys.length ∧ ys.length ≤ l.length * M ∧ ∀ o ∈ l, P o
  | [], ys, h => by
    simp only [List.map_nil, Enc.catAll, Option.some.injEq] at h
    subst h
    exact ⟨Nat.le_refl _, Nat.zero_le _, fun o ho => by cases ho⟩
  | x :: l, ys, h => by
    simp only [List.map_cons, Enc.catAll] at h
    obtain ⟨y1, y2, h1, h2, rfl⟩ := Plain.cat_inv h
    obtain ⟨i1, i2, i3⟩ := all_inv he h2
    obtain ⟨g1, g2, g3⟩ := he x y1 h1
    refine ⟨?_, ?_, ?_⟩
    · simp only [List.length_append, List.length_cons]; omega
    · simp only [List.length_append, List.length_cons, Nat.succ_mul]; omega
    · intro o ho
      rcases List.mem_cons.1 ho with rfl | ho
      · exact g3
      · exact i3 o ho
theorem nod_inv {o : Dec.Nd} {y : List UInt8} (h : Enc.nod o = some y) : 0 < y.length ∧ y.length ≤ 1048600 ∧ o.x.length ≤ 1048576 := by
  obtain ⟨y1, y3, h1, h3, rfl⟩ := Plain.cat_inv h
  obtain ⟨y0, y2, h0, h2, rfl⟩ := Plain.cat_inv h1
  have e0 := Enc.number_size (by omega) h0
  have e2 := Enc.plain_size h2
  have e3 := text_size h3
  have e4 := text_pos h3
  simp only [List.length_append]
  exact ⟨by omega, by omega, (text_len h3).2⟩
theorem sig_inv {o : Dec.Sg} {y : List UInt8} (h : Enc.sig o = some y) : 0 < y.length ∧ y.length ≤ 2097168 ∧ (o.n.length ≤ 1048576 ∧ o.x.length ≤ 1048576) := by
  obtain ⟨y1, y3, h1, h3, rfl⟩ := Plain.cat_inv h
  have e1 := text_size h1
  have e3 := text_size h3
  have e4 := text_pos h3
  simp only [List.length_append]
  exact ⟨by omega, by omega, (text_len h1).2, (text_len h3).2⟩
theorem sta_inv {s : Dec.Sta} {ys : List UInt8} (h : Enc.state s = some ys) : s.nd.length ≤ ys.length ∧ s.sg.length ≤ ys.length ∧ ys.length ≤ 5300000 + s.nd.length * 1048600 + s.sg.length * 2097168 ∧ StaLe s 1048576 := by
  obtain ⟨y0, y1, y2, y3, y4, y5, y6, y7, y8, y9, y10, h0, h1, h2, h3, h4, h5, h6, h7, h8, h9, h10, rfl⟩ := Plain.state_inv h
  obtain ⟨a1, a2, a3⟩ := all_inv (fun o y h => nod_inv h) h7
  obtain ⟨b1, b2, b3⟩ := all_inv (fun o y h => sig_inv h) h9
  have e0 := text_size h0
  have e1 := text_size h1
  have e2 := text_size h2
  have e3 := text_size h3
  have e4 := Enc.number_size (by omega) h4
  have e5 := text_size h5
  have e6 := Enc.plain_size h6
  have e8 := Enc.plain_size h8
  have e10 := Enc.plain_size h10
  simp only [List.length_append]
  exact ⟨by omega, by omega, by omega, ⟨(text_len h0).2, (text_len h1).2, (text_len h2).2, (text_len h3).2, (text_len h5).2, a3, b3⟩⟩

set_option maxRecDepth 100000 in
set_option maxHeartbeats 8000000 in
theorem law_state (s : Dec.Sta) (X : Option Addr) (cx : Nat) (Y : Option Addr) (dx : Nat) (A : Option Addr) (n c : Nat) (xs : List UInt8) (w : World) (hvx : StaAt w s X cx Y dx) (hX : StaBlk s X Y w.heap.size) (hnx : s.nd.length ≤ 1048576) (hmx : s.sg.length ≤ 1048576)
    (hsx : StaLe s 1048576) (hbs : Bs w A n c xs) (hA : ∀ a, A = some a → 0 < n → a.block < w.heap.size) :
    Calls Try.prog 10 #[.agg #[.string ⟨s.df.toArray⟩, .string ⟨s.id.toArray⟩, .string ⟨s.pa.toArray⟩, .string ⟨s.pn.toArray⟩, .int .i64 s.st, .string ⟨s.tx.toArray⟩, .slice X s.nd.length cx, .slice Y s.sg.length dx, .int .i64 s.ev], .slice A n c] w fun e w' => e = .returned (.bool true) ∧ Fresh w w' := by
  obtain ⟨w0, hw0⟩ : ∃ w0, w0 = w.alloc (.cells #[.string ⟨s.df.toArray⟩, .string ⟨s.id.toArray⟩, .string ⟨s.pa.toArray⟩, .string ⟨s.pn.toArray⟩, .int .i64 s.st, .string ⟨s.tx.toArray⟩, .slice X s.nd.length cx, .slice Y s.sg.length dx, .int .i64 s.ev] 67) := ⟨_, rfl⟩
  have hT0 : Fresh w w0 := by rw [hw0]; exact (Touch.refl _ w).alloc _
  have HB0 := Lib.hid (show Blk w0 w.heap.size 67 #[.string ⟨s.df.toArray⟩, .string ⟨s.id.toArray⟩, .string ⟨s.pa.toArray⟩, .string ⟨s.pn.toArray⟩, .int .i64 s.st, .string ⟨s.tx.toArray⟩, .slice X s.nd.length cx, .slice Y s.sg.length dx, .int .i64 s.ev] by rw [hw0]; exact Blk.new _ _ _)
  have HC := Lib.hid (clip_any A n c xs w0 (hbs.fresh hT0))
  have HW0 := Lib.hid hw0; have HT0 := Lib.hid hT0; have HBSO := Lib.hid hbs; have HA := Lib.hid hA; have HVX := Lib.hid hvx; have HX := Lib.hid hX; have HSX := Lib.hid hsx
  have HSM := Lib.hid (hsx.mono (show 1048576 ≤ maxLen by unfold maxLen; omega))
  clear hw0 hT0 hbs hA hvx hX hsx
  go_enter Try.func10, Try.ntmps10
  go_wp2_with fail
  rw [← HW0.out]
  refine HC.out.mono ?_
  rintro e w1 ⟨rfl, m, hm1, hm2, rfl, hb⟩
  obtain ⟨zs, hzs⟩ : ∃ zs, zs = xs.take m := ⟨_, rfl⟩
  rw [← hzs] at hb
  have hzl : zs.length = m := hb.1
  have HZL := Lib.hid hzl
  have hbw : Bs w A m c zs := by rw [hzs]; exact HBSO.out.take hm1
  have hab : ∀ a, A = some a → 0 < m → a.block < w.heap.size := fun a ha h0 => HA.out a ha (by omega)
  have HBSW := Lib.hid hbw; have HAB := Lib.hid hab
  clear hb hbw hab hzs hzl
  have hx0 := HB0.out.cell 0
  have hx1 := HB0.out.cell 1
  have hx2 := HB0.out.cell 2
  have hx3 := HB0.out.cell 3
  have hx4 := HB0.out.cell 4
  have hx5 := HB0.out.cell 5
  have hx6 := HB0.out.cell 6
  have hx7 := HB0.out.cell 7
  have hx8 := HB0.out.cell 8
  simp only [List.getElem?_toArray, List.getElem?_cons_zero, List.getElem?_cons_succ] at hx0 hx1 hx2 hx3 hx4 hx5 hx6 hx7 hx8
  go_wp2_with fail
  refine (state_any s X cx Y dx w1 (HVX.out.fresh HT0.out) (HX.out.le HT0.out.size) hnx hmx HSM.out).mono ?_
  intro e w2 h
  rcases h.cases with ⟨hr, rfl, hf⟩ | ⟨ys, B, cb, hr, rfl, hrow, hnew, hf⟩
  · have hB2 := HB0.out.touch hf id
    have hy0 := hB2.cell 0
    have hy1 := hB2.cell 1
    have hy2 := hB2.cell 2
    have hy3 := hB2.cell 3
    have hy4 := hB2.cell 4
    have hy5 := hB2.cell 5
    have hy6 := hB2.cell 6
    have hy7 := hB2.cell 7
    have hy8 := hB2.cell 8
    simp only [List.getElem?_toArray, List.getElem?_cons_zero, List.getElem?_cons_succ] at hy0 hy1 hy2 hy3 hy4 hy5 hy6 hy7 hy8
    have HR := Lib.hid hr
    have HF2 := Lib.hid (HT0.out.trans hf (fun _ _ h => h))
    clear hr hf h hB2
    go_wp2_with fail
    refine (refstate_any s X cx Y dx w2 (HVX.out.fresh HF2.out) (HX.out.le HF2.out.size) hnx hmx HSX.out).mono ?_
    intro e w3 h
    rcases h.cases with ⟨hr3, rfl, hf3⟩ | ⟨ys, B, cb, hr3, rfl, hrow, hnew, hf3⟩
    rotate_left
    · have := HR.out.symm.trans hr3; cases this
    have hcv := run_convert_Bs (P := Try.prog) (w := w3) 24 9 Try.underlying24 Try.underlying5 Try.underlying9 (A := none) (n := 0) (c := 0) (xs := []) ⟨rfl, Nat.le_refl _, by decide, fun h => by omega⟩
    have HWK := Lib.hid (HF2.out.trans hf3 (fun _ _ h => h))
    have HBSK := Lib.hid (HBSW.out.fresh HWK.out)
    clear hr3 hf3 h hx0 hy0 hx1 hy1 hx2 hy2 hx3 hy3 hx4 hy4 hx5 hy5 hx6 hy6 hx7 hy7 hx8 hy8
    go_wp2_with fail
    refine (lend_any A m c zs w3 HBSK.out (by omega)).mono ?_
    rintro e w4 ⟨hf4, L, cl, rfl, hl4, hnl⟩
    have hlt4 : ∀ a, L = some a → a.block < w4.heap.size := fun a ha => hl4.2.lt a.block (by rw [ha]; rfl)
    have hwk := HWK.out.size
    have HF4 := Lib.hid (HWK.out.trans hf4 (fun _ _ h => h))
    have HL4 := Lib.hid hl4
    have HNL := Lib.hid hnl
    have HLT4 := Lib.hid hlt4
    have HBS4 := Lib.hid (HBSK.out.fresh hf4)
    clear hf4 hl4 hnl hlt4
    go_wp2_with fail
    refine (sta_read L m cl zs w4 HL4.out.bs (fun a ha _ => HLT4.out a ha) (by omega)).mono ?_
    intro e w5 h
    rcases h.cases with ⟨a, hr5, rfl, hf5⟩ | ⟨y, Ay, cy, By, dy, hr5, rfl, ho5, hf5⟩
    · have HR5 := Lib.hid hr5
      obtain ⟨W5, hW5⟩ : ∃ W5, W5 = w5.alloc (.cells #[.string ⟨#[]⟩, .string ⟨#[]⟩, .string ⟨#[]⟩, .string ⟨#[]⟩, .int .i64 0, .string ⟨#[]⟩, .slice none 0 0, .slice none 0 0, .int .i64 0] 67) := ⟨_, rfl⟩
      have hF45 : Fresh w4 W5 := by rw [hW5]; exact hf5.alloc _
      have HB5 := Lib.hid (show Blk W5 w5.heap.size 67 #[.string ⟨#[]⟩, .string ⟨#[]⟩, .string ⟨#[]⟩, .string ⟨#[]⟩, .int .i64 0, .string ⟨#[]⟩, .slice none 0 0, .slice none 0 0, .int .i64 0] by rw [hW5]; exact Blk.new _ _ _)
      have hs45 := hf5.size
      have HF45 := Lib.hid hF45; have HW5 := Lib.hid hW5
      clear hF45 hW5 hf5 h hr5
      go_wp2_with fail
      rw [← HW5.out]
      refine (refsta_read A m c zs W5 (HBS4.out.fresh HF45.out) (fun a ha h0 => by have h1 := HAB.out a ha h0; have h2 := HF4.out.size; have h3 := HF45.out.size; omega) (by omega)).mono ?_
      intro e w6 h
      rcases h.cases with ⟨a', hr6, rfl, hf6⟩ | ⟨z, Az, cz, Bz, dz, hr6, rfl, ho6, hf6⟩
      rotate_left
      · have := HR5.out.symm.trans hr6; cases this
      obtain rfl : a = a' := by have := HR5.out.symm.trans hr6; injection this
      obtain ⟨W6, hW6⟩ : ∃ W6, W6 = w6.alloc (.cells #[.string ⟨#[]⟩, .string ⟨#[]⟩, .string ⟨#[]⟩, .string ⟨#[]⟩, .int .i64 0, .string ⟨#[]⟩, .slice none 0 0, .slice none 0 0, .int .i64 0] 67) := ⟨_, rfl⟩
      have HF46 := Lib.hid (show Fresh w4 W6 by rw [hW6]; exact (HF45.out.trans hf6 (fun _ _ h => h)).alloc _)
      have HB6 := Lib.hid (show Blk W6 w6.heap.size 67 #[.string ⟨#[]⟩, .string ⟨#[]⟩, .string ⟨#[]⟩, .string ⟨#[]⟩, .int .i64 0, .string ⟨#[]⟩, .slice none 0 0, .slice none 0 0, .int .i64 0] by rw [hW6]; exact Blk.new _ _ _)
      have HB56 := Lib.hid (show Blk W6 w5.heap.size 67 #[.string ⟨#[]⟩, .string ⟨#[]⟩, .string ⟨#[]⟩, .string ⟨#[]⟩, .int .i64 0, .string ⟨#[]⟩, .slice none 0 0, .slice none 0 0, .int .i64 0] by rw [hW6]; exact (HB5.out.touch hf6 id).alloc _)
      have hs56 := hf6.size
      have hs5 := HB5.out.lt
      have HW6 := Lib.hid hW6
      clear hW6 hf6 h hr6
      go_wp2_with fail
      rw [← HW6.out]
      have hl6 : Lent W6 L m cl zs := ⟨HL4.out.1, HL4.out.2.touch HF46.out (fun _ _ => id)⟩
      refine (intact_any A L m c cl zs W6 (HBS4.out.fresh HF46.out) hl6 (by omega)).mono ?_
      rintro e w7 ⟨rfl, ht7⟩
      have hown : ∀ q, (Value.slice L m cl).ownBlock = some q → q < w4.heap.size ∧ w.heap.size ≤ q := by
        intro q hq
        cases L with
        | none => cases hq
        | some a => simp only [Value.ownBlock, Option.some.injEq] at hq; have h1 := HLT4.out a rfl; have h2 := HNL.out a rfl; omega
      have HF7 := Lib.hid (show Fresh w w7 from (HF4.out.trans HF46.out (fun _ _ h => h)).trans ht7 (fun i hi hs => by have := hown i hs; omega))
      have HB57 := Lib.hid (HB56.out.touch ht7 (fun hs => by have := hown _ hs; omega))
      have HB67 := Lib.hid (HB6.out.touch ht7 (fun hs => by have := hown _ hs; omega))
      have hp0 := HB57.out.cell 0
      have hp1 := HB57.out.cell 1
      have hp2 := HB57.out.cell 2
      have hp3 := HB57.out.cell 3
      have hp4 := HB57.out.cell 4
      have hp5 := HB57.out.cell 5
      have hp6 := HB57.out.cell 6
      have hp7 := HB57.out.cell 7
      have hp8 := HB57.out.cell 8
      simp only [List.getElem?_toArray, List.getElem?_cons_zero, List.getElem?_cons_succ] at hp0 hp1 hp2 hp3 hp4 hp5 hp6 hp7 hp8
      have hq0 := HB67.out.cell 0
      have hq1 := HB67.out.cell 1
      have hq2 := HB67.out.cell 2
      have hq3 := HB67.out.cell 3
      have hq4 := HB67.out.cell 4
      have hq5 := HB67.out.cell 5
      have hq6 := HB67.out.cell 6
      have hq7 := HB67.out.cell 7
      have hq8 := HB67.out.cell 8
      simp only [List.getElem?_toArray, List.getElem?_cons_zero, List.getElem?_cons_succ] at hq0 hq1 hq2 hq3 hq4 hq5 hq6 hq7 hq8
      have hnot : ∀ (x : Bool) (w : World), (Op.unary .not (.bool x)).run Try.prog w = .ok (.bool (!x)) w := fun _ _ => rfl
      clear ht7 hl6 hown
      go_wp2_with fail
      refine (keepsta_any ⟨[], [], [], [], 0, [], [], [], 0⟩ none 0 none 0 none 0 none 0 w7 ⟨VRow.rd (VRow.nil_ w7 127 3), VRow.rd (VRow.nil_ w7 129 2)⟩ ⟨VRow.rd (VRow.nil_ w7 127 3), VRow.rd (VRow.nil_ w7 129 2)⟩ (by simp) (by simp)).mono ?_
      rintro e w8 ⟨rfl, hf8⟩
      have HF8 := Lib.hid (HF7.out.trans hf8 (fun _ _ h => h))
      clear hf8
      clear hp0 hq0 hp1 hq1 hp2 hq2 hp3 hq3 hp4 hq4 hp5 hq5 hp6 hq6 hp7 hq7 hp8 hq8
      go_wp2_with fail
      refine (wakes_any w8).mono ?_
      rintro e w9 ⟨rfl, hf9⟩
      have HF9 := Lib.hid (HF8.out.trans hf9 (fun _ _ h => h))
      clear hf9
      go_wp2_with fail
      go_ret
      exact ⟨rfl, HF9.out⟩
    · have HR5 := Lib.hid hr5
      obtain ⟨W5, hW5⟩ : ∃ W5, W5 = w5.alloc (.cells #[.string ⟨y.df.toArray⟩, .string ⟨y.id.toArray⟩, .string ⟨y.pa.toArray⟩, .string ⟨y.pn.toArray⟩, .int .i64 y.st, .string ⟨y.tx.toArray⟩, .slice Ay y.nd.length cy, .slice By y.sg.length dy, .int .i64 y.ev] 67) := ⟨_, rfl⟩
      have hF45 : Fresh w4 W5 := by rw [hW5]; exact hf5.alloc _
      have HB5 := Lib.hid (show Blk W5 w5.heap.size 67 #[.string ⟨y.df.toArray⟩, .string ⟨y.id.toArray⟩, .string ⟨y.pa.toArray⟩, .string ⟨y.pn.toArray⟩, .int .i64 y.st, .string ⟨y.tx.toArray⟩, .slice Ay y.nd.length cy, .slice By y.sg.length dy, .int .i64 y.ev] by rw [hW5]; exact Blk.new _ _ _)
      have hs45 := hf5.size
      have HF45 := Lib.hid hF45; have HW5 := Lib.hid hW5
      have HO5 := Lib.hid (show StaOwn w4 W5 y Ay cy By dy by rw [hW5]; exact ho5.touch ((Touch.refl (fun _ => False) _).alloc _) (fun _ _ _ => id))
      clear ho5
      clear hF45 hW5 hf5 h hr5
      unfold stV
      go_wp2_with fail
      rw [← HW5.out]
      refine (refsta_read A m c zs W5 (HBS4.out.fresh HF45.out) (fun a ha h0 => by have h1 := HAB.out a ha h0; have h2 := HF4.out.size; have h3 := HF45.out.size; omega) (by omega)).mono ?_
      intro e w6 h
      rcases h.cases with ⟨a, hr6, rfl, hf6⟩ | ⟨z, Az, cz, Bz, dz, hr6, rfl, ho6, hf6⟩
      · have := HR5.out.symm.trans hr6; cases this
      obtain rfl : y = z := by have := HR5.out.symm.trans hr6; injection this
      obtain ⟨W6, hW6⟩ : ∃ W6, W6 = w6.alloc (.cells #[.string ⟨y.df.toArray⟩, .string ⟨y.id.toArray⟩, .string ⟨y.pa.toArray⟩, .string ⟨y.pn.toArray⟩, .int .i64 y.st, .string ⟨y.tx.toArray⟩, .slice Az y.nd.length cz, .slice Bz y.sg.length dz, .int .i64 y.ev] 67) := ⟨_, rfl⟩
      have HF46 := Lib.hid (show Fresh w4 W6 by rw [hW6]; exact (HF45.out.trans hf6 (fun _ _ h => h)).alloc _)
      have HB6 := Lib.hid (show Blk W6 w6.heap.size 67 #[.string ⟨y.df.toArray⟩, .string ⟨y.id.toArray⟩, .string ⟨y.pa.toArray⟩, .string ⟨y.pn.toArray⟩, .int .i64 y.st, .string ⟨y.tx.toArray⟩, .slice Az y.nd.length cz, .slice Bz y.sg.length dz, .int .i64 y.ev] by rw [hW6]; exact Blk.new _ _ _)
      have HB56 := Lib.hid (show Blk W6 w5.heap.size 67 #[.string ⟨y.df.toArray⟩, .string ⟨y.id.toArray⟩, .string ⟨y.pa.toArray⟩, .string ⟨y.pn.toArray⟩, .int .i64 y.st, .string ⟨y.tx.toArray⟩, .slice Ay y.nd.length cy, .slice By y.sg.length dy, .int .i64 y.ev] by rw [hW6]; exact (HB5.out.touch hf6 id).alloc _)
      have hs56 := hf6.size
      have hs5 := HB5.out.lt
      have HO56 := Lib.hid (show StaOwn w4 W6 y Ay cy By dy by rw [hW6]; exact (HO5.out.touch hf6 (fun _ _ _ => id)).touch ((Touch.refl (fun _ => False) _).alloc _) (fun _ _ _ => id))
      have HO6 := Lib.hid (show StaOwn W5 W6 y Az cz Bz dz by rw [hW6]; exact ho6.touch ((Touch.refl (fun _ => False) _).alloc _) (fun _ _ _ => id))
      clear ho6
      have HW6 := Lib.hid hW6
      clear hW6 hf6 h hr6
      unfold stV
      go_wp2_with fail
      rw [← HW6.out]
      have hl6 : Lent W6 L m cl zs := ⟨HL4.out.1, HL4.out.2.touch HF46.out (fun _ _ => id)⟩
      refine (intact_any A L m c cl zs W6 (HBS4.out.fresh HF46.out) hl6 (by omega)).mono ?_
      rintro e w7 ⟨rfl, ht7⟩
      have hown : ∀ q, (Value.slice L m cl).ownBlock = some q → q < w4.heap.size ∧ w.heap.size ≤ q := by
        intro q hq
        cases L with
        | none => cases hq
        | some a => simp only [Value.ownBlock, Option.some.injEq] at hq; have h1 := HLT4.out a rfl; have h2 := HNL.out a rfl; omega
      have HF7 := Lib.hid (show Fresh w w7 from (HF4.out.trans HF46.out (fun _ _ h => h)).trans ht7 (fun i hi hs => by have := hown i hs; omega))
      have HB57 := Lib.hid (HB56.out.touch ht7 (fun hs => by have := hown _ hs; omega))
      have HB67 := Lib.hid (HB6.out.touch ht7 (fun hs => by have := hown _ hs; omega))
      have hsW5 := HF45.out.size
      have HO57 := Lib.hid (HO56.out.touch ht7 (fun k h1 h2 hs => by have := hown k hs; omega))
      have HO67 := Lib.hid (HO6.out.touch ht7 (fun k h1 h2 hs => by have := hown k hs; omega))
      have hp0 := HB57.out.cell 0
      have hp1 := HB57.out.cell 1
      have hp2 := HB57.out.cell 2
      have hp3 := HB57.out.cell 3
      have hp4 := HB57.out.cell 4
      have hp5 := HB57.out.cell 5
      have hp6 := HB57.out.cell 6
      have hp7 := HB57.out.cell 7
      have hp8 := HB57.out.cell 8
      simp only [List.getElem?_toArray, List.getElem?_cons_zero, List.getElem?_cons_succ] at hp0 hp1 hp2 hp3 hp4 hp5 hp6 hp7 hp8
      have hq0 := HB67.out.cell 0
      have hq1 := HB67.out.cell 1
      have hq2 := HB67.out.cell 2
      have hq3 := HB67.out.cell 3
      have hq4 := HB67.out.cell 4
      have hq5 := HB67.out.cell 5
      have hq6 := HB67.out.cell 6
      have hq7 := HB67.out.cell 7
      have hq8 := HB67.out.cell 8
      simp only [List.getElem?_toArray, List.getElem?_cons_zero, List.getElem?_cons_succ] at hq0 hq1 hq2 hq3 hq4 hq5 hq6 hq7 hq8
      have hnot : ∀ (x : Bool) (w : World), (Op.unary .not (.bool x)).run Try.prog w = .ok (.bool (!x)) w := fun _ _ => rfl
      clear ht7 hl6 hown
      go_wp2_with fail
      have hback : Enc.state y = some zs := Plain.state_back (by rw [HZL.out]; exact HR5.out)
      have hlen := sta_inv hback
      have HBACK := Lib.hid hback
      have HLEN := Lib.hid hlen
      clear hback hlen
      have hnd : y.nd.length ≤ m := by have := HLEN.out.1; have := HZL.out; omega
      have hsg : y.sg.length ≤ m := by have := HLEN.out.2.1; have := HZL.out; omega
      refine (keepsta_any y Ay cy By dy Az cz Bz dz w7 HO57.out.at_ HO67.out.at_ (by omega) (by omega)).mono ?_
      rintro e w8 ⟨rfl, hf8⟩
      have HF8 := Lib.hid (HF7.out.trans hf8 (fun _ _ h => h))
      have HO58 := Lib.hid (HO57.out.touch hf8 (fun _ _ _ => id))
      have HB58 := Lib.hid (HB57.out.touch hf8 id)
      clear hf8
      clear hp0 hq0 hp1 hq1 hp2 hq2 hp3 hq3 hp4 hq4 hp5 hq5 hp6 hq6 hp7 hq7 hp8 hq8
      have hp0 := HB58.out.cell 0
      have hp1 := HB58.out.cell 1
      have hp2 := HB58.out.cell 2
      have hp3 := HB58.out.cell 3
      have hp4 := HB58.out.cell 4
      have hp5 := HB58.out.cell 5
      have hp6 := HB58.out.cell 6
      have hp7 := HB58.out.cell 7
      have hp8 := HB58.out.cell 8
      simp only [List.getElem?_toArray, List.getElem?_cons_zero, List.getElem?_cons_succ] at hp0 hp1 hp2 hp3 hp4 hp5 hp6 hp7 hp8
      go_wp2_with fail
      refine (state_any y Ay cy By dy w8 HO58.out.at_ HO58.out.blk (by omega) (by omega) (HLEN.out.2.2.2.mono (by unfold maxLen; omega))).mono ?_
      intro e w9 h
      rcases h.cases with ⟨hr9, _⟩ | ⟨ys9, B9, c9, hr9, rfl, hrow9, _, hf9⟩
      · have := HBACK.out.symm.trans hr9; cases this
      obtain rfl : zs = ys9 := Option.some.inj (HBACK.out.symm.trans hr9)
      have hcv9 := run_convert_Bs (P := Try.prog) 24 9 Try.underlying24 Try.underlying5 Try.underlying9 (Row.bs hrow9)
      have hcv9' := run_convert_Bs (P := Try.prog) 24 9 Try.underlying24 Try.underlying5 Try.underlying9 (HBSW.out.fresh (HF8.out.trans hf9 (fun _ _ h => h)))
      have HF9 := Lib.hid (HF8.out.trans hf9 (fun _ _ h => h))
      clear hrow9 hf9 hr9 h hp0 hp1 hp2 hp3 hp4 hp5 hp6 hp7 hp8
      go_wp2_with fail
      refine (wakes_any w9).mono ?_
      rintro e w10 ⟨rfl, hf10⟩
      have HF10 := Lib.hid (HF9.out.trans hf10 (fun _ _ h => h))
      clear hf10
      go_wp2_with fail
      go_ret
      exact ⟨rfl, HF10.out⟩
  · have hB2 := HB0.out.touch hf id
    have hy0 := hB2.cell 0
    have hy1 := hB2.cell 1
    have hy2 := hB2.cell 2
    have hy3 := hB2.cell 3
    have hy4 := hB2.cell 4
    have hy5 := hB2.cell 5
    have hy6 := hB2.cell 6
    have hy7 := hB2.cell 7
    have hy8 := hB2.cell 8
    simp only [List.getElem?_toArray, List.getElem?_cons_zero, List.getElem?_cons_succ] at hy0 hy1 hy2 hy3 hy4 hy5 hy6 hy7 hy8
    have HR := Lib.hid hr
    have HROW := Lib.hid hrow
    have HNEW := Lib.hid hnew
    have HF12 := Lib.hid hf
    have HF2 := Lib.hid (HT0.out.trans hf (fun _ _ h => h))
    have hys := sta_inv hr
    clear hr hf h hB2 hrow hnew
    go_wp2_with fail
    refine (refstate_any s X cx Y dx w2 (HVX.out.fresh HF2.out) (HX.out.le HF2.out.size) hnx hmx HSX.out).mono ?_
    intro e w3 h
    rcases h.cases with ⟨hr3, rfl, hf3⟩ | ⟨ys', D, cc, hr3, rfl, hrow3, hnew3, hf3⟩
    · have := HR.out.symm.trans hr3; cases this
    obtain rfl : ys = ys' := Option.some.inj (HR.out.symm.trans hr3)
    have hrowb3 := HROW.out.touch hf3 (fun _ _ => id)
    have hcv := run_convert_Bs (P := Try.prog) 24 9 Try.underlying24 Try.underlying5 Try.underlying9 (Row.bs hrowb3)
    have hcv' := run_convert_Bs (P := Try.prog) 24 9 Try.underlying24 Try.underlying5 Try.underlying9 (Row.bs hrow3)
    have HROWB := Lib.hid hrowb3
    have HROWC := Lib.hid hrow3
    have HNEWC := Lib.hid hnew3
    have HF3 := Lib.hid (HF2.out.trans hf3 (fun _ _ h => h))
    have HF13 := Lib.hid (HF12.out.trans hf3 (fun _ _ h => h))
    have HYS := Lib.hid hys
    clear hr3 hf3 h hrowb3 hrow3 hnew3 hys hx0 hy0 hx1 hy1 hx2 hy2 hx3 hy3 hx4 hy4 hx5 hy5 hx6 hy6 hx7 hy7 hx8 hy8
    go_wp2_with fail
    have hrd := sta_read B ys.length cb ys w3 HROWB.out.bs (fun a ha _ => HROWB.out.lt a.block (by rw [ha]; rfl)) (by have := HYS.out.2.2.1; omega)
    rw [Plain.state_whole s HR.out] at hrd
    refine hrd.mono ?_
    intro e w4 h
    rcases h.cases with ⟨a, hr4, _⟩ | ⟨s4, A4, c4, B4, d4, hr4, rfl, ho4, hf4⟩
    · cases hr4
    obtain rfl : s = s4 := by injection hr4
    obtain ⟨W4, hW4⟩ : ∃ W4, W4 = w4.alloc (.cells #[.string ⟨s.df.toArray⟩, .string ⟨s.id.toArray⟩, .string ⟨s.pa.toArray⟩, .string ⟨s.pn.toArray⟩, .int .i64 s.st, .string ⟨s.tx.toArray⟩, .slice A4 s.nd.length c4, .slice B4 s.sg.length d4, .int .i64 s.ev] 67) := ⟨_, rfl⟩
    have HF34 := Lib.hid (show Fresh w3 W4 by rw [hW4]; exact hf4.alloc _)
    have HO4 := Lib.hid (show StaOwn w3 W4 s A4 c4 B4 d4 by rw [hW4]; exact ho4.touch ((Touch.refl (fun _ => False) _).alloc _) (fun _ _ _ => id))
    have hBy : Blk W4 w4.heap.size 67 #[.string ⟨s.df.toArray⟩, .string ⟨s.id.toArray⟩, .string ⟨s.pa.toArray⟩, .string ⟨s.pn.toArray⟩, .int .i64 s.st, .string ⟨s.tx.toArray⟩, .slice A4 s.nd.length c4, .slice B4 s.sg.length d4, .int .i64 s.ev] := by rw [hW4]; exact Blk.new _ _ _
    have hBx : Blk W4 w.heap.size 67 #[.string ⟨s.df.toArray⟩, .string ⟨s.id.toArray⟩, .string ⟨s.pa.toArray⟩, .string ⟨s.pn.toArray⟩, .int .i64 s.st, .string ⟨s.tx.toArray⟩, .slice X s.nd.length cx, .slice Y s.sg.length dx, .int .i64 s.ev] := (HB0.out.touch HF13.out id).touch HF34.out id
    have HBX := Lib.hid hBx; have HW4 := Lib.hid hW4
    have hz0 := hBy.cell 0
    have hz1 := hBy.cell 1
    have hz2 := hBy.cell 2
    have hz3 := hBy.cell 3
    have hz4 := hBy.cell 4
    have hz5 := hBy.cell 5
    have hz6 := hBy.cell 6
    have hz7 := hBy.cell 7
    have hz8 := hBy.cell 8
    simp only [List.getElem?_toArray, List.getElem?_cons_zero, List.getElem?_cons_succ] at hz0 hz1 hz2 hz3 hz4 hz5 hz6 hz7 hz8
    have hv0 := hBx.cell 0
    have hv1 := hBx.cell 1
    have hv2 := hBx.cell 2
    have hv3 := hBx.cell 3
    have hv4 := hBx.cell 4
    have hv5 := hBx.cell 5
    have hv6 := hBx.cell 6
    have hv7 := hBx.cell 7
    have hv8 := hBx.cell 8
    simp only [List.getElem?_toArray, List.getElem?_cons_zero, List.getElem?_cons_succ] at hv0 hv1 hv2 hv3 hv4 hv5 hv6 hv7 hv8
    rw [hW4] at hz0 hv0 hz1 hv1 hz2 hv2 hz3 hv3 hz4 hv4 hz5 hv5 hz6 hv6 hz7 hv7 hz8 hv8
    have hnot : ∀ (x : Bool) (w : World), (Op.unary .not (.bool x)).run Try.prog w = .ok (.bool (!x)) w := fun _ _ => rfl
    clear hrd hf4 ho4 hr4 h hBy hBx hW4
    unfold stV
    go_wp2_with fail
    rw [← HW4.out]
    have HF4 := Lib.hid (HF3.out.trans HF34.out (fun _ _ h => h))
    refine (keepsta_any s A4 c4 B4 d4 X cx Y dx W4 HO4.out.at_ (HVX.out.fresh HF4.out) (by omega) (by omega)).mono ?_
    rintro e w5 ⟨rfl, hf5⟩
    clear hz0 hv0 hz1 hv1 hz2 hv2 hz3 hv3 hz4 hv4 hz5 hv5 hz6 hv6 hz7 hv7 hz8 hv8
    have HF5 := Lib.hid (HF4.out.trans hf5 (fun _ _ h => h))
    have HB5X := Lib.hid (HBX.out.touch hf5 id)
    have HROWB5 := Lib.hid ((HROWB.out.touch HF34.out (fun _ _ => id)).touch hf5 (fun _ _ => id))
    have HROWC5 := Lib.hid ((HROWC.out.touch HF34.out (fun _ _ => id)).touch hf5 (fun _ _ => id))
    clear hf5
    go_wp2_with fail
    refine (spoil_any ys (.slice B ys.length cb) w5 HROWB5.out (by have := HYS.out.2.2.1; omega)).mono ?_
    rintro e w6 ⟨rfl, ht6⟩
    have hnb : ∀ q, (Value.slice B ys.length cb).ownBlock = some q → w1.heap.size ≤ q ∧ q < w2.heap.size := fun q hq => ⟨HNEW.out q hq, HROW.out.lt q hq⟩
    have hs1 := HB0.out.lt
    have HF6 := Lib.hid (show Fresh w w6 from HF5.out.trans ht6 (fun i hi hs => by have h1 := hnb i hs; have h2 := HT0.out.size; omega))
    have hB6 := HB5X.out.touch ht6 (fun hs => by have := hnb _ hs; omega)
    have HROW6 := Lib.hid (HROWC5.out.touch ht6 (fun q hq hs => by have h1 := hnb _ hs; have h2 := HNEWC.out q hq; omega))
    have hu0 := hB6.cell 0
    have hu1 := hB6.cell 1
    have hu2 := hB6.cell 2
    have hu3 := hB6.cell 3
    have hu4 := hB6.cell 4
    have hu5 := hB6.cell 5
    have hu6 := hB6.cell 6
    have hu7 := hB6.cell 7
    have hu8 := hB6.cell 8
    simp only [List.getElem?_toArray, List.getElem?_cons_zero, List.getElem?_cons_succ] at hu0 hu1 hu2 hu3 hu4 hu5 hu6 hu7 hu8
    clear ht6 hnb hB6
    go_wp2_with fail
    refine (state_any s X cx Y dx w6 (HVX.out.fresh HF6.out) (HX.out.le HF6.out.size) hnx hmx HSM.out).mono ?_
    intro e w7 h
    rcases h.cases with ⟨hr7, _⟩ | ⟨ys', E7, ce, hr7, rfl, hrow7, _, hf7⟩
    · have := HR.out.symm.trans hr7; cases this
    obtain rfl : ys = ys' := Option.some.inj (HR.out.symm.trans hr7)
    have hcv7 := run_convert_Bs (P := Try.prog) 24 9 Try.underlying24 Try.underlying5 Try.underlying9 (Row.bs hrow7)
    have hcv7' := run_convert_Bs (P := Try.prog) 24 9 Try.underlying24 Try.underlying5 Try.underlying9 (Row.bs (HROW6.out.touch hf7 (fun _ _ => id)))
    have HWK := Lib.hid (HF6.out.trans hf7 (fun _ _ h => h))
    have HBSK := Lib.hid (HBSW.out.fresh HWK.out)
    clear hr7 hf7 h hrow7 hu0 hu1 hu2 hu3 hu4 hu5 hu6 hu7 hu8
    go_wp2_with fail
    refine (lend_any A m c zs w7 HBSK.out (by omega)).mono ?_
    rintro e w4 ⟨hf4, L, cl, rfl, hl4, hnl⟩
    have hlt4 : ∀ a, L = some a → a.block < w4.heap.size := fun a ha => hl4.2.lt a.block (by rw [ha]; rfl)
    have hwk := HWK.out.size
    have HF4 := Lib.hid (HWK.out.trans hf4 (fun _ _ h => h))
    have HL4 := Lib.hid hl4
    have HNL := Lib.hid hnl
    have HLT4 := Lib.hid hlt4
    have HBS4 := Lib.hid (HBSK.out.fresh hf4)
    clear hf4 hl4 hnl hlt4
    go_wp2_with fail
    refine (sta_read L m cl zs w4 HL4.out.bs (fun a ha _ => HLT4.out a ha) (by omega)).mono ?_
    intro e w5 h
    rcases h.cases with ⟨a, hr5, rfl, hf5⟩ | ⟨y, Ay, cy, By, dy, hr5, rfl, ho5, hf5⟩
    · have HR5 := Lib.hid hr5
      obtain ⟨W5, hW5⟩ : ∃ W5, W5 = w5.alloc (.cells #[.string ⟨#[]⟩, .string ⟨#[]⟩, .string ⟨#[]⟩, .string ⟨#[]⟩, .int .i64 0, .string ⟨#[]⟩, .slice none 0 0, .slice none 0 0, .int .i64 0] 67) := ⟨_, rfl⟩
      have hF45 : Fresh w4 W5 := by rw [hW5]; exact hf5.alloc _
      have HB5 := Lib.hid (show Blk W5 w5.heap.size 67 #[.string ⟨#[]⟩, .string ⟨#[]⟩, .string ⟨#[]⟩, .string ⟨#[]⟩, .int .i64 0, .string ⟨#[]⟩, .slice none 0 0, .slice none 0 0, .int .i64 0] by rw [hW5]; exact Blk.new _ _ _)
      have hs45 := hf5.size
      have HF45 := Lib.hid hF45; have HW5 := Lib.hid hW5
      clear hF45 hW5 hf5 h hr5
      go_wp2_with fail
      rw [← HW5.out]
      refine (refsta_read A m c zs W5 (HBS4.out.fresh HF45.out) (fun a ha h0 => by have h1 := HAB.out a ha h0; have h2 := HF4.out.size; have h3 := HF45.out.size; omega) (by omega)).mono ?_
      intro e w6 h
      rcases h.cases with ⟨a', hr6, rfl, hf6⟩ | ⟨z, Az, cz, Bz, dz, hr6, rfl, ho6, hf6⟩
      rotate_left
      · have := HR5.out.symm.trans hr6; cases this
      obtain rfl : a = a' := by have := HR5.out.symm.trans hr6; injection this
      obtain ⟨W6, hW6⟩ : ∃ W6, W6 = w6.alloc (.cells #[.string ⟨#[]⟩, .string ⟨#[]⟩, .string ⟨#[]⟩, .string ⟨#[]⟩, .int .i64 0, .string ⟨#[]⟩, .slice none 0 0, .slice none 0 0, .int .i64 0] 67) := ⟨_, rfl⟩
      have HF46 := Lib.hid (show Fresh w4 W6 by rw [hW6]; exact (HF45.out.trans hf6 (fun _ _ h => h)).alloc _)
      have HB6 := Lib.hid (show Blk W6 w6.heap.size 67 #[.string ⟨#[]⟩, .string ⟨#[]⟩, .string ⟨#[]⟩, .string ⟨#[]⟩, .int .i64 0, .string ⟨#[]⟩, .slice none 0 0, .slice none 0 0, .int .i64 0] by rw [hW6]; exact Blk.new _ _ _)
      have HB56 := Lib.hid (show Blk W6 w5.heap.size 67 #[.string ⟨#[]⟩, .string ⟨#[]⟩, .string ⟨#[]⟩, .string ⟨#[]⟩, .int .i64 0, .string ⟨#[]⟩, .slice none 0 0, .slice none 0 0, .int .i64 0] by rw [hW6]; exact (HB5.out.touch hf6 id).alloc _)
      have hs56 := hf6.size
      have hs5 := HB5.out.lt
      have HW6 := Lib.hid hW6
      clear hW6 hf6 h hr6
      go_wp2_with fail
      rw [← HW6.out]
      have hl6 : Lent W6 L m cl zs := ⟨HL4.out.1, HL4.out.2.touch HF46.out (fun _ _ => id)⟩
      refine (intact_any A L m c cl zs W6 (HBS4.out.fresh HF46.out) hl6 (by omega)).mono ?_
      rintro e w7 ⟨rfl, ht7⟩
      have hown : ∀ q, (Value.slice L m cl).ownBlock = some q → q < w4.heap.size ∧ w.heap.size ≤ q := by
        intro q hq
        cases L with
        | none => cases hq
        | some a => simp only [Value.ownBlock, Option.some.injEq] at hq; have h1 := HLT4.out a rfl; have h2 := HNL.out a rfl; omega
      have HF7 := Lib.hid (show Fresh w w7 from (HF4.out.trans HF46.out (fun _ _ h => h)).trans ht7 (fun i hi hs => by have := hown i hs; omega))
      have HB57 := Lib.hid (HB56.out.touch ht7 (fun hs => by have := hown _ hs; omega))
      have HB67 := Lib.hid (HB6.out.touch ht7 (fun hs => by have := hown _ hs; omega))
      have hp0 := HB57.out.cell 0
      have hp1 := HB57.out.cell 1
      have hp2 := HB57.out.cell 2
      have hp3 := HB57.out.cell 3
      have hp4 := HB57.out.cell 4
      have hp5 := HB57.out.cell 5
      have hp6 := HB57.out.cell 6
      have hp7 := HB57.out.cell 7
      have hp8 := HB57.out.cell 8
      simp only [List.getElem?_toArray, List.getElem?_cons_zero, List.getElem?_cons_succ] at hp0 hp1 hp2 hp3 hp4 hp5 hp6 hp7 hp8
      have hq0 := HB67.out.cell 0
      have hq1 := HB67.out.cell 1
      have hq2 := HB67.out.cell 2
      have hq3 := HB67.out.cell 3
      have hq4 := HB67.out.cell 4
      have hq5 := HB67.out.cell 5
      have hq6 := HB67.out.cell 6
      have hq7 := HB67.out.cell 7
      have hq8 := HB67.out.cell 8
      simp only [List.getElem?_toArray, List.getElem?_cons_zero, List.getElem?_cons_succ] at hq0 hq1 hq2 hq3 hq4 hq5 hq6 hq7 hq8
      have hnot : ∀ (x : Bool) (w : World), (Op.unary .not (.bool x)).run Try.prog w = .ok (.bool (!x)) w := fun _ _ => rfl
      clear ht7 hl6 hown
      go_wp2_with fail
      refine (keepsta_any ⟨[], [], [], [], 0, [], [], [], 0⟩ none 0 none 0 none 0 none 0 w7 ⟨VRow.rd (VRow.nil_ w7 127 3), VRow.rd (VRow.nil_ w7 129 2)⟩ ⟨VRow.rd (VRow.nil_ w7 127 3), VRow.rd (VRow.nil_ w7 129 2)⟩ (by simp) (by simp)).mono ?_
      rintro e w8 ⟨rfl, hf8⟩
      have HF8 := Lib.hid (HF7.out.trans hf8 (fun _ _ h => h))
      clear hf8
      clear hp0 hq0 hp1 hq1 hp2 hq2 hp3 hq3 hp4 hq4 hp5 hq5 hp6 hq6 hp7 hq7 hp8 hq8
      go_wp2_with fail
      refine (wakes_any w8).mono ?_
      rintro e w9 ⟨rfl, hf9⟩
      have HF9 := Lib.hid (HF8.out.trans hf9 (fun _ _ h => h))
      clear hf9
      go_wp2_with fail
      go_ret
      exact ⟨rfl, HF9.out⟩
    · have HR5 := Lib.hid hr5
      obtain ⟨W5, hW5⟩ : ∃ W5, W5 = w5.alloc (.cells #[.string ⟨y.df.toArray⟩, .string ⟨y.id.toArray⟩, .string ⟨y.pa.toArray⟩, .string ⟨y.pn.toArray⟩, .int .i64 y.st, .string ⟨y.tx.toArray⟩, .slice Ay y.nd.length cy, .slice By y.sg.length dy, .int .i64 y.ev] 67) := ⟨_, rfl⟩
      have hF45 : Fresh w4 W5 := by rw [hW5]; exact hf5.alloc _
      have HB5 := Lib.hid (show Blk W5 w5.heap.size 67 #[.string ⟨y.df.toArray⟩, .string ⟨y.id.toArray⟩, .string ⟨y.pa.toArray⟩, .string ⟨y.pn.toArray⟩, .int .i64 y.st, .string ⟨y.tx.toArray⟩, .slice Ay y.nd.length cy, .slice By y.sg.length dy, .int .i64 y.ev] by rw [hW5]; exact Blk.new _ _ _)
      have hs45 := hf5.size
      have HF45 := Lib.hid hF45; have HW5 := Lib.hid hW5
      have HO5 := Lib.hid (show StaOwn w4 W5 y Ay cy By dy by rw [hW5]; exact ho5.touch ((Touch.refl (fun _ => False) _).alloc _) (fun _ _ _ => id))
      clear ho5
      clear hF45 hW5 hf5 h hr5
      unfold stV
      go_wp2_with fail
      rw [← HW5.out]
      refine (refsta_read A m c zs W5 (HBS4.out.fresh HF45.out) (fun a ha h0 => by have h1 := HAB.out a ha h0; have h2 := HF4.out.size; have h3 := HF45.out.size; omega) (by omega)).mono ?_
      intro e w6 h
      rcases h.cases with ⟨a, hr6, rfl, hf6⟩ | ⟨z, Az, cz, Bz, dz, hr6, rfl, ho6, hf6⟩
      · have := HR5.out.symm.trans hr6; cases this
      obtain rfl : y = z := by have := HR5.out.symm.trans hr6; injection this
      obtain ⟨W6, hW6⟩ : ∃ W6, W6 = w6.alloc (.cells #[.string ⟨y.df.toArray⟩, .string ⟨y.id.toArray⟩, .string ⟨y.pa.toArray⟩, .string ⟨y.pn.toArray⟩, .int .i64 y.st, .string ⟨y.tx.toArray⟩, .slice Az y.nd.length cz, .slice Bz y.sg.length dz, .int .i64 y.ev] 67) := ⟨_, rfl⟩
      have HF46 := Lib.hid (show Fresh w4 W6 by rw [hW6]; exact (HF45.out.trans hf6 (fun _ _ h => h)).alloc _)
      have HB6 := Lib.hid (show Blk W6 w6.heap.size 67 #[.string ⟨y.df.toArray⟩, .string ⟨y.id.toArray⟩, .string ⟨y.pa.toArray⟩, .string ⟨y.pn.toArray⟩, .int .i64 y.st, .string ⟨y.tx.toArray⟩, .slice Az y.nd.length cz, .slice Bz y.sg.length dz, .int .i64 y.ev] by rw [hW6]; exact Blk.new _ _ _)
      have HB56 := Lib.hid (show Blk W6 w5.heap.size 67 #[.string ⟨y.df.toArray⟩, .string ⟨y.id.toArray⟩, .string ⟨y.pa.toArray⟩, .string ⟨y.pn.toArray⟩, .int .i64 y.st, .string ⟨y.tx.toArray⟩, .slice Ay y.nd.length cy, .slice By y.sg.length dy, .int .i64 y.ev] by rw [hW6]; exact (HB5.out.touch hf6 id).alloc _)
      have hs56 := hf6.size
      have hs5 := HB5.out.lt
      have HO56 := Lib.hid (show StaOwn w4 W6 y Ay cy By dy by rw [hW6]; exact (HO5.out.touch hf6 (fun _ _ _ => id)).touch ((Touch.refl (fun _ => False) _).alloc _) (fun _ _ _ => id))
      have HO6 := Lib.hid (show StaOwn W5 W6 y Az cz Bz dz by rw [hW6]; exact ho6.touch ((Touch.refl (fun _ => False) _).alloc _) (fun _ _ _ => id))
      clear ho6
      have HW6 := Lib.hid hW6
      clear hW6 hf6 h hr6
      unfold stV
      go_wp2_with fail
      rw [← HW6.out]
      have hl6 : Lent W6 L m cl zs := ⟨HL4.out.1, HL4.out.2.touch HF46.out (fun _ _ => id)⟩
      refine (intact_any A L m c cl zs W6 (HBS4.out.fresh HF46.out) hl6 (by omega)).mono ?_
      rintro e w7 ⟨rfl, ht7⟩
      have hown : ∀ q, (Value.slice L m cl).ownBlock = some q → q < w4.heap.size ∧ w.heap.size ≤ q := by
        intro q hq
        cases L with
        | none => cases hq
        | some a => simp only [Value.ownBlock, Option.some.injEq] at hq; have h1 := HLT4.out a rfl; have h2 := HNL.out a rfl; omega
      have HF7 := Lib.hid (show Fresh w w7 from (HF4.out.trans HF46.out (fun _ _ h => h)).trans ht7 (fun i hi hs => by have := hown i hs; omega))
      have HB57 := Lib.hid (HB56.out.touch ht7 (fun hs => by have := hown _ hs; omega))
      have HB67 := Lib.hid (HB6.out.touch ht7 (fun hs => by have := hown _ hs; omega))
      have hsW5 := HF45.out.size
      have HO57 := Lib.hid (HO56.out.touch ht7 (fun k h1 h2 hs => by have := hown k hs; omega))
      have HO67 := Lib.hid (HO6.out.touch ht7 (fun k h1 h2 hs => by have := hown k hs; omega))
      have hp0 := HB57.out.cell 0
      have hp1 := HB57.out.cell 1
      have hp2 := HB57.out.cell 2
      have hp3 := HB57.out.cell 3
      have hp4 := HB57.out.cell 4
      have hp5 := HB57.out.cell 5
      have hp6 := HB57.out.cell 6
      have hp7 := HB57.out.cell 7
      have hp8 := HB57.out.cell 8
      simp only [List.getElem?_toArray, List.getElem?_cons_zero, List.getElem?_cons_succ] at hp0 hp1 hp2 hp3 hp4 hp5 hp6 hp7 hp8
      have hq0 := HB67.out.cell 0
      have hq1 := HB67.out.cell 1
      have hq2 := HB67.out.cell 2
      have hq3 := HB67.out.cell 3
      have hq4 := HB67.out.cell 4
      have hq5 := HB67.out.cell 5
      have hq6 := HB67.out.cell 6
      have hq7 := HB67.out.cell 7
      have hq8 := HB67.out.cell 8
      simp only [List.getElem?_toArray, List.getElem?_cons_zero, List.getElem?_cons_succ] at hq0 hq1 hq2 hq3 hq4 hq5 hq6 hq7 hq8
      have hnot : ∀ (x : Bool) (w : World), (Op.unary .not (.bool x)).run Try.prog w = .ok (.bool (!x)) w := fun _ _ => rfl
      clear ht7 hl6 hown
      go_wp2_with fail
      have hback : Enc.state y = some zs := Plain.state_back (by rw [HZL.out]; exact HR5.out)
      have hlen := sta_inv hback
      have HBACK := Lib.hid hback
      have HLEN := Lib.hid hlen
      clear hback hlen
      have hnd : y.nd.length ≤ m := by have := HLEN.out.1; have := HZL.out; omega
      have hsg : y.sg.length ≤ m := by have := HLEN.out.2.1; have := HZL.out; omega
      refine (keepsta_any y Ay cy By dy Az cz Bz dz w7 HO57.out.at_ HO67.out.at_ (by omega) (by omega)).mono ?_
      rintro e w8 ⟨rfl, hf8⟩
      have HF8 := Lib.hid (HF7.out.trans hf8 (fun _ _ h => h))
      have HO58 := Lib.hid (HO57.out.touch hf8 (fun _ _ _ => id))
      have HB58 := Lib.hid (HB57.out.touch hf8 id)
      clear hf8
      clear hp0 hq0 hp1 hq1 hp2 hq2 hp3 hq3 hp4 hq4 hp5 hq5 hp6 hq6 hp7 hq7 hp8 hq8
      have hp0 := HB58.out.cell 0
      have hp1 := HB58.out.cell 1
      have hp2 := HB58.out.cell 2
      have hp3 := HB58.out.cell 3
      have hp4 := HB58.out.cell 4
      have hp5 := HB58.out.cell 5
      have hp6 := HB58.out.cell 6
      have hp7 := HB58.out.cell 7
      have hp8 := HB58.out.cell 8
      simp only [List.getElem?_toArray, List.getElem?_cons_zero, List.getElem?_cons_succ] at hp0 hp1 hp2 hp3 hp4 hp5 hp6 hp7 hp8
      go_wp2_with fail
      refine (state_any y Ay cy By dy w8 HO58.out.at_ HO58.out.blk (by omega) (by omega) (HLEN.out.2.2.2.mono (by unfold maxLen; omega))).mono ?_
      intro e w9 h
      rcases h.cases with ⟨hr9, _⟩ | ⟨ys9, B9, c9, hr9, rfl, hrow9, _, hf9⟩
      · have := HBACK.out.symm.trans hr9; cases this
      obtain rfl : zs = ys9 := Option.some.inj (HBACK.out.symm.trans hr9)
      have hcv9 := run_convert_Bs (P := Try.prog) 24 9 Try.underlying24 Try.underlying5 Try.underlying9 (Row.bs hrow9)
      have hcv9' := run_convert_Bs (P := Try.prog) 24 9 Try.underlying24 Try.underlying5 Try.underlying9 (HBSW.out.fresh (HF8.out.trans hf9 (fun _ _ h => h)))
      have HF9 := Lib.hid (HF8.out.trans hf9 (fun _ _ h => h))
      clear hrow9 hf9 hr9 h hp0 hp1 hp2 hp3 hp4 hp5 hp6 hp7 hp8
      go_wp2_with fail
      refine (wakes_any w9).mono ?_
      rintro e w10 ⟨rfl, hf10⟩
      have HF10 := Lib.hid (HF9.out.trans hf10 (fun _ _ h => h))
      clear hf10
      go_wp2_with fail
      go_ret
      exact ⟨rfl, HF10.out⟩
end Go.Proofs.Ytdfhdanfigpbpaa
