/- The walk of the law CodecEvent: it answers true (printed by gen_law2.py). Conditions stand with it. -/
import Derived.Test.YtdfhdanfigpbpaaWakes
import Derived.Test.YtdfhdanfigpbpaaPlain
import Derived.Laws.StructEq
namespace Go.Proofs.Ytdfhdanfigpbpaa
open Go.RowKit

theorem neq_event (k n : Int) (a b : ByteArray) (w : World) : (binOp .neq 23 (.agg #[.int .i64 k, .string a, .string b, .int .i64 n]) (.agg #[.int .i64 k, .string a, .string b, .int .i64 n])).run Try.prog w = .ok (.bool false) w := by
  have hS : Try.prog.underlying 23 = some (.struct (Try.prog.fieldsOf 23)) := by kernel_rfl
  have hP : Try.prog.stoodInHeld 23 = false := by kernel_rfl
  rw [run_neq_struct, run_equalIn_struct w 9999 23 _ _ hS hP]
  simp only [Program.fieldsOf, Try.underlying23]
  simp [Op.eqFields, go_sem]
theorem text_len {s ys : List UInt8} (h : Enc.text s = some ys) : s.length ≤ ys.length ∧ s.length ≤ 1048576 := by
  obtain ⟨y1, y2, h1, h2, rfl⟩ := Plain.cat_inv h
  injection h2 with h2
  subst h2
  unfold Enc.number at h1
  split at h1
  · cases h1
  · rw [List.length_append]
    omega
theorem event_size {k n : Int} {node tx ys : List UInt8} (h : Enc.event k node tx n = some ys) : ys.length ≤ 2100000 := by
  obtain ⟨y1, y2, h1, h2, rfl⟩ := Plain.cat_inv h
  obtain ⟨y3, y4, h3, h4, rfl⟩ := Plain.cat_inv h1
  rw [Enc.nil0, Enc.nil_cat] at h3
  have e1 := Enc.number_size (by omega) h3
  have e2 := Enc.signed_size h2
  have e3 := texts_size h4
  simp only [List.length_append, List.length_cons, List.length_nil] at e3 ⊢
  omega
theorem event_len {k n : Int} {node tx ys : List UInt8} (h : Enc.event k node tx n = some ys) : node.length ≤ maxLen ∧ tx.length ≤ maxLen := by
  obtain ⟨y1, y2, h1, h2, rfl⟩ := Plain.cat_inv h
  obtain ⟨y3, y4, h3, h4, rfl⟩ := Plain.cat_inv h1
  obtain ⟨y5, y6, h5, h6, rfl⟩ := Plain.texts2_inv h4
  have e1 := text_len h5
  have e2 := text_len h6
  unfold maxLen
  omega
theorem eventL_any (k n : Int) (node tx : List UInt8) (w : World) (hnode : node.length ≤ maxLen) (htx : tx.length ≤ maxLen) : Calls Try.prog 15 #[.agg #[.int .i64 k, .string ⟨node.toArray⟩, .string ⟨tx.toArray⟩, .int .i64 n]] w (EncEnd w (Enc.event k node tx n)) :=
  event_any k n ⟨node.toArray⟩ ⟨tx.toArray⟩ w hnode htx
theorem refeventL_any (k n : Int) (node tx : List UInt8) (w : World) (hnode : node.length ≤ 1048576) (htx : tx.length ≤ 1048576) : Calls Try.prog 16 #[.agg #[.int .i64 k, .string ⟨node.toArray⟩, .string ⟨tx.toArray⟩, .int .i64 n]] w (EncEnd w (Enc.event k node tx n)) :=
  refevent_any k n ⟨node.toArray⟩ ⟨tx.toArray⟩ w hnode htx


set_option maxRecDepth 100000 in
set_option maxHeartbeats 8000000 in
theorem law_event (k u : Int) (node tx : List UInt8) (A : Option Addr) (n c : Nat) (xs : List UInt8) (w : World) (hbs : Bs w A n c xs) (hA : ∀ a, A = some a → 0 < n → a.block < w.heap.size) (hnode : node.length ≤ 1048576) (htx : tx.length ≤ 1048576) :
    Calls Try.prog 3 #[.agg #[.int .i64 k, .string ⟨node.toArray⟩, .string ⟨tx.toArray⟩, .int .i64 u], .slice A n c] w fun e w' => e = .returned (.bool true) ∧ Fresh w w' := by
  obtain ⟨w0, hw0⟩ : ∃ w0, w0 = w.alloc (.cells #[.int .i64 k, .string ⟨node.toArray⟩, .string ⟨tx.toArray⟩, .int .i64 u] 23) := ⟨_, rfl⟩
  have hT0 : Fresh w w0 := by rw [hw0]; exact (Touch.refl _ w).alloc _
  have hB0 : Blk w0 w.heap.size 23 #[.int .i64 k, .string ⟨node.toArray⟩, .string ⟨tx.toArray⟩, .int .i64 u] := by rw [hw0]; exact Blk.new _ _ _
  have HC := Lib.hid (clip_any A n c xs w0 (hbs.fresh hT0))
  have HW0 := Lib.hid hw0; have HT0 := Lib.hid hT0; have HB0 := Lib.hid hB0; have HBSO := Lib.hid hbs; have HA := Lib.hid hA
  clear hw0 hT0 hB0 hbs hA
  go_enter Try.func3, Try.ntmps3
  go_wp2_with fail
  rw [← HW0.out]
  refine HC.out.mono ?_
  rintro e w1 ⟨rfl, m, hm1, hm2, rfl, hb⟩
  obtain ⟨zs, hzs⟩ : ∃ zs, zs = xs.take m := ⟨_, rfl⟩
  rw [← hzs] at hb
  have hzl : zs.length = m := hb.1
  have HZL := Lib.hid hzl
  have hbw : Bs w A m c zs := by rw [hzs]; exact HBSO.out.take hm1
  have hab : ∀ a, A = some a → 0 < m → a.block < w.heap.size := fun a ha h0 => HA.out a ha (by omega)
  have HBSW := Lib.hid hbw; have HAB := Lib.hid hab
  clear hb hbw hab hzs hzl
  have hx0 := HB0.out.cell 0
  have hx1 := HB0.out.cell 1
  have hx2 := HB0.out.cell 2
  have hx3 := HB0.out.cell 3
  simp only [List.getElem?_toArray, List.getElem?_cons_zero, List.getElem?_cons_succ] at hx0 hx1 hx2 hx3
  go_wp2_with fail
  refine (eventL_any k u node tx w1 (by unfold maxLen; omega) (by unfold maxLen; omega)).mono ?_
  intro e w2 h
  rcases h.cases with ⟨hr, rfl, hf⟩ | ⟨ys, B, cb, hr, rfl, hrow, hnew, hf⟩
  · have hB2 := HB0.out.touch hf id
    have hy0 := hB2.cell 0
    have hy1 := hB2.cell 1
    have hy2 := hB2.cell 2
    have hy3 := hB2.cell 3
    simp only [List.getElem?_toArray, List.getElem?_cons_zero, List.getElem?_cons_succ] at hy0 hy1 hy2 hy3
    have HR := Lib.hid hr
    have HF2 := Lib.hid (HT0.out.trans hf (fun _ _ h => h))
    clear hr hf h hB2
    go_wp2_with fail
    refine (refeventL_any k u node tx w2 hnode htx).mono ?_
    intro e w3 h
    rcases h.cases with ⟨hr3, rfl, hf3⟩ | ⟨ys, B, cb, hr3, rfl, hrow, hnew, hf3⟩
    rotate_left
    · have := HR.out.symm.trans hr3; cases this
    have hcv := run_convert_Bs (P := Try.prog) (w := w3) 24 9 Try.underlying24 Try.underlying5 Try.underlying9 (A := none) (n := 0) (c := 0) (xs := []) ⟨rfl, Nat.le_refl _, by decide, fun h => by omega⟩
    have HWK := Lib.hid (HF2.out.trans hf3 (fun _ _ h => h))
    have HBSK := Lib.hid (HBSW.out.fresh HWK.out)
    clear hr3 hf3 h
    go_wp2_with fail
    refine (lend_any A m c zs w3 HBSK.out (by omega)).mono ?_
    rintro e w4 ⟨hf4, L, cl, rfl, hl4, hnl⟩
    have hlt4 : ∀ a, L = some a → a.block < w4.heap.size := fun a ha => hl4.2.lt a.block (by rw [ha]; rfl)
    have hwk := HWK.out.size
    have HF4 := Lib.hid (HWK.out.trans hf4 (fun _ _ h => h))
    have HL4 := Lib.hid hl4
    have HNL := Lib.hid hnl
    have HLT4 := Lib.hid hlt4
    have HBS4 := Lib.hid (HBSK.out.fresh hf4)
    clear hf4 hl4 hnl hlt4
    go_wp2_with fail
    refine (event_read L m cl zs w4 HL4.out.bs (fun a ha _ => HLT4.out a ha)).mono ?_
    intro e w5 h
    rcases h.cases with ⟨a, hr5, rfl, hf5⟩ | ⟨x, hr5, rfl, hf5⟩
    · have HR5 := Lib.hid hr5
      obtain ⟨W5, hW5⟩ : ∃ W5, W5 = w5.alloc (.cells #[.int .i64 0, .string ⟨#[]⟩, .string ⟨#[]⟩, .int .i64 0] 23) := ⟨_, rfl⟩
      have hF45 : Fresh w4 W5 := by rw [hW5]; exact hf5.alloc _
      have hB5 : Blk W5 w5.heap.size 23 #[.int .i64 0, .string ⟨#[]⟩, .string ⟨#[]⟩, .int .i64 0] := by rw [hW5]; exact Blk.new _ _ _
      have hs45 := hf5.size
      have HF45 := Lib.hid hF45; have HB5 := Lib.hid hB5; have HW5 := Lib.hid hW5
      clear hF45 hB5 hW5 hf5 h hr5
      go_wp2_with fail
      rw [← HW5.out]
      refine (refevent_read A m c zs W5 (HBS4.out.fresh HF45.out) (fun a ha h0 => by have h1 := HAB.out a ha h0; have h2 := HF4.out.size; have h3 := HF45.out.size; omega) (by omega)).mono ?_
      intro e w6 h
      rcases h.cases with ⟨a', hr6, rfl, hf6⟩ | ⟨x', hr6, rfl, hf6⟩
      rotate_left
      · have := HR5.out.symm.trans hr6; cases this
      obtain rfl : a = a' := by have := HR5.out.symm.trans hr6; injection this
      obtain ⟨W6, hW6⟩ : ∃ W6, W6 = w6.alloc (.cells #[.int .i64 0, .string ⟨#[]⟩, .string ⟨#[]⟩, .int .i64 0] 23) := ⟨_, rfl⟩
      have hF46 : Fresh w4 W6 := by rw [hW6]; exact (HF45.out.trans hf6 (fun _ _ h => h)).alloc _
      have hB6 : Blk W6 w6.heap.size 23 #[.int .i64 0, .string ⟨#[]⟩, .string ⟨#[]⟩, .int .i64 0] := by rw [hW6]; exact Blk.new _ _ _
      have hB56 : Blk W6 w5.heap.size 23 #[.int .i64 0, .string ⟨#[]⟩, .string ⟨#[]⟩, .int .i64 0] := by rw [hW6]; exact (HB5.out.touch hf6 id).alloc _
      have hs56 := hf6.size
      have hs5 := HB5.out.lt
      have HF46 := Lib.hid hF46; have HB6 := Lib.hid hB6; have HB56 := Lib.hid hB56; have HW6 := Lib.hid hW6
      clear hF46 hB6 hB56 hW6 hf6 h hr6
      go_wp2_with fail
      rw [← HW6.out]
      have hl6 : Lent W6 L m cl zs := ⟨HL4.out.1, HL4.out.2.touch HF46.out (fun _ _ => id)⟩
      refine (intact_any A L m c cl zs W6 (HBS4.out.fresh HF46.out) hl6 (by omega)).mono ?_
      rintro e w7 ⟨rfl, ht7⟩
      have hown : ∀ q, (Value.slice L m cl).ownBlock = some q → q < w4.heap.size ∧ w.heap.size ≤ q := by
        intro q hq
        cases L with
        | none => cases hq
        | some a => simp only [Value.ownBlock, Option.some.injEq] at hq; have h1 := HLT4.out a rfl; have h2 := HNL.out a rfl; omega
      have hF7 : Fresh w w7 := (HF4.out.trans HF46.out (fun _ _ h => h)).trans ht7 (fun i hi hs => by have := hown i hs; omega)
      have hB57 := HB56.out.touch ht7 (fun hs => by have := hown _ hs; omega)
      have hB67 := HB6.out.touch ht7 (fun hs => by have := hown _ hs; omega)
      have hp0 := hB57.cell 0
      have hp1 := hB57.cell 1
      have hp2 := hB57.cell 2
      have hp3 := hB57.cell 3
      simp only [List.getElem?_toArray, List.getElem?_cons_zero, List.getElem?_cons_succ] at hp0 hp1 hp2 hp3
      have hq0 := hB67.cell 0
      have hq1 := hB67.cell 1
      have hq2 := hB67.cell 2
      have hq3 := hB67.cell 3
      simp only [List.getElem?_toArray, List.getElem?_cons_zero, List.getElem?_cons_succ] at hq0 hq1 hq2 hq3
      have hnot : ∀ (x : Bool) (w : World), (Op.unary .not (.bool x)).run Try.prog w = .ok (.bool (!x)) w := fun _ _ => rfl
      have hne := neq_event 0 0 ⟨#[]⟩ ⟨#[]⟩ w7
      have HF7 := Lib.hid hF7
      clear hF7 ht7 hl6 hB57 hB67 hown
      go_wp2_with fail
      refine (wakes_any w7).mono ?_
      rintro e w8 ⟨rfl, hf8⟩
      have HF8 := Lib.hid (HF7.out.trans hf8 (fun _ _ h => h))
      clear hf8
      go_wp2_with fail
      go_ret
      exact ⟨rfl, HF8.out⟩
    · have HR5 := Lib.hid hr5
      obtain ⟨x0, x1, x2, x3⟩ := x
      obtain ⟨W5, hW5⟩ : ∃ W5, W5 = w5.alloc (.cells #[.int .i64 x0, .string ⟨x1.toArray⟩, .string ⟨x2.toArray⟩, .int .i64 x3] 23) := ⟨_, rfl⟩
      have hF45 : Fresh w4 W5 := by rw [hW5]; exact hf5.alloc _
      have hB5 : Blk W5 w5.heap.size 23 #[.int .i64 x0, .string ⟨x1.toArray⟩, .string ⟨x2.toArray⟩, .int .i64 x3] := by rw [hW5]; exact Blk.new _ _ _
      have hs45 := hf5.size
      have HF45 := Lib.hid hF45; have HB5 := Lib.hid hB5; have HW5 := Lib.hid hW5
      clear hF45 hB5 hW5 hf5 h hr5
      unfold evV
      go_wp2_with fail
      rw [← HW5.out]
      refine (refevent_read A m c zs W5 (HBS4.out.fresh HF45.out) (fun a ha h0 => by have h1 := HAB.out a ha h0; have h2 := HF4.out.size; have h3 := HF45.out.size; omega) (by omega)).mono ?_
      intro e w6 h
      rcases h.cases with ⟨a, hr6, rfl, hf6⟩ | ⟨x', hr6, rfl, hf6⟩
      · have := HR5.out.symm.trans hr6; cases this
      obtain rfl : (⟨x0, x1, x2, x3⟩ : Dec.Ev) = x' := by have := HR5.out.symm.trans hr6; injection this
      obtain ⟨W6, hW6⟩ : ∃ W6, W6 = w6.alloc (.cells #[.int .i64 x0, .string ⟨x1.toArray⟩, .string ⟨x2.toArray⟩, .int .i64 x3] 23) := ⟨_, rfl⟩
      have hF46 : Fresh w4 W6 := by rw [hW6]; exact (HF45.out.trans hf6 (fun _ _ h => h)).alloc _
      have hB6 : Blk W6 w6.heap.size 23 #[.int .i64 x0, .string ⟨x1.toArray⟩, .string ⟨x2.toArray⟩, .int .i64 x3] := by rw [hW6]; exact Blk.new _ _ _
      have hB56 : Blk W6 w5.heap.size 23 #[.int .i64 x0, .string ⟨x1.toArray⟩, .string ⟨x2.toArray⟩, .int .i64 x3] := by rw [hW6]; exact (HB5.out.touch hf6 id).alloc _
      have hs56 := hf6.size
      have hs5 := HB5.out.lt
      have HF46 := Lib.hid hF46; have HB6 := Lib.hid hB6; have HB56 := Lib.hid hB56; have HW6 := Lib.hid hW6
      clear hF46 hB6 hB56 hW6 hf6 h hr6
      unfold evV
      go_wp2_with fail
      rw [← HW6.out]
      have hl6 : Lent W6 L m cl zs := ⟨HL4.out.1, HL4.out.2.touch HF46.out (fun _ _ => id)⟩
      refine (intact_any A L m c cl zs W6 (HBS4.out.fresh HF46.out) hl6 (by omega)).mono ?_
      rintro e w7 ⟨rfl, ht7⟩
      have hown : ∀ q, (Value.slice L m cl).ownBlock = some q → q < w4.heap.size ∧ w.heap.size ≤ q := by
        intro q hq
        cases L with
        | none => cases hq
        | some a => simp only [Value.ownBlock, Option.some.injEq] at hq; have h1 := HLT4.out a rfl; have h2 := HNL.out a rfl; omega
      have hF7 : Fresh w w7 := (HF4.out.trans HF46.out (fun _ _ h => h)).trans ht7 (fun i hi hs => by have := hown i hs; omega)
      have hB57 := HB56.out.touch ht7 (fun hs => by have := hown _ hs; omega)
      have hB67 := HB6.out.touch ht7 (fun hs => by have := hown _ hs; omega)
      have hp0 := hB57.cell 0
      have hp1 := hB57.cell 1
      have hp2 := hB57.cell 2
      have hp3 := hB57.cell 3
      simp only [List.getElem?_toArray, List.getElem?_cons_zero, List.getElem?_cons_succ] at hp0 hp1 hp2 hp3
      have hq0 := hB67.cell 0
      have hq1 := hB67.cell 1
      have hq2 := hB67.cell 2
      have hq3 := hB67.cell 3
      simp only [List.getElem?_toArray, List.getElem?_cons_zero, List.getElem?_cons_succ] at hq0 hq1 hq2 hq3
      have hnot : ∀ (x : Bool) (w : World), (Op.unary .not (.bool x)).run Try.prog w = .ok (.bool (!x)) w := fun _ _ => rfl
      have hne := neq_event x0 x3 ⟨x1.toArray⟩ ⟨x2.toArray⟩ w7
      have hbs7 : Bs w7 A m c zs := HBSW.out.fresh hF7
      have HF7 := Lib.hid hF7
      have HBS7 := Lib.hid hbs7
      clear hF7 ht7 hl6 hB57 hB67 hown hbs7
      go_wp2_with fail
      have hback : Enc.event x0 x1 x2 x3 = some zs := Plain.event_back (by rw [HZL.out]; exact HR5.out)
      refine (eventL_any x0 x3 x1 x2 w7 (event_len hback).1 (event_len hback).2).mono ?_
      intro e w8 h
      rcases h.cases with ⟨hr8, _⟩ | ⟨ys8, B8, c8, hr8, rfl, hrow8, _, hf8⟩
      · have := hback.symm.trans hr8; cases this
      obtain rfl : zs = ys8 := Option.some.inj (hback.symm.trans hr8)
      have hcv8 := run_convert_Bs (P := Try.prog) 24 9 Try.underlying24 Try.underlying5 Try.underlying9 (Row.bs hrow8)
      have hcv8' := run_convert_Bs (P := Try.prog) 24 9 Try.underlying24 Try.underlying5 Try.underlying9 (HBS7.out.fresh hf8)
      have HF8 := Lib.hid (HF7.out.trans hf8 (fun _ _ h => h))
      clear hrow8 hf8 hr8 h hback
      go_wp2_with fail
      refine (wakes_any w8).mono ?_
      rintro e w9 ⟨rfl, hf9⟩
      have HF9 := Lib.hid (HF8.out.trans hf9 (fun _ _ h => h))
      clear hf9
      go_wp2_with fail
      go_ret
      exact ⟨rfl, HF9.out⟩
  · have hB2 := HB0.out.touch hf id
    have hy0 := hB2.cell 0
    have hy1 := hB2.cell 1
    have hy2 := hB2.cell 2
    have hy3 := hB2.cell 3
    simp only [List.getElem?_toArray, List.getElem?_cons_zero, List.getElem?_cons_succ] at hy0 hy1 hy2 hy3
    have HR := Lib.hid hr
    have HROW := Lib.hid hrow
    have HNEW := Lib.hid hnew
    have HF12 := Lib.hid hf
    have HF2 := Lib.hid (HT0.out.trans hf (fun _ _ h => h))
    clear hr hf h hB2 hrow hnew
    go_wp2_with fail
    refine (refeventL_any k u node tx w2 hnode htx).mono ?_
    intro e w3 h
    rcases h.cases with ⟨hr3, rfl, hf3⟩ | ⟨ys', C, cc, hr3, rfl, hrow3, hnew3, hf3⟩
    · have := HR.out.symm.trans hr3; cases this
    obtain rfl : ys = ys' := Option.some.inj (HR.out.symm.trans hr3)
    have hrowb3 := HROW.out.touch hf3 (fun _ _ => id)
    have hcv := run_convert_Bs (P := Try.prog) 24 9 Try.underlying24 Try.underlying5 Try.underlying9 (Row.bs hrowb3)
    have hcv' := run_convert_Bs (P := Try.prog) 24 9 Try.underlying24 Try.underlying5 Try.underlying9 (Row.bs hrow3)
    have HROWB := Lib.hid hrowb3
    have HROWC := Lib.hid hrow3
    have HNEWC := Lib.hid hnew3
    have HF3 := Lib.hid (HF2.out.trans hf3 (fun _ _ h => h))
    have HF13 := Lib.hid (HF12.out.trans hf3 (fun _ _ h => h))
    clear hr3 hf3 h hrowb3 hrow3 hnew3
    go_wp2_with fail
    have hrd := event_read B ys.length cb ys w3 HROWB.out.bs (fun a ha _ => HROWB.out.lt a.block (by rw [ha]; rfl))
    rw [Plain.event_whole HR.out] at hrd
    refine hrd.mono ?_
    rintro e w4 ⟨rfl, hf4⟩
    obtain ⟨W4, hW4⟩ : ∃ W4, W4 = w4.alloc (.cells #[.int .i64 k, .string ⟨node.toArray⟩, .string ⟨tx.toArray⟩, .int .i64 u] 23) := ⟨_, rfl⟩
    have hF34 : Fresh w3 W4 := by rw [hW4]; exact hf4.alloc _
    have hBy : Blk W4 w4.heap.size 23 #[.int .i64 k, .string ⟨node.toArray⟩, .string ⟨tx.toArray⟩, .int .i64 u] := by rw [hW4]; exact Blk.new _ _ _
    have hBx : Blk W4 w.heap.size 23 #[.int .i64 k, .string ⟨node.toArray⟩, .string ⟨tx.toArray⟩, .int .i64 u] := (HB0.out.touch HF13.out id).touch hF34 id
    have HF34 := Lib.hid hF34; have HBX := Lib.hid hBx; have HW4 := Lib.hid hW4
    have hz0 := hBy.cell 0
    have hz1 := hBy.cell 1
    have hz2 := hBy.cell 2
    have hz3 := hBy.cell 3
    simp only [List.getElem?_toArray, List.getElem?_cons_zero, List.getElem?_cons_succ] at hz0 hz1 hz2 hz3
    have hv0 := hBx.cell 0
    have hv1 := hBx.cell 1
    have hv2 := hBx.cell 2
    have hv3 := hBx.cell 3
    simp only [List.getElem?_toArray, List.getElem?_cons_zero, List.getElem?_cons_succ] at hv0 hv1 hv2 hv3
    rw [hW4] at hz0 hz1 hz2 hz3 hv0 hv1 hv2 hv3
    have hne := neq_event k u ⟨node.toArray⟩ ⟨tx.toArray⟩ W4
    rw [hW4] at hne
    clear hrd hf4 hF34 hBy hBx hW4
    unfold evV
    go_wp2_with fail
    rw [← HW4.out]
    refine (spoil_any ys (.slice B ys.length cb) W4 (HROWB.out.touch HF34.out (fun _ _ => id)) (by have := event_size HR.out; omega)).mono ?_
    rintro e w5 ⟨rfl, ht5⟩
    have hnb : ∀ q, (Value.slice B ys.length cb).ownBlock = some q → w1.heap.size ≤ q ∧ q < w2.heap.size := fun q hq => ⟨HNEW.out q hq, HROW.out.lt q hq⟩
    have hs1 := HB0.out.lt
    have hF5 : Fresh w w5 := (HF3.out.trans HF34.out (fun _ _ h => h)).trans ht5 (fun i hi hs => by have h1 := hnb i hs; have h2 := HT0.out.size; omega)
    have hB5 := HBX.out.touch ht5 (fun hs => by have := hnb _ hs; omega)
    have hrow5 := (HROWC.out.touch HF34.out (fun _ _ => id)).touch ht5 (fun q hq hs => by have h1 := hnb _ hs; have h2 := HNEWC.out q hq; omega)
    have HF5 := Lib.hid hF5; have HROW5 := Lib.hid hrow5
    have hu0 := hB5.cell 0
    have hu1 := hB5.cell 1
    have hu2 := hB5.cell 2
    have hu3 := hB5.cell 3
    simp only [List.getElem?_toArray, List.getElem?_cons_zero, List.getElem?_cons_succ] at hu0 hu1 hu2 hu3
    clear ht5 hnb hF5 hB5 hrow5
    go_wp2_with fail
    refine (eventL_any k u node tx w5 (by unfold maxLen; omega) (by unfold maxLen; omega)).mono ?_
    intro e w6 h
    rcases h.cases with ⟨hr6, _⟩ | ⟨ys', D, cd, hr6, rfl, hrow6, _, hf6⟩
    · have := HR.out.symm.trans hr6; cases this
    obtain rfl : ys = ys' := Option.some.inj (HR.out.symm.trans hr6)
    have hcv6 := run_convert_Bs (P := Try.prog) 24 9 Try.underlying24 Try.underlying5 Try.underlying9 (Row.bs hrow6)
    have hcv6' := run_convert_Bs (P := Try.prog) 24 9 Try.underlying24 Try.underlying5 Try.underlying9 (Row.bs (HROW5.out.touch hf6 (fun _ _ => id)))
    have HWK := Lib.hid (HF5.out.trans hf6 (fun _ _ h => h))
    have HBSK := Lib.hid (HBSW.out.fresh HWK.out)
    clear hr6 hf6 h hrow6
    go_wp2_with fail
    refine (lend_any A m c zs w6 HBSK.out (by omega)).mono ?_
    rintro e w4 ⟨hf4, L, cl, rfl, hl4, hnl⟩
    have hlt4 : ∀ a, L = some a → a.block < w4.heap.size := fun a ha => hl4.2.lt a.block (by rw [ha]; rfl)
    have hwk := HWK.out.size
    have HF4 := Lib.hid (HWK.out.trans hf4 (fun _ _ h => h))
    have HL4 := Lib.hid hl4
    have HNL := Lib.hid hnl
    have HLT4 := Lib.hid hlt4
    have HBS4 := Lib.hid (HBSK.out.fresh hf4)
    clear hf4 hl4 hnl hlt4
    go_wp2_with fail
    refine (event_read L m cl zs w4 HL4.out.bs (fun a ha _ => HLT4.out a ha)).mono ?_
    intro e w5 h
    rcases h.cases with ⟨a, hr5, rfl, hf5⟩ | ⟨x, hr5, rfl, hf5⟩
    · have HR5 := Lib.hid hr5
      obtain ⟨W5, hW5⟩ : ∃ W5, W5 = w5.alloc (.cells #[.int .i64 0, .string ⟨#[]⟩, .string ⟨#[]⟩, .int .i64 0] 23) := ⟨_, rfl⟩
      have hF45 : Fresh w4 W5 := by rw [hW5]; exact hf5.alloc _
      have hB5 : Blk W5 w5.heap.size 23 #[.int .i64 0, .string ⟨#[]⟩, .string ⟨#[]⟩, .int .i64 0] := by rw [hW5]; exact Blk.new _ _ _
      have hs45 := hf5.size
      have HF45 := Lib.hid hF45; have HB5 := Lib.hid hB5; have HW5 := Lib.hid hW5
      clear hF45 hB5 hW5 hf5 h hr5
      go_wp2_with fail
      rw [← HW5.out]
      refine (refevent_read A m c zs W5 (HBS4.out.fresh HF45.out) (fun a ha h0 => by have h1 := HAB.out a ha h0; have h2 := HF4.out.size; have h3 := HF45.out.size; omega) (by omega)).mono ?_
      intro e w6 h
      rcases h.cases with ⟨a', hr6, rfl, hf6⟩ | ⟨x', hr6, rfl, hf6⟩
      rotate_left
      · have := HR5.out.symm.trans hr6; cases this
      obtain rfl : a = a' := by have := HR5.out.symm.trans hr6; injection this
      obtain ⟨W6, hW6⟩ : ∃ W6, W6 = w6.alloc (.cells #[.int .i64 0, .string ⟨#[]⟩, .string ⟨#[]⟩, .int .i64 0] 23) := ⟨_, rfl⟩
      have hF46 : Fresh w4 W6 := by rw [hW6]; exact (HF45.out.trans hf6 (fun _ _ h => h)).alloc _
      have hB6 : Blk W6 w6.heap.size 23 #[.int .i64 0, .string ⟨#[]⟩, .string ⟨#[]⟩, .int .i64 0] := by rw [hW6]; exact Blk.new _ _ _
      have hB56 : Blk W6 w5.heap.size 23 #[.int .i64 0, .string ⟨#[]⟩, .string ⟨#[]⟩, .int .i64 0] := by rw [hW6]; exact (HB5.out.touch hf6 id).alloc _
      have hs56 := hf6.size
      have hs5 := HB5.out.lt
      have HF46 := Lib.hid hF46; have HB6 := Lib.hid hB6; have HB56 := Lib.hid hB56; have HW6 := Lib.hid hW6
      clear hF46 hB6 hB56 hW6 hf6 h hr6
      go_wp2_with fail
      rw [← HW6.out]
      have hl6 : Lent W6 L m cl zs := ⟨HL4.out.1, HL4.out.2.touch HF46.out (fun _ _ => id)⟩
      refine (intact_any A L m c cl zs W6 (HBS4.out.fresh HF46.out) hl6 (by omega)).mono ?_
      rintro e w7 ⟨rfl, ht7⟩
      have hown : ∀ q, (Value.slice L m cl).ownBlock = some q → q < w4.heap.size ∧ w.heap.size ≤ q := by
        intro q hq
        cases L with
        | none => cases hq
        | some a => simp only [Value.ownBlock, Option.some.injEq] at hq; have h1 := HLT4.out a rfl; have h2 := HNL.out a rfl; omega
      have hF7 : Fresh w w7 := (HF4.out.trans HF46.out (fun _ _ h => h)).trans ht7 (fun i hi hs => by have := hown i hs; omega)
      have hB57 := HB56.out.touch ht7 (fun hs => by have := hown _ hs; omega)
      have hB67 := HB6.out.touch ht7 (fun hs => by have := hown _ hs; omega)
      have hp0 := hB57.cell 0
      have hp1 := hB57.cell 1
      have hp2 := hB57.cell 2
      have hp3 := hB57.cell 3
      simp only [List.getElem?_toArray, List.getElem?_cons_zero, List.getElem?_cons_succ] at hp0 hp1 hp2 hp3
      have hq0 := hB67.cell 0
      have hq1 := hB67.cell 1
      have hq2 := hB67.cell 2
      have hq3 := hB67.cell 3
      simp only [List.getElem?_toArray, List.getElem?_cons_zero, List.getElem?_cons_succ] at hq0 hq1 hq2 hq3
      have hnot : ∀ (x : Bool) (w : World), (Op.unary .not (.bool x)).run Try.prog w = .ok (.bool (!x)) w := fun _ _ => rfl
      have hne := neq_event 0 0 ⟨#[]⟩ ⟨#[]⟩ w7
      have HF7 := Lib.hid hF7
      clear hF7 ht7 hl6 hB57 hB67 hown
      go_wp2_with fail
      refine (wakes_any w7).mono ?_
      rintro e w8 ⟨rfl, hf8⟩
      have HF8 := Lib.hid (HF7.out.trans hf8 (fun _ _ h => h))
      clear hf8
      go_wp2_with fail
      go_ret
      exact ⟨rfl, HF8.out⟩
    · have HR5 := Lib.hid hr5
      obtain ⟨x0, x1, x2, x3⟩ := x
      obtain ⟨W5, hW5⟩ : ∃ W5, W5 = w5.alloc (.cells #[.int .i64 x0, .string ⟨x1.toArray⟩, .string ⟨x2.toArray⟩, .int .i64 x3] 23) := ⟨_, rfl⟩
      have hF45 : Fresh w4 W5 := by rw [hW5]; exact hf5.alloc _
      have hB5 : Blk W5 w5.heap.size 23 #[.int .i64 x0, .string ⟨x1.toArray⟩, .string ⟨x2.toArray⟩, .int .i64 x3] := by rw [hW5]; exact Blk.new _ _ _
      have hs45 := hf5.size
      have HF45 := Lib.hid hF45; have HB5 := Lib.hid hB5; have HW5 := Lib.hid hW5
      clear hF45 hB5 hW5 hf5 h hr5
      unfold evV
      go_wp2_with fail
      rw [← HW5.out]
      refine (refevent_read A m c zs W5 (HBS4.out.fresh HF45.out) (fun a ha h0 => by have h1 := HAB.out a ha h0; have h2 := HF4.out.size; have h3 := HF45.out.size; omega) (by omega)).mono ?_
      intro e w6 h
      rcases h.cases with ⟨a, hr6, rfl, hf6⟩ | ⟨x', hr6, rfl, hf6⟩
      · have := HR5.out.symm.trans hr6; cases this
      obtain rfl : (⟨x0, x1, x2, x3⟩ : Dec.Ev) = x' := by have := HR5.out.symm.trans hr6; injection this
      obtain ⟨W6, hW6⟩ : ∃ W6, W6 = w6.alloc (.cells #[.int .i64 x0, .string ⟨x1.toArray⟩, .string ⟨x2.toArray⟩, .int .i64 x3] 23) := ⟨_, rfl⟩
      have hF46 : Fresh w4 W6 := by rw [hW6]; exact (HF45.out.trans hf6 (fun _ _ h => h)).alloc _
      have hB6 : Blk W6 w6.heap.size 23 #[.int .i64 x0, .string ⟨x1.toArray⟩, .string ⟨x2.toArray⟩, .int .i64 x3] := by rw [hW6]; exact Blk.new _ _ _
      have hB56 : Blk W6 w5.heap.size 23 #[.int .i64 x0, .string ⟨x1.toArray⟩, .string ⟨x2.toArray⟩, .int .i64 x3] := by rw [hW6]; exact (HB5.out.touch hf6 id).alloc _
      have hs56 := hf6.size
      have hs5 := HB5.out.lt
      have HF46 := Lib.hid hF46; have HB6 := Lib.hid hB6; have HB56 := Lib.hid hB56; have HW6 := Lib.hid hW6
      clear hF46 hB6 hB56 hW6 hf6 h hr6
      unfold evV
      go_wp2_with fail
      rw [← HW6.out]
      have hl6 : Lent W6 L m cl zs := ⟨HL4.out.1, HL4.out.2.touch HF46.out (fun _ _ => id)⟩
      refine (intact_any A L m c cl zs W6 (HBS4.out.fresh HF46.out) hl6 (by omega)).mono ?_
      rintro e w7 ⟨rfl, ht7⟩
      have hown : ∀ q, (Value.slice L m cl).ownBlock = some q → q < w4.heap.size ∧ w.heap.size ≤ q := by
        intro q hq
        cases L with
        | none => cases hq
        | some a => simp only [Value.ownBlock, Option.some.injEq] at hq; have h1 := HLT4.out a rfl; have h2 := HNL.out a rfl; omega
      have hF7 : Fresh w w7 := (HF4.out.trans HF46.out (fun _ _ h => h)).trans ht7 (fun i hi hs => by have := hown i hs; omega)
      have hB57 := HB56.out.touch ht7 (fun hs => by have := hown _ hs; omega)
      have hB67 := HB6.out.touch ht7 (fun hs => by have := hown _ hs; omega)
      have hp0 := hB57.cell 0
      have hp1 := hB57.cell 1
      have hp2 := hB57.cell 2
      have hp3 := hB57.cell 3
      simp only [List.getElem?_toArray, List.getElem?_cons_zero, List.getElem?_cons_succ] at hp0 hp1 hp2 hp3
      have hq0 := hB67.cell 0
      have hq1 := hB67.cell 1
      have hq2 := hB67.cell 2
      have hq3 := hB67.cell 3
      simp only [List.getElem?_toArray, List.getElem?_cons_zero, List.getElem?_cons_succ] at hq0 hq1 hq2 hq3
      have hnot : ∀ (x : Bool) (w : World), (Op.unary .not (.bool x)).run Try.prog w = .ok (.bool (!x)) w := fun _ _ => rfl
      have hne := neq_event x0 x3 ⟨x1.toArray⟩ ⟨x2.toArray⟩ w7
      have hbs7 : Bs w7 A m c zs := HBSW.out.fresh hF7
      have HF7 := Lib.hid hF7
      have HBS7 := Lib.hid hbs7
      clear hF7 ht7 hl6 hB57 hB67 hown hbs7
      go_wp2_with fail
      have hback : Enc.event x0 x1 x2 x3 = some zs := Plain.event_back (by rw [HZL.out]; exact HR5.out)
      refine (eventL_any x0 x3 x1 x2 w7 (event_len hback).1 (event_len hback).2).mono ?_
      intro e w8 h
      rcases h.cases with ⟨hr8, _⟩ | ⟨ys8, B8, c8, hr8, rfl, hrow8, _, hf8⟩
      · have := hback.symm.trans hr8; cases this
      obtain rfl : zs = ys8 := Option.some.inj (hback.symm.trans hr8)
      have hcv8 := run_convert_Bs (P := Try.prog) 24 9 Try.underlying24 Try.underlying5 Try.underlying9 (Row.bs hrow8)
      have hcv8' := run_convert_Bs (P := Try.prog) 24 9 Try.underlying24 Try.underlying5 Try.underlying9 (HBS7.out.fresh hf8)
      have HF8 := Lib.hid (HF7.out.trans hf8 (fun _ _ h => h))
      clear hrow8 hf8 hr8 h hback
      go_wp2_with fail
      refine (wakes_any w8).mono ?_
      rintro e w9 ⟨rfl, hf9⟩
      have HF9 := Lib.hid (HF8.out.trans hf9 (fun _ _ h => h))
      clear hf9
      go_wp2_with fail
      go_ret
      exact ⟨rfl, HF9.out⟩
end Go.Proofs.Ytdfhdanfigpbpaa
