/- The contracts of the reference's straight writers (printed by gen_refw.py). -/
import Derived.Test.YtdfhdanfigpbpaaRefW
namespace Go.Proofs.Ytdfhdanfigpbpaa
open Go.RowKit

theorem texts2 (_a x y : List UInt8) (p : Enc.Enc) : Enc.cat p (Enc.texts [x, y]) = Enc.cat (Enc.cat p (Enc.text x)) (Enc.text y) := by
  simp only [Enc.texts, List.map_cons, List.map_nil, Enc.catAll, Enc.cat_nil, Enc.cat_assoc]

set_option maxRecDepth 20000 in
set_option maxHeartbeats 2000000 in
theorem refevent_any (k n : Int) (node tx : ByteArray) (w : World) (hnode : node.size ≤ 1048576) (htx : tx.size ≤ 1048576) : Calls Try.prog 16 #[.agg #[.int .i64 k, .string node, .string tx, .int .i64 n]] w (EncEnd w (Enc.event k node.data.toList tx.data.toList n)) := by
  have HT0 : Hid (Fresh w ((w.alloc (.cells #[.int .i64 k, .string node, .string tx, .int .i64 n] 23)).alloc (.cells #[.slice none 0 0, .bool false] 93))) := Lib.hid (((Touch.refl _ w).alloc _).alloc _)
  have HE0 : Hid (Blk ((w.alloc (.cells #[.int .i64 k, .string node, .string tx, .int .i64 n] 23)).alloc (.cells #[.slice none 0 0, .bool false] 93)) w.heap.size 23 #[.int .i64 k, .string node, .string tx, .int .i64 n]) := Lib.hid ((Blk.new w _ _).alloc _)
  have HP0 : Hid (Wr ((w.alloc (.cells #[.int .i64 k, .string node, .string tx, .int .i64 n] 23)).alloc (.cells #[.slice none 0 0, .bool false] 93)) (w.heap.size + 1) (.slice none 0 0) [] false) := Lib.hid ⟨by have := Blk.new (w.alloc (.cells #[.int .i64 k, .string node, .string tx, .int .i64 n] 23)) 93 #[.slice none 0 0, .bool false]; simpa using this, Row.nil_ _⟩
  obtain ⟨w0, hw0⟩ : ∃ w0, w0 = ((w.alloc (.cells #[.int .i64 k, .string node, .string tx, .int .i64 n] 23)).alloc (.cells #[.slice none 0 0, .bool false] 93)) := ⟨_, rfl⟩
  rw [← hw0] at HT0 HP0 HE0
  have HG0 : Hid (PenGo (w.heap.size + 1) (.slice none 0 0) w0 (.slice none 0 0) w0) := Lib.hid (PenGo.refl _ _ _)
  have HA0 : Hid (toEnc false [] = Enc.nil0) := Lib.hid rfl
  have hsz0 : w.heap.size + 2 = w0.heap.size := by rw [hw0]; simp
  have HNS : ∀ (v : Value) (ys : List UInt8) (bad : Bool) (w' : World), Wr w' (w.heap.size + 1) v ys bad → Blk w' w.heap.size 23 #[.int .i64 k, .string node, .string tx, .int .i64 n] → ¬ PenS (w.heap.size + 1) v w.heap.size := by
    intro v ys bad w' hr hb hs
    rcases hs with hs | hs
    · omega
    · exact hr.2.ne_blk hb (by decide) hs
  replace HNS := Lib.hid HNS
  replace hsz0 := Lib.hid hsz0
  go_enter Try.func16, Try.ntmps16
  have hc0_0 : w0.cell? ⟨w.heap.size, 0, none⟩ = some (.int .i64 k) := HE0.out.cell 0
  rw [hw0] at hc0_0
  go_wp2_with fail
  rw [← hw0]
  refine (wnumber_any (w.heap.size + 1) (.slice none 0 0) [] false k 1 15 w0 (by omega) (by omega) HP0.out (by simp only [List.length_nil]; omega)).mono ?_
  rintro e w1 ⟨rfl, v1, a1, b1, hp, hr, hl1, hg⟩
  have HA1 := Lib.hid (show toEnc b1 a1 = Enc.cat (Enc.nil0) (Enc.number k 1 15) from hr.trans (congrArg (fun p => Enc.cat p (Enc.number k 1 15)) HA0.out))
  have HP1 := Lib.hid hp
  have HG1 := Lib.hid (HG0.out.trans hg)
  have HE1 := Lib.hid (HE0.out.touch hg.touch (HNS.out _ _ _ _ HP0.out HE0.out))
  simp only [List.length_nil] at hl1
  clear hp hg hr hc0_0
  have hc1_1 : w1.cell? ⟨w.heap.size, 1, none⟩ = some (.string node) := HE1.out.cell 1
  go_wp2_with fail
  refine (wtext_any (w.heap.size + 1) v1 a1 b1 node w1 HP1.out (by omega)).mono ?_
  rintro e w2 ⟨rfl, v2, a2, b2, hp, hr, hl2, hg⟩
  have HA2 := Lib.hid (show toEnc b2 a2 = Enc.cat (Enc.cat (Enc.nil0) (Enc.number k 1 15)) (Enc.text node.data.toList) from hr.trans (congrArg (fun p => Enc.cat p (Enc.text node.data.toList)) HA1.out))
  have HP2 := Lib.hid hp
  have HG2 := Lib.hid (HG1.out.trans hg)
  have HE2 := Lib.hid (HE1.out.touch hg.touch (HNS.out _ _ _ _ HP1.out HE1.out))
  clear hp hg hr hc1_1
  have hc2_2 : w2.cell? ⟨w.heap.size, 2, none⟩ = some (.string tx) := HE2.out.cell 2
  go_wp2_with fail
  refine (wtext_any (w.heap.size + 1) v2 a2 b2 tx w2 HP2.out (by omega)).mono ?_
  rintro e w3 ⟨rfl, v3, a3, b3, hp, hr, hl3, hg⟩
  have HA3 := Lib.hid (show toEnc b3 a3 = Enc.cat (Enc.cat (Enc.cat (Enc.nil0) (Enc.number k 1 15)) (Enc.text node.data.toList)) (Enc.text tx.data.toList) from hr.trans (congrArg (fun p => Enc.cat p (Enc.text tx.data.toList)) HA2.out))
  have HP3 := Lib.hid hp
  have HG3 := Lib.hid (HG2.out.trans hg)
  have HE3 := Lib.hid (HE2.out.touch hg.touch (HNS.out _ _ _ _ HP2.out HE2.out))
  clear hp hg hr hc2_2
  have hc3_3 : w3.cell? ⟨w.heap.size, 3, none⟩ = some (.int .i64 n) := HE3.out.cell 3
  go_wp2_with fail
  refine (wsigned_any (w.heap.size + 1) v3 a3 b3 n w3 HP3.out (by omega)).mono ?_
  rintro e w4 ⟨rfl, v4, a4, b4, hp, hr, hl4, hg⟩
  have HA4 := Lib.hid (show toEnc b4 a4 = Enc.cat (Enc.cat (Enc.cat (Enc.cat (Enc.nil0) (Enc.number k 1 15)) (Enc.text node.data.toList)) (Enc.text tx.data.toList)) (Enc.signed n) from hr.trans (congrArg (fun p => Enc.cat p (Enc.signed n)) HA3.out))
  have HP4 := Lib.hid hp
  have HG4 := Lib.hid (HG3.out.trans hg)
  have HE4 := Lib.hid (HE3.out.touch hg.touch (HNS.out _ _ _ _ HP3.out HE3.out))
  clear hp hg hr hc3_3
  have HD := Lib.hid (wdone_any (w.heap.size + 1) v4 a4 b4 w4 HP4.out)
  have hfin : Fresh w w4 := HT0.out.trans HG4.out.touch (fun i hi hs => by
    rcases hs with hs | hs
    · omega
    · simp [Value.ownBlock] at hs)
  have hspec : Enc.event k node.data.toList tx.data.toList n = toEnc b4 a4 := by rw [HA4.out]; exact by unfold Enc.event; rw [texts2 []]
  have hrow := HP4.out.2
  have hnew : ∀ i, v4.ownBlock = some i → w.heap.size ≤ i := by
    intro i hi
    rcases HG4.out.own with e | e
    · rw [e] at hi; simp [Value.ownBlock] at hi
    · have := e i hi; have := hsz0.out; omega
  have hend : EncEnd w (Enc.event k node.data.toList tx.data.toList n) (.returned (.tuple (if b4 then #[.slice none 0 0, .int .i64 2] else #[v4, .int .i64 0]))) w4 := by
    rw [hspec]
    cases b4
    · obtain ⟨A, c, rfl, _⟩ := hrow.form
      exact ⟨A, c, rfl, hrow, hnew, hfin⟩
    · exact ⟨rfl, hfin⟩
  replace hend := Lib.hid hend
  clear hfin hspec hrow hnew
  go_wp2_with fail
  refine HD.out.mono ?_
  rintro e w' ⟨rfl, rfl⟩
  cases b4
  · go_wp2_with fail
    go_ret2
    exact hend.out
  · go_wp2_with fail
    go_ret2
    exact hend.out

set_option maxRecDepth 20000 in
set_option maxHeartbeats 2000000 in
theorem reflease_any (o r : Int) (w : World) : Calls Try.prog 29 #[.agg #[.int .i64 o, .int .i64 r]] w (EncEnd w (Enc.lease o r)) := by
  have HT0 : Hid (Fresh w ((w.alloc (.cells #[.int .i64 o, .int .i64 r] 42)).alloc (.cells #[.slice none 0 0, .bool false] 93))) := Lib.hid (((Touch.refl _ w).alloc _).alloc _)
  have HE0 : Hid (Blk ((w.alloc (.cells #[.int .i64 o, .int .i64 r] 42)).alloc (.cells #[.slice none 0 0, .bool false] 93)) w.heap.size 42 #[.int .i64 o, .int .i64 r]) := Lib.hid ((Blk.new w _ _).alloc _)
  have HP0 : Hid (Wr ((w.alloc (.cells #[.int .i64 o, .int .i64 r] 42)).alloc (.cells #[.slice none 0 0, .bool false] 93)) (w.heap.size + 1) (.slice none 0 0) [] false) := Lib.hid ⟨by have := Blk.new (w.alloc (.cells #[.int .i64 o, .int .i64 r] 42)) 93 #[.slice none 0 0, .bool false]; simpa using this, Row.nil_ _⟩
  obtain ⟨w0, hw0⟩ : ∃ w0, w0 = ((w.alloc (.cells #[.int .i64 o, .int .i64 r] 42)).alloc (.cells #[.slice none 0 0, .bool false] 93)) := ⟨_, rfl⟩
  rw [← hw0] at HT0 HP0 HE0
  have HG0 : Hid (PenGo (w.heap.size + 1) (.slice none 0 0) w0 (.slice none 0 0) w0) := Lib.hid (PenGo.refl _ _ _)
  have HA0 : Hid (toEnc false [] = Enc.nil0) := Lib.hid rfl
  have hsz0 : w.heap.size + 2 = w0.heap.size := by rw [hw0]; simp
  have HNS : ∀ (v : Value) (ys : List UInt8) (bad : Bool) (w' : World), Wr w' (w.heap.size + 1) v ys bad → Blk w' w.heap.size 42 #[.int .i64 o, .int .i64 r] → ¬ PenS (w.heap.size + 1) v w.heap.size := by
    intro v ys bad w' hr hb hs
    rcases hs with hs | hs
    · omega
    · exact hr.2.ne_blk hb (by decide) hs
  replace HNS := Lib.hid HNS
  replace hsz0 := Lib.hid hsz0
  go_enter Try.func29, Try.ntmps29
  have hc0_0 : w0.cell? ⟨w.heap.size, 0, none⟩ = some (.int .i64 o) := HE0.out.cell 0
  rw [hw0] at hc0_0
  go_wp2_with fail
  rw [← hw0]
  refine (wsigned_any (w.heap.size + 1) (.slice none 0 0) [] false o w0 HP0.out (by simp only [List.length_nil]; omega)).mono ?_
  rintro e w1 ⟨rfl, v1, a1, b1, hp, hr, hl1, hg⟩
  have HA1 := Lib.hid (show toEnc b1 a1 = Enc.cat (Enc.nil0) (Enc.signed o) from hr.trans (congrArg (fun p => Enc.cat p (Enc.signed o)) HA0.out))
  have HP1 := Lib.hid hp
  have HG1 := Lib.hid (HG0.out.trans hg)
  have HE1 := Lib.hid (HE0.out.touch hg.touch (HNS.out _ _ _ _ HP0.out HE0.out))
  simp only [List.length_nil] at hl1
  clear hp hg hr hc0_0
  have hc1_1 : w1.cell? ⟨w.heap.size, 1, none⟩ = some (.int .i64 r) := HE1.out.cell 1
  go_wp2_with fail
  refine (wnumber_any (w.heap.size + 1) v1 a1 b1 r 0 4503599627370496 w1 (by omega) (by omega) HP1.out (by omega)).mono ?_
  rintro e w2 ⟨rfl, v2, a2, b2, hp, hr, hl2, hg⟩
  have HA2 := Lib.hid (show toEnc b2 a2 = Enc.cat (Enc.cat (Enc.nil0) (Enc.signed o)) (Enc.plain r) from hr.trans (congrArg (fun p => Enc.cat p (Enc.plain r)) HA1.out))
  have HP2 := Lib.hid hp
  have HG2 := Lib.hid (HG1.out.trans hg)
  have HE2 := Lib.hid (HE1.out.touch hg.touch (HNS.out _ _ _ _ HP1.out HE1.out))
  clear hp hg hr hc1_1
  have HD := Lib.hid (wdone_any (w.heap.size + 1) v2 a2 b2 w2 HP2.out)
  have hfin : Fresh w w2 := HT0.out.trans HG2.out.touch (fun i hi hs => by
    rcases hs with hs | hs
    · omega
    · simp [Value.ownBlock] at hs)
  have hspec : Enc.lease o r = toEnc b2 a2 := by rw [HA2.out]; exact rfl
  have hrow := HP2.out.2
  have hnew : ∀ i, v2.ownBlock = some i → w.heap.size ≤ i := by
    intro i hi
    rcases HG2.out.own with e | e
    · rw [e] at hi; simp [Value.ownBlock] at hi
    · have := e i hi; have := hsz0.out; omega
  have hend : EncEnd w (Enc.lease o r) (.returned (.tuple (if b2 then #[.slice none 0 0, .int .i64 2] else #[v2, .int .i64 0]))) w2 := by
    rw [hspec]
    cases b2
    · obtain ⟨A, c, rfl, _⟩ := hrow.form
      exact ⟨A, c, rfl, hrow, hnew, hfin⟩
    · exact ⟨rfl, hfin⟩
  replace hend := Lib.hid hend
  clear hfin hspec hrow hnew
  go_wp2_with fail
  refine HD.out.mono ?_
  rintro e w' ⟨rfl, rfl⟩
  cases b2
  · go_wp2_with fail
    go_ret2
    exact hend.out
  · go_wp2_with fail
    go_ret2
    exact hend.out

set_option maxRecDepth 20000 in
set_option maxHeartbeats 2000000 in
theorem refnumberE_any (n : Int) (w : World) : Calls Try.prog 27 #[.int .i64 n] w (EncEnd w (Enc.numberE n)) := by
  have HT0 : Hid (Fresh w (w.alloc (.cells #[.slice none 0 0, .bool false] 93))) := Lib.hid ((Touch.refl _ w).alloc _)
  have HP0 : Hid (Wr (w.alloc (.cells #[.slice none 0 0, .bool false] 93)) w.heap.size (.slice none 0 0) [] false) := Lib.hid ⟨Blk.new w _ _, Row.nil_ _⟩
  obtain ⟨w0, hw0⟩ : ∃ w0, w0 = (w.alloc (.cells #[.slice none 0 0, .bool false] 93)) := ⟨_, rfl⟩
  rw [← hw0] at HT0 HP0
  have HG0 : Hid (PenGo w.heap.size (.slice none 0 0) w0 (.slice none 0 0) w0) := Lib.hid (PenGo.refl _ _ _)
  have HA0 : Hid (toEnc false [] = Enc.nil0) := Lib.hid rfl
  have hsz0 : w.heap.size + 1 = w0.heap.size := by rw [hw0]; simp
  replace hsz0 := Lib.hid hsz0
  go_enter Try.func27, Try.ntmps27
  skip
  go_wp2_with fail
  rw [← hw0]
  refine (wnumber_any w.heap.size (.slice none 0 0) [] false n 0 4503599627370496 w0 (by omega) (by omega) HP0.out (by simp only [List.length_nil]; omega)).mono ?_
  rintro e w1 ⟨rfl, v1, a1, b1, hp, hr, hl1, hg⟩
  have HA1 := Lib.hid (show toEnc b1 a1 = Enc.cat (Enc.nil0) (Enc.plain n) from hr.trans (congrArg (fun p => Enc.cat p (Enc.plain n)) HA0.out))
  have HP1 := Lib.hid hp
  have HG1 := Lib.hid (HG0.out.trans hg)
  simp only [List.length_nil] at hl1
  clear hp hg hr
  have HD := Lib.hid (wdone_any w.heap.size v1 a1 b1 w1 HP1.out)
  have hfin : Fresh w w1 := HT0.out.trans HG1.out.touch (fun i hi hs => by
    rcases hs with hs | hs
    · omega
    · simp [Value.ownBlock] at hs)
  have hspec : Enc.numberE n = toEnc b1 a1 := by rw [HA1.out]; exact rfl
  have hrow := HP1.out.2
  have hnew : ∀ i, v1.ownBlock = some i → w.heap.size ≤ i := by
    intro i hi
    rcases HG1.out.own with e | e
    · rw [e] at hi; simp [Value.ownBlock] at hi
    · have := e i hi; have := hsz0.out; omega
  have hend : EncEnd w (Enc.numberE n) (.returned (.tuple (if b1 then #[.slice none 0 0, .int .i64 2] else #[v1, .int .i64 0]))) w1 := by
    rw [hspec]
    cases b1
    · obtain ⟨A, c, rfl, _⟩ := hrow.form
      exact ⟨A, c, rfl, hrow, hnew, hfin⟩
    · exact ⟨rfl, hfin⟩
  replace hend := Lib.hid hend
  clear hfin hspec hrow hnew
  go_wp2_with fail
  refine HD.out.mono ?_
  rintro e w' ⟨rfl, rfl⟩
  cases b1
  · go_wp2_with fail
    go_ret2
    exact hend.out
  · go_wp2_with fail
    go_ret2
    exact hend.out

end Go.Proofs.Ytdfhdanfigpbpaa
