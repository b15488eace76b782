/- The contract of the reference's Envelope (printed by gen_refw.py). -/
import Derived.Test.YtdfhdanfigpbpaaRefMail
namespace Go.Proofs.Ytdfhdanfigpbpaa
open Go.RowKit


set_option maxRecDepth 20000 in
set_option maxHeartbeats 2000000 in
theorem refenvelope_any (k f t q mk : Int) (to fr node name tx : ByteArray) (st : Int) (w : World) (hto : to.size ≤ 1048576) (hfr : fr.size ≤ 1048576) (hnode : node.size ≤ 1048576) (hname : name.size ≤ 1048576) (htx : tx.size ≤ 1048576) : Calls Try.prog 40 #[.agg #[.int .i64 k, .int .i64 f, .int .i64 t, .int .i64 q, .int .i64 mk, .string to, .string fr, .string node, .string name, .string tx, .int .i64 st]] w (EncEnd w (Enc.envelope k f t q (Enc.mail mk to.data.toList fr.data.toList node.data.toList name.data.toList tx.data.toList st))) := by
  have HT0 : Hid (Fresh w ((w.alloc (.cells #[.int .i64 k, .int .i64 f, .int .i64 t, .int .i64 q, .int .i64 mk, .string to, .string fr, .string node, .string name, .string tx, .int .i64 st] 59)).alloc (.cells #[.slice none 0 0, .bool false] 93))) := Lib.hid (((Touch.refl _ w).alloc _).alloc _)
  have HE0 : Hid (Blk ((w.alloc (.cells #[.int .i64 k, .int .i64 f, .int .i64 t, .int .i64 q, .int .i64 mk, .string to, .string fr, .string node, .string name, .string tx, .int .i64 st] 59)).alloc (.cells #[.slice none 0 0, .bool false] 93)) w.heap.size 59 #[.int .i64 k, .int .i64 f, .int .i64 t, .int .i64 q, .int .i64 mk, .string to, .string fr, .string node, .string name, .string tx, .int .i64 st]) := Lib.hid ((Blk.new w _ _).alloc _)
  have HP0 : Hid (Wr ((w.alloc (.cells #[.int .i64 k, .int .i64 f, .int .i64 t, .int .i64 q, .int .i64 mk, .string to, .string fr, .string node, .string name, .string tx, .int .i64 st] 59)).alloc (.cells #[.slice none 0 0, .bool false] 93)) (w.heap.size + 1) (.slice none 0 0) [] false) := Lib.hid ⟨by have := Blk.new (w.alloc (.cells #[.int .i64 k, .int .i64 f, .int .i64 t, .int .i64 q, .int .i64 mk, .string to, .string fr, .string node, .string name, .string tx, .int .i64 st] 59)) 93 #[.slice none 0 0, .bool false]; simpa using this, Row.nil_ _⟩
  obtain ⟨w0, hw0⟩ : ∃ w0, w0 = ((w.alloc (.cells #[.int .i64 k, .int .i64 f, .int .i64 t, .int .i64 q, .int .i64 mk, .string to, .string fr, .string node, .string name, .string tx, .int .i64 st] 59)).alloc (.cells #[.slice none 0 0, .bool false] 93)) := ⟨_, rfl⟩
  rw [← hw0] at HT0 HP0 HE0
  have HG0 : Hid (PenGo (w.heap.size + 1) (.slice none 0 0) w0 (.slice none 0 0) w0) := Lib.hid (PenGo.refl _ _ _)
  have HA0 : Hid (toEnc false [] = Enc.nil0) := Lib.hid rfl
  have hsz0 : w.heap.size + 2 = w0.heap.size := by rw [hw0]; simp
  have HNS : ∀ (v : Value) (ys : List UInt8) (bad : Bool) (w' : World), Wr w' (w.heap.size + 1) v ys bad → Blk w' w.heap.size 59 #[.int .i64 k, .int .i64 f, .int .i64 t, .int .i64 q, .int .i64 mk, .string to, .string fr, .string node, .string name, .string tx, .int .i64 st] → ¬ PenS (w.heap.size + 1) v w.heap.size := by
    intro v ys bad w' hr hb hs
    rcases hs with hs | hs
    · omega
    · exact hr.2.ne_blk hb (by decide) hs
  replace HNS := Lib.hid HNS
  replace hsz0 := Lib.hid hsz0
  go_enter Try.func40, Try.ntmps40
  have hc0_0 : w0.cell? ⟨w.heap.size, 0, none⟩ = some (.int .i64 k) := HE0.out.cell 0
  rw [hw0] at hc0_0
  go_wp2_with fail
  rw [← hw0]
  refine (wnumber_any (w.heap.size + 1) (.slice none 0 0) [] false k 1 2 w0 (by omega) (by omega) HP0.out (by simp only [List.length_nil]; omega)).mono ?_
  rintro e w1 ⟨rfl, v1, a1, b1, hp, hr, hl1, hg⟩
  have HA1 := Lib.hid (show toEnc b1 a1 = Enc.cat (Enc.nil0) (Enc.number k 1 2) from hr.trans (congrArg (fun p => Enc.cat p (Enc.number k 1 2)) HA0.out))
  have HP1 := Lib.hid hp
  have HG1 := Lib.hid (HG0.out.trans hg)
  have HE1 := Lib.hid (HE0.out.touch hg.touch (HNS.out _ _ _ _ HP0.out HE0.out))
  simp only [List.length_nil] at hl1
  clear hp hg hr hc0_0
  have hc1_1 : w1.cell? ⟨w.heap.size, 1, none⟩ = some (.int .i64 f) := HE1.out.cell 1
  go_wp2_with fail
  refine (wnumber_any (w.heap.size + 1) v1 a1 b1 f 0 4503599627370496 w1 (by omega) (by omega) HP1.out (by omega)).mono ?_
  rintro e w2 ⟨rfl, v2, a2, b2, hp, hr, hl2, hg⟩
  have HA2 := Lib.hid (show toEnc b2 a2 = Enc.cat (Enc.cat (Enc.nil0) (Enc.number k 1 2)) (Enc.plain f) from hr.trans (congrArg (fun p => Enc.cat p (Enc.plain f)) HA1.out))
  have HP2 := Lib.hid hp
  have HG2 := Lib.hid (HG1.out.trans hg)
  have HE2 := Lib.hid (HE1.out.touch hg.touch (HNS.out _ _ _ _ HP1.out HE1.out))
  clear hp hg hr hc1_1
  have hc2_2 : w2.cell? ⟨w.heap.size, 2, none⟩ = some (.int .i64 t) := HE2.out.cell 2
  go_wp2_with fail
  refine (wnumber_any (w.heap.size + 1) v2 a2 b2 t 0 4503599627370496 w2 (by omega) (by omega) HP2.out (by omega)).mono ?_
  rintro e w3 ⟨rfl, v3, a3, b3, hp, hr, hl3, hg⟩
  have HA3 := Lib.hid (show toEnc b3 a3 = Enc.cat (Enc.cat (Enc.cat (Enc.nil0) (Enc.number k 1 2)) (Enc.plain f)) (Enc.plain t) from hr.trans (congrArg (fun p => Enc.cat p (Enc.plain t)) HA2.out))
  have HP3 := Lib.hid hp
  have HG3 := Lib.hid (HG2.out.trans hg)
  have HE3 := Lib.hid (HE2.out.touch hg.touch (HNS.out _ _ _ _ HP2.out HE2.out))
  clear hp hg hr hc2_2
  have hc3_3 : w3.cell? ⟨w.heap.size, 3, none⟩ = some (.int .i64 q) := HE3.out.cell 3
  go_wp2_with fail
  refine (wnumber_any (w.heap.size + 1) v3 a3 b3 q 0 4503599627370496 w3 (by omega) (by omega) HP3.out (by omega)).mono ?_
  rintro e w4 ⟨rfl, v4, a4, b4, hp, hr, hl4, hg⟩
  have HA4 := Lib.hid (show toEnc b4 a4 = Enc.cat (Enc.cat (Enc.cat (Enc.cat (Enc.nil0) (Enc.number k 1 2)) (Enc.plain f)) (Enc.plain t)) (Enc.plain q) from hr.trans (congrArg (fun p => Enc.cat p (Enc.plain q)) HA3.out))
  have HP4 := Lib.hid hp
  have HG4 := Lib.hid (HG3.out.trans hg)
  have HE4 := Lib.hid (HE3.out.touch hg.touch (HNS.out _ _ _ _ HP3.out HE3.out))
  clear hp hg hr hc3_3
  have hc4_4 : w4.cell? ⟨w.heap.size, 4, none⟩ = some (.int .i64 mk) := HE4.out.cell 4
  have hc4_5 : w4.cell? ⟨w.heap.size, 5, none⟩ = some (.string to) := HE4.out.cell 5
  have hc4_6 : w4.cell? ⟨w.heap.size, 6, none⟩ = some (.string fr) := HE4.out.cell 6
  have hc4_7 : w4.cell? ⟨w.heap.size, 7, none⟩ = some (.string node) := HE4.out.cell 7
  have hc4_8 : w4.cell? ⟨w.heap.size, 8, none⟩ = some (.string name) := HE4.out.cell 8
  have hc4_9 : w4.cell? ⟨w.heap.size, 9, none⟩ = some (.string tx) := HE4.out.cell 9
  have hc4_10 : w4.cell? ⟨w.heap.size, 10, none⟩ = some (.int .i64 st) := HE4.out.cell 10
  go_wp2_with fail
  refine (wmail_any (w.heap.size + 1) v4 a4 b4 mk to fr node name tx st w4 HP4.out (by omega) (by assumption) (by assumption) (by assumption) (by assumption) (by assumption)).mono ?_
  rintro e w5 ⟨rfl, v5, a5, b5, hp, hr, hl5, hg⟩
  have HA5 := Lib.hid (show toEnc b5 a5 = Enc.cat (Enc.cat (Enc.cat (Enc.cat (Enc.cat (Enc.nil0) (Enc.number k 1 2)) (Enc.plain f)) (Enc.plain t)) (Enc.plain q)) (Enc.mail mk to.data.toList fr.data.toList node.data.toList name.data.toList tx.data.toList st) from hr.trans (congrArg (fun p => Enc.cat p (Enc.mail mk to.data.toList fr.data.toList node.data.toList name.data.toList tx.data.toList st)) HA4.out))
  have HP5 := Lib.hid hp
  have HG5 := Lib.hid (HG4.out.trans hg)
  have HE5 := Lib.hid (HE4.out.touch hg.touch (HNS.out _ _ _ _ HP4.out HE4.out))
  clear hp hg hr hc4_4 hc4_5 hc4_6 hc4_7 hc4_8 hc4_9 hc4_10
  have HD := Lib.hid (wdone_any (w.heap.size + 1) v5 a5 b5 w5 HP5.out)
  have hfin : Fresh w w5 := HT0.out.trans HG5.out.touch (fun i hi hs => by
    rcases hs with hs | hs
    · omega
    · simp [Value.ownBlock] at hs)
  have hspec : Enc.envelope k f t q (Enc.mail mk to.data.toList fr.data.toList node.data.toList name.data.toList tx.data.toList st) = toEnc b5 a5 := by rw [HA5.out]; exact rfl
  have hrow := HP5.out.2
  have hnew : ∀ i, v5.ownBlock = some i → w.heap.size ≤ i := by
    intro i hi
    rcases HG5.out.own with e | e
    · rw [e] at hi; simp [Value.ownBlock] at hi
    · have := e i hi; have := hsz0.out; omega
  have hend : EncEnd w (Enc.envelope k f t q (Enc.mail mk to.data.toList fr.data.toList node.data.toList name.data.toList tx.data.toList st)) (.returned (.tuple (if b5 then #[.slice none 0 0, .int .i64 2] else #[v5, .int .i64 0]))) w5 := by
    rw [hspec]
    cases b5
    · obtain ⟨A, c, rfl, _⟩ := hrow.form
      exact ⟨A, c, rfl, hrow, hnew, hfin⟩
    · exact ⟨rfl, hfin⟩
  replace hend := Lib.hid hend
  clear hfin hspec hrow hnew
  go_wp2_with fail
  refine HD.out.mono ?_
  rintro e w' ⟨rfl, rfl⟩
  cases b5
  · go_wp2_with fail
    go_ret2
    exact hend.out
  · go_wp2_with fail
    go_ret2
    exact hend.out

end Go.Proofs.Ytdfhdanfigpbpaa
