/- The contracts of the reference's Writer.mail and Envelope (printed by gen_refmail.py). Conditions stand with each. -/
import Derived.Test.YtdfhdanfigpbpaaEnvW
import Derived.Test.YtdfhdanfigpbpaaRefWs
namespace Go.Proofs.Ytdfhdanfigpbpaa
open Go.RowKit

theorem mail_ne (k : Int) (to fr node name tx : ByteArray) (st : Int) (hz : ¬ (k = 0 ∧ to.data.toList = [] ∧ fr.data.toList = [] ∧ node.data.toList = [] ∧ name.data.toList = [] ∧ tx.data.toList = [] ∧ st = 0)) (w : World) :
    (binOp .eql 57 (.agg #[.int .i64 k, .string to, .string fr, .string node, .string name, .string tx, .int .i64 st]) (.agg #[.int .i64 0, .string ⟨#[]⟩, .string ⟨#[]⟩, .string ⟨#[]⟩, .string ⟨#[]⟩, .string ⟨#[]⟩, .int .i64 0])).run Try.prog w = .ok (.bool false) w := by
  go_simp
  exact fun a b c d e f g => hz ⟨a, toList_nil b, toList_nil c, toList_nil d, toList_nil e, toList_nil f, g⟩
theorem mail_ref (k : Int) (to fr node name tx : List UInt8) (st : Int) (hz : ¬ (k = 0 ∧ to = [] ∧ fr = [] ∧ node = [] ∧ name = [] ∧ tx = [] ∧ st = 0)) :
    Enc.mail k to fr node name tx st = Enc.cat (Enc.cat (Enc.cat (Enc.cat (Enc.cat (Enc.cat (Enc.cat Enc.nil0 (Enc.number k 1 4)) (Enc.text to)) (Enc.text fr)) (Enc.text node)) (Enc.text name)) (Enc.text tx)) (Enc.number st 0 4) := by
  by_cases hk : k = 0
  · rw [mail_bad hk (fun h => hz ⟨hk, h⟩), show Enc.number k 1 4 = none from if_pos (.inl (by omega))]
    simp only [Enc.cat_none, Enc.cat_none_r]
  · have hn : Enc.number k 0 4 = Enc.number k 1 4 := by
      unfold Enc.number
      by_cases h : k < 1 ∨ 4 < k
      · rw [if_pos h, if_pos (by omega)]
      · rw [if_neg h, if_neg (by omega)]
    rw [mail_full hk, hn]
    simp only [Enc.texts, List.map_cons, List.map_nil, Enc.catAll, Enc.cat_nil, Enc.cat_assoc]
    simp only [Enc.nil0, Enc.nil_cat]

set_option maxRecDepth 20000 in
set_option maxHeartbeats 4000000 in
theorem wmail_any (bw : Nat) (v : Value) (xs : List UInt8) (bad : Bool) (k : Int) (to fr node name tx : ByteArray) (st : Int) (w : World) (hp : Wr w bw v xs bad) (hb : xs.length ≤ 140736000000000)
    (h1 : to.size ≤ 1048576) (h2 : fr.size ≤ 1048576) (h3 : node.size ≤ 1048576) (h4 : name.size ≤ 1048576) (h5 : tx.size ≤ 1048576) :
    Calls Try.prog 88 #[.pointer (some ⟨bw, 0, none⟩), .agg #[.int .i64 k, .string to, .string fr, .string node, .string name, .string tx, .int .i64 st]] w (WrEnd bw v xs bad w 6000000 (Enc.mail k to.data.toList fr.data.toList node.data.toList name.data.toList tx.data.toList st)) := by
  obtain ⟨w0, hW⟩ : ∃ W, W = w.alloc (.cells #[.int .i64 k, .string to, .string fr, .string node, .string name, .string tx, .int .i64 st] 57) := ⟨_, rfl⟩
  have hB : Blk w0 w.heap.size 57 #[.int .i64 k, .string to, .string fr, .string node, .string name, .string tx, .int .i64 st] := by rw [hW]; exact Blk.new _ _ _
  have hPW : Wr w0 bw v xs bad := by rw [hW]; exact ⟨hp.1.alloc _, hp.2.alloc _⟩
  have hgo : ∀ v1 w1, PenGo bw v w0 v1 w1 → PenGo bw v w v1 w1 := by rw [hW]; exact fun _ _ h => h.first
  have hnbp : w.heap.size ≠ bw := hB.ne_ hPW.1 (by decide)
  have hnS : ∀ (v : Value) (ys : List UInt8) (bad : Bool) (w' : World), Wr w' bw v ys bad → Blk w' w.heap.size 57 #[.int .i64 k, .string to, .string fr, .string node, .string name, .string tx, .int .i64 st] → ¬ PenS bw v w.heap.size := by
    intro v ys bad w' hr hb hs
    rcases hs with hs | hs
    · exact hnbp hs
    · exact hr.2.ne_blk hb (by decide) hs
  have HW := Lib.hid hW; have HE0 := Lib.hid hB; have HP0 := Lib.hid hPW; have HGO := Lib.hid hgo; have HNS := Lib.hid hnS
  have HG0 : Hid (PenGo bw v w0 v w0) := Lib.hid (PenGo.refl _ _ _)

  have c0 : w0.cell? ⟨w.heap.size, 0, none⟩ = some (.int .i64 k) := hB.cell 0
  have c1 : w0.cell? ⟨w.heap.size, 1, none⟩ = some (.string to) := hB.cell 1
  have c2 : w0.cell? ⟨w.heap.size, 2, none⟩ = some (.string fr) := hB.cell 2
  have c3 : w0.cell? ⟨w.heap.size, 3, none⟩ = some (.string node) := hB.cell 3
  have c4 : w0.cell? ⟨w.heap.size, 4, none⟩ = some (.string name) := hB.cell 4
  have c5 : w0.cell? ⟨w.heap.size, 5, none⟩ = some (.string tx) := hB.cell 5
  have c6 : w0.cell? ⟨w.heap.size, 6, none⟩ = some (.int .i64 st) := hB.cell 6
  rw [hW] at c0 c1 c2 c3 c4 c5 c6
  clear hW hB hPW hgo hnS hp hnbp
  by_cases hz : k = 0 ∧ to.data.toList = [] ∧ fr.data.toList = [] ∧ node.data.toList = [] ∧ name.data.toList = [] ∧ tx.data.toList = [] ∧ st = 0
  · have HM := Lib.hid (mail_zero (k := k) hz.1 hz.2)
    have hem : ∀ b : ByteArray, b.data.toList = [] → b = ByteArray.empty := fun b h => by
      cases b with | mk d => cases d with | mk l => simp at h; subst h; rfl
    obtain ⟨rfl, z1, z2, z3, z4, z5, rfl⟩ := hz
    obtain rfl := hem _ z1
    obtain rfl := hem _ z2
    obtain rfl := hem _ z3
    obtain rfl := hem _ z4
    obtain rfl := hem _ z5
    clear z1 z2 z3 z4 z5 hem
    go_enter Try.func88, Try.ntmps88
    go_wp2_with fail
    rw [← HW.out]
    refine (wnumber_any bw v xs bad 0 0 0 w0 (by omega) (by omega) HP0.out (by omega)).mono ?_
    rintro e w1 ⟨rfl, v1, a1, b1, hp, hr, hl1, hg⟩
    have HP1 := Lib.hid hp; have HR := Lib.hid hr; have HG1 := Lib.hid (HGO.out _ _ hg)
    clear hp hr hg c0 c1 c2 c3 c4 c5 c6
    go_wp2_with fail
    go_end0
    refine ⟨rfl, v1, a1, b1, HP1.out, ?_, by omega, HG1.out⟩
    rw [HR.out, HM.out]
    rfl
  · have heq := mail_ne k to fr node name tx st hz
    have HM := Lib.hid (mail_ref k to.data.toList fr.data.toList node.data.toList name.data.toList tx.data.toList st hz)
    have HA0 : Hid (toEnc bad xs = Enc.cat (toEnc bad xs) Enc.nil0) := Lib.hid (by rw [show Enc.nil0 = some [] from rfl, Enc.cat_nil])
    clear hz
    go_enter Try.func88, Try.ntmps88
    go_wp2_with fail
    rw [← HW.out]
    clear heq c0 c1 c2 c3 c4 c5 c6

    refine (wnumber_any bw v xs bad k 1 4 w0 (by omega) (by omega) HP0.out (by omega)).mono ?_
    rintro e w1 ⟨rfl, v1, a1, b1, hp, hr, hl1, hg⟩
    have HA1 := Lib.hid (show toEnc b1 a1 = Enc.cat (toEnc bad xs) (Enc.cat (Enc.nil0) (Enc.number k 1 4)) from hr.trans ((congrArg (fun p => Enc.cat p (Enc.number k 1 4)) HA0.out).trans (Enc.cat_assoc _ _ _)))
    have HP1 := Lib.hid hp
    have HG1 := Lib.hid (HG0.out.trans hg)
    have HE1 := Lib.hid (HE0.out.touch hg.touch (HNS.out _ _ _ _ HP0.out HE0.out))
    clear hp hg hr
    have c1 : w1.cell? ⟨w.heap.size, 1, none⟩ = some (.string to) := HE1.out.cell 1
    go_wp2_with fail
    refine (wtext_any bw v1 a1 b1 to w1 HP1.out (by omega)).mono ?_
    rintro e w2 ⟨rfl, v2, a2, b2, hp, hr, hl2, hg⟩
    have HA2 := Lib.hid (show toEnc b2 a2 = Enc.cat (toEnc bad xs) (Enc.cat (Enc.cat (Enc.nil0) (Enc.number k 1 4)) (Enc.text to.data.toList)) from hr.trans ((congrArg (fun p => Enc.cat p (Enc.text to.data.toList)) HA1.out).trans (Enc.cat_assoc _ _ _)))
    have HP2 := Lib.hid hp
    have HG2 := Lib.hid (HG1.out.trans hg)
    have HE2 := Lib.hid (HE1.out.touch hg.touch (HNS.out _ _ _ _ HP1.out HE1.out))
    clear hp hg hr c1
    have c2 : w2.cell? ⟨w.heap.size, 2, none⟩ = some (.string fr) := HE2.out.cell 2
    go_wp2_with fail
    refine (wtext_any bw v2 a2 b2 fr w2 HP2.out (by omega)).mono ?_
    rintro e w3 ⟨rfl, v3, a3, b3, hp, hr, hl3, hg⟩
    have HA3 := Lib.hid (show toEnc b3 a3 = Enc.cat (toEnc bad xs) (Enc.cat (Enc.cat (Enc.cat (Enc.nil0) (Enc.number k 1 4)) (Enc.text to.data.toList)) (Enc.text fr.data.toList)) from hr.trans ((congrArg (fun p => Enc.cat p (Enc.text fr.data.toList)) HA2.out).trans (Enc.cat_assoc _ _ _)))
    have HP3 := Lib.hid hp
    have HG3 := Lib.hid (HG2.out.trans hg)
    have HE3 := Lib.hid (HE2.out.touch hg.touch (HNS.out _ _ _ _ HP2.out HE2.out))
    clear hp hg hr c2
    have c3 : w3.cell? ⟨w.heap.size, 3, none⟩ = some (.string node) := HE3.out.cell 3
    go_wp2_with fail
    refine (wtext_any bw v3 a3 b3 node w3 HP3.out (by omega)).mono ?_
    rintro e w4 ⟨rfl, v4, a4, b4, hp, hr, hl4, hg⟩
    have HA4 := Lib.hid (show toEnc b4 a4 = Enc.cat (toEnc bad xs) (Enc.cat (Enc.cat (Enc.cat (Enc.cat (Enc.nil0) (Enc.number k 1 4)) (Enc.text to.data.toList)) (Enc.text fr.data.toList)) (Enc.text node.data.toList)) from hr.trans ((congrArg (fun p => Enc.cat p (Enc.text node.data.toList)) HA3.out).trans (Enc.cat_assoc _ _ _)))
    have HP4 := Lib.hid hp
    have HG4 := Lib.hid (HG3.out.trans hg)
    have HE4 := Lib.hid (HE3.out.touch hg.touch (HNS.out _ _ _ _ HP3.out HE3.out))
    clear hp hg hr c3
    have c4 : w4.cell? ⟨w.heap.size, 4, none⟩ = some (.string name) := HE4.out.cell 4
    go_wp2_with fail
    refine (wtext_any bw v4 a4 b4 name w4 HP4.out (by omega)).mono ?_
    rintro e w5 ⟨rfl, v5, a5, b5, hp, hr, hl5, hg⟩
    have HA5 := Lib.hid (show toEnc b5 a5 = Enc.cat (toEnc bad xs) (Enc.cat (Enc.cat (Enc.cat (Enc.cat (Enc.cat (Enc.nil0) (Enc.number k 1 4)) (Enc.text to.data.toList)) (Enc.text fr.data.toList)) (Enc.text node.data.toList)) (Enc.text name.data.toList)) from hr.trans ((congrArg (fun p => Enc.cat p (Enc.text name.data.toList)) HA4.out).trans (Enc.cat_assoc _ _ _)))
    have HP5 := Lib.hid hp
    have HG5 := Lib.hid (HG4.out.trans hg)
    have HE5 := Lib.hid (HE4.out.touch hg.touch (HNS.out _ _ _ _ HP4.out HE4.out))
    clear hp hg hr c4
    have c5 : w5.cell? ⟨w.heap.size, 5, none⟩ = some (.string tx) := HE5.out.cell 5
    go_wp2_with fail
    refine (wtext_any bw v5 a5 b5 tx w5 HP5.out (by omega)).mono ?_
    rintro e w6 ⟨rfl, v6, a6, b6, hp, hr, hl6, hg⟩
    have HA6 := Lib.hid (show toEnc b6 a6 = Enc.cat (toEnc bad xs) (Enc.cat (Enc.cat (Enc.cat (Enc.cat (Enc.cat (Enc.cat (Enc.nil0) (Enc.number k 1 4)) (Enc.text to.data.toList)) (Enc.text fr.data.toList)) (Enc.text node.data.toList)) (Enc.text name.data.toList)) (Enc.text tx.data.toList)) from hr.trans ((congrArg (fun p => Enc.cat p (Enc.text tx.data.toList)) HA5.out).trans (Enc.cat_assoc _ _ _)))
    have HP6 := Lib.hid hp
    have HG6 := Lib.hid (HG5.out.trans hg)
    have HE6 := Lib.hid (HE5.out.touch hg.touch (HNS.out _ _ _ _ HP5.out HE5.out))
    clear hp hg hr c5
    have c6 : w6.cell? ⟨w.heap.size, 6, none⟩ = some (.int .i64 st) := HE6.out.cell 6
    go_wp2_with fail
    refine (wnumber_any bw v6 a6 b6 st 0 4 w6 (by omega) (by omega) HP6.out (by omega)).mono ?_
    rintro e w7 ⟨rfl, v7, a7, b7, hp, hr, hl7, hg⟩
    have HA7 := Lib.hid (show toEnc b7 a7 = Enc.cat (toEnc bad xs) (Enc.cat (Enc.cat (Enc.cat (Enc.cat (Enc.cat (Enc.cat (Enc.cat (Enc.nil0) (Enc.number k 1 4)) (Enc.text to.data.toList)) (Enc.text fr.data.toList)) (Enc.text node.data.toList)) (Enc.text name.data.toList)) (Enc.text tx.data.toList)) (Enc.number st 0 4)) from hr.trans ((congrArg (fun p => Enc.cat p (Enc.number st 0 4)) HA6.out).trans (Enc.cat_assoc _ _ _)))
    have HP7 := Lib.hid hp
    have HG7 := Lib.hid (HG6.out.trans hg)
    have HE7 := Lib.hid (HE6.out.touch hg.touch (HNS.out _ _ _ _ HP6.out HE6.out))
    clear hp hg hr c6
    go_wp2_with fail
    go_end0
    exact ⟨rfl, v7, a7, b7, HP7.out, by rw [HA7.out, HM.out], by omega, HGO.out _ _ HG7.out⟩
end Go.Proofs.Ytdfhdanfigpbpaa
