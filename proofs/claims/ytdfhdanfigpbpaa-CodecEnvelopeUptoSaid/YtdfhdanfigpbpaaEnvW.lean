/- The contract of the codec's Envelope (printed by gen_writers.py). -/
import Derived.Test.YtdfhdanfigpbpaaMail
namespace Go.Proofs.Ytdfhdanfigpbpaa
open Go.RowKit

theorem mail_size {k : Int} {to fr node name tx : List UInt8} {st : Int} {y : List UInt8} (h : Enc.mail k to fr node name tx st = some y) : y.length ≤ 6000000 := by
  unfold Enc.mail at h
  split at h
  · split at h
    · have := Enc.number_size (by omega) h
      omega
    · cases h
  · cases h1 : Enc.number k 0 4 with
    | none => rw [h1, Enc.cat_none, Enc.cat_none] at h; cases h
    | some a =>
      cases h2 : Enc.texts [to, fr, node, name, tx] with
      | none => rw [h1, h2, Enc.cat_none_r, Enc.cat_none] at h; cases h
      | some b =>
        cases h3 : Enc.number st 0 4 with
        | none => rw [h3, Enc.cat_none_r] at h; cases h
        | some c =>
          rw [h1, h2, h3] at h
          have e1 := Enc.number_size (by omega) h1
          have e2 := texts_size h2
          have e3 := Enc.number_size (by omega) h3
          simp only [Enc.cat, Option.bind_some, Option.map_some, Option.some.injEq] at h
          subst h
          simp only [List.length_append, List.length_cons, List.length_nil] at e2 ⊢
          omega

set_option maxRecDepth 20000 in
set_option maxHeartbeats 2000000 in
theorem envelope1_any (bp be : Nat) (k f t q mk : Int) (to fr node name tx : ByteArray) (st : Int) (w : World) (hp : Pen w bp (.slice none 0 0) []) (he : Blk w be 59 #[.int .i64 k, .int .i64 f, .int .i64 t, .int .i64 q, .int .i64 mk, .string to, .string fr, .string node, .string name, .string tx, .int .i64 st]) (hto : to.size ≤ maxLen) (hfr : fr.size ≤ maxLen) (hnode : node.size ≤ maxLen) (hname : name.size ≤ maxLen) (htx : tx.size ≤ maxLen) :
    Calls Try.prog 86 #[.pointer (some ⟨bp, 0, none⟩), .pointer (some ⟨be, 0, none⟩)] w (PenEnd bp (.slice none 0 0) [] w (Enc.envelope k f t q (Enc.mail mk to.data.toList fr.data.toList node.data.toList name.data.toList tx.data.toList st))) := by
  have hne : be ≠ bp := he.ne_ hp.1 (by decide)
  have HNE := Lib.hid hne
  have hnS : ∀ (v : Value) (ys : List UInt8) (w' : World), Row w' v ys → Blk w' be 59 #[.int .i64 k, .int .i64 f, .int .i64 t, .int .i64 q, .int .i64 mk, .string to, .string fr, .string node, .string name, .string tx, .int .i64 st] → ¬ PenS bp v be := by
    intro v ys w' hr hb hs
    rcases hs with hs | hs
    · exact HNE.out hs
    · exact hr.ne_blk hb (by decide) hs
  have HNS := Lib.hid hnS
  clear hne hnS
  have HP0 := Lib.hid hp; clear hp
  have HE0 := Lib.hid he; clear he
  have HG0 : Hid (PenGo bp (.slice none 0 0) w (.slice none 0 0) w) := PenGo.refl _ _ _
  have HA0 : Hid (Enc.nil0 = some ([] : List UInt8)) := Lib.hid rfl
  go_enter Try.func86, Try.ntmps86
  have hc0_0 : w.cell? ⟨be, 0, none⟩ = some (.int .i64 k) := HE0.out.cell 0
  go_wp2_with fail
  refine (number_any bp (.slice none 0 0) [] k 1 2 w (by omega) (by omega) HP0.out (by simp only [List.length_nil]; omega)).mono ?_
  intro e w1 h
  rcases h.cases with ⟨hr, rfl, ht⟩ | ⟨y0, v1, hr, rfl, hp, hg⟩
  · exact ⟨rfl, PenEnd.pan (by show Enc.envelope k f t q (Enc.mail mk to.data.toList fr.data.toList node.data.toList name.data.toList tx.data.toList st) = none; unfold Enc.envelope; rw [HA0.out, show Enc.number k 1 2 = none from hr]; rfl) (HG0.out.touch.trans ht HG0.out.subS)⟩
  have hl0 := Enc.number_size (by omega) hr
  replace hr : Enc.number k 1 2 = some y0 := hr
  obtain ⟨a1, ha⟩ : ∃ a, a = [] ++ y0 := ⟨_, rfl⟩
  have hal1 : a1.length = 0 + y0.length := by rw [ha, List.length_append, List.length_nil]
  have HA1 := Lib.hid (show Enc.cat (Enc.nil0) (Enc.number k 1 2) = some a1 by rw [HA0.out, hr, ha]; rfl)
  have hab1 : a1.length ≤ 8 := by omega
  rw [← ha] at hp
  have HP1 := Lib.hid hp
  have HG1 := Lib.hid (HG0.out.trans hg)
  have HE1 := Lib.hid (HE0.out.touch hg.touch (HNS.out _ _ _ HP0.out.2 HE0.out))
  clear hp hg hr ha h hl0 hal1
  clear hc0_0
  have hc1_1 : w1.cell? ⟨be, 1, none⟩ = some (.int .i64 f) := HE1.out.cell 1
  go_wp2_with fail
  refine (plain_any bp v1 a1 f w1 HP1.out (by omega)).mono ?_
  intro e w2 h
  rcases h.cases with ⟨hr, rfl, ht⟩ | ⟨y1, v2, hr, rfl, hp, hg⟩
  · exact ⟨rfl, PenEnd.pan (by show Enc.envelope k f t q (Enc.mail mk to.data.toList fr.data.toList node.data.toList name.data.toList tx.data.toList st) = none; unfold Enc.envelope; rw [HA1.out, show Enc.plain f = none from hr]; rfl) (HG1.out.touch.trans ht HG1.out.subS)⟩
  have hl1 := Enc.plain_size hr
  replace hr : Enc.plain f = some y1 := hr
  obtain ⟨a2, ha⟩ : ∃ a, a = a1 ++ y1 := ⟨_, rfl⟩
  have hal2 : a2.length = a1.length + y1.length := by rw [ha, List.length_append]
  have HA2 := Lib.hid (show Enc.cat (Enc.cat (Enc.nil0) (Enc.number k 1 2)) (Enc.plain f) = some a2 by rw [HA1.out, hr, ha]; rfl)
  have hab2 : a2.length ≤ 16 := by omega
  rw [← ha] at hp
  have HP2 := Lib.hid hp
  have HG2 := Lib.hid (HG1.out.trans hg)
  have HE2 := Lib.hid (HE1.out.touch hg.touch (HNS.out _ _ _ HP1.out.2 HE1.out))
  clear hp hg hr ha h hl1 hal2 hab1
  clear hc1_1
  have hc2_2 : w2.cell? ⟨be, 2, none⟩ = some (.int .i64 t) := HE2.out.cell 2
  go_wp2_with fail
  refine (plain_any bp v2 a2 t w2 HP2.out (by omega)).mono ?_
  intro e w3 h
  rcases h.cases with ⟨hr, rfl, ht⟩ | ⟨y2, v3, hr, rfl, hp, hg⟩
  · exact ⟨rfl, PenEnd.pan (by show Enc.envelope k f t q (Enc.mail mk to.data.toList fr.data.toList node.data.toList name.data.toList tx.data.toList st) = none; unfold Enc.envelope; rw [HA2.out, show Enc.plain t = none from hr]; rfl) (HG2.out.touch.trans ht HG2.out.subS)⟩
  have hl2 := Enc.plain_size hr
  replace hr : Enc.plain t = some y2 := hr
  obtain ⟨a3, ha⟩ : ∃ a, a = a2 ++ y2 := ⟨_, rfl⟩
  have hal3 : a3.length = a2.length + y2.length := by rw [ha, List.length_append]
  have HA3 := Lib.hid (show Enc.cat (Enc.cat (Enc.cat (Enc.nil0) (Enc.number k 1 2)) (Enc.plain f)) (Enc.plain t) = some a3 by rw [HA2.out, hr, ha]; rfl)
  have hab3 : a3.length ≤ 24 := by omega
  rw [← ha] at hp
  have HP3 := Lib.hid hp
  have HG3 := Lib.hid (HG2.out.trans hg)
  have HE3 := Lib.hid (HE2.out.touch hg.touch (HNS.out _ _ _ HP2.out.2 HE2.out))
  clear hp hg hr ha h hl2 hal3 hab2
  clear hc2_2
  have hc3_3 : w3.cell? ⟨be, 3, none⟩ = some (.int .i64 q) := HE3.out.cell 3
  go_wp2_with fail
  refine (plain_any bp v3 a3 q w3 HP3.out (by omega)).mono ?_
  intro e w4 h
  rcases h.cases with ⟨hr, rfl, ht⟩ | ⟨y3, v4, hr, rfl, hp, hg⟩
  · exact ⟨rfl, PenEnd.pan (by show Enc.envelope k f t q (Enc.mail mk to.data.toList fr.data.toList node.data.toList name.data.toList tx.data.toList st) = none; unfold Enc.envelope; rw [HA3.out, show Enc.plain q = none from hr]; rfl) (HG3.out.touch.trans ht HG3.out.subS)⟩
  have hl3 := Enc.plain_size hr
  replace hr : Enc.plain q = some y3 := hr
  obtain ⟨a4, ha⟩ : ∃ a, a = a3 ++ y3 := ⟨_, rfl⟩
  have hal4 : a4.length = a3.length + y3.length := by rw [ha, List.length_append]
  have HA4 := Lib.hid (show Enc.cat (Enc.cat (Enc.cat (Enc.cat (Enc.nil0) (Enc.number k 1 2)) (Enc.plain f)) (Enc.plain t)) (Enc.plain q) = some a4 by rw [HA3.out, hr, ha]; rfl)
  have hab4 : a4.length ≤ 32 := by omega
  rw [← ha] at hp
  have HP4 := Lib.hid hp
  have HG4 := Lib.hid (HG3.out.trans hg)
  have HE4 := Lib.hid (HE3.out.touch hg.touch (HNS.out _ _ _ HP3.out.2 HE3.out))
  clear hp hg hr ha h hl3 hal4 hab3
  clear hc3_3
  have hc4_4 : w4.cell? ⟨be, 4, none⟩ = some (.int .i64 mk) := HE4.out.cell 4
  have hc4_5 : w4.cell? ⟨be, 5, none⟩ = some (.string to) := HE4.out.cell 5
  have hc4_6 : w4.cell? ⟨be, 6, none⟩ = some (.string fr) := HE4.out.cell 6
  have hc4_7 : w4.cell? ⟨be, 7, none⟩ = some (.string node) := HE4.out.cell 7
  have hc4_8 : w4.cell? ⟨be, 8, none⟩ = some (.string name) := HE4.out.cell 8
  have hc4_9 : w4.cell? ⟨be, 9, none⟩ = some (.string tx) := HE4.out.cell 9
  have hc4_10 : w4.cell? ⟨be, 10, none⟩ = some (.int .i64 st) := HE4.out.cell 10
  go_wp2_with fail
  refine (mail_any bp v4 a4 mk to fr node name tx st w4 HP4.out (by omega) (by assumption) (by assumption) (by assumption) (by assumption) (by assumption)).mono ?_
  intro e w5 h
  rcases h.cases with ⟨hr, rfl, ht⟩ | ⟨y4, v5, hr, rfl, hp, hg⟩
  · exact ⟨rfl, PenEnd.pan (by show Enc.envelope k f t q (Enc.mail mk to.data.toList fr.data.toList node.data.toList name.data.toList tx.data.toList st) = none; unfold Enc.envelope; rw [HA4.out, show Enc.mail mk to.data.toList fr.data.toList node.data.toList name.data.toList tx.data.toList st = none from hr]; rfl) (HG4.out.touch.trans ht HG4.out.subS)⟩
  have hl4 := mail_size hr
  replace hr : Enc.mail mk to.data.toList fr.data.toList node.data.toList name.data.toList tx.data.toList st = some y4 := hr
  obtain ⟨a5, ha⟩ : ∃ a, a = a4 ++ y4 := ⟨_, rfl⟩
  have hal5 : a5.length = a4.length + y4.length := by rw [ha, List.length_append]
  have HA5 := Lib.hid (show Enc.cat (Enc.cat (Enc.cat (Enc.cat (Enc.cat (Enc.nil0) (Enc.number k 1 2)) (Enc.plain f)) (Enc.plain t)) (Enc.plain q)) (Enc.mail mk to.data.toList fr.data.toList node.data.toList name.data.toList tx.data.toList st) = some a5 by rw [HA4.out, hr, ha]; rfl)
  have hab5 : a5.length ≤ 6000032 := by omega
  rw [← ha] at hp
  have HP5 := Lib.hid hp
  have HG5 := Lib.hid (HG4.out.trans hg)
  have HE5 := Lib.hid (HE4.out.touch hg.touch (HNS.out _ _ _ HP4.out.2 HE4.out))
  clear hp hg hr ha h hl4 hal5 hab4
  clear hc4_4 hc4_5 hc4_6 hc4_7 hc4_8 hc4_9 hc4_10
  go_wp2_with fail
  go_end0
  exact PenEnd.ret (ys := a5) (by show Enc.envelope k f t q (Enc.mail mk to.data.toList fr.data.toList node.data.toList name.data.toList tx.data.toList st) = _; unfold Enc.envelope; exact HA5.out) ⟨v5, by rw [List.nil_append]; exact HP5.out, HG5.out⟩
set_option maxRecDepth 20000 in
set_option maxHeartbeats 1000000 in
theorem envelope_any (k f t q mk : Int) (to fr node name tx : ByteArray) (st : Int) (w : World) (hto : to.size ≤ maxLen) (hfr : fr.size ≤ maxLen) (hnode : node.size ≤ maxLen) (hname : name.size ≤ maxLen) (htx : tx.size ≤ maxLen) : Calls Try.prog 39 #[.agg #[.int .i64 k, .int .i64 f, .int .i64 t, .int .i64 q, .int .i64 mk, .string to, .string fr, .string node, .string name, .string tx, .int .i64 st]] w (EncEnd w (Enc.envelope k f t q (Enc.mail mk to.data.toList fr.data.toList node.data.toList name.data.toList tx.data.toList st))) := by
  have hmf : ∀ (fn : Fn) (first cap : Array Value) (w : World), (Instr.makeFunc fn first cap).run Try.prog w = .ok (.func fn first cap) w := fun _ _ _ _ => rfl
  have HK := Lib.hid (written_any 86 #[.pointer (some ⟨w.heap.size, 0, none⟩)] (Enc.envelope k f t q (Enc.mail mk to.data.toList fr.data.toList node.data.toList name.data.toList tx.data.toList st)) (w.alloc (.cells #[.int .i64 k, .int .i64 f, .int .i64 t, .int .i64 q, .int .i64 mk, .string to, .string fr, .string node, .string name, .string tx, .int .i64 st] 59)) (fun args w => by simp [go_sem])
    (fun w1 bp hf _ hp => by simpa using envelope1_any bp w.heap.size k f t q mk to fr node name tx st w1 hp ((Blk.new w _ _).touch hf id) hto hfr hnode hname htx))
  go_enter Try.func39, Try.ntmps39
  go_wp2_with fail
  refine HK.out.mono ?_
  intro e w1 h
  rcases h.of_alloc.cases with ⟨hr, rfl, ht⟩ | ⟨ys, A, c, hr, rfl, hrow, hnew, ht⟩
  · have HR := Lib.hid hr; clear hr h
    have HT := Lib.hid ht; clear ht
    go_wp2_with fail
    go_ret2
    exact EncEnd.no HR.out HT.out
  · have HR := Lib.hid hr; clear hr h
    have HT := Lib.hid ht; clear ht
    have HROW := Lib.hid hrow; clear hrow
    have HNEW := Lib.hid hnew; clear hnew
    go_wp2_with fail
    go_ret2
    exact EncEnd.yes HR.out HROW.out HNEW.out HT.out

end Go.Proofs.Ytdfhdanfigpbpaa
