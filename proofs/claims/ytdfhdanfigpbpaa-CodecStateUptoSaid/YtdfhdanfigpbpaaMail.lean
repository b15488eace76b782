/- The contract of the codec's pen.mail. Conditions stand with it. -/
import Derived.Test.YtdfhdanfigpbpaaWriters
import Derived.Laws.StructEq
namespace Go.Proofs.Ytdfhdanfigpbpaa
open Go.RowKit

theorem PenGo.first {bp : Nat} {v v1 : Value} {w w1 : World} {o : Obj} (h : PenGo bp v (w.alloc o) v1 w1) : PenGo bp v w v1 w1 := by
  refine ⟨((Touch.refl (PenS bp v) w).alloc o).trans h.touch (fun _ _ h => h), ?_⟩
  rcases h.own with e | e
  · exact .inl e
  · exact .inr fun i hi => Nat.le_trans ((Touch.refl (fun _ => False) w).alloc o).size (e i hi)
theorem toList_nil {b : ByteArray} (h : b.toList = []) : b.data.toList = [] := by rwa [ByteArray.toList_eq] at h
theorem mail_zero {k : Int} {to fr node name tx : List UInt8} {st : Int} (hk : k = 0) (h : to = [] ∧ fr = [] ∧ node = [] ∧ name = [] ∧ tx = [] ∧ st = 0) : Enc.mail k to fr node name tx st = Enc.number 0 0 4 := by
  unfold Enc.mail
  rw [if_pos hk, if_pos h]
theorem mail_bad {k : Int} {to fr node name tx : List UInt8} {st : Int} (hk : k = 0) (h : ¬ (to = [] ∧ fr = [] ∧ node = [] ∧ name = [] ∧ tx = [] ∧ st = 0)) : Enc.mail k to fr node name tx st = none := by
  unfold Enc.mail
  rw [if_pos hk, if_neg h]
theorem mail_full {k : Int} {to fr node name tx : List UInt8} {st : Int} (hk : k ≠ 0) : Enc.mail k to fr node name tx st = Enc.cat (Enc.cat (Enc.number k 0 4) (Enc.texts [to, fr, node, name, tx])) (Enc.number st 0 4) := if_neg hk

set_option maxRecDepth 20000 in
set_option maxHeartbeats 4000000 in
theorem mail_any (bp : Nat) (v : Value) (xs : List UInt8) (k : Int) (to fr node name tx : ByteArray) (st : Int) (w : World) (hp : Pen w bp v xs) (hb : xs.length ≤ 140736000000000)
    (h1 : to.size ≤ maxLen) (h2 : fr.size ≤ maxLen) (h3 : node.size ≤ maxLen) (h4 : name.size ≤ maxLen) (h5 : tx.size ≤ maxLen) :
    Calls Try.prog 87 #[.pointer (some ⟨bp, 0, none⟩), .agg #[.int .i64 k, .string to, .string fr, .string node, .string name, .string tx, .int .i64 st]] w
      (PenEnd bp v xs w (Enc.mail k to.data.toList fr.data.toList node.data.toList name.data.toList tx.data.toList st)) := by
  obtain ⟨W, hW⟩ : ∃ W, W = w.alloc (.cells #[.int .i64 k, .string to, .string fr, .string node, .string name, .string tx, .int .i64 st] 57) := ⟨_, rfl⟩
  have hB : Blk W w.heap.size 57 #[.int .i64 k, .string to, .string fr, .string node, .string name, .string tx, .int .i64 st] := by rw [hW]; exact Blk.new _ _ _
  have hPW : Pen W bp v xs := by rw [hW]; exact ⟨hp.1.alloc _, hp.2.alloc _⟩
  have hgo : ∀ v1 w1, PenGo bp v W v1 w1 → PenGo bp v w v1 w1 := by rw [hW]; exact fun _ _ h => h.first
  have hto : ∀ w1, Touch (PenS bp v) W w1 → Touch (PenS bp v) w w1 := by rw [hW]; exact fun _ h => ((Touch.refl (PenS bp v) w).alloc _).trans h (fun _ _ h => h)
  have hnbp : w.heap.size ≠ bp := hB.ne_ hPW.1 (by decide)
  have hnS : ∀ (v : Value) (ys : List UInt8) (w' : World), Row w' v ys → Blk w' w.heap.size 57 #[.int .i64 k, .string to, .string fr, .string node, .string name, .string tx, .int .i64 st] → ¬ PenS bp v w.heap.size := by
    intro v ys w' hr hb hs
    rcases hs with hs | hs
    · exact hnbp hs
    · exact hr.ne_blk hb (by decide) hs
  have HN1 := Lib.hid (number_any bp v xs k 0 4 W (by omega) (by omega) hPW (by omega))
  have HW := Lib.hid hW; have HB := Lib.hid hB; have HPW := Lib.hid hPW; have HGO := Lib.hid hgo; have HTO := Lib.hid hto; have HNS := Lib.hid hnS
  have c0 : W.cell? ⟨w.heap.size, 0, none⟩ = some (.int .i64 k) := hB.cell 0
  clear hW hB hPW hgo hto hnS hp hnbp
  by_cases hk : k = 0
  · subst hk
    by_cases hz : to.data.toList = [] ∧ fr.data.toList = [] ∧ node.data.toList = [] ∧ name.data.toList = [] ∧ tx.data.toList = [] ∧ st = 0
    · have HM := Lib.hid (mail_zero (k := 0) rfl hz)
      have hem : ∀ b : ByteArray, b.data.toList = [] → b = ByteArray.empty := fun b h => by
        cases b with | mk d => cases d with | mk l => simp at h; subst h; rfl
      obtain ⟨z1, z2, z3, z4, z5, rfl⟩ := hz
      obtain rfl := hem _ z1
      obtain rfl := hem _ z2
      obtain rfl := hem _ z3
      obtain rfl := hem _ z4
      obtain rfl := hem _ z5
      clear z1 z2 z3 z4 z5 hem
      go_enter Try.func87, Try.ntmps87
      go_wp2_with fail
      rw [← HW.out]
      refine HN1.out.mono ?_
      intro e w1 h
      rcases h.cases with ⟨hr, rfl, ht⟩ | ⟨ys, v1, hr, rfl, hp1, hg1⟩
      · exact absurd hr (by decide)
      · have hB1 := HB.out.touch hg1.touch (HNS.out v xs W HPW.out.2 HB.out)
        have d0 := hB1.cell 0
        have d1 := hB1.cell 1
        have d2 := hB1.cell 2
        have d3 := hB1.cell 3
        have d4 := hB1.cell 4
        have d5 := hB1.cell 5
        have d6 := hB1.cell 6
        simp only [List.getElem?_toArray, List.getElem?_cons_zero, List.getElem?_cons_succ] at d0 d1 d2 d3 d4 d5 d6
        have HR := Lib.hid hr; clear hr h
        have HP1 := Lib.hid hp1; clear hp1
        have HG1 := Lib.hid hg1; clear hg1
        clear hB1
        go_wp2_with fail
        go_end0
        exact PenEnd.ret (HM.out.trans HR.out) ⟨v1, HP1.out, HGO.out _ _ HG1.out⟩
    · have HM := Lib.hid (mail_bad (k := 0) rfl hz)
      have HZ := Lib.hid hz
      clear hz
      go_enter Try.func87, Try.ntmps87
      go_wp2_with fail
      rw [← HW.out]
      refine HN1.out.mono ?_
      intro e w1 h
      rcases h.cases with ⟨hr, rfl, ht⟩ | ⟨ys, v1, hr, rfl, hp1, hg1⟩
      · exact absurd hr (by decide)
      · have hB1 := HB.out.touch hg1.touch (HNS.out v xs W HPW.out.2 HB.out)
        have d0 := hB1.cell 0
        have d1 := hB1.cell 1
        have d2 := hB1.cell 2
        have d3 := hB1.cell 3
        have d4 := hB1.cell 4
        have d5 := hB1.cell 5
        have d6 := hB1.cell 6
        simp only [List.getElem?_toArray, List.getElem?_cons_zero, List.getElem?_cons_succ] at d0 d1 d2 d3 d4 d5 d6
        have HT := Lib.hid (HTO.out _ hg1.touch)
        clear hr h hp1 hg1 hB1
        go_wp2_with fail
        all_goals first
          | exact ⟨rfl, PenEnd.pan HM.out HT.out⟩
          | exact absurd ⟨toList_nil (by assumption), toList_nil (by assumption), toList_nil (by assumption), toList_nil (by assumption), toList_nil (by assumption), by assumption⟩ HZ.out
  · have HM := Lib.hid (mail_full (to := to.data.toList) (fr := fr.data.toList) (node := node.data.toList) (name := name.data.toList) (tx := tx.data.toList) (st := st) hk)
    have hkI : (k == 0) = false := by simp; exact hk
    go_enter Try.func87, Try.ntmps87
    go_wp2_with fail
    rw [← HW.out]
    refine HN1.out.mono ?_
    intro e w1 h
    rcases h.cases with ⟨hr, rfl, ht⟩ | ⟨ys, v1, hr, rfl, hp1, hg1⟩
    · refine ⟨rfl, PenEnd.pan (HM.out.trans ?_) (HTO.out _ ht)⟩
      rw [hr, Enc.cat_none, Enc.cat_none]
    · have hys := Enc.number_size (by omega) hr
      have hB1 := HB.out.touch hg1.touch (HNS.out v xs W HPW.out.2 HB.out)
      have d0 := hB1.cell 0
      have d1 := hB1.cell 1
      have d2 := hB1.cell 2
      have d3 := hB1.cell 3
      have d4 := hB1.cell 4
      have d5 := hB1.cell 5
      have d6 := hB1.cell 6
      simp only [List.getElem?_toArray, List.getElem?_cons_zero, List.getElem?_cons_succ] at d0 d1 d2 d3 d4 d5 d6
      have HR := Lib.hid hr; clear hr h
      have HP1 := Lib.hid hp1; clear hp1
      have HG1 := Lib.hid hg1; clear hg1
      have HB1 := Lib.hid hB1; clear hB1
      go_wp2_with fail
      refine (texts_any bp v1 (xs ++ ys) [to, fr, node, name, tx] w1.heap.size (w1.alloc (Obj.cells #[.string to, .string fr, .string node, .string name, .string tx] 9)) ⟨HP1.out.1.alloc _, HP1.out.2.alloc _⟩ (Blk.new _ _ _) (by rw [List.length_append]; omega) (by simp) (by intro s hs; simp only [List.mem_cons, List.not_mem_nil, or_false] at hs; rcases hs with rfl | rfl | rfl | rfl | rfl <;> assumption)).mono ?_
      intro e w2 h
      rcases h.cases with ⟨hr, rfl, ht⟩ | ⟨zs, v2, hr, rfl, hp2, hg2⟩
      · have hal : Touch (PenS bp v1) w1 w2 := ((Touch.refl (PenS bp v1) w1).alloc _).trans ht (fun _ _ h => h)
        refine ⟨rfl, PenEnd.pan (HM.out.trans ?_) (HTO.out _ (HG1.out.touch.trans hal HG1.out.subS))⟩
        simp only [List.map_cons, List.map_nil] at hr
        rw [HR.out, hr, Enc.cat_none_r, Enc.cat_none]
      · have hzs := texts_size hr
        simp only [List.map_cons, List.map_nil, List.length_cons, List.length_nil] at hr hzs
        have HG2 := Lib.hid (HG1.out.trans hg2.first)
        have hB2 := HB1.out.touch hg2.first.touch (HNS.out v1 _ w1 HP1.out.2 HB1.out)
        have f6 := hB2.cell 6
        simp only [List.getElem?_toArray, List.getElem?_cons_zero, List.getElem?_cons_succ] at f6
        have HR2 := Lib.hid hr; clear hr h
        have HP2 := Lib.hid hp2; clear hp2 hg2 hB2
        go_wp2_with fail
        refine (number_any bp v2 (xs ++ ys ++ zs) st 0 4 w2 (by omega) (by omega) HP2.out (by simp only [List.length_append]; omega)).mono ?_
        intro e w3 h
        rcases h.cases with ⟨hr, rfl, ht⟩ | ⟨us, v3, hr, rfl, hp3, hg3⟩
        · refine ⟨rfl, PenEnd.pan (HM.out.trans ?_) (HTO.out _ (HG2.out.touch.trans ht HG2.out.subS))⟩
          rw [hr, Enc.cat_none_r]
        · have HG3 := Lib.hid (HGO.out _ _ (HG2.out.trans hg3))
          have HM3 := Lib.hid (HM.out.trans (show _ = some (ys ++ zs ++ us) by rw [HR.out, HR2.out, hr]; rfl))
          have HP3 := Lib.hid hp3
          clear hr h hp3 hg3
          go_wp2_with fail
          go_end0
          exact PenEnd.ret HM3.out ⟨v3, by rw [← List.append_assoc, ← List.append_assoc]; exact HP3.out, HG3.out⟩
end Go.Proofs.Ytdfhdanfigpbpaa
