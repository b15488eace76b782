/- The contracts of the codec's pen that stand on number: plain, signed, text, texts. -/
import Derived.Test.YtdfhdanfigpbpaaPen
namespace Go.Proofs.Ytdfhdanfigpbpaa
open Go.RowKit

theorem PenEnd.ret {bp : Nat} {v : Value} {xs ys : List UInt8} {w w' : World} {r : Enc.Enc} (hr : r = some ys) (h : ∃ v', Pen w' bp v' (xs ++ ys) ∧ PenGo bp v w v' w') : PenEnd bp v xs w r (.returned (.tuple #[])) w' := hr ▸ ⟨rfl, h⟩
theorem PenEnd.pan {bp : Nat} {v : Value} {xs : List UInt8} {w w' : World} {r : Enc.Enc} (hr : r = none) (h : Touch (PenS bp v) w w') : PenEnd bp v xs w r (.panicked [stop0]) w' := hr ▸ ⟨rfl, h⟩
theorem PenEnd.cases {bp : Nat} {v : Value} {xs : List UInt8} {w w' : World} {r : Enc.Enc} {e : Ending} (h : PenEnd bp v xs w r e w') :
    (r = none ∧ e = .panicked [stop0] ∧ Touch (PenS bp v) w w') ∨ (∃ ys v', r = some ys ∧ e = .returned (.tuple #[]) ∧ Pen w' bp v' (xs ++ ys) ∧ PenGo bp v w v' w') := by
  cases r with
  | none => exact .inl ⟨rfl, h.1, h.2⟩
  | some ys =>
    obtain ⟨h1, v', h2, h3⟩ := h
    exact .inr ⟨ys, v', rfl, h1, h2, h3⟩

set_option maxHeartbeats 1000000 in
theorem plain_any (bp : Nat) (v : Value) (xs : List UInt8) (n : Int) (w : World) (hp : Pen w bp v xs) (hb : xs.length ≤ 140737488355000) :
    Calls Try.prog 72 #[.pointer (some ⟨bp, 0, none⟩), .int .i64 n] w (PenEnd bp v xs w (Enc.plain n)) := by
  have HK := Lib.hid (number_any bp v xs n 0 4503599627370496 w (by omega) (by omega) hp hb)
  clear hp
  go_enter Try.func72, Try.ntmps72
  go_wp2_with fail
  refine HK.out.mono ?_
  intro e w1 h
  rcases h.cases with ⟨hr, rfl, ht⟩ | ⟨ys, v1, hr, rfl, hp1, hg1⟩
  · exact ⟨rfl, PenEnd.pan hr ht⟩
  · have HR := Lib.hid hr; clear hr h
    have HP1 := Lib.hid hp1; clear hp1
    have HG1 := Lib.hid hg1; clear hg1
    go_wp2_with fail
    go_end0
    exact PenEnd.ret HR.out ⟨v1, HP1.out, HG1.out⟩

set_option maxHeartbeats 1000000 in
theorem signed_any (bp : Nat) (v : Value) (xs : List UInt8) (n : Int) (w : World) (hp : Pen w bp v xs) (hb : xs.length ≤ 140737488355000) :
    Calls Try.prog 57 #[.pointer (some ⟨bp, 0, none⟩), .int .i64 n] w (PenEnd bp v xs w (Enc.signed n)) := by
  by_cases h1 : n < -2251799813685248
  · have hs : Enc.signed n = none := if_pos (.inl h1)
    have HS := Lib.hid hs; clear hs hp
    go_enter Try.func57, Try.ntmps57
    go_wp2_with fail
    exact ⟨rfl, PenEnd.pan HS.out (Touch.refl _ _)⟩
  · by_cases h2 : 2251799813685248 < n
    · have hs : Enc.signed n = none := if_pos (.inr h2)
      have HS := Lib.hid hs; clear hs hp
      go_enter Try.func57, Try.ntmps57
      go_wp2_with fail
      exact ⟨rfl, PenEnd.pan HS.out (Touch.refl _ _)⟩
    · by_cases h3 : n < 0
      · have hs : Enc.signed n = Enc.plain (-2 * n - 1) := by unfold Enc.signed; rw [if_neg (by omega), if_pos h3]
        have HS := Lib.hid hs
        have HK := Lib.hid (plain_any bp v xs (-2 * n - 1) w hp hb)
        clear hp hs
        have hm : IntKind.i64.wrap (-2 * n) = -2 * n := IntWalk.i64_in _ (by omega)
        go_enter Try.func57, Try.ntmps57
        go_wp2_with fail
        refine HK.out.mono ?_
        intro e w1 h
        rcases h.cases with ⟨hr, rfl, ht⟩ | ⟨ys, v1, hr, rfl, hp1, hg1⟩
        · exact ⟨rfl, PenEnd.pan (HS.out.trans hr) ht⟩
        · have HR := Lib.hid hr; clear hr h
          have HP1 := Lib.hid hp1; clear hp1
          have HG1 := Lib.hid hg1; clear hg1
          go_wp2_with fail
          go_end0
          exact PenEnd.ret (HS.out.trans HR.out) ⟨v1, HP1.out, HG1.out⟩
      · have hs : Enc.signed n = Enc.plain (2 * n) := by unfold Enc.signed; rw [if_neg (by omega), if_neg h3]
        have HS := Lib.hid hs
        have HK := Lib.hid (plain_any bp v xs (2 * n) w hp hb)
        clear hp hs
        go_enter Try.func57, Try.ntmps57
        go_wp2_with fail
        refine HK.out.mono ?_
        intro e w1 h
        rcases h.cases with ⟨hr, rfl, ht⟩ | ⟨ys, v1, hr, rfl, hp1, hg1⟩
        · exact ⟨rfl, PenEnd.pan (HS.out.trans hr) ht⟩
        · have HR := Lib.hid hr; clear hr h
          have HP1 := Lib.hid hp1; clear hp1
          have HG1 := Lib.hid hg1; clear hg1
          go_wp2_with fail
          go_end0
          exact PenEnd.ret (HS.out.trans HR.out) ⟨v1, HP1.out, HG1.out⟩

set_option maxHeartbeats 1000000 in
theorem text_any (bp : Nat) (v : Value) (xs : List UInt8) (s : ByteArray) (w : World) (hp : Pen w bp v xs) (hb : xs.length + min s.size 1048576 + 400 ≤ 140737488355328) (hs : s.size ≤ maxLen) :
    Calls Try.prog 80 #[.pointer (some ⟨bp, 0, none⟩), .string s] w (PenEnd bp v xs w (Enc.text s.data.toList)) := by
  have hsl : s.data.toList.length = s.size := by rw [Array.length_toList]; rfl
  have HK := Lib.hid (number_any bp v xs s.size 0 1048576 w (by omega) (by omega) hp (by omega))
  unfold maxLen at hs
  have HSL := Lib.hid hsl; clear hp hsl
  go_enter Try.func80, Try.ntmps80
  go_wp2_with fail
  refine HK.out.mono ?_
  intro e w1 h
  rcases h.cases with ⟨hr, rfl, ht⟩ | ⟨ys, v1, hr, rfl, hp1, hg1⟩
  · refine ⟨rfl, PenEnd.pan ?_ ht⟩
    unfold Enc.text
    rw [HSL.out, hr]; rfl
  · have hle : s.size ≤ 1048576 := by
      unfold Enc.number at hr
      split at hr
      · cases hr
      · omega
    have hyl := Enc.number_size (by omega) hr
    have HR := Lib.hid hr; clear hr h
    have hc1 := hp1.1.cell 0
    have hf1 := hp1.1.frozen 0
    simp only [List.getElem?_toArray, List.getElem?_cons_zero] at hc1
    have HP1 := Lib.hid hp1; clear hp1
    have HG1 := Lib.hid hg1; clear hg1
    have hne : v1.ownBlock ≠ some bp := HP1.out.2.ne_blk HP1.out.1 (by decide)
    have HNE := Lib.hid hne; clear hne
    go_wp2_with (at_builtin; refine wpList_row_str _ rfl _ _ 24 9 rfl Try.info5 Try.underlying24 Try.underlying9 v1 (xs ++ ys) rfl HP1.out.2 s rfl (by simp only [List.length_append]; omega) ?_; intro A2 c2 w2 hr2 hg2 ho2; have hB2 := HP1.out.1.grown hg2 (fun e => HNE.out e.symm); have hc2 := hB2.cell 0; have hf2 := hB2.frozen 0; simp only [List.getElem?_toArray, List.getElem?_cons_zero] at hc2)
    have hpb := pen_app HP1.out (Touch.refl _ w1) HP1.out.1 hr2 hg2 ho2
    clear hf2 hc2 hB2 ho2 hg2 hr2 hc1 hf1
    go_end0
    simp only [List.length_append] at hpb
    refine PenEnd.ret (ys := ys ++ s.data.toList) ?_ ⟨_, by rw [← List.append_assoc]; exact hpb.1, HG1.out.trans hpb.2⟩
    unfold Enc.text
    rw [HSL.out, HR.out]; rfl

theorem texts_take (l : List ByteArray) (k : Nat) (h : k < l.length) : Enc.texts ((l.take (k + 1)).map (·.data.toList)) = Enc.cat (Enc.texts ((l.take k).map (·.data.toList))) (Enc.text l[k].data.toList) := by
  rw [List.take_succ_eq_append_getElem h]
  generalize l.take k = m
  induction m with
  | nil => simp [Enc.texts, Enc.catAll, Enc.cat_nil, Enc.nil_cat]
  | cons a m ih =>
    simp only [Enc.texts, List.map_cons, List.cons_append, Enc.catAll] at ih ⊢
    rw [ih, Enc.cat_assoc]
theorem catAll_none {l : List Enc.Enc} (h : none ∈ l) : Enc.catAll l = none := by
  induction l with
  | nil => cases h
  | cons a l ih =>
    rcases List.mem_cons.1 h with e | e
    · subst e; rfl
    · simp only [Enc.catAll, ih e, Enc.cat_none_r]
theorem texts_none (l : List ByteArray) (k : Nat) (h : k < l.length) (hn : Enc.text l[k].data.toList = none) : Enc.texts (l.map (·.data.toList)) = none := by
  refine catAll_none ?_
  rw [List.mem_map]
  exact ⟨_, List.mem_map.2 ⟨l[k], List.getElem_mem h, rfl⟩, hn⟩
theorem text_size {s y : List UInt8} (h : Enc.text s = some y) : y.length ≤ 1048584 := by
  unfold Enc.text at h
  cases hn : Enc.number s.length 0 1048576 with
  | none => rw [hn] at h; cases h
  | some b =>
    have h1 := Enc.number_size (by omega) hn
    rw [hn] at h
    simp only [Enc.cat_some, Option.map_some, Option.some.injEq] at h
    unfold Enc.number at hn
    split at hn
    · cases hn
    · subst h; simp only [List.length_append]; omega
theorem texts_size {l : List (List UInt8)} {y : List UInt8} (h : Enc.texts l = some y) : y.length ≤ l.length * 1048584 := by
  induction l generalizing y with
  | nil => simp only [Enc.texts, List.map_nil, Enc.catAll, Option.some.injEq] at h; subst h; simp
  | cons a l ih =>
    simp only [Enc.texts, List.map_cons, Enc.catAll] at h
    cases h1 : Enc.text a with
    | none => rw [h1] at h; cases h
    | some b =>
      rw [h1] at h
      cases h2 : Enc.texts l with
      | none =>
        unfold Enc.texts at h2
        rw [h2] at h; cases h
      | some c =>
        have hc := ih h2
        unfold Enc.texts at h2
        rw [h2] at h
        simp only [Enc.cat_some, Option.map_some, Option.some.injEq] at h
        have := text_size h1
        subst h
        simp only [List.length_append, List.length_cons]; omega

set_option maxHeartbeats 1000000 in
theorem texts_any (bp : Nat) (v : Value) (xs : List UInt8) (l : List ByteArray) (g : Nat) (w : World) (hp : Pen w bp v xs) (hg : Blk w g 9 (l.map Value.string).toArray)
    (hb : xs.length ≤ 140737000000000) (hl : l.length ≤ 8) (hs : ∀ s ∈ l, s.size ≤ maxLen) :
    Calls Try.prog 56 #[.pointer (some ⟨bp, 0, none⟩), .slice (some ⟨g, 0, none⟩) l.length l.length] w (PenEnd bp v xs w (Enc.texts (l.map (·.data.toList)))) := by
  have hne1 : g ≠ bp := hg.ne_ hp.1 (by decide)
  have hne2 : v.ownBlock ≠ some g := hp.2.ne_blk hg (by decide)
  have hns : ¬ PenS bp v g := by
    rintro (h | h)
    · exact hne1 h
    · exact hne2 h
  have HNS := Lib.hid hns
  have HG := Lib.hid hg
  have HP := Lib.hid hp
  have HS := Lib.hid hs
  clear hp hg hs hne1 hne2 hns
  go_enter Try.func56, Try.ntmps56
  go_wp2_with fail
  go_loopw [8] (fun i wr => ∃ k : Nat, k ≤ l.length ∧ i = .int .i64 k ∧ ∃ (ys : List UInt8) (u : Value), Enc.texts ((l.take k).map (·.data.toList)) = some ys ∧ Pen wr bp u (xs ++ ys) ∧ PenGo bp v w u wr) (fun i _ => l.length - (intOf i).toNat)
  case atStart => exact ⟨0, Nat.zero_le _, rfl, [], v, rfl, by rw [List.append_nil]; exact HP.out, PenGo.refl _ _ _⟩
  case round =>
    obtain ⟨k, hk, rfl, ys, u, hys, hpu, hgu⟩ := hrel
    have HPU := Lib.hid hpu; clear hpu
    have HGU := Lib.hid hgu; clear hgu
    have hyl := texts_size hys
    have HYS := Lib.hid hys; clear hys
    have HLL : Hid ((List.map (fun x : ByteArray => x.data.toList) (List.take k l)).length ≤ 8) := by
      show _ ≤ 8
      rw [List.length_map, List.length_take]; omega
    by_cases hlt : k < l.length
    · have hcell : wr.cell? ⟨g, k, none⟩ = some (.string l[k]) := by
        rw [(HG.out.touch HGU.out.touch HNS.out).cell k]
        simp [hlt]
      have hyl2 : ys.length ≤ 8 * 1048584 := Nat.le_trans hyl (Nat.mul_le_mul_right _ HLL.out)
      clear hyl
      have HK := Lib.hid (text_any bp u (xs ++ ys) l[k] wr HPU.out (by rw [List.length_append]; omega) (HS.out _ (List.getElem_mem hlt)))
      go_wp2_with fail
      refine HK.out.mono ?_
      intro e w1 h
      rcases h.cases with ⟨hr, rfl, ht⟩ | ⟨zs, v1, hr, rfl, hp1, hg1⟩
      · refine ⟨rfl, PenEnd.pan (texts_none l k hlt hr) (HGU.out.touch.trans ht HGU.out.subS)⟩
      · have HR := Lib.hid hr; clear hr h
        have HP1 := Lib.hid hp1; clear hp1
        have HG1 := Lib.hid hg1; clear hg1
        go_wp2_with fail
        go_roundw
        case rel =>
          refine ⟨k + 1, by omega, by go_num, ys ++ zs, v1, ?_, ?_, HGU.out.trans HG1.out⟩
          · rw [texts_take l k hlt, HYS.out, HR.out]; rfl
          · rw [← List.append_assoc]; exact HP1.out
        case measure => simp [intOf] <;> omega
    · obtain rfl : k = l.length := by omega
      go_wp2_with fail
      go_end0
      refine PenEnd.ret ?_ ⟨u, HPU.out, HGU.out⟩
      rw [← HYS.out, List.take_length]
end Go.Proofs.Ytdfhdanfigpbpaa
