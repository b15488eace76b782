/- The contracts of the codec's Frame and Unframe, and of bytes.Clone. Conditions stand with each. -/
import Derived.Test.YtdfhdanfigpbpaaFour
import Derived.Test.YtdfhdanfigpbpaaShelf
import Derived.Lib.SlBytesRow
namespace Go.Proofs.Ytdfhdanfigpbpaa
open Go.RowKit

set_option maxRecDepth 20000 in
set_option maxHeartbeats 1000000 in
/-- bytes.Clone -/
theorem clone_any (A : Option Addr) (n c : Nat) (xs : List UInt8) (w : World) (h : Bs w A n c xs) (hb : n ≤ 140737488355000) :
    Calls Try.prog 99 #[.slice A n c] w fun e w' => Fresh w w' ∧ ∃ B c', e = .returned (.slice B n c') ∧ Row w' (.slice B n c') xs ∧ (∀ a, B = some a → w.heap.size ≤ a.block) := by
  have q22 : ∀ (w : World) (a : Option Addr) (n c n' c' : Nat), (binOp .eql 24 (.slice a n c) (.slice none n' c')).run Try.prog w = .ok (.bool a.isNone) w := fun w a n c n' c' => Lib.run_eql_slice_nil w _ _ a n c n' c' Try.underlying24
  have hm := h.2.2.1
  have hnc := h.2.1
  unfold maxLen at hm
  obtain rfl := h.1
  cases A with
  | none =>
    have hl : xs = [] := by
      rcases Nat.eq_zero_or_pos xs.length with h0 | h0
      · exact List.eq_nil_of_length_eq_zero h0
      · obtain ⟨b, o, e⟩ := h.at_ h0
        cases e
    have HL := Lib.hid hl
    clear h hl
    go_enter Try.func99, Try.ntmps99
    go_wp2_with fail
    go_ret
    refine ⟨Touch.refl _ _, none, 0, ?_, ?_, fun _ h => by cases h⟩
    · rw [HL.out]; rfl
    · rw [HL.out]; exact Row.nil_ _
  | some a =>
    have H := Lib.hid h
    clear h
    go_enter Try.func99, Try.ntmps99
    go_wp2_with (at_builtin; refine wpList_row_bs _ rfl _ _ 24 rfl Try.info5 Try.underlying24 (.slice (some ⟨w.heap.size, 0, none⟩) 0 0) [] rfl (Row.lit [] #[] rfl (by simp)) (some a) xs.length c xs rfl (H.out.alloc _) (by simp only [List.length_nil]; omega) ?_; intro B1 c1 w1 r1 g1 o1; simp only [List.length_nil, Nat.zero_add, List.nil_append] at r1 g1 o1)
    have hT1 : Fresh w w1 := ((Touch.refl _ w).alloc _).grown g1 (fun k hk => .inl (by simp only [Value.ownBlock, Option.some.injEq] at hk; omega))
    have hN1 : ∀ a, B1 = some a → w.heap.size ≤ a.block := by
      rintro a rfl
      rcases o1 with h | h
      · simp only [Value.ownBlock, Option.some.injEq] at h
        omega
      · simp only [Value.ownBlock, alloc_size, Option.some.injEq] at h
        omega
    clear o1 g1
    have R1 := Lib.hid r1
    clear r1
    go_wp2_with fail
    go_ret
    exact ⟨hT1, B1, c1, rfl, R1.out, hN1⟩

/-- bytes in a block of the call's own that can be read and written -/
def Fb (w : World) (g cap : Nat) (l : List UInt8) : Prop := (∀ i x, l[i]? = some x → w.cell? ⟨g, i, none⟩ = some (.int .u8 (x.toNat : Int))) ∧ (∀ i, i < l.length → w.frozen? ⟨g, i, none⟩ = false) ∧ l.length ≤ cap ∧ cap ≤ maxLen
theorem Fb.bs {w : World} {g cap : Nat} {l : List UInt8} (h : Fb w g cap l) : Bs w (some ⟨g, 0, none⟩) l.length cap l :=
  ⟨rfl, h.2.2.1, h.2.2.2, fun _ => ⟨g, 0, rfl, fun j x hx => by rw [Nat.zero_add]; exact h.1 j x hx⟩⟩
theorem Fb.set_ {w : World} {g cap : Nat} {l : List UInt8} (h : Fb w g cap l) {i : Nat} (hi : i < l.length) (b : UInt8) : Fb (w.setCell ⟨g, i, none⟩ (.int .u8 (b.toNat : Int))) g cap (l.set i b) := by
  refine ⟨fun j x hx => ?_, fun j hj => ?_, by rw [List.length_set]; exact h.2.2.1, h.2.2.2⟩
  · by_cases e : j = i
    · subst e
      rw [List.getElem?_set_self hi] at hx
      injection hx with hx
      subst hx
      exact World.cell?_setCell_same _ _ _ (h.1 j _ (List.getElem?_eq_getElem hi))
    · rw [List.getElem?_set_ne (fun h => e h.symm)] at hx
      rw [World.cell?_setCell_other _ _ _ _ (fun h => e (by injection h with _ h; exact h.symm))]
      exact h.1 j x hx
  · rw [World.frozen?_setCell]
    exact h.2.1 j (by rwa [List.length_set] at hj)
theorem fb_fresh {w : World} {B : Nat} {v : Value} {l : List UInt8} (h : Lib.FreshBytes B w v l) : ∃ g cap, v = .slice (some ⟨g, 0, none⟩) l.length cap ∧ B ≤ g ∧ Fb w g cap l := by
  obtain ⟨g, cap, zs, hv, hB, hl, hm, hz, hr, hb, hc, hf⟩ := h
  refine ⟨g, cap, hv, hB, fun i x hx => ?_, fun i hi => hf i (by omega), hl, hm⟩
  have hi : i < l.length := (List.getElem?_eq_some_iff.1 hx).1
  rw [hc i (by omega)]
  rw [← hb, Lib.bytesOf, List.getElem?_map, List.getElem?_take, if_pos hi, List.getElem?_eq_getElem (by omega)] at hx
  simp only [Option.map_some, Option.some.injEq] at hx
  have hin := hr _ (List.getElem_mem (show i < zs.length by omega))
  rw [List.getD_eq_getElem?_getD, List.getElem?_eq_getElem (by omega), ← hx]
  simp only [Option.getD_some, UInt8.toNat_ofNat']
  congr 2
  omega
theorem holds_bs {w : World} {A : Option Addr} {c : Nat} {xs : List UInt8} (h : Bs w A xs.length c xs) : Lib.HoldsBytes w (.slice A xs.length c) xs := by
  by_cases h0 : xs = []
  · subst h0
    exact ⟨A, c, rfl, fun _ => rfl, fun a _ i x hx => by simp at hx⟩
  · obtain ⟨b, o, e, hc⟩ := h.2.2.2 (List.length_pos_iff.2 h0)
    refine ⟨A, c, rfl, (fun e' => by rw [e'] at e; cases e), fun a ha i x hx => ?_⟩
    rw [e] at ha
    injection ha with ha
    subst ha
    rw [add_flat]
    exact hc i x hx

set_option maxRecDepth 20000 in
set_option maxHeartbeats 2000000 in
theorem frame_any (A : Option Addr) (n c : Nat) (xs : List UInt8) (w : World) (h : Bs w A n c xs) (hb : n ≤ 1000000000) :
    Calls Try.prog 48 #[.slice A n c] w fun e w' => Fresh w w' ∧ ∃ g cap, e = .returned (.slice (some ⟨g, 0, none⟩) (n + 8) cap) ∧ w.heap.size ≤ g ∧ Fb w' g cap (Enc.frame xs) := by
  obtain rfl := h.1
  have hsl := Enc.sum_lt xs
  have hcv : IntKind.u32.wrap (xs.length : Int) = (xs.length : Int) := by rw [IntKind.wrap_u32']; omega
  have H := Lib.hid h
  have HS := Lib.hid hsl
  clear h hsl
  go_enter Try.func48, Try.ntmps48
  go_wp2_with fail
  refine (four_any xs.length w (by omega)).mono ?_
  rintro e w1 ⟨hf1, hs1, rfl, hr1⟩
  have hb1 := H.out.fresh hf1
  have HF1 := Lib.hid hf1; have HR1 := Lib.hid hr1; have HB1 := Lib.hid hb1; have HSZ := Lib.hid hs1
  clear hf1 hr1 hb1 hs1
  go_wp2_with fail
  refine (sum_any A xs.length c xs w1 HB1.out).mono ?_
  rintro e w2 ⟨rfl, rfl⟩
  go_wp2_with fail
  refine (four_any (Enc.sum xs) w2 HS.out).mono ?_
  rintro e w3 ⟨hf3, hs3, rfl, hr3⟩
  have HF3 := Lib.hid hf3; have HR3 := Lib.hid hr3
  have HP : Hid (Lib.PartsAt (w3.alloc (.cells #[.slice (some ⟨w.heap.size, 0, none⟩) 4 4, .slice (some ⟨w2.heap.size, 0, none⟩) 4 4, .slice A xs.length c] 24)) ⟨w3.heap.size, 0, none⟩ [.slice (some ⟨w.heap.size, 0, none⟩) 4 4, .slice (some ⟨w2.heap.size, 0, none⟩) 4 4, .slice A xs.length c] [Enc.four xs.length, Enc.four (Enc.sum xs), xs]) := by
    refine Lib.hid ⟨rfl, fun i v hv => ?_, fun i v l hv hl => ?_⟩
    · rw [add_flat, Nat.zero_add, (Blk.new w3 _ _).cell i]
      simpa using hv
    · match i, hv, hl with
      | 0, hv, hl =>
        simp at hv hl
        subst hv hl
        exact holds_bs (xs := Enc.four xs.length) (Row.bs ((HR1.out.touch HF3.out (fun _ _ => id)).alloc _))
      | 1, hv, hl =>
        simp at hv hl
        subst hv hl
        exact holds_bs (xs := Enc.four (Enc.sum xs)) (Row.bs (HR3.out.alloc _))
      | 2, hv, hl =>
        simp at hv hl
        subst hv hl
        exact holds_bs ((HB1.out.fresh HF3.out).alloc _)
      | i + 3, hv, hl => simp at hv
  have HJ := Lib.hid (Try.bytes_Join_many w3.heap.size 0 3 3 _ _ (.slice none 0 0) [] _ rfl (by omega) HP.out (Nat.le_refl _) ⟨none, 0, rfl, fun _ => rfl, fun a ha => by cases ha⟩ (by omega) (by simp [Lib.lens, Enc.four_length]; omega))
  clear hf3 hr3 hs3 HP
  go_wp2_with fail
  refine HJ.out.mono ?_
  rintro e w4 ⟨v', rfl, hfb, hbel⟩
  obtain ⟨g, cap, rfl, hg, hfb⟩ := fb_fresh hfb
  have hfr : Lib.join [Enc.four xs.length, Enc.four (Enc.sum xs), xs] [] = Enc.frame xs := by
    unfold Lib.join Enc.frame
    simp [List.intercalate, List.intersperse]
  rw [hfr] at hfb ⊢
  have hT : Fresh w w4 := ((HF1.out.trans HF3.out (fun _ _ h => h)).alloc _).trans (Touch.ofBelow hbel _) (fun _ _ h => h)
  have hlen : (Enc.frame xs).length = xs.length + 8 := by unfold Enc.frame; simp [Enc.four_length]; omega
  rw [hlen]
  have HFB := Lib.hid hfb; have HT := Lib.hid hT
  have hg2 : w.heap.size ≤ g := by have := HF1.out.size; have := HF3.out.size; rw [alloc_size] at hg; omega
  clear hfb hT hbel hfr hlen hg HJ
  go_wp2_with fail
  go_ret
  exact ⟨HT.out, g, cap, rfl, hg2, HFB.out⟩
end Go.Proofs.Ytdfhdanfigpbpaa
