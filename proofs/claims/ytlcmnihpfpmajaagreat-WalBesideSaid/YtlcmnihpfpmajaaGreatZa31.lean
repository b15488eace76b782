/- The wal claims' texts, several in one: Wri. Conditions stand with each theorem. -/
import Derived.Test.YtlcmnihpfpmajaaGreatZa30
import Derived.Deep.RegionHeld3
/- wal.Log.write. Conditions stand with it. -/
namespace Go.Proofs.YtlcmnihpfpmajaaGreat
open Go.RowKit
attribute [local go_sem] Oper.semAt_some
section
variable {w w' : World} {bl bd : Nat} {R S : Nat → Prop} {l : Lg} {sv rv : Value} {vs : List Value} {d : Dk} {K : Nat}
theorem begL_false (d : Dk) (l : Lg) (first next : Nat) (xs : List UInt8) : begL d l false first next xs = (beginP d l false first next xs).2.1 := by
  unfold begL
  by_cases h1 : (delAll d (strangeN d.fs l.base l.segs)).2 ≠ 0
  · have hb : beginP d l false first next xs = _ := begin_del h1
    rw [hb]
    dsimp only
    rw [if_neg h1]
  · unfold beginP
    rw [if_neg h1]
    split
    · rfl
    · rfl
theorem begin_failed (d : Dk) (l : Lg) (b : Bool) (first next : Nat) (xs : List UInt8) : beginP d { l with failed := b } false first next xs = beginP d l false first next xs := rfl
theorem begin_c (d : Dk) (l : Lg) (whole : Bool) (first next : Nat) (xs : List UInt8) : (beginP d l whole first next xs).2.1.c = l.c := by
  unfold beginP
  split
  · rfl
  · split <;> rfl
def WriEnd (w : World) (bl bd : Nat) (R S : Nat → Prop) (l : Lg) (sv rv : Value) (d : Dk) (xs : List UInt8) (e : Ending) (w' : World) : Prop :=
  e = .returned (.int .i64 (writeP d l xs).2.2) ∧ LB w w' bl bd S R sv rv (writeP d l xs).2.1 (writeP d l xs).1
theorem LX.lb {S' R' : Nat → Prop} {l' l2 : Lg} {d' d2 : Dk} {sv' rv' : Value} {vs' : List Value} {w'' : World} (h : LX w w' bl bd S R sv rv l' d' S' R' sv' rv' vs') (h2 : LB w' w'' bl bd S' R' sv' rv' l2 d2) : LB w w'' bl bd S R sv rv l2 d2 := by
  obtain ⟨S2, R2, sv2, rv2, vs2, h2⟩ := h2
  exact ⟨_, _, _, _, _, h.trans h2⟩
set_option maxRecDepth 200000 in
set_option maxHeartbeats 16000000 in
theorem lwrite_any (h : LD w bl bd S R l d sv rv vs) {A : Option Addr} {m cA : Nat} {xs : List UInt8} (hx : Bs w A m cA xs) (hxb : ∀ a, A = some a → 0 < m → ¬ lfoot bl sv rv a.block ∧ ¬ S a.block ∧ a.block < w.heap.size) (hb : BegB l d K l.c.first l.c.next m) (hn : l.segs.length < 1024) :
    Calls Tryz.prog 41 #[.pointer (some ⟨bl, 0, none⟩), .slice A m cA] w (WriEnd w bl bd R S l sv rv d xs) := by
  obtain ⟨l1, hl1⟩ : ∃ l1 : Lg, l1 = { l with failed := true } := ⟨_, rfl⟩
  obtain ⟨w1, hw1⟩ : ∃ w1, w1 = w.setCell ⟨bl, 5, none⟩ (.bool true) := ⟨_, rfl⟩
  have hT1 : Touch (· = bl) w w1 := by rw [hw1]; exact (Touch.refl (· = bl) w).setCell (p := ⟨bl, 5, none⟩) (.inr rfl) _
  have hX1 : LX w w1 bl bd S R sv rv l1 d S R sv rv vs := h.same.block hT1 (by rw [hl1]) (by rw [hl1]) (by
    have := h.lm.blk.set_ 5 (.bool true)
    rw [← hw1] at this
    rw [hl1]
    simpa using this)
  have hx1 : Bs w1 A m cA xs := hx.touch hT1 fun a ha h0 e => (hxb a ha h0).1 (.inl e)
  have hxb1 : ∀ a, A = some a → 0 < m → ¬ lfoot bl sv rv a.block ∧ ¬ S a.block ∧ a.block < w1.heap.size := fun a ha h0 => ⟨(hxb a ha h0).1, (hxb a ha h0).2.1, Nat.lt_of_lt_of_le (hxb a ha h0).2.2 hT1.size⟩
  have f5 := h.lm.blk.frozen 5
  have e5 : w.cell? ⟨bl, 5, none⟩ = some (.bool l.failed) := h.lm.blk.cell 5
  obtain ⟨sA, sc, hsv, hsn, hsm, hsA⟩ := hX1.ld.lm.segs.form
  have hsl1 : l1.segs = l.segs := by rw [hl1]
  rw [hsl1] at hsv hsn hsA
  have c2 : w1.cell? ⟨bl, 2, none⟩ = some (.slice sA l.segs.length sc) := by rw [← hsv]; exact hX1.ld.lm.blk.cell 2
  have c3 : w1.cell? ⟨bl, 3, none⟩ = some (.int .i64 (l.c.first : Int)) := by have := hX1.ld.lm.blk.cell 3; rw [hl1] at this; exact this
  have c6 : w1.cell? ⟨bl, 6, none⟩ = some (.bool l.dirty) := by have := hX1.ld.lm.blk.cell 6; rw [hl1] at this; exact this
  rw [hw1] at c2 c3 c6
  have HW1 := Lib.hid hw1; have HX1 := Lib.hid hX1; have HB1 := Lib.hid hx1; have HXB := Lib.hid hxb1; have HB := Lib.hid hb; have HL1 := Lib.hid hl1; have HSV := Lib.hid hsv
  have HSG := Lib.hid hX1.ld.lm.segs
  have hnl : (l.segs.length : Int) < 1024 := by omega
  clear h hx hxb hb hT1 hX1 hx1 hxb1 hw1 hl1 hsl1 hsv
  by_cases hA : (∃ s0 s, l.segs = s0 ++ [s]) ∧ l.dirty = false
  · obtain ⟨⟨s0, s, hs⟩, hd⟩ := hA
    rw [hd] at c6
    have hlen : l.segs.length = s0.length + 1 := by rw [hs]; simp
    have hp1 : decide ((0 : Int) < (l.segs.length : Int)) = true := by simp; omega
    have hp2 : (0 : Int) < (l.segs.length : Int) := by omega
    have hp3 : 0 < l.segs.length := by omega
    obtain ⟨g, o, rfl⟩ : ∃ g o, sA = some ⟨g, o * 8, none⟩ := by
      rcases hsA with ⟨_, h2, _⟩ | ⟨g, o, e⟩
      · omega
      · exact ⟨g, _, e⟩
    obtain ⟨k, hk⟩ : ∃ k, k = s0.length := ⟨_, rfl⟩
    have hgs : l.segs[k]? = some s := by rw [hs, hk, List.getElem?_append_right (Nat.le_refl _), Nat.sub_self]; rfl
    have hset : ∀ s', l.segs.set k s' = s0 ++ [s'] := fun s' => by rw [hs, hk, List.set_append, if_neg (Nat.lt_irrefl _), Nat.sub_self]; rfl
    have hsb := HB.out.seg s (List.mem_of_getElem? hgs)
    obtain ⟨l2, hl2⟩ : ∃ l2 : Lg, l2 = { l with failed := true, dirty := true } := ⟨_, rfl⟩
    obtain ⟨w2, hw2⟩ : ∃ w2, w2 = w1.setCell ⟨bl, 6, none⟩ (.bool true) := ⟨_, rfl⟩
    have hT2 : Touch (· = bl) w1 w2 := by rw [hw2]; exact (Touch.refl (· = bl) w1).setCell (p := ⟨bl, 6, none⟩) (.inr rfl) _
    have hX2 : LX w w2 bl bd S R sv rv l2 d S R sv rv vs := HX1.out.block hT2 (by rw [hl2, HL1.out]) (by rw [hl2, HL1.out]) (by
      have := HX1.out.ld.lm.blk.set_ 6 (.bool true)
      rw [← hw2, HL1.out] at this
      rw [hl2]
      simpa using this)
    have hB2 := HB1.out.touch hT2 fun a ha h0 e => (HXB.out a ha h0).1 (.inl e)
    have hsl2 : l2.segs = l.segs := by rw [hl2]
    have hsg2 := hX2.ld.lm.segs
    rw [hsl2, HSV.out] at hsg2
    have hcell : ∀ j, j < 8 → w2.cell? ⟨g, o * 8 + (k * 8 + j), none⟩ = (segC s)[j]? := fun j hj => by
      rw [hsg2.cell (j := k * 8 + j) (by omega), segsC_get _ _ hgs hj]
    have g5 : w2.cell? ⟨g, o * 8 + k * 8 + 5, none⟩ = some (.int .i64 (s.file : Int)) := hcell 5 (by omega)
    have hwk : IntKind.i64.wrap ((l.segs.length : Int) - 1) = (k : Int) := by rw [IntWalk.i64_in _ (by omega)]; omega
    have hkl : (k : Int) < (l.segs.length : Int) := by omega
    have hWq : ∀ q, ((w.setCell ⟨bl, 5, none⟩ (.bool true)).drewN q).setCell ⟨bl, 6, none⟩ (.bool true) = w2.drewN q := fun q => by rw [hw2, HW1.out]; rfl
    have HWQ := Lib.hid hWq
    have f6 : ∀ q, ((w.setCell ⟨bl, 5, none⟩ (.bool true)).drewN q).frozen? ⟨bl, 6, none⟩ = false := fun q => by
      have := HX1.out.ld.lm.blk.frozen 6
      rw [HW1.out] at this
      exact this
    have e6 : ∀ q, ((w.setCell ⟨bl, 5, none⟩ (.bool true)).drewN q).cell? ⟨bl, 6, none⟩ = some (.bool false) := fun q => c6
    have g5 : ∀ q, (((w.setCell ⟨bl, 5, none⟩ (.bool true)).drewN q).setCell ⟨bl, 6, none⟩ (.bool true)).cell? ⟨g, o * 8 + k * 8 + 5, none⟩ = some (.int .i64 (s.file : Int)) := fun q => by rw [hWq]; exact g5
    have HWW := Lib.hid (show w2 = (w.setCell ⟨bl, 5, none⟩ (.bool true)).setCell ⟨bl, 6, none⟩ (.bool true) by rw [hw2, HW1.out])
    have HX2 := Lib.hid hX2; have HGS := Lib.hid hgs; have HSET := Lib.hid hset; have HL2 := Lib.hid hl2; have HS := Lib.hid hs
    have KL := Lib.hid (show ∀ W, Fresh w2 W → Calls Tryz.prog 61 #[.pointer (some ⟨bl, 0, none⟩), .int .i64 (s.file : Int), .slice A m cA] W fun e w' => e = .returned (.int .i64 (layP d s.file xs).2) ∧ ∃ S3, LX w w' bl bd S R sv rv l2 (layP d s.file xs).1 S3 R sv rv vs from fun W hW => by
      have hXW := HX2.out.fresh hW
      refine (lay_any hXW.ld.lm hXW.ld.dk HB.out.sm (by have := HB.out.K; omega) hXW.ld.dis (n := s.file) (by omega) (hB2.fresh hW) (fun a ha h0 => ⟨(HXB.out a ha h0).2.1, by have h1 := (HXB.out a ha h0).2.2; have h2 := hT2.size; have h3 := hW.size; omega⟩) (by have := HB.out.m; have := HB1.out.1; omega)).mono ?_
      rintro e w' ⟨rfl, ht, hd⟩
      exact ⟨rfl, _, hXW.disk ht hd⟩)
    obtain ⟨d3, hd3⟩ : ∃ d3, d3 = (layP d (s.file : Int) xs).1 := ⟨_, rfl⟩
    rw [← hd3] at KL
    have hXL := HB1.out.1
    have HXL := Lib.hid hXL
    have hm3 := HB.out.m
    have hws : IntKind.i64.wrap ((s.size : Int) + (m : Int)) = (s.size : Int) + (m : Int) := IntWalk.i64_in _ (by omega)
    have hWP : writeP d l xs = if (layP d (s.file : Int) xs).2 = 0 then (d3, { l with segs := growLast l.segs xs.length, failed := false, dirty := false }, 0) else (d3, { l with failed := true, dirty := true }, (layP d (s.file : Int) xs).2) := by
      rw [hd3]
      unfold writeP
      rw [hs, List.getLast?_append]
      show (if l.dirty = false then _ else _) = _
      rw [if_pos hd]
      rfl
    have HWP := Lib.hid hWP
    clear hX2 hT2 hl2 hw2 hB2 hsl2 hsg2 hcell hWq hgs hset hs hlen hk hsb hXL hd3 hWP hsA
    by_cases hw : (layP d (s.file : Int) xs).2 = 0
    · rw [hw] at KL HWP
      clear hw
      go_enter Tryz.func41, Tryz.ntmps41
      go_wp2_with fail
      go_quiet (fail)
      go_wp2_with fail
      rw [HWQ.out]
      refine (KL.out _ ((Touch.refl _ w2).drewN _)).mono ?_
      rintro e w3 ⟨rfl, S3, hx3⟩
      have HX3 := Lib.hid hx3
      have hx3' := hx3
      rw [HSV.out] at hx3'
      have hsg3 := hx3'.ld.lm.segs
      rw [show l2.segs = l.segs by rw [HL2.out]] at hsg3
      have g6 : w3.cell? ⟨g, o * 8 + k * 8 + 6, none⟩ = some (.int .i64 (s.size : Int)) := by
        rw [Nat.add_assoc, hsg3.cell (j := k * 8 + 6) (by have := (List.getElem?_eq_some_iff.1 HGS.out).1; omega), segsC_get _ _ HGS.out (by omega)]
        rfl
      have gf : w3.frozen? ⟨g, o * 8 + k * 8 + 6, none⟩ = false := hsg3.frozen _
      have hgb : g ≠ bl := fun e => hx3'.ld.lm.segs.ne_blk hx3'.ld.lm.blk (by decide) (by rw [← e]; rfl)
      have hb3 := fun v => hx3'.ld.lm.blk.far (p := ⟨g, o * 8 + k * 8 + 6, none⟩) (fun e => hgb e.symm) v
      have y6 : ∀ v, (w3.setCell ⟨g, o * 8 + k * 8 + 6, none⟩ v).cell? ⟨bl, 6, none⟩ = some (.bool true) := fun v => by have := (hb3 v).cell 6; rw [HL2.out] at this; exact this
      have yf6 : ∀ v, (w3.setCell ⟨g, o * 8 + k * 8 + 6, none⟩ v).frozen? ⟨bl, 6, none⟩ = false := fun v => (hb3 v).frozen 6
      have y5 : ∀ v, ((w3.setCell ⟨g, o * 8 + k * 8 + 6, none⟩ v).setCell ⟨bl, 6, none⟩ (.bool false)).cell? ⟨bl, 5, none⟩ = some (.bool true) := fun v => by have := ((hb3 v).set_ 6 (.bool false)).cell 5; rw [HL2.out] at this; simpa using this
      have yf5 : ∀ v, ((w3.setCell ⟨g, o * 8 + k * 8 + 6, none⟩ v).setCell ⟨bl, 6, none⟩ (.bool false)).frozen? ⟨bl, 5, none⟩ = false := fun v => ((hb3 v).set_ 6 (.bool false)).frozen 5
      clear hx3 hx3' hsg3 hb3 KL
      go_wp2_with fail
      go_ret
      have hwp := HWP.out
      rw [if_pos trivial] at hwp
      refine ⟨by rw [hwp]; rfl, ?_⟩
      rw [hwp]
      dsimp only
      have hx3 := HX3.out
      rw [HSV.out] at hx3 ⊢
      have h1 := hx3.seg (k := k) (j := 6) (s := s) (s' := { s with size := s.size + m }) (u := .int .i64 ((s.size : Int) + (m : Int))) (by rw [HL2.out]; exact HGS.out) (by omega) (by simp [segC]) rfl
      rw [← Nat.add_assoc] at h1
      obtain ⟨W1, hW1⟩ : ∃ W1, W1 = w3.setCell ⟨g, o * 8 + k * 8 + 6, none⟩ (.int .i64 ((s.size : Int) + (m : Int))) := ⟨_, rfl⟩
      rw [← hW1] at h1 ⊢
      refine ⟨_, _, _, _, _, h1.block (((Touch.refl (· = bl) W1).setCell (p := ⟨bl, 6, none⟩) (.inr rfl) _).setCell (p := ⟨bl, 5, none⟩) (.inr rfl) _) ?_ (by rw [HL2.out]) ?_⟩
      · show growLast l.segs xs.length = l2.segs.set k _
        rw [show l2.segs = l.segs by rw [HL2.out], HSET.out, HXL.out, HS.out, growLast_snoc]
      · have := (h1.ld.lm.blk.set_ 6 (.bool false)).set_ 5 (.bool false)
        rw [HL2.out] at this
        simpa using this
    · have hw2 : ¬ (layP d (s.file : Int) xs).2 = 0 := hw
      rw [if_neg hw] at HWP
      clear hw
      generalize (layP d (s.file : Int) xs).2 = y at *
      go_enter Tryz.func41, Tryz.ntmps41
      go_wp2_with fail
      go_quiet (fail)
      go_wp2_with fail
      rw [HWQ.out]
      refine (KL.out _ ((Touch.refl _ w2).drewN _)).mono ?_
      rintro e w3 ⟨rfl, S3, hx3⟩
      have HX3 := Lib.hid hx3
      clear hx3 KL
      go_wp2_with fail
      go_ret
      refine ⟨by rw [HWP.out]; rfl, ?_⟩
      rw [HWP.out]
      have := HX3.out
      rw [HL2.out] at this
      exact ⟨_, _, _, _, _, this⟩
  · have hW : writeP d l xs = beginP d l false l.c.first l.c.next xs := by
      unfold writeP
      rcases nil_or_snoc l.segs with hnil | ⟨s0, s, hs⟩
      · rw [hnil]; rfl
      · rw [hs, List.getLast?_append]
        show (if l.dirty = false then _ else _) = _
        rw [if_neg fun e => hA ⟨⟨s0, s, hs⟩, e⟩]
    have HWP := Lib.hid hW
    have KN := Lib.hid (show ∀ W, Fresh w1 W → Calls Tryz.prog 32 #[.pointer (some ⟨bl, 0, none⟩)] W fun e w' => Fresh w1 w' ∧ e = .returned (.int .i64 (l.c.next : Int)) from fun W hW => by
      refine (next_any (HX1.out.ld.lm.fresh hW) (by rw [HL1.out]; exact HB.out.lnext)).mono ?_
      rintro e w' ⟨rfl, q2, rfl⟩
      exact ⟨hW.drewN q2, by rw [HL1.out]⟩)
    have hKB : ∀ W, Fresh w1 W → Calls Tryz.prog 46 #[.pointer (some ⟨bl, 0, none⟩), .int .u8 104, .agg #[.int .i64 0, .int .i64 0, .int .i64 (l.c.first : Int), .int .i64 (l.c.next : Int)], .slice A m cA] W fun e w' => w'.cell? ⟨bl, 3, none⟩ = some (.int .i64 (l.c.first : Int)) ∧ WriEnd w bl bd R S l sv rv d xs e w' := by
      intro W hW
      refine (lbegin_any (HX1.out.ld.fresh hW) false l.c.first l.c.next (HB1.out.fresh hW) (fun a ha h0 => ⟨(HXB.out a ha h0).1, (HXB.out a ha h0).2.1, Nat.lt_of_lt_of_le (HXB.out a ha h0).2.2 hW.size⟩) (by have := HB.out; rw [HL1.out]; exact ⟨this.sm, this.K, this.n, this.base, this.seg, this.first, this.next, this.lnext, this.m⟩)).mono ?_
      rintro e w' ⟨rfl, hlb⟩
      rw [begL_false, HL1.out, begin_failed, ← HWP.out] at hlb
      refine ⟨?_, by rw [HL1.out, begin_failed, ← HWP.out], (HX1.out.fresh hW).lb hlb⟩
      obtain ⟨S2, R2, sv2, rv2, vs2, h2⟩ := hlb
      have h3 := h2.ld.lm.blk.cell 3
      rw [HWP.out, begin_c] at h3
      exact h3
    have KB := Lib.hid hKB
    clear hKB
    have hcase : (decide ((0 : Int) < (l.segs.length : Int)) = false) ∨ (decide ((0 : Int) < (l.segs.length : Int)) = true ∧ l.dirty = true) := by
      rcases nil_or_snoc l.segs with hnil | ⟨s0, s, hs⟩
      · exact .inl (by rw [hnil]; rfl)
      · refine .inr ⟨by rw [hs]; simp, ?_⟩
        cases hdd : l.dirty with
        | true => rfl
        | false => exact absurd ⟨⟨s0, s, hs⟩, hdd⟩ hA
    clear hW hA
    have HST := Lib.hid (show ∀ W, Fresh w1 W → Fresh w1 W ∧ W.cell? ⟨bl, 3, none⟩ = some (.int .i64 (l.c.first : Int)) from fun W hW => ⟨hW, hW.cell (by rw [HW1.out]; exact c3) id⟩)
    rcases hcase with hp1 | ⟨hp1, hd⟩
    · have hp2 : ¬ (0 : Int) < (l.segs.length : Int) := by simpa using hp1
      have hp3 : ¬ 0 < l.segs.length := by omega
      go_enter Tryz.func41, Tryz.ntmps41
      go_upto_region 12 with fail
      rw [← HW1.out]
      go_region_held3 (fun W => W.cell? ⟨bl, 3, none⟩ = some (.int .i64 (l.c.first : Int)))
        (first | assumption | exact (HST.out _ ((Touch.refl _ w1).drew)).2 | exact (HST.out _ (Touch.refl _ w1)).2)
        (first
          | (go_simp; go_at_call 32; refine (KN.out _ ((Touch.refl _ w1).drew)).mono ?_; rintro e w2 ⟨hf2, rfl⟩; have k2 := (HST.out w2 hf2).2; have HF2 := Lib.hid hf2; clear hf2)
          | (go_simp; go_at_call 46; refine (KB.out _ HF2.out).mono ?_; rintro e w3 ⟨k3, rfl, hlb3⟩; have HLB3 := Lib.hid hlb3; clear hlb3))
      go_wp2_with fail
      go_ret
      exact ⟨rfl, HLB3.out⟩
    · have hp2 : (0 : Int) < (l.segs.length : Int) := by simpa using hp1
      have hp3 : 0 < l.segs.length := by omega
      rw [hd] at c6
      go_enter Tryz.func41, Tryz.ntmps41
      go_upto_region 12 with fail
      rw [← HW1.out]
      go_region_held3 (fun W => W.cell? ⟨bl, 3, none⟩ = some (.int .i64 (l.c.first : Int)))
        (first | assumption | exact (HST.out _ ((Touch.refl _ w1).drew)).2 | exact (HST.out _ (Touch.refl _ w1)).2)
        (first
          | (go_simp; go_at_call 32; refine (KN.out _ ((Touch.refl _ w1).drew)).mono ?_; rintro e w2 ⟨hf2, rfl⟩; have k2 := (HST.out w2 hf2).2; have HF2 := Lib.hid hf2; clear hf2)
          | (go_simp; go_at_call 46; refine (KB.out _ HF2.out).mono ?_; rintro e w3 ⟨k3, rfl, hlb3⟩; have HLB3 := Lib.hid hlb3; clear hlb3))
      go_wp2_with fail
      go_ret
      exact ⟨rfl, HLB3.out⟩
end
end Go.Proofs.YtlcmnihpfpmajaaGreat
