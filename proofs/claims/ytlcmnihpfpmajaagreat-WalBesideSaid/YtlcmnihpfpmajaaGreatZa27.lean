/- The wal claims' texts, several in one: RndQ, Tid. Conditions stand with each theorem. -/
import Derived.Test.YtlcmnihpfpmajaaGreatZa22
import Derived.RangeFuncNested
import Derived.RangeFuncBound
import Derived.RangeFuncCalls
import Derived.RangeFuncLeaves
import Derived.Shelf.Abstract
import Derived.Shelf.RegionOpen
import Derived.WalkKit
import Derived.OwnWalkIn
import Derived.TacticsInMore
import Derived.LoopNIn
import Derived.LoopIn
import Derived.ScopeJumps
import Derived.Sort.BigQuietIn
import Derived.StillTail
import Derived.BigQuiet
/- A region that draws its order and only reads, in a round of a range over a function: walked once, in the text's order. Condition: it defers nothing. -/
namespace Go.Proofs.YtlcmnihpfpmajaaGreat
open Go.RowKit

variable {F : Fence} {n : Nat} {P : Program} {md : Region.Mode} {ops : Array Oper} {Q : Exit → Act → World → Prop}
theorem op_round {o : Oper} (l : Nat) (hro : F.round = none) (hd : ∀ c, o.op ≠ .defer c) {a : Act} {w : World} {K : Act → World → Prop} (h : o.wpIn F n P a w K Q) : o.wpIn (F.inRound l) n P a w K Q := by
  unfold Oper.wpIn at h ⊢
  rw [hro] at h
  rw [Fence.inRound_round, Oper.semAt_some l _ _ hd]
  exact h
theorem opIn_round {i : Nat} (l : Nat) (hro : F.round = none) (hd : ∀ o ∈ ops.toList, ∀ c, o.op ≠ .defer c) {a : Act} {w : World} {K : Act → World → Prop} (h : wpOpIn F n P ops Q i K a w) : wpOpIn (F.inRound l) n P ops Q i K a w := by
  unfold wpOpIn at h ⊢
  split
  · rename_i ho
    simpa only [ho] using h
  · rename_i o ho
    simp only [ho] at h
    split
    · rename_i hw
      simp only [hw, if_true] at h
      exact op_round l hro (hd o (by obtain ⟨hi, e⟩ := Array.getElem?_eq_some_iff.1 ho; rw [← e]; exact Array.getElem_mem_toList hi)) h
    · rename_i hw
      simp only [hw] at h
      exact h
theorem anyIn_round (l : Nat) (hro : F.round = none) (hd : ∀ o ∈ ops.toList, ∀ c, o.op ≠ .defer c) : ∀ (fuel : Nat) (listed : Array Bool) (a : Act) (w : World), wpAnyIn F n P md ops Q fuel listed a w → wpAnyIn (F.inRound l) n P md ops Q fuel listed a w
  | 0, _, _, _, h => h
  | fuel + 1, _, _, _, h => ⟨h.1, fun i hi => opIn_round l hro hd (wpOpIn_mono (fun a' w' h' => anyIn_round l hro hd fuel _ a' w' h') (h.2 i hi))⟩
theorem region_round {id : Nat} {a : Act} {w : World} {ol : List Oper} (l : Nat) (hro : F.round = none) (hd : ∀ o ∈ ol, ∀ c, o.op ≠ .defer c) (hm : P.follows .mixedOrders = true) (hB : Region.lexB .any ol.toArray = true)
    (h : wpQuietIn F n P ol.toArray (fun w' => ∃ n, w' = w.drewN n) (fun a' => ∀ w', (∃ n, w' = w.drewN n) → Q .normal a' w') ol a) : (Code.region id ol.toArray true).wpIn (F.inRound l) n P Q a w := by
  simp only [Region.lexB, Bool.and_eq_true] at hB
  refine wpIn_region_any hm (anyIn_round l hro hd _ _ _ _ ?_)
  refine wpAnyIn_of_quiet (C := fun w' => ∃ n, w' = w.drewN n) (Q := fun a' => ∀ w', (∃ n, w' = w.drewN n) → Q .normal a' w') hro (fun _ w' hw' h => h w' hw') _ _ _ _ ⟨1, rfl⟩ ?_
  have := wpAnyQIn_lex (F := F) (n := n) (C := fun w' => ∃ n, w' = w.drewN n) (md := .any) hB.1 ol 0 (Array.replicate ol.length false) a (by simp) (by simpa using hB.2) h
  simpa using this

/-- a region that draws its order, whose first operations only read, and whose last ones come up in one forced order: the first ones in the text's order -/
theorem still_of_quiet {o : Oper} {a : Act} {w : World} {K K' : Act → Prop} (hk : ∀ a, K a → K' a) (h : o.quiet P a (fun w' => w' = w) K) : o.still P a w K' := by
  obtain ⟨v, hv, hK⟩ := h
  have hq := hv w rfl
  unfold Oper.still
  unfold Oper.quietAt at hq
  generalize (execOp a.eval o).run P w = r at hq ⊢
  cases r with
  | ok x w' =>
    cases x with
    | value y =>
      obtain ⟨rfl, rfl⟩ := hq
      exact ⟨rfl, hk _ hK⟩
    | skip =>
      obtain ⟨rfl, rfl⟩ := hq
      exact ⟨rfl, hk _ hK⟩
    | enter f args =>
      obtain ⟨rfl, hc⟩ := hq
      exact ⟨rfl, v, hc, hk _ hK⟩
    | _ => exact hq.elim
  | halt x w' => exact hq.elim
theorem wpStill_of_quiet {w : World} {R : Act → Prop} : ∀ (ol : List Oper) (a : Act), wpQuiet P ops (fun w' => w' = w) R ol a → wpStill P ops w R ol a
  | [], _, h => h
  | o :: rest, a, h => by
    unfold wpQuiet at h
    unfold wpStill
    split at h
    · rename_i hw
      rw [if_pos hw]
      exact still_of_quiet (fun a' h' => wpStill_of_quiet rest a' h') h
    · rename_i hw
      rw [if_neg hw]
      exact wpStill_of_quiet rest _ h
theorem region_tail {id : Nat} {a : Act} {w : World} {ol : List Oper} (m : Nat) (hm : P.follows .mixedOrders = true) (hB : Region.lexTailB .any ol.toArray m = true) {l1 l2 : List Oper} (h1 : ol.take m = l1) (h2 : ol.drop m = l2)
    (h : wpQuiet P ol.toArray (fun w' => w' = w.drew) (fun a' => wpList P ol.toArray Q l2 a' w.drew) l1 a) : (Code.region id ol.toArray true).wp P Q a w := by
  subst h1 h2
  exact wp_region_still_tail m hm hB (wpStill_of_quiet _ _ h)
end Go.Proofs.YtlcmnihpfpmajaaGreat

/- wal.Log.tidy. Conditions stand with it. -/
namespace Go.Proofs.YtlcmnihpfpmajaaGreat
open Go.RowKit
theorem segsC_get (l : List Seg) (i : Nat) {s : Seg} (h : l[i]? = some s) {j : Nat} (hj : j < 8) : (segsC l)[i * 8 + j]? = (segC s)[j]? := by
  have h1 : (segsC l).drop (i * 8) = segsC (l.drop i) := segsC_drop l i
  have h2 : l.drop i = s :: l.drop (i + 1) := by
    obtain ⟨hi, e⟩ := List.getElem?_eq_some_iff.1 h
    rw [List.drop_eq_getElem_cons hi, e]
  rw [← List.getElem?_drop, h1, h2]
  show (segC s ++ segsC (l.drop (i + 1)))[j]? = _
  rw [List.getElem?_append_left (by rw [segC_len]; exact hj)]
def lenCell (w : World) (bl : Nat) : Nat := match w.cell? ⟨bl, 2, none⟩ with
  | some (.slice _ n _) => n
  | _ => 0
section
variable {w : World} {bl bd : Nat} {R S : Nat → Prop} {l : Lg} {sv rv : Value} {vs : List Value} {d : Dk} {K : Nat}
def TidyEnd (w : World) (bl bd : Nat) (R S : Nat → Prop) (l : Lg) (sv rv : Value) (vs : List Value) (d : Dk) (e : Ending) (w' : World) : Prop :=
  e = .returned (.tuple #[]) ∧ ∃ S' sv', LX w w' bl bd S R sv rv { l with segs := (tidyP l.c.first d l.segs).2 } (tidyP l.c.first d l.segs).1 S' R sv' rv vs
/-- the first segment is let go -/
theorem LX.tail {w1 w2 : World} {S1 : Nat → Prop} {l1 : Lg} {d1 : Dk} {s : Seg} {r : List Seg} {g q n c : Nat} (hl : l1.segs = s :: r) (h : LX w w1 bl bd S R sv rv l1 d1 S1 R (.slice (some ⟨g, q, none⟩) n c) rv vs)
    (hw : w2 = w1.setCell ⟨bl, 2, none⟩ (.slice (some ⟨g, q + 8, none⟩) (n - 1) (c - 1))) : LX w w2 bl bd S R sv rv { l1 with segs := r } d1 S1 R (.slice (some ⟨g, q + 8, none⟩) (n - 1) (c - 1)) rv vs := by
  have hm := h.ld.lm
  have hT : Touch (· = bl) w1 w2 := by rw [hw]; exact (Touch.refl (· = bl) w1).setCell (p := ⟨bl, 2, none⟩) (.inr rfl) _
  have hn : n = r.length + 1 := by
    have h1 := hm.segs.1
    obtain ⟨A', c', e, _⟩ := hm.segs.form
    injection e with _ e _
    rw [e, hl]
    rfl
  have hd := hm.segs
  rw [hl, show (s :: r).length = n from hn.symm] at hd
  have hd := hd.drop (k := 1) (by omega)
  rw [segsC_drop (s :: r) 1, Nat.one_mul] at hd
  refine h.own (hT.mono fun k _ hk => .inl hk) ⟨?_, ?_, ?_, ?_⟩ (fun k hk => .inl ?_) fun k hk => .inl hk
  · have := hm.blk.set_ 2 (.slice (some ⟨g, q + 8, none⟩) (n - 1) (c - 1))
    rw [← hw] at this
    simpa using this
  · show Ow w2 _ 8 _ r.length (segsC r)
    rw [show r.length = n - 1 by omega]
    refine hd.touch hT fun k hk e => hm.segs.ne_blk hm.blk (by decide) ?_
    simp only [Value.ownBlock, Option.some.injEq] at hk ⊢
    exact hk.trans e
  · exact hm.rows.touch hT fun k hk e => hm.rows.ne_blk hm.blk (by decide) (by rw [hk, e])
  · exact hm.recs.touch hT fun k hk e => h.ld.nR k (.inl e) hk
  · rcases hk with hk | hk | hk
    · exact .inl hk
    · exact .inr (.inl (by simpa [Value.ownBlock] using hk))
    · exact .inr (.inr hk)
set_option maxRecDepth 20000 in
set_option maxHeartbeats 4000000 in
theorem tidy_any (h : LD w bl bd S R l d sv rv vs) (hs : d.small K) (hK : K + l.segs.length ≤ 900000000) (hfl : ∀ s ∈ l.segs, s.file < 9223372036854775808) :
    Calls Tryz.prog 44 #[.pointer (some ⟨bl, 0, none⟩)] w (TidyEnd w bl bd R S l sv rv vs d) := by
  have H0 := Lib.hid h.same
  have HFL := Lib.hid hfl; have HS := Lib.hid hs; have HK := Lib.hid hK
  clear h hfl hs hK
  go_enter Tryz.func44, Tryz.ntmps44
  go_wp2_with fail
  go_loopw [] (fun wr => ∃ d' segs' S' sv', LX w wr bl bd S R sv rv { l with segs := segs' } d' S' R sv' rv vs ∧ tidyP l.c.first d l.segs = tidyP l.c.first d' segs' ∧ d'.small (K + (l.segs.length - segs'.length)) ∧ segs'.length ≤ l.segs.length ∧ ∀ s ∈ segs', s.file < 9223372036854775808) (fun wr => lenCell wr bl)
  case atStart => exact ⟨d, l.segs, S, sv, H0.out, rfl, by rw [Nat.sub_self]; exact HS.out, Nat.le_refl _, HFL.out⟩
  case round =>
    obtain ⟨d', segs', S', sv', hx, heq, hsm, hle, hff⟩ := hrel
    have HX := Lib.hid hx; have HEQ := Lib.hid heq; have HSM := Lib.hid hsm; have HLE := Lib.hid hle; have HFF := Lib.hid hff
    have hm := hx.ld.lm
    obtain ⟨A, c, rfl, hnc, hcm, hA⟩ := hm.segs.form
    dsimp only at hnc hA
    have c0 : wr.cell? ⟨bl, 0, none⟩ = some (.pointer (some ⟨bd, 0, none⟩)) := hm.blk.cell 0
    have c2 : wr.cell? ⟨bl, 2, none⟩ = some (.slice A segs'.length c) := hm.blk.cell 2
    have c3 : wr.cell? ⟨bl, 3, none⟩ = some (.int .i64 (l.c.first : Int)) := hm.blk.cell 3
    have f2 := hm.blk.frozen 2
    have hsegs := hm.segs
    clear hx heq hsm hle hff hm
    by_cases h1 : segs'.length ≤ 1
    · have hg1 : decide ((1 : Int) < (segs'.length : Int)) = false := by simp; omega
      have hg2 : ¬ (1 : Int) < (segs'.length : Int) := by omega
      have HT := Lib.hid (show tidyP l.c.first d' segs' = (d', segs') by
        rcases segs' with _ | ⟨s, _ | ⟨t, r⟩⟩
        · rfl
        · rfl
        · simp at h1)
      clear hsegs hA
      go_wp2_with fail
      go_quiet (fail)
      go_wp2_with fail
      go_end0
      refine ⟨rfl, S', .slice A segs'.length c, ?_⟩
      rw [HEQ.out, HT.out]
      exact HX.out.fresh ((Touch.refl _ wr).drewN _)
    · obtain ⟨s, t, r, rfl⟩ : ∃ s t r, segs' = s :: t :: r := by
        rcases segs' with _ | ⟨s, _ | ⟨t, r⟩⟩
        · simp at h1
        · simp at h1
        · exact ⟨s, t, r, rfl⟩
      obtain ⟨g, o, rfl⟩ : ∃ g o, A = some ⟨g, o * 8, none⟩ := by
        rcases hA with ⟨_, h2, _⟩ | ⟨g, o, e⟩
        · simp at h2
        · exact ⟨g, _, e⟩
      generalize hq : o * 8 = q at *
      have hgv : ∀ j, j < 8 → wr.cell? ⟨g, q + j, none⟩ = (segC s)[j]? := fun j hj => by
        rw [hsegs.cell (j := j) (by simp only [List.length_cons]; omega)]
        have := segsC_get (s :: t :: r) 0 (s := s) rfl hj
        rwa [Nat.zero_mul, Nat.zero_add] at this
      have g7 : wr.cell? ⟨g, q + 7, none⟩ = some (.int .i64 (s.last : Int)) := hgv 7 (by omega)
      have g5 : wr.cell? ⟨g, q + 5, none⟩ = some (.int .i64 (s.file : Int)) := hgv 5 (by omega)
      clear hgv hsegs hA
      have hn1 : (1 : Int) < (((s :: t :: r).length : Nat) : Int) := by simp only [List.length_cons]; omega
      obtain ⟨n, hn⟩ : ∃ n, n = (s :: t :: r).length := ⟨_, rfl⟩
      rw [← hn] at c2 hn1 hnc
      have HN := Lib.hid hn
      have hg1 : decide ((1 : Int) < (n : Int)) = true := by simp; omega
      have hn2 : 2 ≤ n := by rw [hn]; simp only [List.length_cons]; omega
      have hz : ¬ c = 1 := by omega
      clear hn
      by_cases hlast : s.last ≤ l.c.first
      · have hl1 : (s.last : Int) ≤ (l.c.first : Int) := by omega
        have hl2 : decide ((s.last : Int) ≤ (l.c.first : Int)) = true := by simpa using hl1
        have HST := Lib.hid (show ∀ W, Fresh wr W → Fresh wr W ∧ W.cell? ⟨bl, 0, none⟩ = some (.pointer (some ⟨bd, 0, none⟩)) ∧ W.cell? ⟨bl, 2, none⟩ = some (.slice (some ⟨g, q, none⟩) n c) ∧ W.cell? ⟨g, q + 5, none⟩ = some (.int .i64 (s.file : Int)) from fun W hW => ⟨hW, hW.cell c0 id, hW.cell c2 id, hW.cell g5 id⟩)
        have HWF := Lib.hid (HFF.out s (List.mem_cons_self ..))
        have KD := Lib.hid (show ∀ W, Fresh wr W → Calls Tryz.prog 63 #[.pointer (some ⟨bd, 0, none⟩), .int .i64 (s.file : Int)] W fun e w' => e = .returned (.int .i64 (d'.why s.file)) ∧ Touch S' W w' ∧ Disk w' (more S' W w') bd (d'.delete s.file) from fun W hW => disk_delete (HX.out.ld.dk.fresh hW) HSM.out (by have := HK.out; omega) (nat_wf HWF.out))
        have hc1 : (1 : Int) ≤ (c : Int) := by omega
        have HM := Lib.hid (show lenCell wr bl = n by unfold lenCell; rw [c2])
        clear HST
        by_cases hw : d'.why s.file = 0
        · have HT := Lib.hid (show tidyP l.c.first d' (s :: t :: r) = tidyP l.c.first (d'.delete s.file) (t :: r) by
            rw [tidyP, if_pos hlast, if_pos hw])
          rw [hw] at KD
          clear hw
          go_wp2_with fail
          go_quiet (fail)
          go_wp2_with fail
          refine region_tail 11 (by kernel_rfl) (by kernel_rfl) rfl rfl ?_
          simp only [List.take_succ_cons, List.take_zero, List.drop_succ_cons, List.drop_zero]
          repeat (go_big_quiet_step (fail))
          refine wpQuiet_nil ?_
          go_wp2_with fail
          refine (KD.out _ (by first | exact (Touch.refl _ wr).drewN _ | exact ((Touch.refl _ wr).drewN _).drew)).mono ?_
          rintro e w2 ⟨rfl, ht2, hd2⟩
          have HX2 := Lib.hid (LX.disk (HX.out.fresh (by first | exact (Touch.refl _ wr).drewN _ | exact ((Touch.refl _ wr).drewN _).drew)) ht2 hd2)
          clear ht2 hd2 KD c0 c2 c3 f2 g5 g7 HX
          have c2 : w2.cell? ⟨bl, 2, none⟩ = some (.slice (some ⟨g, q, none⟩) n c) := by rw [HN.out]; exact HX2.out.ld.lm.blk.cell 2
          have f2 := HX2.out.ld.lm.blk.frozen 2
          go_wp2_with fail
          go_roundw
          case rel =>
            have hx2 := HX2.out
            rw [← HN.out] at hx2
            have hx3 := LX.tail rfl hx2 rfl
            refine ⟨_, t :: r, _, _, hx3, HEQ.out.trans HT.out, ?_, ?_, fun x hx => HFF.out x (List.mem_cons_of_mem _ hx)⟩
            · exact (delete_small HSM.out).mono (by have := HLE.out; simp only [List.length_cons] at this ⊢; omega)
            · have := HLE.out; simp only [List.length_cons] at this ⊢; omega
          case measure =>
            have h0 : (w2.setCell ⟨bl, 2, none⟩ (.slice (some ⟨g, q + 8, none⟩) (n - 1) (c - 1))).cell? ⟨bl, 2, none⟩ = some (.slice (some ⟨g, q + 8, none⟩) (n - 1) (c - 1)) := World.cell?_setCell_same' _ _ _ (by rw [c2]; rfl)
            rw [HM.out]
            unfold lenCell
            rw [h0]
            show n - 1 < n
            omega
        · have HT := Lib.hid (show tidyP l.c.first d' (s :: t :: r) = (d'.delete s.file, s :: t :: r) by
            rw [tidyP, if_pos hlast, if_neg hw])
          have hw2 : ¬ d'.why (s.file : Int) = 0 := hw
          clear hw
          generalize d'.why (s.file : Int) = y at *
          go_wp2_with fail
          go_quiet (fail)
          go_wp2_with fail
          refine region_tail 11 (by kernel_rfl) (by kernel_rfl) rfl rfl ?_
          simp only [List.take_succ_cons, List.take_zero, List.drop_succ_cons, List.drop_zero]
          repeat (go_big_quiet_step (fail))
          refine wpQuiet_nil ?_
          go_wp2_with fail
          refine (KD.out _ (by first | exact (Touch.refl _ wr).drewN _ | exact ((Touch.refl _ wr).drewN _).drew)).mono ?_
          rintro e w2 ⟨rfl, ht2, hd2⟩
          have HX2 := Lib.hid (LX.disk (HX.out.fresh (by first | exact (Touch.refl _ wr).drewN _ | exact ((Touch.refl _ wr).drewN _).drew)) ht2 hd2)
          clear ht2 hd2 KD c0 c2 c3 f2 g5 g7 HX
          go_wp2_with fail
          refine bodyPost_ret (results_none rfl _ _ _) rfl ?_
          have hx2 := HX2.out
          refine ⟨rfl, more S' (wr.drewN (nq + 1)) w2, .slice (some ⟨g, q, none⟩) (s :: t :: r).length c, ?_⟩
          rw [HEQ.out, HT.out]
          exact hx2
      · have hl1 : ¬ (s.last : Int) ≤ (l.c.first : Int) := by omega
        have hl2 : decide ((s.last : Int) ≤ (l.c.first : Int)) = false := by simp; omega
        have HT := Lib.hid (show tidyP l.c.first d' (s :: t :: r) = (d', s :: t :: r) by
          unfold tidyP
          rw [if_neg hlast])
        go_wp2_with fail
        go_quiet (fail)
        go_wp2_with fail
        go_end0
        refine ⟨rfl, S', .slice (some ⟨g, q, none⟩) (s :: t :: r).length c, ?_⟩
        rw [HEQ.out, HT.out]
        exact HX.out.fresh ((Touch.refl _ wr).drewN _)
end
end Go.Proofs.YtlcmnihpfpmajaaGreat
