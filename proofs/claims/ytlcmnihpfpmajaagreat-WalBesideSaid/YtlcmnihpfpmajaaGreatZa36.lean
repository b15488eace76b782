/- The wal claims' texts, several in one: Cuw. Conditions stand with each theorem. -/
import Derived.Test.YtlcmnihpfpmajaaGreatZa31
import Derived.Test.YtlcmnihpfpmajaaGreatZa32
import Derived.Test.YtlcmnihpfpmajaaGreatZa35
import Derived.Deep.CutRange
/- wal.Log.Cut: the walk. Conditions stand with it. -/
namespace Go.Proofs.YtlcmnihpfpmajaaGreat
open Go.RowKit
attribute [local go_sem] Oper.semAt_some
theorem framesTo_cut {c : Ct} {b : Nat} (h : c.first < b) : framesTo c.first b c.rows c.rows.length = encs (c.cut b).puts := by
  unfold framesTo Ct.puts Ct.cut
  rw [if_pos h, List.take_length, Nat.max_eq_right (Nat.le_of_lt h)]
/-- which way a cut goes, as it lies in memory -/
def cutWM (d : Dk) (l : Lg) (b : Nat) : Dk × Lg × Int :=
  if 2 * (encs (l.c.cut b).puts).length + 4096 < sizes l.segs then ((beginP d l true b b (encs (l.c.cut b).puts)).1, begL d l true b b (encs (l.c.cut b).puts), (beginP d l true b b (encs (l.c.cut b).puts)).2.2) else writeP d l (It.cut b).enc
def cutM (d : Dk) (l : Lg) (before : Int) : Dk × Lg × Int :=
  if min before l.c.next ≤ l.c.first then (d, { l with failed := false }, 0)
  else if (cutWM d l (min before l.c.next).toNat).2.2 ≠ 0 then cutWM d l (min before l.c.next).toNat
  else ((tidyP (min before l.c.next).toNat (cutWM d l (min before l.c.next).toNat).1 (cutWM d l (min before l.c.next).toNat).2.1.segs).1,
    { (cutWM d l (min before l.c.next).toNat).2.1 with c := l.c.cut (min before l.c.next).toNat, segs := (tidyP (min before l.c.next).toNat (cutWM d l (min before l.c.next).toNat).1 (cutWM d l (min before l.c.next).toNat).2.1.segs).2 }, 0)
section
variable {w w' : World} {bl bd : Nat} {R S R' S' : Nat → Prop} {l l' : Lg} {sv rv sv' rv' : Value} {vs vs' : List Value} {d d' : Dk} {K : Nat}
theorem BegB.with {f n m f' n' m' : Nat} (h : BegB l d K f n m) (h1 : f' ≤ 1000000000) (h2 : n' ≤ 1000000000) (h3 : m' ≤ 300000000) : BegB l d K f' n' m' := ⟨h.sm, h.K, h.n, h.base, h.seg, h1, h2, h.lnext, h3⟩
theorem begL_c (d : Dk) (l : Lg) (whole : Bool) (first next : Nat) (xs : List UInt8) : (begL d l whole first next xs).c = l.c := by
  unfold begL
  split <;> rfl
theorem cutWM_d (d : Dk) (l : Lg) (b : Nat) : (cutWM d l b).1 = (cutW d l b).1 := by
  unfold cutWM cutW
  split <;> rfl
theorem cutWM_c (d : Dk) (l : Lg) (b : Nat) : (cutWM d l b).2.1.c = l.c := by
  unfold cutWM
  split
  · exact begL_c _ _ _ _ _ _
  · exact write_c _ _ _
/-- the segments behind a cut's writing: their files, their count -/
theorem cutWM_segs {b : Nat} (h : (cutWM d l b).2.2 = 0) : (cutWM d l b).2.1.segs.length ≤ l.segs.length + 1 ∧ ∀ t ∈ (cutWM d l b).2.1.segs, (∃ s' ∈ l.segs, t.file = s'.file) ∨ t.file = freeP (usedN d.fs l.base l.segs) l.base := by
  unfold cutWM at h ⊢
  split at h
  · rename_i hc
    rw [if_pos hc]
    obtain ⟨s0, s, h1, h2, h3⟩ := begin_segs h
    dsimp only
    rw [h1, h2, if_pos rfl]
    refine ⟨by simp, fun t ht => ?_⟩
    rcases List.mem_append.1 ht with ht | ht
    · obtain ⟨y, hy, hye⟩ := List.mem_map.1 ht
      exact .inl ⟨y, hy, by rw [← hye]⟩
    · rw [List.mem_singleton] at ht
      exact .inr (by rw [ht]; exact h3)
  · rename_i hc
    rw [if_neg hc]
    obtain ⟨s0, s, h1, h2, h3⟩ := write_segs h
    rw [h1]
    exact ⟨h2, h3⟩
theorem LX.cutX {m : Nat} {rv2 : Value} {vs2 : List Value} {w'' : World} (h : LX w w' bl bd S R sv rv l' d' S' R' sv' rv' vs') (ht : Touch (· = bl) w' w'') (hm : LM w'' bl bd R' { l' with c := l'.c.cut m } sv' rv2 vs2) (ho : ∀ k, rv2.ownBlock = some k → rv'.ownBlock = some k) :
    LX w w'' bl bd S R sv rv { l' with c := l'.c.cut m } d' S' R' sv' rv2 vs2 :=
  h.own (ht.mono fun k _ hk => .inl hk) hm (fun k hk => by
    rcases hk with hk | hk | hk
    · exact .inl (.inl hk)
    · exact .inl (.inr (.inl hk))
    · exact .inl (.inr (.inr (ho k hk)))) fun k hk => .inl hk
theorem sizes_le : ∀ (l : List Seg) (n : Nat), l.length ≤ n → (∀ s ∈ l, s.size ≤ 1000000000) → sizes l ≤ n * 1000000000
  | [], n, _, _ => by simp [sizes]
  | a :: l, 0, h, _ => by simp at h
  | a :: l, n + 1, h, hs => by
    have ih := sizes_le l n (by simpa using h) fun s h => hs s (List.mem_cons_of_mem _ h)
    have h0 := hs a (List.mem_cons_self ..)
    show a.size + sizes l ≤ _
    omega
def CutWEnd (w : World) (bl bd : Nat) (R S : Nat → Prop) (l : Lg) (sv rv : Value) (d : Dk) (before : Int) (e : Ending) (w' : World) : Prop :=
  e = .returned (.int .i64 (cutM d l before).2.2) ∧ LB w w' bl bd S R sv rv (cutM d l before).2.1 (cutM d l before).1
set_option maxRecDepth 200000 in
set_option maxHeartbeats 16000000 in
theorem lcutw_any (h : LD w bl bd S R l d sv rv vs) (before : Int) (hb : BegB l d K 0 0 0) (hn : l.segs.length < 1024) (hrl : ∀ b ∈ l.c.rows, b.length ≤ 100000000) (hsz : l.c.size ≤ 100000000) :
    Calls Tryz.prog 23 #[.pointer (some ⟨bl, 0, none⟩), .int .i64 before] w (CutWEnd w bl bd R S l sv rv d before) := by
  have hnx : l.c.next ≤ 1000000000 := hb.lnext
  have KN := Lib.hid (next_any h.lm hnx)
  have c3 : ∀ q, (w.drewN q).cell? ⟨bl, 3, none⟩ = some (.int .i64 (l.c.first : Int)) := fun q => h.lm.blk.cell 3
  by_cases hle : min before (l.c.next : Int) ≤ (l.c.first : Int)
  · have f5 : ∀ q, (w.drewN q).frozen? ⟨bl, 5, none⟩ = false := fun q => h.lm.blk.frozen 5
    have e5 : ∀ q, (w.drewN q).cell? ⟨bl, 5, none⟩ = some (.bool l.failed) := fun q => h.lm.blk.cell 5
    have H := Lib.hid h
    have HLE := Lib.hid hle
    have hle2 : decide (min before (l.c.next : Int) ≤ (l.c.first : Int)) = true := by simpa using hle
    clear h
    go_enter Tryz.func23, Tryz.ntmps23
    go_wp2_with fail
    refine KN.out.mono ?_
    rintro e w2 ⟨rfl, q, rfl⟩
    go_wp2_with fail
    go_ret
    have hc : cutM d l before = (d, { l with failed := false }, 0) := by unfold cutM; rw [if_pos HLE.out]
    unfold CutWEnd
    rw [hc]
    refine ⟨rfl, _, _, _, _, _, (H.out.same.fresh ((Touch.refl _ w).drewN q)).block ((Touch.refl (· = bl) (w.drewN q)).setCell (p := ⟨bl, 5, none⟩) (.inr rfl) _) rfl rfl ?_⟩
    have := (H.out.lm.blk.drewN q).set_ 5 (.bool false)
    simpa using this
  · obtain ⟨b, hbb⟩ : ∃ b : Nat, min before (l.c.next : Int) = (b : Int) := ⟨(min before (l.c.next : Int)).toNat, by omega⟩
    have hfb : l.c.first < b := by omega
    have hbn : b ≤ l.c.next := by omega
    have hle3 : ¬ (b : Int) ≤ (l.c.first : Int) := by omega
    have hle4 : decide ((b : Int) ≤ (l.c.first : Int)) = false := by simpa using hle3
    have H := Lib.hid h; have HB := Lib.hid hb; have HRL := Lib.hid hrl; have HSZ := Lib.hid hsz; have HFB := Lib.hid hfb; have HBN := Lib.hid hbn
    have HCM := Lib.hid (show cutM d l before = if (cutWM d l b).2.2 ≠ 0 then cutWM d l b else ((tidyP b (cutWM d l b).1 (cutWM d l b).2.1.segs).1, { (cutWM d l b).2.1 with c := l.c.cut b, segs := (tidyP b (cutWM d l b).1 (cutWM d l b).2.1.segs).2 }, 0) by
      unfold cutM
      rw [if_neg hle, hbb]
      rfl)
    obtain ⟨sA, sc, hsv, hsn, hsm, hsA⟩ := h.lm.segs.form
    have c2 : ∀ q, (w.drewN q).cell? ⟨bl, 2, none⟩ = some (.slice sA l.segs.length sc) := fun q => by rw [← hsv]; exact h.lm.blk.cell 2
    have HSV := Lib.hid hsv
    have hnb : l.segs.length ≤ 1024 := by omega
    clear h hrl hsz hle hsv
    go_enter Tryz.func23, Tryz.ntmps23
    go_wp2_with fail
    refine KN.out.mono ?_
    rintro e w2 ⟨rfl, q, rfl⟩
    clear KN
    go_wp2_with fail
    go_loopw [6, 28] (fun z i wr => ∃ k : Nat, k ≤ l.segs.length ∧ i = .int .i64 k ∧ z = .int .i64 (sizes (l.segs.take k) : Nat) ∧ Fresh w wr) (fun _ i _ => l.segs.length - (intOf i).toNat)
    case atStart => exact ⟨0, Nat.zero_le _, rfl, rfl, (Touch.refl _ w).drewN q⟩
    case round =>
      obtain ⟨k, hk, rfl, rfl, hf⟩ := hrel
      have HF := Lib.hid hf
      by_cases hlt : k < l.segs.length
      · obtain ⟨s, hsk⟩ : ∃ s, l.segs[k]? = some s := ⟨_, List.getElem?_eq_getElem hlt⟩
        obtain ⟨g, o, rfl⟩ : ∃ g o, sA = some ⟨g, o * 8, none⟩ := by
          rcases hsA with ⟨_, h2, _⟩ | ⟨g, o, e⟩
          · omega
          · exact ⟨g, _, e⟩
        have hsg := (H.out.lm.segs.fresh hf)
        rw [HSV.out] at hsg
        have cg : ∀ j, j < 8 → wr.cell? ⟨g, o * 8 + (k * 8 + j), none⟩ = (segC s)[j]? := fun j hj => by
          rw [hsg.cell (j := k * 8 + j) (by omega), segsC_get _ _ hsk hj]
        have g0 : wr.cell? ⟨g, o * 8 + k * 8, none⟩ = some (.int .i64 (s.number : Int)) := cg 0 (by omega)
        have g1 : wr.cell? ⟨g, o * 8 + k * 8 + 1, none⟩ = some (.int .i64 (s.ahead : Int)) := cg 1 (by omega)
        have g2 : wr.cell? ⟨g, o * 8 + k * 8 + 2, none⟩ = some (.int .i64 (s.first : Int)) := cg 2 (by omega)
        have g3 : wr.cell? ⟨g, o * 8 + k * 8 + 3, none⟩ = some (.int .i64 (s.next : Int)) := cg 3 (by omega)
        have g4 : wr.cell? ⟨g, o * 8 + k * 8 + 4, none⟩ = some (.bool s.whole) := cg 4 (by omega)
        have g5 : wr.cell? ⟨g, o * 8 + k * 8 + 5, none⟩ = some (.int .i64 (s.file : Int)) := cg 5 (by omega)
        have g6 : wr.cell? ⟨g, o * 8 + k * 8 + 6, none⟩ = some (.int .i64 (s.size : Int)) := cg 6 (by omega)
        have g7 : wr.cell? ⟨g, o * 8 + k * 8 + 7, none⟩ = some (.int .i64 (s.last : Int)) := cg 7 (by omega)
        have hsum : sizes (l.segs.take (k + 1)) = sizes (l.segs.take k) + s.size := by
          unfold sizes
          rw [List.take_add_one, hsk, List.map_append, List.sum_append]
          simp
        have hsb := (HB.out.seg s (List.mem_of_getElem? hsk)).2.2
        have hsle : sizes (l.segs.take k) ≤ 1024 * 1000000000 := sizes_le (l.segs.take k) 1024 (by rw [List.length_take]; omega) fun x hx => (HB.out.seg x (List.mem_of_mem_take hx)).2.2
        have hwz : IntKind.i64.wrap ((sizes (l.segs.take k) : Int) + (s.size : Int)) = (sizes (l.segs.take k) : Int) + (s.size : Int) := IntWalk.i64_in _ (by omega)
        have HSUM := Lib.hid (show ((sizes (l.segs.take (k + 1)) : Nat) : Int) = (sizes (l.segs.take k) : Int) + (s.size : Int) by rw [hsum]; omega)
        clear hf hsg cg hsum hsk hsA
        generalize sizes (l.segs.take k) = zk at *
        go_wp2_with fail
        go_roundw
        case rel => exact ⟨k + 1, by omega, by go_num, by rw [HSUM.out], HF.out.alloc _⟩
        case measure => simp [intOf] <;> omega
      · obtain rfl : k = l.segs.length := by omega
        rw [List.take_length]
        obtain ⟨xs, hxs⟩ : ∃ xs, xs = encs (l.c.cut b).puts := ⟨_, rfl⟩
        obtain ⟨ll, hll⟩ : ∃ ll, ll = xs.length := ⟨_, rfl⟩
        have hfr : framesTo l.c.first b l.c.rows l.c.rows.length = xs := by rw [hxs]; exact framesTo_cut hfb
        have hlle : ll ≤ 100000000 := by
          have h1 := framesTo_le l.c.first b l.c.rows l.c.rows.length
          rw [hfr] at h1
          have h2 := HSZ.out
          unfold Ct.size Ct.puts at h2
          omega
        have KFR := Lib.hid (show Calls Tryz.prog 45 #[.pointer (some ⟨bl, 0, none⟩), .int .i64 (b : Int)] wr fun e w' => Fresh w w' ∧ ∃ A c, e = .returned (.slice A ll c) ∧ Bs w' A ll c xs ∧ ∀ a, A = some a → 0 < ll → w.heap.size ≤ a.block ∧ a.block < w'.heap.size from by
          refine (lframes_any (H.out.lm.fresh hf) hnx HRL.out (by have := HSZ.out; omega) (fun k hk => Nat.lt_of_lt_of_le (H.out.Rlt k hk) hf.size) (from_ := b) (by omega)).mono ?_
          rintro e w' ⟨hf', v, rfl, ho, hn⟩
          rw [hfr, ← hll] at ho
          obtain ⟨A, c, rfl, _, _, hA⟩ := ho.form
          refine ⟨hf.trans hf' fun _ _ => id, A, c, rfl, Own.bs ho, fun a ha h0 => ?_⟩
          rcases hA with ⟨_, h2, _⟩ | ⟨g, e⟩
          · omega
          · rw [ha] at e
            injection e with e
            rw [e]
            subst e
            have h1 := hn g (by rw [ha]; rfl)
            have h2 := ho.lt g (by rw [ha]; rfl)
            have h3 := hf.size
            exact ⟨by show w.heap.size ≤ g; omega, h2⟩)
        obtain ⟨sz, hsz⟩ : ∃ sz, sz = sizes l.segs := ⟨_, rfl⟩
        rw [← hsz]
        have hszl : sz ≤ 1024 * 1000000000 := by rw [hsz]; exact sizes_le l.segs 1024 (by omega) fun x hx => (HB.out.seg x hx).2.2
        have hw1 : IntKind.i64.wrap (2 * (ll : Int)) = 2 * (ll : Int) := IntWalk.i64_in _ (by omega)
        have hw2 : IntKind.i64.wrap (2 * (ll : Int) + 4096) = 2 * (ll : Int) + 4096 := IntWalk.i64_in _ (by omega)
        obtain ⟨d4, hd4⟩ : ∃ d4, d4 = (cutWM d l b).1 := ⟨_, rfl⟩
        obtain ⟨l4, hl4⟩ : ∃ l4, l4 = (cutWM d l b).2.1 := ⟨_, rfl⟩
        obtain ⟨why, hwhy⟩ : ∃ why, why = (cutWM d l b).2.2 := ⟨_, rfl⟩
        have HD4 := Lib.hid hd4; have HL4 := Lib.hid hl4; have HWHY := Lib.hid hwhy; have HXS := Lib.hid hxs; have HLL := Lib.hid hll; have HSZ2 := Lib.hid hsz
        have HCW := Lib.hid (show cutWM d l b = if 2 * ll + 4096 < sz then ((beginP d l true b b xs).1, begL d l true b b xs, (beginP d l true b b xs).2.2) else writeP d l (It.cut b).enc by
          rw [hll, hxs, hsz]
          rfl)
        clear hf hd4 hl4 hwhy hxs hll hsz hfr hsA
        go_upto_if 45 with (go_at_call 45; refine KFR.out.mono ?_; rintro e w5 ⟨hf5, A, cA, rfl, hbs5, hbn5⟩; have HF5 := Lib.hid hf5; have HBS5 := Lib.hid hbs5; have HBN5 := Lib.hid hbn5; clear hf5 hbs5 hbn5 KFR)
        go_cut [5] from 45 to 56 (fun y w6 => y = .int .i64 why ∧ LB w w6 bl bd S R sv rv l4 d4)
        case first =>
          by_cases hbig : 2 * ll + 4096 < sz
          · have hb1 : decide (2 * (ll : Int) + 4096 < (sz : Int)) = true := by simp; omega
            have hb2 : 2 * (ll : Int) + 4096 < (sz : Int) := by omega
            have hcw := HCW.out
            rw [if_pos hbig] at hcw
            have HCW2 := Lib.hid hcw
            have KB := Lib.hid (show Calls Tryz.prog 46 #[.pointer (some ⟨bl, 0, none⟩), .int .u8 119, .agg #[.int .i64 0, .int .i64 0, .int .i64 (b : Int), .int .i64 (b : Int)], .slice A ll cA] w5 fun e w' => e = .returned (.int .i64 why) ∧ LB w w' bl bd S R sv rv l4 d4 from by
              refine (lbegin_any (H.out.fresh HF5.out) true b b HBS5.out (fun a ha h0 => ⟨fun hf => by have h1 := H.out.lm.lt _ hf; have h2 := (HBN5.out a ha h0).1; omega, fun hs => by have h1 := H.out.dk.below _ hs; have h2 := (HBN5.out a ha h0).1; omega, (HBN5.out a ha h0).2⟩) (HB.out.with (by omega) (by omega) (by omega))).mono ?_
              rintro e w' ⟨rfl, hlb⟩
              refine ⟨by rw [HWHY.out, hcw], ?_⟩
              rw [HL4.out, HD4.out, hcw]
              exact (H.out.same.fresh HF5.out).lb hlb)
            clear hbig hcw
            go_wp2_with fail
            refine KB.out.mono ?_
            rintro e w6 ⟨rfl, hlb⟩
            have HLB := Lib.hid hlb
            clear hlb KB
            go_wp2_with fail
            go_meet
            case rel => exact ⟨rfl, HLB.out⟩
          · have hb1 : decide (2 * (ll : Int) + 4096 < (sz : Int)) = false := by simp; omega
            have hb2 : ¬ 2 * (ll : Int) + 4096 < (sz : Int) := by omega
            have hcw := HCW.out
            rw [if_neg hbig] at hcw
            have hel : (It.cut b).enc.length = 17 := by
              show (metaF 99 [b]).length = 17
              rw [metaF_len]
              rfl
            have KM := Lib.hid (show Calls Tryz.prog 47 #[.int .u8 99, .slice (some ⟨w5.heap.size, 0, none⟩) 1 1] (w5.alloc (.cells #[.int .i64 (b : Int)] 3)) fun e w' => ∃ g c, e = .returned (.slice (some ⟨g, 0, none⟩) 17 c) ∧ Calls Tryz.prog 41 #[.pointer (some ⟨bl, 0, none⟩), .slice (some ⟨g, 0, none⟩) 17 c] w' fun e w' => e = .returned (.int .i64 why) ∧ LB w w' bl bd S R sv rv l4 d4 from by
              refine (meta_any 99 _ 1 [b] _ (int1_new w5 b) (by simp) (by simpa using (by omega : b < 9223372036854775808))).mono ?_
              rintro e w6 ⟨hf6, g, c, rfl, hg, hfb⟩
              have hl : (metaF 99 [b]).length = 17 := hel
              have hbs := hfb.bs
              rw [hl] at hbs ⊢
              refine ⟨g, c, rfl, ?_⟩
              have hfw : Fresh w w6 := (HF5.out.alloc _).trans hf6 fun _ _ => id
              have hg2 : w.heap.size ≤ g := by rw [World.size_alloc] at hg; have := HF5.out.size; omega
              refine (lwrite_any (H.out.fresh hfw) hbs (fun a ha h0 => by
                injection ha with ha
                subst ha
                refine ⟨fun hf => by have h1 := H.out.lm.lt _ hf; have h2 : g < w.heap.size := h1; omega, fun hs => by have h1 := H.out.dk.below _ hs; have h2 : g < w.heap.size := h1; omega, ?_⟩
                obtain ⟨b', o', e, hc⟩ := hbs.2.2.2 h0
                injection e with e
                injection e with e _
                subst e
                have hc0 := World.block_lt_of_cell? _ _ (hc 0 _ (List.getElem?_eq_getElem (show 0 < (metaF 99 [b]).length by omega)))
                exact hc0) (HB.out.with (by unfold Ct.next at hnx; omega) hnx (by omega)) (by omega)).mono ?_
              rintro e w' ⟨rfl, hlb⟩
              have henc : metaF 99 [b] = (It.cut b).enc := rfl
              rw [henc] at hlb ⊢
              refine ⟨by rw [HWHY.out, hcw], ?_⟩
              rw [HL4.out, HD4.out, hcw]
              exact (H.out.same.fresh hfw).lb hlb)
            clear hbig hcw hel
            go_wp2_with fail
            refine KM.out.mono ?_
            rintro e w6 ⟨g6, c6, rfl, hkw⟩
            have KW := Lib.hid hkw
            clear hkw KM
            go_wp2_with fail
            refine KW.out.mono ?_
            rintro e w7 ⟨rfl, hlb⟩
            have HLB := Lib.hid hlb
            clear hlb KW
            go_wp2_with fail
            go_meet
            case rel => exact ⟨rfl, HLB.out⟩
        case rest =>
          obtain ⟨rfl, hlb⟩ := hcut
          have HLB := Lib.hid hlb
          clear hlb
          by_cases hw : why = 0
          · have hwy := HWHY.out
            rw [hw] at hwy
            obtain ⟨hsl, hsf⟩ := cutWM_segs hwy.symm
            rw [← HL4.out] at hsl hsf
            have hc4 : l4.c = l.c := by rw [HL4.out]; exact cutWM_c _ _ _
            obtain ⟨S4, R4, sv4, rv4, vs4, hX4⟩ := HLB.out
            have KC := Lib.hid (lcut_any hX4.ld.lm (hX4.ld.nR bl (.inl rfl)) (by rw [hc4]; exact hnx) (m := b) (by omega))
            have HX4 := Lib.hid hX4; have HC4 := Lib.hid hc4; have HSL := Lib.hid hsl; have HSF := Lib.hid hsf; have HW := Lib.hid hw
            have hcm := HCM.out
            rw [if_neg (by rw [← HWHY.out, hw]; simp), ← HD4.out, ← HL4.out] at hcm
            have HCM2 := Lib.hid hcm
            subst hw
            clear hX4 hc4 hsl hsf hcm hwy HCM
            go_wp2_with fail
            refine KC.out.mono ?_
            rintro e w7 ⟨rfl, ht7, rv7, vs7, hm7, ho7⟩
            have HX7 := Lib.hid (HX4.out.cutX ht7 hm7 ho7)
            clear ht7 hm7 ho7 KC
            have hcf : (l4.c.cut b).first = b := by
              rw [HC4.out]
              unfold Ct.cut
              rw [if_pos HFB.out]
            have hus := (cutW_use d l b).1
            rw [← cutWM_d, ← HD4.out] at hus
            have hfree : freeP (usedN d.fs l.base l.segs) l.base ≤ 200000000 := by
              have h1 := (freeP_spec (usedN d.fs l.base l.segs) l.base).2.1
              have h2 : (usedN d.fs l.base l.segs).length ≤ 1000000 := by
                unfold usedN
                rw [List.length_append, List.length_map, List.length_map]
                have h3 := List.length_filter_le (inR l.base) d.fs
                have h4 := HB.out.n
                omega
              have h3 := HB.out.base
              omega
            have KT := Lib.hid (tidy_any HX7.out.ld (use_small hus HB.out.sm) (by dsimp only; have := HSL.out; have := HB.out.K; have := HSZ.out; omega) (fun x hx => by
              rcases HSF.out x hx with ⟨z, hz, hze⟩ | hze
              · have := (HB.out.seg z hz).1; omega
              · omega))
            clear hus hfree
            go_wp2_with fail
            refine KT.out.mono ?_
            rintro e w8 ⟨rfl, S8, sv8, h8⟩
            dsimp only at h8
            rw [hcf] at h8
            have HX8 := Lib.hid (HX7.out.trans h8)
            clear h8 KT
            go_wp2_with fail
            go_ret
            unfold CutWEnd
            rw [HCM2.out]
            have h9 := HX8.out
            rw [HC4.out] at h9
            exact ⟨rfl, _, _, _, _, _, h9⟩
          · have hw2 : ¬ why = 0 := hw
            have hcm := HCM.out
            rw [if_pos (by rw [← HWHY.out]; exact hw)] at hcm
            have HCM2 := Lib.hid hcm
            clear hw hcm HCM
            go_wp2_with fail
            go_ret
            unfold CutWEnd
            rw [HCM2.out]
            refine ⟨by rw [← HWHY.out]; rfl, ?_⟩
            rw [← HL4.out, ← HD4.out]
            exact HLB.out
end
end Go.Proofs.YtlcmnihpfpmajaaGreat
