/- The wal claims' texts, several in one: Beg. Conditions stand with each theorem. -/
import Derived.Test.YtlcmnihpfpmajaaGreatZa29
import Derived.Deep.CutRange
import Derived.Deep.RegionHeld3
import Derived.Deep.RegionLaw
/- wal.Log.begin. Conditions stand with it. -/
namespace Go.Proofs.YtlcmnihpfpmajaaGreat
open Go.RowKit
attribute [local go_sem] Oper.semAt_some
/-- the head's block -/
def hdC (a b f n : Nat) : Array Value := #[.int .i64 (a : Int), .int .i64 (b : Int), .int .i64 (f : Int), .int .i64 (n : Int)]
section
variable {w : World} {bl bd : Nat} {R S : Nat → Prop} {l : Lg} {sv rv : Value} {vs : List Value} {d : Dk} {K : Nat}
/-- what begin wants of numbers -/
structure BegB (l : Lg) (d : Dk) (K first next m : Nat) : Prop where
  sm : d.small K
  K : K + d.fs.length ≤ 300000000
  n : l.segs.length + d.fs.length ≤ 1000000
  base : l.base ≤ 100000000
  seg : ∀ s ∈ l.segs, s.file ≤ 1000000000 ∧ s.number ≤ 1000000000 ∧ s.size ≤ 1000000000
  first : first ≤ 1000000000
  next : next ≤ 1000000000
  lnext : l.c.next ≤ 1000000000
  m : m ≤ 300000000
/-- the log behind begin, as it lies in memory (of a new segment nobody notes that it is whole) -/
def begL (d : Dk) (l : Lg) (whole : Bool) (first next : Nat) (xs : List UInt8) : Lg :=
  if (beginP d l whole first next xs).2.2 = 0 then
    { l with segs := (if whole = true then l.segs.map fun s => { s with last := first } else l.segs) ++ [⟨numOf l.segs, aheadOf l.segs, first, next, false, freeP (usedN d.fs l.base l.segs) l.base, (headB whole (numOf l.segs) (aheadOf l.segs) first next xs ++ xs).length, l.c.next⟩], failed := false, dirty := false }
  else { l with failed := true, dirty := true }
def BegEnd (w : World) (bl bd : Nat) (R S : Nat → Prop) (l : Lg) (sv rv : Value) (d : Dk) (whole : Bool) (first next : Nat) (xs : List UInt8) (e : Ending) (w' : World) : Prop :=
  e = .returned (.int .i64 (beginP d l whole first next xs).2.2) ∧ LB w w' bl bd S R sv rv (begL d l whole first next xs) (beginP d l whole first next xs).1
theorem more_self_ : more S w w = S := by
  funext k
  refine propext ⟨?_, .inl⟩
  rintro (h | h)
  · exact h
  · omega
def kindU (whole : Bool) : UInt8 := if whole = true then 119 else 104
theorem ints_lit (w : World) (l : List Nat) (cs : Array Value) (h : cs = ((natsV l).map fun x => Value.int .i64 x).toArray) (hl : l.length ≤ 1000) : IsInts (w.alloc (.cells cs 3)) (some ⟨w.heap.size, 0, none⟩) l.length l.length (natsV l) :=
  ⟨by simp [natsV], Nat.le_refl _, by unfold maxLen; omega, fun _ => ⟨w.heap.size, 0, rfl, fun j x hx => by
    have hb := Blk.new w 3 cs
    rw [Nat.zero_add, hb.cell j, h, List.getElem?_toArray, List.getElem?_map, hx]
    rfl⟩⟩
theorem IsInts.drew {w : World} {A : Option Addr} {n c : Nat} {xs : List Int} (h : IsInts w A n c xs) : IsInts w.drew A n c xs := h
theorem Tryz.underlying83 : Tryz.prog.underlying 83 = some (.slice 91) := by kernel_rfl
theorem segC_one (s : Seg) : ∀ u ∈ segC s, u.oneCell' = true := by
  intro u hu
  simp only [segC, List.mem_cons, List.not_mem_nil, or_false] at hu
  rcases hu with rfl | rfl | rfl | rfl | rfl | rfl | rfl | rfl <;> rfl
theorem seg_new (w : World) (s : Seg) : Src Tryz.prog 8 83 (.slice (some ⟨w.heap.size, 0, none⟩) 1 1) 1 (segC s) (w.alloc (.cells (segC s).toArray 91)) := by
  refine Src.ofSlice _ Tryz.underlying83 _ _ _ _ (segC_len s) (fun j u hu => ?_) (segC_one s)
  have hb := Blk.new w 91 (segC s).toArray
  rw [add_flat, Nat.zero_add, hb.cell j, List.getElem?_toArray]
  exact hu
/-- a block that is nobody's is written -/
theorem LX.aside {w' w'' : World} {S' R' : Nat → Prop} {l' : Lg} {d' : Dk} {sv' rv' : Value} {vs' : List Value} {p : Nat} (h : LX w w' bl bd S R sv rv l' d' S' R' sv' rv' vs') (ht : Touch (· = p) w' w'') (hp : w.heap.size ≤ p) (hn : ∀ k, lfoot bl sv' rv' k ∨ R' k ∨ S' k → k ≠ p) : LX w w'' bl bd S R sv rv l' d' S' R' sv' rv' vs' :=
  ⟨⟨h.ld.lm.touch ht fun k hk => hn k (hk.elim .inl fun e => .inr (.inl e)), h.ld.dk.touch ht fun k hk => hn k (.inr (.inr hk)), h.ld.dis, h.ld.nR, fun k hk => Nat.lt_of_lt_of_le (h.ld.Rlt k hk) ht.size⟩, h.tch.trans ht fun k hk e => by omega, h.sS, h.sR, h.sF⟩
theorem lstrange_len (fs : List Fl) (base : Nat) (segs : List Seg) : (strangeN fs base segs).length ≤ fs.length := by
  unfold strangeN
  rw [List.length_map]
  exact List.length_filter_le _ _
theorem strange_wf (hD : Disk w S bd d) {base : Nat} {segs : List Seg} : ∀ n ∈ strangeN d.fs base segs, (Lit.int .i64 n).wf = true := fun n hn => by
  obtain ⟨f, hf, rfl⟩ := List.mem_map.1 (strangeN_mem hn)
  exact (hD.good.1 f hf).2.2
theorem begin_del {whole : Bool} {first next : Nat} {xs : List UInt8} (h : (delAll d (strangeN d.fs l.base l.segs)).2 ≠ 0) : beginP d l whole first next xs = ((delAll d (strangeN d.fs l.base l.segs)).1, { l with failed := true, dirty := true }, (delAll d (strangeN d.fs l.base l.segs)).2) := by
  unfold beginP
  rw [if_pos h]
theorem num_le {segs : List Seg} (h : ∀ s ∈ segs, s.number ≤ 1000000000 ∧ s.size ≤ 1000000000) : numOf segs ≤ 1000000001 ∧ aheadOf segs ≤ 1000000000 := by
  unfold numOf aheadOf
  cases hl : segs.getLast? with
  | none => exact ⟨by show 1 ≤ _; omega, by show 0 ≤ _; omega⟩
  | some s =>
    have := h s (List.mem_of_getLast? hl)
    exact ⟨by show s.number + 1 ≤ _; omega, this.2⟩
theorem begin_lay {whole : Bool} {first next : Nat} {xs : List UInt8} {d' d8 : Dk} {y : Int} (h : delAll d (strangeN d.fs l.base l.segs) = (d', 0)) (h2 : layP d' (freeP (usedN d.fs l.base l.segs) l.base : Nat) (headB whole (numOf l.segs) (aheadOf l.segs) first next xs ++ xs) = (d8, y)) (hy : ¬ y = 0) :
    beginP d l whole first next xs = (d8, { l with failed := true, dirty := true }, y) := by
  unfold beginP
  rw [h]
  dsimp only
  rw [if_neg (by simp), h2]
  dsimp only
  rw [if_pos hy]
/-- behind the last of the disk's calls -/
def HX8G (w w7 : World) (bl bd : Nat) (S R : Nat → Prop) (sv rv : Value) (l1 : Lg) (d8 : Dk) (S3 : Nat → Prop) (vs : List Value) (p : Nat) (cs : Array Value) : Prop :=
  ∀ w8, Touch S3 w7 w8 → Disk w8 (more S3 w7 w8) bd d8 → LX w w8 bl bd S R sv rv l1 d8 (more S3 w7 w8) R sv rv vs ∧ Blk w8 p 89 cs
/-- behind the append of a new segment -/
def BegSn (wc w12 : World) (bl : Nat) (sA : Option Addr) (n sc : Nat) (segs1 : List Seg) (sg : Seg) : Prop := ∃ (B11 : Option Addr) (c11 : Nat) (w10 w11 : World) (o : Obj), Fresh wc w10 ∧ Ow w11 91 8 (.slice B11 (n + 1) c11) (n + 1) (segsC segs1 ++ segC sg) ∧ (w10.alloc o).grownBy w11 (Value.slice sA n sc).ownBlock ∧
  ((Value.slice B11 (n + 1) c11).ownBlock = (Value.slice sA n sc).ownBlock ∨ (Value.slice B11 (n + 1) c11).ownBlock = some (w10.alloc o).heap.size) ∧ w12 = w11.setCell ⟨bl, 2, none⟩ (.slice B11 (n + 1) c11)
/-- the end of begin, taken -/
theorem beg_end {whole : Bool} {first next : Nat} {xs hd : List UInt8} {st : List Int} {d' d8 : Dk} {fr nu ah m : Nat} {l1 : Lg} {segs1 : List Seg} {S8 : Nat → Prop} {w9 w10 w11 : World} {sA B11 : Option Addr} {sc c11 : Nat} {o : Obj}
    (hst : st = strangeN d.fs l.base l.segs) (hdel : delAll d st = (d', 0)) (hfr : fr = freeP (usedN d.fs l.base l.segs) l.base) (hhb : headB whole nu ah first next xs = hd) (hnu : nu = numOf l.segs) (hah : ah = aheadOf l.segs)
    (hd8 : d8 = (layP d' (fr : Int) (hd ++ xs)).1) (hw : (layP d' (fr : Int) (hd ++ xs)).2 = 0) (hl1 : l1 = { l with failed := true, dirty := true }) (hs1 : segs1 = if whole = true then l.segs.map (fun s => { s with last := first }) else l.segs)
    (hx : LX w w9 bl bd S R sv rv { l1 with segs := segs1 } d8 S8 R sv rv vs) (hsv : sv = .slice sA l.segs.length sc) (hsl : segs1.length = l.segs.length) (hf : Fresh w9 w10)
    (ho : Ow w11 91 8 (.slice B11 (l.segs.length + 1) c11) (l.segs.length + 1) (segsC segs1 ++ segC ⟨numOf l.segs, aheadOf l.segs, first, next, false, fr, hd.length + m, l.c.next⟩)) (hg : (w10.alloc o).grownBy w11 (Value.slice sA l.segs.length sc).ownBlock)
    (hb : (Value.slice B11 (l.segs.length + 1) c11).ownBlock = (Value.slice sA l.segs.length sc).ownBlock ∨ (Value.slice B11 (l.segs.length + 1) c11).ownBlock = some (w10.alloc o).heap.size) (hal : (hd ++ xs).length = hd.length + m) :
    BegEnd w bl bd R S l sv rv d whole first next xs (.returned (.int .i64 0)) (((w11.setCell ⟨bl, 2, none⟩ (.slice B11 (l.segs.length + 1) c11)).setCell ⟨bl, 6, none⟩ (.bool false)).setCell ⟨bl, 5, none⟩ (.bool false)) := by
  have hP : (beginP d l whole first next xs).2.2 = 0 ∧ (beginP d l whole first next xs).1 = d8 := by
    have h2 : layP d' (freeP (usedN d.fs l.base l.segs) l.base : Nat) (headB whole (numOf l.segs) (aheadOf l.segs) first next xs ++ xs) = (d8, 0) := by
      rw [← hnu, ← hah, hhb, ← hfr, hd8, ← hw]
    rw [hst] at hdel
    unfold beginP
    rw [hdel]
    dsimp only
    rw [if_neg (by simp), h2]
    dsimp only
    rw [if_neg (by simp)]
    exact ⟨rfl, rfl⟩
  have hx1 := hx.snoc (s := ⟨numOf l.segs, aheadOf l.segs, first, next, false, fr, hd.length + m, l.c.next⟩) (c := c11) (B := B11) (by dsimp only; rw [hsl]; exact ho) (hf.alloc o) (by rw [hsv]; exact hg) (by dsimp only; rw [hsl, hsv]; exact hb) rfl
  dsimp only at hx1
  rw [hsl] at hx1
  obtain ⟨W1, hW1⟩ : ∃ W1, W1 = w11.setCell ⟨bl, 2, none⟩ (.slice B11 (l.segs.length + 1) c11) := ⟨_, rfl⟩
  rw [← hW1] at hx1 ⊢
  refine ⟨by rw [hP.1], ?_⟩
  rw [hP.2]
  unfold begL
  rw [if_pos hP.1, ← hfr, ← hnu, ← hah, hhb, hal, ← hs1, hnu, hah]
  refine ⟨_, _, _, _, _, hx1.block (((Touch.refl (· = bl) W1).setCell (p := ⟨bl, 6, none⟩) (.inr rfl) _).setCell (p := ⟨bl, 5, none⟩) (.inr rfl) _) rfl (by rw [hl1]) ?_⟩
  have := (hx1.ld.lm.blk.set_ 6 (.bool false)).set_ 5 (.bool false)
  rw [hl1] at this
  simpa using this
set_option maxRecDepth 200000 in
set_option maxHeartbeats 3000000 in
theorem lbegin_any (h : LD w bl bd S R l d sv rv vs) (whole : Bool) (first next : Nat) {A : Option Addr} {m cA : Nat} {xs : List UInt8} (hx : Bs w A m cA xs) (hxb : ∀ a, A = some a → 0 < m → ¬ lfoot bl sv rv a.block ∧ ¬ S a.block ∧ a.block < w.heap.size) (hb : BegB l d K first next m) :
    Calls Tryz.prog 46 #[.pointer (some ⟨bl, 0, none⟩), .int .u8 ((kindU whole).toNat : Int), .agg #[.int .i64 0, .int .i64 0, .int .i64 (first : Int), .int .i64 (next : Int)], .slice A m cA] w (BegEnd w bl bd R S l sv rv d whole first next xs) := by
  obtain ⟨l1, hl1⟩ : ∃ l1 : Lg, l1 = { l with failed := true, dirty := true } := ⟨_, rfl⟩
  obtain ⟨wa, hwa⟩ : ∃ wa, wa = w.alloc (.cells (hdC 0 0 first next) 89) := ⟨_, rfl⟩
  have hfa : Fresh w wa := by rw [hwa]; exact (Touch.refl _ w).alloc _
  have hba := h.lm.blk.touch hfa id
  obtain ⟨w1, hw1⟩ : ∃ w1, w1 = (wa.setCell ⟨bl, 6, none⟩ (.bool true)).setCell ⟨bl, 5, none⟩ (.bool true) := ⟨_, rfl⟩
  have hT1 : Touch (· = bl) wa w1 := by rw [hw1]; exact ((Touch.refl (· = bl) wa).setCell (p := ⟨bl, 6, none⟩) (.inr rfl) _).setCell (p := ⟨bl, 5, none⟩) (.inr rfl) _
  have hX1 : LX w w1 bl bd S R sv rv l1 d S R sv rv vs := (h.same.fresh hfa).block hT1 (by rw [hl1]) (by rw [hl1]) (by
    have := (hba.set_ 6 (.bool true)).set_ 5 (.bool true)
    rw [← hw1] at this
    rw [hl1]
    simpa using this)
  have hbn : bl < w.heap.size := h.lm.blk.lt
  have hh1 : Blk w1 w.heap.size 89 (hdC 0 0 first next) := (by rw [hwa]; exact Blk.new _ _ _ : Blk wa w.heap.size 89 (hdC 0 0 first next)).touch hT1 (by omega)
  have hx1 : Bs w1 A m cA xs := (hx.fresh hfa).touch hT1 fun a ha h0 e => (hxb a ha h0).1 (.inl e)
  have hsz1 : w1.heap.size = w.heap.size + 1 := by rw [hw1, World.size_setCell, World.size_setCell, hwa, World.size_alloc]
  have f6 : ∀ o, (w.alloc o).frozen? ⟨bl, 6, none⟩ = false := fun o => (h.lm.blk.alloc o).frozen 6
  have e6 : ∀ o, (w.alloc o).cell? ⟨bl, 6, none⟩ = some (.bool l.dirty) := fun o => (h.lm.blk.alloc o).cell 6
  have f5 : ∀ o, ((w.alloc o).setCell ⟨bl, 6, none⟩ (.bool true)).frozen? ⟨bl, 5, none⟩ = false := fun o => ((h.lm.blk.alloc o).set_ 6 (.bool true)).frozen 5
  have e5 : ∀ o, ((w.alloc o).setCell ⟨bl, 6, none⟩ (.bool true)).cell? ⟨bl, 5, none⟩ = some (.bool l.failed) := fun o => ((h.lm.blk.alloc o).set_ 6 (.bool true)).cell 5
  have KF := Lib.hid (free_any hX1.ld.lm hX1.ld.dk hb.sm (by have := hb.K; omega) h.dk.nodup (fun f hf => (h.dk.good.1 f hf).2.2) (by rw [hl1]; exact hb.n) (by rw [hl1]; exact fun s hs => by have := hb.seg s hs; omega) (by rw [hl1]; exact hb.base))
  have HX1 := Lib.hid hX1; have HH1 := Lib.hid hh1; have HB1 := Lib.hid hx1; have HXB := Lib.hid hxb; have HB := Lib.hid hb; have HL1 := Lib.hid hl1
  have HSZ := Lib.hid hsz1
  have HBN := Lib.hid hbn
  have HLT := Lib.hid h.lm.lt
  have HRL := Lib.hid h.Rlt
  have HW1 := Lib.hid (show w1 = ((w.alloc (.cells #[.int .i64 0, .int .i64 0, .int .i64 (first : Int), .int .i64 (next : Int)] 89)).setCell ⟨bl, 6, none⟩ (.bool true)).setCell ⟨bl, 5, none⟩ (.bool true) by rw [hw1, hwa]; rfl)
  have hwm : (Lit.int .i64 0).wf = true := by decide
  have HD := Lib.hid h.dk
  clear h hx hxb hb hT1 hfa hba hX1 hh1 hx1 hw1 hwa hsz1 hbn
  go_enter Tryz.func46, Tryz.ntmps46
  go_wp2_with fail
  rw [← HW1.out]
  refine KF.out.mono ?_
  rintro e w2 ⟨hf2, B2, c2, rfl, ho2, hn2⟩
  rw [HL1.out] at ho2 hn2
  dsimp only at ho2 hn2
  obtain ⟨st, hst⟩ : ∃ st, st = strangeN d.fs l.base l.segs := ⟨_, rfl⟩
  obtain ⟨fr, hfr⟩ : ∃ fr, fr = freeP (usedN d.fs l.base l.segs) l.base := ⟨_, rfl⟩
  have hr2 : Value.tuple #[.int .i64 (freeP (usedN d.fs l1.base l1.segs) l1.base : Nat), .slice B2 (strangeN d.fs l1.base l1.segs).length c2] = Value.tuple #[.int .i64 (fr : Int), .slice B2 st.length c2] := by rw [hst, hfr, HL1.out]
  rw [hr2]
  rw [← hst] at ho2 hn2
  have hX2 := HX1.out.fresh hf2
  have HF2 := Lib.hid hf2; have HX2 := Lib.hid hX2; have HO2 := Lib.hid ho2; have HN2 := Lib.hid hn2
  have HH2 := Lib.hid (HH1.out.touch hf2 id); have HB2 := Lib.hid (HB1.out.fresh hf2)
  have HST := Lib.hid hst; have HFR := Lib.hid hfr
  have hstl : st.length ≤ 1000000 := by have := lstrange_len d.fs l.base l.segs; have := HB.out.n; rw [← hst] at *; omega
  have hbl2 : bl < w2.heap.size := by have := hX2.ld.lm.blk.lt; exact this
  have c0 : w2.cell? ⟨bl, 0, none⟩ = some (.pointer (some ⟨bd, 0, none⟩)) := hX2.ld.lm.blk.cell 0
  obtain ⟨G2, cg2, hv2, _, _, hG2⟩ := ho2.form
  injection hv2 with e1 _ e2
  subst e1 e2
  clear hf2 ho2 hn2 hX2 hst hfr hr2 KF f6 e6 f5 e5
  go_wp2_with fail
  go_loopw [31] (fun i wr => ∃ (j : Nat) (d' : Dk), j ≤ st.length ∧ i = .int .i64 j ∧ Touch S w2 wr ∧ Disk wr (more S w2 wr) bd d' ∧ d'.small (K + j) ∧ delAll d st = delAll d' (st.drop j)) (fun i _ => st.length - (intOf i).toNat)
  case atStart => exact ⟨0, d, Nat.zero_le _, rfl, Touch.refl _ _, by rw [more_self_]; exact HX2.out.ld.dk, HB.out.sm, rfl⟩
  case round =>
    obtain ⟨j, d', hj, rfl, ht, hd, hs, heq⟩ := hrel
    have HT := Lib.hid ht; have HDK := Lib.hid hd; have HS := Lib.hid hs; have HEQ := Lib.hid heq
    have ho := HO2.out.touch ht fun q hq hs => by
      have h1 := HN2.out q hq
      have h2 := HD.out.below q hs
      have h3 := HSZ.out
      omega
    have q0 : wr.cell? ⟨bl, 0, none⟩ = some (.pointer (some ⟨bd, 0, none⟩)) := ht.cell c0 (HX2.out.ld.dis bl (.inl (.inl rfl)))
    clear ht hd hs heq
    by_cases hlt : j < st.length
    · obtain ⟨n, hn⟩ : ∃ n, st[j]? = some n := ⟨_, List.getElem?_eq_getElem hlt⟩
      obtain ⟨g, rfl⟩ : ∃ g, B2 = some ⟨g, 0, none⟩ := by
        rcases hG2 with ⟨_, h2, _⟩ | ⟨g, e⟩
        · omega
        · exact ⟨g, e⟩
      have cj : wr.cell? ⟨g, j, none⟩ = some (.int .i64 n) := by
        rw [ho.cell (j := j) (by omega), intsV_get, hn]
        rfl
      have hnw : (Lit.int .i64 n).wf = true := strange_wf HD.out n (by rw [← HST.out]; exact List.mem_of_getElem? hn)
      have KD := Lib.hid (disk_delete HDK.out HS.out (by have := HB.out.K; omega) hnw)
      have hdr : st.drop j = n :: st.drop (j + 1) := by
        obtain ⟨hi, e⟩ := List.getElem?_eq_some_iff.1 hn
        rw [List.drop_eq_getElem_cons hi, e]
      have HDR := Lib.hid hdr
      clear ho hn hdr hnw
      by_cases hw : d'.why n = 0
      · have HW := Lib.hid hw
        rw [hw] at KD
        clear hw
        go_wp2_with fail
        refine KD.out.mono ?_
        rintro e w3 ⟨rfl, ht3, hd3⟩
        have HT3 := Lib.hid (HT.out.then_ ht3)
        rw [more_more HT.out.size ht3.size] at hd3
        have HD3 := Lib.hid hd3
        clear ht3 hd3 KD q0 cj
        go_wp2_with fail
        go_roundw
        case rel => exact ⟨j + 1, d'.delete n, by omega, by go_num, HT3.out, HD3.out, delete_small HS.out, by rw [HEQ.out, HDR.out, delAll, if_pos HW.out]⟩
        case measure => simp [intOf] <;> omega
      · have HW := Lib.hid hw
        have hw2 : ¬ d'.why n = 0 := hw
        have HWN := Lib.hid (show delAll d st = (d'.delete n, d'.why n) by rw [HEQ.out, HDR.out, delAll, if_neg hw])
        clear hw
        generalize d'.why n = y at *
        go_wp2_with fail
        refine KD.out.mono ?_
        rintro e w3 ⟨rfl, ht3, hd3⟩
        have HT3 := Lib.hid (HT.out.then_ ht3)
        rw [more_more HT.out.size ht3.size] at hd3
        have HD3 := Lib.hid hd3
        clear ht3 hd3 KD q0 cj
        go_wp2_with fail
        go_ret
        have hbp := begin_del (l := l) (whole := whole) (first := first) (next := next) (xs := xs) (d := d) (show (delAll d (strangeN d.fs l.base l.segs)).2 ≠ 0 by rw [← HST.out, HWN.out]; exact hw2)
        rw [← HST.out, HWN.out] at hbp
        unfold BegEnd begL
        rw [hbp]
        dsimp only
        rw [if_neg hw2, ← HL1.out]
        exact ⟨rfl, _, _, _, _, _, HX2.out.disk HT3.out HD3.out⟩
    · obtain rfl : j = st.length := by omega
      have hdel : delAll d st = (d', 0) := by rw [HEQ.out, List.drop_length, delAll]
      have HDEL := Lib.hid hdel
      have hX3 := HX2.out.disk HT.out HDK.out
      obtain ⟨S3, hS3⟩ : ∃ S3, S3 = more S w2 wr := ⟨_, rfl⟩
      rw [← hS3] at hX3
      have HX3 := Lib.hid hX3
      have HS3 := Lib.hid hS3
      have hbS : ¬ S w.heap.size := fun e => by have := HD.out.below _ e; omega
      have hH3 := HH2.out.touch HT.out hbS
      have HH3 := Lib.hid hH3
      have hhne : bl ≠ w.heap.size := by have := HBN.out; omega
      have HHNE := Lib.hid hhne
      have hB3 : Bs wr A m cA xs := HB2.out.touch HT.out fun a ha h0 => (HXB.out a ha h0).2.1
      have HB3 := Lib.hid hB3
      have hlm := hX3.ld.lm
      rw [HL1.out] at hlm
      obtain ⟨sA, sc, hsv, hsn, hsm, hsA⟩ := hlm.segs.form
      dsimp only at hsv hsn hsA
      have p0 : wr.cell? ⟨bl, 0, none⟩ = some (.pointer (some ⟨bd, 0, none⟩)) := hlm.blk.cell 0
      have p2 : wr.cell? ⟨bl, 2, none⟩ = some (.slice sA l.segs.length sc) := by rw [← hsv]; exact hlm.blk.cell 2
      have z0 := hH3.cell 0
      have z1 := hH3.cell 1
      have zf0 := hH3.frozen 0
      have zf1 := hH3.frozen 1
      simp only [hdC, List.getElem?_toArray, List.getElem?_cons_zero, List.getElem?_cons_succ] at z0 z1
      have HSEG := Lib.hid hlm.segs
      have HSV := Lib.hid hsv
      have n2 : ∀ v, (wr.setCell ⟨w.heap.size, 0, none⟩ v).cell? ⟨bl, 2, none⟩ = some (.slice sA l.segs.length sc) := fun v => by rw [World.cell?_setCell_far _ _ _ _ (fun e => hhne e.symm)]; exact p2
      clear hdel hX3 hS3 hH3 hB3 hlm ho q0 hsv hlt hj
      go_upto_if 52 with fail
      go_cut [] from 52 to 74 (fun w4 => Blk w4 w.heap.size 89 (hdC (numOf l.segs) (aheadOf l.segs) first next) ∧ Touch (· = w.heap.size) wr w4)
      case first =>
        rcases nil_or_snoc l.segs with hnil | ⟨s0, s, hsn⟩
        · have hp1 : decide ((0 : Int) < (l.segs.length : Int)) = false := by rw [hnil]; rfl
          have hp2 : ¬ (0 : Int) < (l.segs.length : Int) := by rw [hnil]; simp
          have HNIL := Lib.hid hnil
          clear hnil
          go_wp2_with fail
          go_meet
          case rel =>
            refine ⟨?_, (Touch.refl (· = w.heap.size) wr).setCell (p := ⟨w.heap.size, 0, none⟩) (.inr rfl) _⟩
            rw [HNIL.out]
            simpa [hdC, numOf, aheadOf] using HH3.out.set_ 0 (.int .i64 1)
        · have hlen : l.segs.length = s0.length + 1 := by rw [hsn]; simp
          have hp1 : decide ((0 : Int) < (l.segs.length : Int)) = true := by simp; omega
          have hp2 : (0 : Int) < (l.segs.length : Int) := by omega
          obtain ⟨g, o, rfl⟩ : ∃ g o, sA = some ⟨g, o * 8, none⟩ := by
            rcases hsA with ⟨_, h2, _⟩ | ⟨g, o, e⟩
            · omega
            · exact ⟨g, _, e⟩
          obtain ⟨k, hk⟩ : ∃ k, k = s0.length := ⟨_, rfl⟩
          have hgs : l.segs[k]? = some s := by rw [hsn, hk, List.getElem?_append_right (Nat.le_refl _), Nat.sub_self]; rfl
          have hsg := HSEG.out
          dsimp only at hsg
          rw [HSV.out] at hsg
          have hcell : ∀ j, j < 8 → wr.cell? ⟨g, o * 8 + (k * 8 + j), none⟩ = (segC s)[j]? := fun j hj => by
            rw [hsg.cell (j := k * 8 + j) (by omega), segsC_get _ _ hgs hj]
          have g0 : wr.cell? ⟨g, o * 8 + k * 8, none⟩ = some (.int .i64 (s.number : Int)) := hcell 0 (by omega)
          have g6 : wr.cell? ⟨g, o * 8 + k * 8 + 6, none⟩ = some (.int .i64 (s.size : Int)) := hcell 6 (by omega)
          have hgne : ¬ w.heap.size = g := fun e => by
            have := HLT.out g (.inr (.inl (by rw [HSV.out]; rfl)))
            omega
          have hbne : ¬ w.heap.size = bl := fun e => hhne e.symm
          have hsb := HB.out.seg s (List.mem_of_getElem? hgs)
          have hwk : IntKind.i64.wrap ((l.segs.length : Int) - 1) = (k : Int) := by rw [IntWalk.i64_in _ (by have := HB.out.n; omega)]; omega
          have hwn : IntKind.i64.wrap ((s.number : Int) + 1) = (s.number : Int) + 1 := IntWalk.i64_in _ (by omega)
          have hkl : (k : Int) < (l.segs.length : Int) := by omega
          have hnum : numOf l.segs = s.number + 1 := by unfold numOf; rw [hsn, List.getLast?_append]; rfl
          have hahd : aheadOf l.segs = s.size := by unfold aheadOf; rw [hsn, List.getLast?_append]; rfl
          have HNUM := Lib.hid hnum; have HAHD := Lib.hid hahd
          clear hsg hcell hsn hlen hk hgs hsb hnum hahd hsA
          go_wp2_with fail
          go_region_held (fun W => W.cell? ⟨bl, 2, none⟩ = some (.slice (some ⟨g, o * 8, none⟩) l.segs.length sc) ∧ W.cell? ⟨g, o * 8 + k * 8, none⟩ = some (.int .i64 (s.number : Int)) ∧ W.cell? ⟨g, o * 8 + k * 8 + 6, none⟩ = some (.int .i64 (s.size : Int))) (go_keep) (fail)
          all_goals
            go_wp2_with fail
            go_meet
            case rel =>
              refine ⟨?_, ((((Touch.refl (· = w.heap.size) wr).setCell (p := ⟨w.heap.size, 0, none⟩) (.inr rfl) _).setCell (p := ⟨w.heap.size, 0, none⟩) (.inr rfl) _).setCell (p := ⟨w.heap.size, 1, none⟩) (.inr rfl) _).drew⟩
              rw [HNUM.out, HAHD.out]
              simpa [hdC] using (((HH3.out.set_ 0 (.int .i64 1)).set_ 0 (.int .i64 ((s.number : Int) + 1))).set_ 1 (.int .i64 (s.size : Int))).drew
      case rest =>
        obtain ⟨hH4, hT4⟩ := hcut
        have hX4 := HX3.out.aside hT4 (Nat.le_refl _) fun k hk e => by
          subst e
          rcases hk with hk | hk | hk
          · have := HLT.out _ hk; omega
          · have := HRL.out _ hk; omega
          · rw [HS3.out] at hk
            rcases hk with hk | hk
            · exact hbS hk
            · have := HH2.out.lt; omega
        have HX4 := Lib.hid hX4
        have hcs := hT4
        have HB4 := Lib.hid (HB3.out.touch hT4 fun a ha h0 e => by have := (HXB.out a ha h0).2.2; omega)
        have HH4 := Lib.hid hH4
        have hxl : xs.length = m := HB3.out.1
        have HXL := Lib.hid hxl
        have hsl := Enc.sum_lt xs
        have hsw : IntKind.i64.wrap ((Enc.sum xs : Nat) : Int) = ((Enc.sum xs : Nat) : Int) := IntWalk.i64_in _ (by omega)
        obtain ⟨sm, hsm⟩ : ∃ sm, sm = Enc.sum xs := ⟨_, rfl⟩
        obtain ⟨nu, hnu⟩ : ∃ nu, nu = numOf l.segs := ⟨_, rfl⟩
        obtain ⟨ah, hah⟩ : ∃ ah, ah = aheadOf l.segs := ⟨_, rfl⟩
        rw [← hnu, ← hah] at hH4
        have hnl : ∀ n ∈ [nu, ah, first, next, m, sm], n < 9223372036854775808 := by
          have h1 := num_le (segs := l.segs) fun s hs => (HB.out.seg s hs).2
          rw [← hnu, ← hah] at h1
          have := HB.out.first; have := HB.out.next; have := HB.out.m
          intro n hn
          simp only [List.mem_cons, List.not_mem_nil, or_false] at hn
          omega
        have HST4 := Lib.hid (show ∀ W, Fresh wc W → Fresh wc W ∧ W.cell? ⟨w.heap.size, 0, none⟩ = some (.int .i64 (nu : Int)) ∧ W.cell? ⟨w.heap.size, 1, none⟩ = some (.int .i64 (ah : Int)) ∧ W.cell? ⟨w.heap.size, 2, none⟩ = some (.int .i64 (first : Int)) ∧ W.cell? ⟨w.heap.size, 3, none⟩ = some (.int .i64 (next : Int)) from
          fun W hW => ⟨hW, (hH4.touch hW id).cell 0, (hH4.touch hW id).cell 1, (hH4.touch hW id).cell 2, (hH4.touch hW id).cell 3⟩)
        have KS := Lib.hid (show ∀ W, Fresh wc W → Calls Tryz.prog 65 #[.slice A m cA] W fun e w' => w' = W ∧ e = .returned (.int .u32 (sm : Int)) from fun W hW => by rw [hsm]; exact sum_any A m cA xs W (HB4.out.fresh hW))
        obtain ⟨hd, hhd⟩ : ∃ hd, hd = metaF (kindU whole) [nu, ah, first, next, m, sm] := ⟨_, rfl⟩
        have hhl : hd.length = 57 := by rw [hhd, metaF_len]; rfl
        have KM := Lib.hid (show Calls Tryz.prog 47 #[.int .u8 ((kindU whole).toNat : Int), .slice (some ⟨wc.heap.size, 0, none⟩) 6 6] ((wc.alloc (.cells #[.int .i64 (nu : Int), .int .i64 (ah : Int), .int .i64 (first : Int), .int .i64 (next : Int), .int .i64 (m : Int), .int .i64 (sm : Int)] 3)).drew) fun e w' => Fresh wc w' ∧ ∃ g cap, e = .returned (.slice (some ⟨g, 0, none⟩) hd.length cap) ∧ wc.heap.size ≤ g ∧ Fb w' g cap hd from by
          refine (meta_any (kindU whole) _ 6 [nu, ah, first, next, m, sm] _ (ints_lit wc [nu, ah, first, next, m, sm] _ rfl (by simp)).drew (by simp) hnl).mono ?_
          rintro e w' ⟨hf, g, cap, rfl, hg, hfb⟩
          rw [← hhd] at hfb ⊢
          exact ⟨(((Touch.refl (fun _ => False) wc).alloc _).drew).trans hf fun _ _ => id, g, cap, rfl, by rw [World.size_drew, World.size_alloc] at hg; omega, hfb⟩)
        have HHD := Lib.hid hhd; have HHL := Lib.hid hhl
        clear hhd hhl
        rw [← hsm] at hsw
        have HSM := Lib.hid hsm; have HNU := Lib.hid hnu; have HAH := Lib.hid hah
        have HNL := Lib.hid hnl
        clear hH4 hT4 hX4 hsm hnu hah hnl hsl hxl
        have hm3 : m ≤ 300000000 := HB.out.m
        go_upto_region 14 with fail
        go_region_held3 (fun W => Fresh wc W ∧ W.cell? ⟨w.heap.size, 0, none⟩ = some (.int .i64 (nu : Int)) ∧ W.cell? ⟨w.heap.size, 1, none⟩ = some (.int .i64 (ah : Int)) ∧ W.cell? ⟨w.heap.size, 2, none⟩ = some (.int .i64 (first : Int)) ∧ W.cell? ⟨w.heap.size, 3, none⟩ = some (.int .i64 (next : Int)))
          (first | assumption | exact HST4.out _ ((Touch.refl _ wc).drew) | exact HST4.out _ (Touch.refl _ wc) | exact HST4.out _ (((Touch.refl _ wc).alloc _).drew))
          (first
            | (refine step_fb_src _ rfl _ _ 26 26 rfl 5 Tryz.info5 Tryz.underlying26 rfl HFB6.out (.slice A m cA) m rfl (Bs.src (HB4.out.fresh HF6.out) (t := 26) (e' := 5) Tryz.underlying26) (by rw [HHL.out]; omega) ?_; intro g7 c7 w7 h7 hg7 he7; have hf7 : Fresh wc w7 := HF6.out.grown hg7 fun q hq => .inl (by injection hq with hq; rw [← hq]; exact HG6.out); have k7 := HST4.out w7 hf7; have H7 := Lib.hid h7; have HF7 := Lib.hid hf7; have HE7 := Lib.hid (show wc.heap.size ≤ g7 by rcases he7 with e | e; (rw [e]; exact HG6.out); (rw [e]; exact HF6.out.size)); clear h7 hg7 he7 hf7)
            | (go_at_call 65; refine (KS.out _ (And.left (by assumption))).mono ?_; rintro e w5 ⟨rfl, rfl⟩)
            | (go_at_call 47; refine KM.out.mono ?_; rintro e w6 ⟨hf6, g6, cap6, rfl, hg6, hfb6⟩; have k6 := HST4.out w6 hf6; have HF6 := Lib.hid hf6; have HG6 := Lib.hid hg6; have HFB6 := Lib.hid hfb6; clear hg6 hfb6 hf6))
        have hX7 := HX4.out.fresh HF7.out
        have hal : (hd ++ xs).length = hd.length + m := by rw [List.length_append, HXL.out]
        have HH7 := Lib.hid (HH4.out.touch HF7.out id)
        have hg7S : ¬ S3 g7 := fun e => by
          have h1 := HX3.out.ld.dk.below g7 e
          have h2 := hcs.size
          have h3 := HE7.out
          omega
        have hfrb : fr ≤ 200000000 := by
          have h1 := (freeP_spec (usedN d.fs l.base l.segs) l.base).2.1
          have h2 : (usedN d.fs l.base l.segs).length ≤ 1000000 := by
            unfold usedN
            rw [List.length_append, List.length_map, List.length_map]
            have h3 := List.length_filter_le (inR l.base) d.fs
            have h4 := HB.out.n
            omega
          have h3 := HB.out.base
          rw [HFR.out]
          omega
        have KL := Lib.hid (lay_any hX7.ld.lm hX7.ld.dk HS.out (by have := HB.out.K; have := lstrange_len d.fs l.base l.segs; rw [← HST.out] at this; omega) hX7.ld.dis (n := fr) (by omega) H7.out (fun a ha h0 => by injection ha with ha; subst ha; exact ⟨hg7S, by obtain ⟨b, o, e, hc⟩ := H7.out.2.2.2 h0; injection e with e; injection e with e _; subst e; have hx := hc 0 _ (List.getElem?_eq_getElem (show 0 < (hd ++ xs).length by omega)); have hx2 := World.block_lt_of_cell? _ _ hx; exact hx2⟩) (by rw [hal, HHL.out]; omega))
        have HX7 := Lib.hid hX7
        have HAL := Lib.hid hal
        have hhB : headB whole nu ah first next xs = hd := by
          rw [HHD.out]
          unfold headB kindU
          rw [HXL.out, ← HSM.out]
        have HHB := Lib.hid hhB
        clear hX7 hal hg7S hfrb hhB
        obtain ⟨d8, hd8e⟩ : ∃ d8, d8 = (layP d' (fr : Int) (hd ++ xs)).1 := ⟨_, rfl⟩
        rw [← hd8e] at KL
        have HD8 := Lib.hid hd8e
        clear hd8e
        have HLY := Lib.hid (show HX8G w w7 bl bd S R sv rv l1 d8 S3 vs w.heap.size (hdC (numOf l.segs) (aheadOf l.segs) first next) from fun w8 ht8 hd8 => ⟨HX7.out.disk ht8 hd8, HH7.out.touch ht8 fun e => by
          rw [HS3.out] at e
          rcases e with e | e
          · have := HD.out.below _ e; omega
          · have := HH2.out.lt; omega⟩)
        by_cases hw : (layP d' (fr : Int) (hd ++ xs)).2 = 0
        · have HW := Lib.hid hw
          rw [hw] at KL
          clear hw
          go_upto_if 101 with (go_at_call 61; refine KL.out.mono ?_; rintro e w8 ⟨rfl, ht8, hd8⟩; have HG8 := Lib.hid (HLY.out w8 ht8 hd8); clear ht8 hd8 KL)
          have hg8 := HG8.out
          obtain ⟨S8, hS8⟩ : ∃ S8, S8 = more S3 w7 w8 := ⟨_, rfl⟩
          rw [← hS8] at hg8
          have HX8 := Lib.hid hg8.1; have HH8 := Lib.hid hg8.2
          clear hg8 hS8
          obtain ⟨segs1, hseg1⟩ : ∃ segs1, segs1 = if whole = true then l.segs.map (fun s => { s with last := first }) else l.segs := ⟨_, rfl⟩
          have HSG1 := Lib.hid hseg1
          clear hseg1
          go_cut [17] from 101 to 119 (fun _ w9 => LX w w9 bl bd S R sv rv { l1 with segs := segs1 } d8 S8 R sv rv vs ∧ Blk w9 w.heap.size 89 (hdC (numOf l.segs) (aheadOf l.segs) first next))
          case first =>
            cases whole with
            | false =>
              have hkf : (((kindU false).toNat : Int) == 119) = false := rfl
              have hkf2 : ((kindU false).toNat : Int) = 104 := rfl
              go_wp2_with fail
              go_meet
              case rel =>
                refine ⟨?_, HH8.out⟩
                have : ({ l1 with segs := segs1 } : Lg) = l1 := by rw [HSG1.out, HL1.out]; rfl
                rw [this]
                exact HX8.out
            | true =>
              have hkf : (((kindU true).toNat : Int) == 119) = true := rfl
              have hkf2 : ((kindU true).toNat : Int) = 119 := rfl
              have hnb : l.segs.length ≤ 1000000 := by have := HB.out.n; omega
              have u2 : w8.cell? ⟨bl, 2, none⟩ = some (.slice sA l.segs.length sc) := by
                have := HX8.out.ld.lm.blk.cell 2
                rw [← HSV.out]
                exact this
              have HSG2 := Lib.hid (show segs1 = l.segs.map (fun s => { s with last := first }) by rw [HSG1.out, if_pos rfl])
              have HL1S := Lib.hid (show l1.segs = l.segs by rw [HL1.out])
              go_wp2_with fail
              go_loopw [107, 17] (fun i _ wr => ∃ k : Nat, k ≤ l.segs.length ∧ i = .int .i64 k ∧ LX w wr bl bd S R sv rv { l1 with segs := (l.segs.take k).map (fun s => { s with last := first }) ++ l.segs.drop k } d8 S8 R sv rv vs ∧ Blk wr w.heap.size 89 (hdC (numOf l.segs) (aheadOf l.segs) first next)) (fun i _ _ => l.segs.length - (intOf i).toNat)
              case atStart =>
                refine ⟨0, Nat.zero_le _, rfl, ?_, HH8.out⟩
                have : ({ l1 with segs := (l.segs.take 0).map (fun s => { s with last := first }) ++ l.segs.drop 0 } : Lg) = l1 := by rw [HL1.out]; rfl
                rw [this]
                exact HX8.out
              case round =>
                obtain ⟨k, hk, rfl, hx, hh⟩ := hrel
                have HXK := Lib.hid hx; have HHK := Lib.hid hh
                clear hx hh
                by_cases hlt : k < l.segs.length
                · obtain ⟨s, hsk⟩ : ∃ s, l.segs[k]? = some s := ⟨_, List.getElem?_eq_getElem hlt⟩
                  obtain ⟨g, o, rfl⟩ : ∃ g o, sA = some ⟨g, o * 8, none⟩ := by
                    rcases hsA with ⟨_, h2, _⟩ | ⟨g, o, e⟩
                    · omega
                    · exact ⟨g, _, e⟩
                  obtain ⟨LK, hLK⟩ : ∃ LK, LK = (l.segs.take k).map (fun s => ({ s with last := first } : Seg)) ++ l.segs.drop k := ⟨_, rfl⟩
                  have hLl : LK.length = l.segs.length := by rw [hLK, List.length_append, List.length_map, List.length_take, List.length_drop]; omega
                  have hLs : LK[k]? = some s := by
                    rw [hLK, List.getElem?_append_right (by rw [List.length_map, List.length_take]; omega), List.length_map, List.length_take, List.getElem?_drop, show k + (k - min k l.segs.length) = k by omega]
                    exact hsk
                  have hLn : LK.set k { s with last := first } = (l.segs.take (k + 1)).map (fun s => ({ s with last := first } : Seg)) ++ l.segs.drop (k + 1) := by
                    rw [hLK, List.set_append, if_neg (by rw [List.length_map, List.length_take]; omega), List.length_map, List.length_take, show k - min k l.segs.length = 0 by omega, List.take_add_one, hsk, List.map_append, List.append_assoc]
                    congr 1
                    obtain ⟨hi, e⟩ := List.getElem?_eq_some_iff.1 hsk
                    rw [List.drop_eq_getElem_cons hi]
                    rfl
                  rw [← hLK] at HXK
                  have hxk := HXK.out
                  rw [HSV.out] at hxk
                  have HX1K := Lib.hid hxk
                  have hsg := hxk.ld.lm.segs
                  dsimp only at hsg
                  have v2 : wr.cell? ⟨bl, 2, none⟩ = some (.slice (some ⟨g, o * 8, none⟩) l.segs.length sc) := hxk.ld.lm.blk.cell 2
                  have h2 : wr.cell? ⟨w.heap.size, 2, none⟩ = some (.int .i64 (first : Int)) := HHK.out.cell 2
                  have g7c : wr.cell? ⟨g, o * 8 + k * 8 + 7, none⟩ = some (.int .i64 (s.last : Int)) := by
                    rw [hLl] at hsg
                    rw [Nat.add_assoc, hsg.cell (j := k * 8 + 7) (by omega), segsC_get _ _ hLs (by omega)]
                    rfl
                  have g7f : wr.frozen? ⟨g, o * 8 + k * 8 + 7, none⟩ = false := by
                    rw [hLl] at hsg
                    exact hsg.frozen _
                  have hgb : ¬ g = bl := fun e => hxk.ld.lm.segs.ne_blk hxk.ld.lm.blk (by decide) (by rw [← e]; rfl)
                  have hgh : ¬ g = w.heap.size := fun e => by have := HLT.out g (.inr (.inl (by rw [HSV.out]; rfl))); omega
                  have hki : (k : Int) < (l.segs.length : Int) := by omega
                  have HLS := Lib.hid hLs; have HLN := Lib.hid hLn
                  clear hxk hsg hLs hLn hLl hLK hsk hsA
                  go_wp2_with fail
                  go_region_held3 (fun W => W.cell? ⟨bl, 2, none⟩ = some (.slice (some ⟨g, o * 8, none⟩) l.segs.length sc) ∧ W.cell? ⟨w.heap.size, 2, none⟩ = some (.int .i64 (first : Int))) (go_keep) (first | fail)
                  go_wp2_with fail
                  go_roundw
                  case rel =>
                    refine ⟨k + 1, by omega, by go_num, ?_, ?_⟩
                    · have hx := (HX1K.out.seg (k := k) (j := 7) (s := s) (s' := { s with last := first }) (u := .int .i64 (first : Int)) HLS.out (by omega) rfl rfl).fresh ((Touch.refl _ _).drew)
                      dsimp only at hx
                      rw [HLN.out, ← Nat.add_assoc] at hx
                      rw [HSV.out]
                      exact hx
                    · exact HHK.out.touch (((Touch.refl (· = g) wr).setCell (p := ⟨g, o * 8 + k * 8 + 7, none⟩) (.inr rfl) _).drew) (fun e => hgh e.symm)
                  case measure => simp [intOf] <;> omega
                · obtain rfl : k = l.segs.length := by omega
                  rw [List.take_length, List.drop_length, List.append_nil, ← HSG2.out] at HXK
                  go_wp2_with fail
                  go_meet
                  case rel => exact ⟨HXK.out, HHK.out⟩
          case rest =>
            obtain ⟨hx9, hh9⟩ := hcut
            have HX9 := Lib.hid hx9; have HH9 := Lib.hid hh9
            have hlm9 := hx9.ld.lm
            have KN := Lib.hid (show Calls Tryz.prog 32 #[.pointer (some ⟨bl, 0, none⟩)] wc.drew fun e w' => Fresh wc w' ∧ e = .returned (.int .i64 (l.c.next : Int)) from by
              refine (next_any (hlm9.fresh ((Touch.refl _ _).drew)) (by dsimp only; rw [HL1.out]; exact HB.out.lnext)).mono ?_
              rintro e w' ⟨rfl, q2, rfl⟩
              exact ⟨((Touch.refl _ _).drew).drewN q2, by dsimp only; rw [HL1.out]⟩)
            have v2 : wc.cell? ⟨bl, 2, none⟩ = some (.slice sA l.segs.length sc) := by rw [← HSV.out]; exact hlm9.blk.cell 2
            have v0 := hh9.cell 0
            have v1 := hh9.cell 1
            have v3 := hh9.cell 3
            have v4 := hh9.cell 2
            simp only [hdC, List.getElem?_toArray, List.getElem?_cons_zero, List.getElem?_cons_succ] at v0 v1 v3 v4
            have hF2 := hlm9.blk.frozen 2
            clear hx9 hh9 hlm9
            have hnb : l.segs.length ≤ 1000000 := by have := HB.out.n; omega
            go_upto_region 24 with fail
            have HR11 := Lib.hid (show ∀ (w10 : World) (o : Obj) (w11 : World), Fresh wc w10 → (w10.alloc o).grownBy w11 (Value.slice sA l.segs.length sc).ownBlock → (w11.cell? ⟨w.heap.size, 0, none⟩ = some (.int .i64 (numOf l.segs : Int)) ∧ w11.cell? ⟨w.heap.size, 1, none⟩ = some (.int .i64 (aheadOf l.segs : Int)) ∧ w11.cell? ⟨w.heap.size, 2, none⟩ = some (.int .i64 (first : Int)) ∧ w11.cell? ⟨w.heap.size, 3, none⟩ = some (.int .i64 (next : Int))) ∧ w11.cell? ⟨bl, 2, none⟩ = some (.slice sA l.segs.length sc) ∧ w11.frozen? ⟨bl, 2, none⟩ = false ∧ w11.cell? ⟨bl, 5, none⟩ = some (.bool l1.failed) ∧ w11.cell? ⟨bl, 6, none⟩ = some (.bool l1.dirty) ∧ w11.frozen? ⟨bl, 5, none⟩ = false ∧ w11.frozen? ⟨bl, 6, none⟩ = false from fun w10 o w11 hf g => by
              rw [← HSV.out] at g ⊢
              have h1 := ((HH9.out.touch hf id).alloc o).grown g fun e => HX9.out.ld.lm.segs.ne_blk HH9.out (by decide) e.symm
              have h2 := ((HX9.out.ld.lm.blk.touch hf id).alloc o).grown g fun e => HX9.out.ld.lm.segs.ne_blk HX9.out.ld.lm.blk (by decide) e.symm
              exact ⟨⟨h1.cell 0, h1.cell 1, h1.cell 2, h1.cell 3⟩, h2.cell 2, h2.frozen 2, h2.cell 5, h2.cell 6, h2.frozen 5, h2.frozen 6⟩)
            have hHB9 : ∀ W, Fresh wc W → W.cell? ⟨w.heap.size, 0, none⟩ = some (.int .i64 (numOf l.segs : Int)) ∧ W.cell? ⟨w.heap.size, 1, none⟩ = some (.int .i64 (aheadOf l.segs : Int)) ∧ W.cell? ⟨w.heap.size, 2, none⟩ = some (.int .i64 (first : Int)) ∧ W.cell? ⟨w.heap.size, 3, none⟩ = some (.int .i64 (next : Int)) := fun W hW => ⟨hW.cell v0 id, hW.cell v1 id, hW.cell v4 id, hW.cell v3 id⟩
            have HHB9 := Lib.hid hHB9
            clear hHB9
            have hs1l : segs1.length = l.segs.length := by
              rw [HSG1.out]
              split
              · rw [List.length_map]
              · rfl
            have HS1L := Lib.hid hs1l
            have hbne : ¬ bl = w.heap.size := hhne
            clear hs1l
            go_cut [] from 120 to 135 (fun w12 => BegSn wc w12 bl sA l.segs.length sc segs1 (⟨numOf l.segs, aheadOf l.segs, first, next, false, fr, hd.length + m, l.c.next⟩ : Seg))
            case first =>
              go_region_law (first
                  | (refine step_ow_src _ rfl _ _ 83 83 rfl 91 (.agg #[.int .i64 0, .int .i64 0, .int .i64 0, .int .i64 0, .bool false, .int .i64 0, .int .i64 0, .int .i64 0]) 8 64 Tryz.info91 Tryz.underlying83 rfl (.slice sA l.segs.length sc) l.segs.length (segsC segs1) rfl (by have := ((HX9.out.ld.lm.segs.fresh HF10.out).alloc (.cells (segC (⟨numOf l.segs, aheadOf l.segs, first, next, false, fr, hd.length + m, l.c.next⟩ : Seg)).toArray 91)); dsimp only at this; rw [HSV.out, HS1L.out] at this; exact this) (segsC_one _) (.slice (some ⟨w10.heap.size, 0, none⟩) 1 1) 1 (segC (⟨numOf l.segs, aheadOf l.segs, first, next, false, fr, hd.length + m, l.c.next⟩ : Seg)) rfl (by exact seg_new w10 (⟨numOf l.segs, aheadOf l.segs, first, next, false, fr, hd.length + m, l.c.next⟩ : Seg)) (by unfold maxLen; omega) (by omega) ?_; intro B11 c11 w11 o11 g11 b11; have hw11 := HR11.out w10 _ w11 HF10.out g11; have k11 := hw11.1; have y2 := hw11.2.1; have yf := hw11.2.2.1; have y5 := hw11.2.2.2.1; have y6 := hw11.2.2.2.2.1; have yf5 := hw11.2.2.2.2.2.1; have yf6 := hw11.2.2.2.2.2.2; clear hw11; have HO11 := Lib.hid o11; have HG11 := Lib.hid g11; have HB11 := Lib.hid b11; clear o11 g11 b11)
                  | (go_simp; go_at_call 32; refine KN.out.mono ?_; rintro e w10 ⟨hf10, rfl⟩; have k10 := HHB9.out w10 hf10; have y10 := hf10.cell v2 id; have ya : ∀ o, (w10.alloc o).cell? ⟨bl, 2, none⟩ = some (.slice sA l.segs.length sc) := fun o => (hf10.alloc o).cell v2 id; have HF10 := Lib.hid hf10; clear hf10))
              all_goals
                go_wp2_with fail
                go_meet
                case rel => exact ⟨_, _, w10, w11, _, HF10.out, HO11.out, HG11.out, HB11.out, rfl⟩
            case rest =>
              obtain ⟨B11, c11, w10, w11, o11, hf10, ho11, hg11, hb11, rfl⟩ := hcut
              have hw11 := HR11.out w10 o11 w11 hf10 hg11
              have y5 := hw11.2.2.2.1
              have y6 := hw11.2.2.2.2.1
              have yf5 := hw11.2.2.2.2.2.1
              have yf6 := hw11.2.2.2.2.2.2
              have HF10 := Lib.hid hf10; have HO11 := Lib.hid ho11; have HG11 := Lib.hid hg11; have HB11 := Lib.hid hb11
              clear hw11 hf10 ho11 hg11 hb11
              go_wp2_with fail
              go_ret
              exact beg_end HST.out HDEL.out HFR.out HHB.out HNU.out HAH.out HD8.out HW.out HL1.out HSG1.out HX9.out HSV.out HS1L.out HF10.out HO11.out HG11.out HB11.out HAL.out
        · have HW := Lib.hid hw
          have hw2 : ¬ (layP d' (fr : Int) (hd ++ xs)).2 = 0 := hw
          have HLP := Lib.hid (show layP d' (fr : Int) (hd ++ xs) = (d8, (layP d' (fr : Int) (hd ++ xs)).2) by rw [HD8.out])
          clear hw
          generalize (layP d' (fr : Int) (hd ++ xs)).2 = y at *
          go_wp2_with fail
          refine KL.out.mono ?_
          rintro e w8 ⟨rfl, ht8, hd8⟩
          have HG8 := Lib.hid (HLY.out w8 ht8 hd8)
          clear ht8 hd8 KL
          go_wp2_with fail
          go_ret
          have hbp := begin_lay (l := l) (whole := whole) (first := first) (next := next) (xs := xs) (d := d) (d8 := d8) (y := y) (by rw [← HST.out]; exact HDEL.out) (by rw [← HFR.out, ← HNU.out, ← HAH.out, HHB.out]; exact HLP.out) hw2
          unfold BegEnd begL
          rw [hbp]
          dsimp only
          rw [if_neg hw2, ← HL1.out]
          exact ⟨rfl, _, _, _, _, _, HG8.out.1⟩
end
end Go.Proofs.YtlcmnihpfpmajaaGreat
