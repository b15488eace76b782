/- The wal claims' texts, several in one: Cod. Conditions stand with each theorem. -/
import Derived.Test.YtlcmnihpfpmajaaGreatZa13
import Derived.Test.YtlcmnihpfpmajaaGreatZa14
import Derived.Test.YtlcmnihpfpmajaaGreatZa15
import Derived.Laws.BitsAllLaws
import Derived.Lib.SlBytesRow
import Derived.Deep.MidRow
/- The contracts of codec.Sum, codec.Frame, codec.Unframe and bytes.Clone. Conditions stand with each. -/
namespace Go.Proofs.YtlcmnihpfpmajaaGreat
open Go.RowKit

theorem xor_u32 (a b : Nat) (ha : a < 4294967296) (hb : b < 4294967296) : bits .xor .u32 (a : Int) (b : Int) = ((a ^^^ b : Nat) : Int) := u32_xor_nat a b ha hb

set_option maxRecDepth 100000 in
set_option maxHeartbeats 4000000 in
/-- codec.Sum. -/
theorem sum_any (A : Option Addr) (n c : Nat) (xs : List UInt8) (w : World) (h : Bs w A n c xs) :
    Calls Tryz.prog 65 #[.slice A n c] w fun e w' => w' = w ∧ e = .returned (.int .u32 (Enc.sum xs : Nat)) := by
  have hm := h.2.2.1
  have hnc := h.2.1
  unfold maxLen at hm
  have hxl := h.1
  have H := Lib.hid h
  clear h
  go_enter Tryz.func65, Tryz.ntmps65
  go_wp2_with fail
  go_loop [3, 8] (fun s i => ∃ j : Nat, j ≤ n ∧ i = .int .i64 j ∧ s = .int .u32 (Enc.crcRun (xs.take j) : Nat)) (fun _ i => n - (intOf i).toNat)
  case atStart => exact ⟨0, by omega, rfl, rfl⟩
  case round =>
    obtain ⟨j, hj, rfl, rfl⟩ := hrel
    by_cases hlt : j < n
    · obtain ⟨b, o, rfl⟩ := H.out.at_ (by omega)
      have hcell := H.out.cellAt hlt
      have hsl := Enc.crcRun_lt (xs.take j)
      have hstep := Enc.crcRun_take xs j (by omega)
      have hxj : xs.getD j 0 = xs[j]'(by omega) := by simp [List.getD_eq_getElem?_getD, List.getElem?_eq_getElem (show j < xs.length by omega)]
      rw [hxj] at hcell
      obtain ⟨x, hx⟩ : ∃ x, x = xs[j]'(by omega) := ⟨_, rfl⟩
      rw [← hx] at hcell hstep
      obtain ⟨s, hs⟩ : ∃ s, s = Enc.crcRun (xs.take j) := ⟨_, rfl⟩
      rw [← hs] at hsl hstep ⊢
      have HS := Lib.hid hstep
      have hxb := x.toNat_lt
      have hxor := xor_u32 s x.toNat hsl (by omega)
      have hxl := Enc.crcXor_lt hsl x
      clear hx hxj hs hstep
      go_wp2_with fail
      have hbits : ∀ k, Enc.crcBits k (s ^^^ x.toNat) < 4294967296 := fun k => Enc.crcBits_lt hxl k
      have HBITS := Lib.hid hbits
      clear hbits
      go_loop [3, 16] (fun s' i => ∃ k : Nat, k ≤ 8 ∧ i = .int .i64 k ∧ s' = .int .u32 (Enc.crcBits k (s ^^^ x.toNat) : Nat)) (fun _ i => 8 - (intOf i).toNat)
      case atStart => exact ⟨0, by omega, rfl, rfl⟩
      case round =>
        obtain ⟨k, hk, rfl, rfl⟩ := hrel
        by_cases hk8 : k < 8
        · have hb1 := HBITS.out k
          have hstep : Enc.crcBits (k + 1) (s ^^^ x.toNat) = Enc.crcBits k (s ^^^ x.toNat) / 2 ^^^ (3988292384 * (Enc.crcBits k (s ^^^ x.toNat) % 2)) := rfl
          obtain ⟨t, ht⟩ : ∃ t, t = Enc.crcBits k (s ^^^ x.toNat) := ⟨_, rfl⟩
          rw [← ht] at hb1 hstep ⊢
          have HSTEP := Lib.hid hstep
          clear ht hstep
          have hand : bits .and .u32 (t : Int) 1 = ((t % 2 : Nat) : Int) := by
            rw [show (1 : Int) = ((1 : Nat) : Int) from rfl, u32_and_nat t 1 hb1 (by omega), nat_mask1]
          have hwr : IntKind.u32.wrap (3988292384 * ((t % 2 : Nat) : Int)) = ((3988292384 * (t % 2) : Nat) : Int) := by rw [IntKind.wrap_u32']; omega
          have hxo : bits .xor .u32 ((t : Int) / 2) ((3988292384 * (t % 2) : Nat) : Int) = ((t / 2 ^^^ (3988292384 * (t % 2)) : Nat) : Int) := by
            rw [show (t : Int) / 2 = ((t / 2 : Nat) : Int) from by omega]
            exact u32_xor_nat (t / 2) (3988292384 * (t % 2)) (by omega) (by omega)
          go_wp2_with fail
          refine ⟨⟨k + 1, by omega, by simp, ?_⟩, by simp [intOf] <;> omega⟩
          rw [HSTEP.out, ← hxo, Int.natCast_mul, Int.natCast_emod]
          rfl
        · have : k = 8 := by omega
          subst this
          go_wp2_with fail
          refine ⟨⟨j + 1, by omega, by simp, ?_⟩, by simp [intOf] <;> omega⟩
          rw [HS.out]
          rfl
    · have : j = n := by omega
      subst this
      have hs := Enc.crcRun_lt (xs.take j)
      have hall : xs.take j = xs := List.take_of_length_le (by omega)
      rw [hall] at hs
      have hnot : bits .xor .u32 IntKind.u32.max (Enc.crcRun xs : Int) = ((4294967295 ^^^ Enc.crcRun xs : Nat) : Int) := by
        rw [show IntKind.u32.max = ((4294967295 : Nat) : Int) from by decide]
        exact u32_xor_nat _ _ (by omega) hs
      obtain ⟨s, hsE⟩ : ∃ s, s = Enc.crcRun xs := ⟨_, rfl⟩
      rw [hall]
      have hsum : Enc.sum xs = 4294967295 ^^^ s := by rw [hsE]; rfl
      rw [← hsE] at hnot ⊢
      have HSUM := Lib.hid hsum
      have HNOT := Lib.hid hnot
      clear hsum hsE hall hnot
      go_wp2_with fail
      go_ret
      exact ⟨rfl, by rw [HSUM.out, HNOT.out]; rfl⟩


theorem four_cells (n : Nat) (h : n < 4294967296) : [Value.int .u8 ((n : Int) / 16777216), .int .u8 ((n : Int) / 65536 % 256), .int .u8 ((n : Int) / 256 % 256), .int .u8 ((n : Int) % 256)] = u8s (Enc.four n) := by
  simp [u8s, Enc.four]
  omega

set_option maxRecDepth 20000 in
theorem four_any (n : Nat) (w : World) (h : n < 4294967296) :
    Calls Tryz.prog 78 #[.int .u32 n] w fun e w' => Fresh w w' ∧ w'.heap.size = w.heap.size + 1 ∧ e = .returned (.slice (some ⟨w.heap.size, 0, none⟩) 4 4) ∧ Row w' (.slice (some ⟨w.heap.size, 0, none⟩) 4 4) (Enc.four n) := by
  go_enter Tryz.func78, Tryz.ntmps78
  go_wp2_with fail
  go_ret
  exact ⟨(Touch.refl _ w).alloc _, by simp, rfl, Row.lit (Enc.four n) #[.int .u8 ((n : Int) / 16777216), .int .u8 ((n : Int) / 65536 % 256), .int .u8 ((n : Int) / 256 % 256), .int .u8 ((n : Int) % 256)] (four_cells n h) (by rw [Enc.four_length]; omega)⟩

theorem or4 (x0 x1 x2 x3 : Nat) (h0 : x0 < 2 ^ 8) (h1 : x1 < 2 ^ 8) (h2 : x2 < 2 ^ 8) (h3 : x3 < 2 ^ 8) :
    bits .or .u32 (bits .or .u32 (bits .or .u32 ((x0 : Int) * 16777216) ((x1 : Int) * 65536)) ((x2 : Int) * 256)) (x3 : Int) = ((x0 * 16777216 + x1 * 65536 + x2 * 256 + x3 : Nat) : Int) := by
  have e1 : x0 * 16777216 ||| x1 * 65536 = x0 * 16777216 + x1 * 65536 := by
    have := Nat.shiftLeft_add_eq_or_of_lt (b := x1 * 65536) (i := 24) (by omega) x0
    rw [Nat.shiftLeft_eq, show (2 : Nat) ^ 24 = 16777216 from rfl] at this
    exact this.symm
  have e2 : (x0 * 16777216 + x1 * 65536) ||| x2 * 256 = x0 * 16777216 + x1 * 65536 + x2 * 256 := by
    have := Nat.shiftLeft_add_eq_or_of_lt (b := x2 * 256) (i := 16) (by omega) (x0 * 256 + x1)
    rw [Nat.shiftLeft_eq, show (2 : Nat) ^ 16 = 65536 from rfl, show (x0 * 256 + x1) * 65536 = x0 * 16777216 + x1 * 65536 by simp only [Nat.add_mul, Nat.mul_assoc, Nat.reduceMul]] at this
    exact this.symm
  have e3 : (x0 * 16777216 + x1 * 65536 + x2 * 256) ||| x3 = x0 * 16777216 + x1 * 65536 + x2 * 256 + x3 := by
    have := Nat.shiftLeft_add_eq_or_of_lt (b := x3) (i := 8) (by omega) (x0 * 65536 + x1 * 256 + x2)
    rw [Nat.shiftLeft_eq, show (2 : Nat) ^ 8 = 256 from rfl, show (x0 * 65536 + x1 * 256 + x2) * 256 = x0 * 16777216 + x1 * 65536 + x2 * 256 by simp only [Nat.add_mul, Nat.mul_assoc, Nat.reduceMul]] at this
    exact this.symm
  rw [show (x0 : Int) * 16777216 = ((x0 * 16777216 : Nat) : Int) by simp, show (x1 : Int) * 65536 = ((x1 * 65536 : Nat) : Int) by simp, show (x2 : Int) * 256 = ((x2 * 256 : Nat) : Int) by simp]
  rw [u32_or_nat _ _ (by omega) (by omega), e1, u32_or_nat _ _ (by omega) (by omega), e2, u32_or_nat _ _ (by omega) (by omega), e3]

set_option maxRecDepth 20000 in
theorem unfour_any (A : Option Addr) (n c : Nat) (xs : List UInt8) (w : World) (hb : Bs w A n c xs) (h4 : 4 ≤ n) :
    Calls Tryz.prog 98 #[.slice A n c] w fun e w' => (∃ k, w' = w.drewN k) ∧ e = .returned (.int .u32 (Enc.unfour xs : Nat)) := by
  obtain ⟨b, o, rfl⟩ := hb.at_ (by omega)
  have hc0 : w.cell? ⟨b, o, none⟩ = some (.int .u8 ((xs.getD 0 0).toNat : Int)) := hb.cellAt (j := 0) (by omega)
  have hc1 := hb.cellAt (j := 1) (by omega)
  have hc2 := hb.cellAt (j := 2) (by omega)
  have hc3 := hb.cellAt (j := 3) (by omega)
  have hx0 := (xs.getD 0 0).toNat_lt
  have hx1 := (xs.getD 1 0).toNat_lt
  have hx2 := (xs.getD 2 0).toNat_lt
  have hx3 := (xs.getD 3 0).toNat_lt
  have hu : Enc.unfour xs = (xs.getD 0 0).toNat * 16777216 + (xs.getD 1 0).toNat * 65536 + (xs.getD 2 0).toNat * 256 + (xs.getD 3 0).toNat := rfl
  generalize (xs.getD 0 0).toNat = x0 at *
  generalize (xs.getD 1 0).toNat = x1 at *
  generalize (xs.getD 2 0).toNat = x2 at *
  generalize (xs.getD 3 0).toNat = x3 at *
  have HU := Lib.hid hu
  have hn0 : (0 : Int) < (n : Int) := by omega
  have hnn : 0 < n := by omega
  have hn1 : (1 : Int) < (n : Int) := by omega
  have hn2 : (2 : Int) < (n : Int) := by omega
  have hn3 : (3 : Int) < (n : Int) := by omega
  clear hu hb
  go_enter Tryz.func98, Tryz.ntmps98
  go_wp2_with fail
  go_quiet (fail)
  go_wp2_with fail
  go_ret
  refine ⟨⟨nq, rfl⟩, ?_⟩
  have := or4 x0 x1 x2 x3 hx0 hx1 hx2 hx3
  rw [HU.out, ← this]
  rfl

theorem Bs.drop_ {w : World} {b o n c : Nat} {xs : List UInt8} (h : Bs w (some ⟨b, o, none⟩) n c xs) {k : Nat} (hk : k ≤ n) : Bs w (some ⟨b, o + k, none⟩) (n - k) (c - k) (xs.drop k) := by
  refine ⟨by rw [List.length_drop, h.1], by have := h.2.1; omega, by have := h.2.2.1; omega, fun h0 => ⟨b, o + k, rfl, fun j x hx => ?_⟩⟩
  rw [List.getElem?_drop] at hx
  obtain ⟨b', o', e, hc⟩ := h.2.2.2 (by omega)
  injection e with e
  injection e with e1 e2
  subst e1 e2
  have := hc _ x hx
  rwa [← Nat.add_assoc] at this
/-- bytes in a block of the call's own that can be read and written -/
def Fb (w : World) (g cap : Nat) (l : List UInt8) : Prop := (∀ i x, l[i]? = some x → w.cell? ⟨g, i, none⟩ = some (.int .u8 (x.toNat : Int))) ∧ w.there g 0 cap ∧ l.length ≤ cap ∧ cap ≤ maxLen
theorem Fb.bs {w : World} {g cap : Nat} {l : List UInt8} (h : Fb w g cap l) : Bs w (some ⟨g, 0, none⟩) l.length cap l :=
  ⟨rfl, h.2.2.1, h.2.2.2, fun _ => ⟨g, 0, rfl, fun j x hx => by rw [Nat.zero_add]; exact h.1 j x hx⟩⟩
theorem fb_fresh {w : World} {B : Nat} {v : Value} {l : List UInt8} (h : Lib.FreshBytes B w v l) : ∃ g cap, v = .slice (some ⟨g, 0, none⟩) l.length cap ∧ B ≤ g ∧ Fb w g cap l := by
  obtain ⟨g, cap, zs, hv, hB, hl, hm, hz, hr, hb, hc, hf⟩ := h
  refine ⟨g, cap, hv, hB, fun i x hx => ?_, fun i hi => ⟨by rw [Nat.zero_add, hc i hi]; rfl, by rw [Nat.zero_add]; exact hf i hi⟩, hl, hm⟩
  have hi : i < l.length := (List.getElem?_eq_some_iff.1 hx).1
  rw [hc i (by omega)]
  rw [← hb, Lib.bytesOf, List.getElem?_map, List.getElem?_take, if_pos hi, List.getElem?_eq_getElem (by omega)] at hx
  simp only [Option.map_some, Option.some.injEq] at hx
  have hin := hr _ (List.getElem_mem (show i < zs.length by omega))
  rw [List.getD_eq_getElem?_getD, List.getElem?_eq_getElem (by omega), ← hx]
  simp only [Option.getD_some, UInt8.toNat_ofNat']
  congr 2
  omega
theorem holds_bs {w : World} {A : Option Addr} {c : Nat} {xs : List UInt8} (h : Bs w A xs.length c xs) : Lib.HoldsBytes w (.slice A xs.length c) xs := by
  by_cases h0 : xs = []
  · subst h0
    exact ⟨A, c, rfl, fun _ => rfl, fun a _ i x hx => by simp at hx⟩
  · obtain ⟨b, o, e, hc⟩ := h.2.2.2 (List.length_pos_iff.2 h0)
    refine ⟨A, c, rfl, (fun e' => by rw [e'] at e; cases e), fun a ha i x hx => ?_⟩
    rw [e] at ha
    injection ha with ha
    subst ha
    rw [add_flat]
    exact hc i x hx

set_option maxRecDepth 20000 in
set_option maxHeartbeats 2000000 in
theorem frame_any (A : Option Addr) (n c : Nat) (xs : List UInt8) (w : World) (h : Bs w A n c xs) (hb : n ≤ 1000000000) :
    Calls Tryz.prog 62 #[.slice A n c] w fun e w' => Fresh w w' ∧ ∃ g cap, e = .returned (.slice (some ⟨g, 0, none⟩) (n + 8) cap) ∧ w.heap.size ≤ g ∧ Fb w' g cap (Enc.frame xs) := by
  obtain rfl := h.1
  have hsl := Enc.sum_lt xs
  have hcv : IntKind.u32.wrap (xs.length : Int) = (xs.length : Int) := by rw [IntKind.wrap_u32']; omega
  have H := Lib.hid h
  have HS := Lib.hid hsl
  clear h hsl
  go_enter Tryz.func62, Tryz.ntmps62
  go_wp2_with fail
  refine (four_any xs.length w (by omega)).mono ?_
  rintro e w1 ⟨hf1, hs1, rfl, hr1⟩
  have hb1 := H.out.fresh hf1
  have HF1 := Lib.hid hf1; have HR1 := Lib.hid hr1; have HB1 := Lib.hid hb1; have HSZ := Lib.hid hs1
  clear hf1 hr1 hb1 hs1
  go_wp2_with fail
  refine (sum_any A xs.length c xs w1 HB1.out).mono ?_
  rintro e w2 ⟨rfl, rfl⟩
  go_wp2_with fail
  refine (four_any (Enc.sum xs) w2 HS.out).mono ?_
  rintro e w3 ⟨hf3, hs3, rfl, hr3⟩
  have HF3 := Lib.hid hf3; have HR3 := Lib.hid hr3
  have HP : Hid (Lib.PartsAt (w3.alloc (.cells #[.slice (some ⟨w.heap.size, 0, none⟩) 4 4, .slice (some ⟨w2.heap.size, 0, none⟩) 4 4, .slice A xs.length c] 26)) ⟨w3.heap.size, 0, none⟩ [.slice (some ⟨w.heap.size, 0, none⟩) 4 4, .slice (some ⟨w2.heap.size, 0, none⟩) 4 4, .slice A xs.length c] [Enc.four xs.length, Enc.four (Enc.sum xs), xs]) := by
    refine Lib.hid ⟨rfl, fun i v hv => ?_, fun i v l hv hl => ?_⟩
    · rw [add_flat, Nat.zero_add, (Blk.new w3 _ _).cell i]
      simpa using hv
    · match i, hv, hl with
      | 0, hv, hl =>
        simp at hv hl
        subst hv hl
        exact holds_bs (xs := Enc.four xs.length) (Row.bs ((HR1.out.touch HF3.out (fun _ _ => id)).alloc _))
      | 1, hv, hl =>
        simp at hv hl
        subst hv hl
        exact holds_bs (xs := Enc.four (Enc.sum xs)) (Row.bs (HR3.out.alloc _))
      | 2, hv, hl =>
        simp at hv hl
        subst hv hl
        exact holds_bs ((HB1.out.fresh HF3.out).alloc _)
      | i + 3, hv, hl => simp at hv
  have HJ := Lib.hid (Tryz.bytes_Join_many w3.heap.size 0 3 3 _ _ (.slice none 0 0) [] _ rfl (by omega) HP.out (Nat.le_refl _) ⟨none, 0, rfl, fun _ => rfl, fun a ha => by cases ha⟩ (by omega) (by simp [Lib.lens, Enc.four_length]; omega))
  clear hf3 hr3 hs3 HP
  go_wp2_with fail
  refine HJ.out.mono ?_
  rintro e w4 ⟨v', rfl, hfb, hbel⟩
  obtain ⟨g, cap, rfl, hg, hfb⟩ := fb_fresh hfb
  have hfr : Lib.join [Enc.four xs.length, Enc.four (Enc.sum xs), xs] [] = Enc.frame xs := by
    unfold Lib.join Enc.frame
    simp [List.intercalate, List.intersperse]
  rw [hfr] at hfb ⊢
  have hT : Fresh w w4 := ((HF1.out.trans HF3.out (fun _ _ h => h)).alloc _).trans (Touch.ofBelow hbel _) (fun _ _ h => h)
  have hlen : (Enc.frame xs).length = xs.length + 8 := by unfold Enc.frame; simp [Enc.four_length]; omega
  rw [hlen]
  have HFB := Lib.hid hfb; have HT := Lib.hid hT
  have hg2 : w.heap.size ≤ g := by have := HF1.out.size; have := HF3.out.size; rw [alloc_size] at hg; omega
  clear hfb hT hbel hfr hlen hg HJ
  go_wp2_with fail
  go_ret
  exact ⟨HT.out, g, cap, rfl, hg2, HFB.out⟩

/-- how Unframe ends -/
def Unf (w w' : World) (e : Ending) : Option (List UInt8 × Nat) → Prop
  | none => e = .returned (.tuple #[.slice none 0 0, .int .i64 0, .int .i64 2])
  | some (p, k) => ∃ B c', e = .returned (.tuple #[.slice B p.length c', .int .i64 (k : Int), .int .i64 0]) ∧ Bs w' B p.length c' p ∧ ∀ a, B = some a → w.heap.size ≤ a.block
def UnfEnd (w : World) (xs : List UInt8) (e : Ending) (w' : World) : Prop := Fresh w w' ∧ Unf w w' e (Enc.unframe xs)
theorem UnfEnd.bad {w w' : World} {xs : List UInt8} (h : Enc.unframe xs = none) (hf : Fresh w w') : UnfEnd w xs (.returned (.tuple #[.slice none 0 0, .int .i64 0, .int .i64 2])) w' := ⟨hf, by rw [h]; exact rfl⟩
theorem UnfEnd.good {w w' : World} {xs p : List UInt8} {k u c' : Nat} {B : Option Addr} (h : Enc.unframe xs = some (p, k)) (hu : p.length = u) (hf : Fresh w w') (hb : Bs w' B u c' p) (hn : ∀ a, B = some a → w.heap.size ≤ a.block) :
    UnfEnd w xs (.returned (.tuple #[.slice B u c', .int .i64 (k : Int), .int .i64 0])) w' := by
  subst hu
  exact ⟨hf, by rw [h]; exact ⟨B, c', rfl, hb, hn⟩⟩

set_option maxRecDepth 20000 in
set_option maxHeartbeats 4000000 in
theorem unframe_any (A : Option Addr) (n c : Nat) (xs : List UInt8) (w : World) (h : Bs w A n c xs) (hb : n ≤ 1000000000) :
    Calls Tryz.prog 81 #[.slice A n c] w (UnfEnd w xs) := by
  have hnc := h.2.1
  have hcm := h.2.2.1
  unfold maxLen at hcm
  have hxl := h.1
  by_cases h8 : n < 8
  · have h8I : (n : Int) < 8 := by omega
    have HU := Lib.hid (show Enc.unframe xs = none by unfold Enc.unframe; rw [if_pos (by omega)])
    clear h
    go_enter Tryz.func81, Tryz.ntmps81
    go_wp2_with fail
    refine bodyPost_ret (v := .tuple #[.slice none 0 0, .int .i64 0, .int .i64 2]) ?_ rfl (UnfEnd.bad HU.out (Touch.refl (fun _ => False) w))
    simp [results, Tryz.results81, go_sem]
  · have h8I : ¬ (n : Int) < 8 := by omega
    obtain ⟨b, o, rfl⟩ := h.at_ (by omega)
    have hul := Enc.unfour_lt xs
    have hdef : Enc.unframe xs = if 1048576 < Enc.unfour xs ∨ n - 8 < Enc.unfour xs then none
        else if Enc.sum ((xs.drop 8).take (Enc.unfour xs)) = Enc.unfour (xs.drop 4) then some ((xs.drop 8).take (Enc.unfour xs), 8 + Enc.unfour xs) else none := by
      unfold Enc.unframe
      rw [if_neg (by omega), hxl]
    have HC := Lib.hid (unfour_any _ n c xs w h (by omega))
    generalize Enc.unfour xs = u at hdef hul HC
    have HD := Lib.hid hdef
    have H := Lib.hid h
    clear h hdef
    go_enter Tryz.func81, Tryz.ntmps81
    go_wp2_with fail
    refine HC.out.mono ?_
    rintro e W1 ⟨⟨k0, hW1⟩, rfl⟩
    have HF := Lib.hid (show Fresh w W1 by rw [hW1]; exact (Touch.refl _ w).drewN k0)
    have HB := Lib.hid (H.out.fresh HF.out)
    clear hW1 HC
    have hcv : IntKind.i64.wrap (u : Int) = (u : Int) := IntWalk.i64_in _ (by omega)
    have hsub : IntKind.i64.wrap ((n : Int) - 8) = (n : Int) - 8 := IntWalk.i64_in _ (by omega)
    by_cases hb1 : 1048576 < u
    · have HD1 := Lib.hid (HD.out.trans (if_pos (.inl hb1)))
      have hb1I : (1048576 : Int) < (u : Int) := by omega
      go_wp2_with fail
      refine bodyPost_ret (v := .tuple #[.slice none 0 0, .int .i64 0, .int .i64 2]) ?_ rfl (UnfEnd.bad HD1.out HF.out)
      simp [results, Tryz.results81, go_sem]
    have hb1I : decide ((1048576 : Int) < (u : Int)) = false := by simp; omega
    by_cases hb2 : n - 8 < u
    · have HD1 := Lib.hid (HD.out.trans (if_pos (.inr hb2)))
      have hb2I : (n : Int) - 8 < (u : Int) := by omega
      go_wp2_with fail
      refine bodyPost_ret (v := .tuple #[.slice none 0 0, .int .i64 0, .int .i64 2]) ?_ rfl (UnfEnd.bad HD1.out HF.out)
      simp [results, Tryz.results81, go_sem]
    have hb2I : ¬ (n : Int) - 8 < (u : Int) := by omega
    have HD1 := Lib.hid (HD.out.trans (if_neg (by omega)))
    have hadd : IntKind.i64.wrap (8 + (u : Int)) = 8 + (u : Int) := IntWalk.i64_in _ (by omega)
    have h4 : Bs W1 (some ⟨b, o + 4, none⟩) (n - 4) (c - 4) (xs.drop 4) := HB.out.drop_ (by omega)
    have hpl : ((xs.drop 8).take u).length = u := by rw [List.length_take, List.length_drop]; omega
    obtain ⟨A8, hA8, h8b⟩ : ∃ A8, A8 = (if c = 8 then some ⟨b, o, none⟩ else some ⟨b, o + 8, none⟩ : Option Addr) ∧ Bs W1 A8 u (c - 8) ((xs.drop 8).take u) := by
      refine ⟨_, rfl, ?_⟩
      by_cases hc8 : c = 8
      · rw [if_pos hc8]
        exact ⟨hpl, by omega, by unfold maxLen; omega, fun h => by omega⟩
      · rw [if_neg hc8]
        exact (HB.out.drop_ (k := 8) (by omega)).take (by omega)
    have HSUM := Lib.hid (fun r => sum_any A8 u (c - 8) _ (W1.drewN r) (h8b.drewN r))
    have HUNF := Lib.hid (fun r => unfour_any _ (n - 4) (c - 4) _ (W1.drewN r) (h4.drewN r) (by omega))
    have HCL := Lib.hid (fun r => clone_any A8 u (c - 8) _ (W1.drewN r) (h8b.drewN r) (by omega))
    generalize Enc.sum ((xs.drop 8).take u) = s at HSUM HD1
    generalize Enc.unfour (xs.drop 4) = v at HUNF HD1
    generalize (xs.drop 8).take u = p at HCL HD1 hpl
    have htn : (8 + (u : Int)).toNat = 8 + u := by omega
    have hun : (8 + (u : Int)) ≤ (c : Int) := by omega
    have h4n : (4 : Int) ≤ (n : Int) := by omega
    have h88 : (8 : Int) ≤ 8 + (u : Int) := by omega
    have HS1 : ∀ r, Calls Tryz.prog 65 #[.slice A8 u (c - 8)] (W1.drewN r) fun e w' => e = .returned (.int .u32 (s : Nat)) ∧ w' = W1.drewN r := fun r => (HSUM.out r).mono fun e w' ⟨h1, h2⟩ => ⟨h2, h1⟩
    have HS2 : ∀ r, Calls Tryz.prog 98 #[.slice (some ⟨b, o + 4, none⟩) (n - 4) (c - 4)] (W1.drewN r) fun e w' => e = .returned (.int .u32 (v : Nat)) ∧ ∃ m, w' = (W1.drewN r).drewN m := fun r => (HUNF.out r).mono fun e w' ⟨⟨k, h1⟩, h2⟩ => ⟨h2, k, h1⟩
    have HT1 := Lib.hid HS1
    have HT2 := Lib.hid HS2
    have HA8 := Lib.hid hA8
    clear HS1 HS2 h8b h4 hA8 HSUM HUNF hb1 hul
    by_cases hc8 : c = 8
    · subst hc8
      obtain rfl : A8 = some ⟨b, o, none⟩ := by rw [HA8.out, if_pos rfl]
      obtain rfl : u = 0 := by omega
      obtain rfl : n = 8 := by omega
      by_cases hsv : s = v
      · have hne : ((s : Int) != (v : Int)) = false := by simp [hsv]
        have HD2 := Lib.hid (HD1.out.trans (if_pos hsv))
        go_wp2_with fail
        go_quiet ((first | (go_at_call 65; exact Calls.quiet_of_same (HT1.out _)) | (go_at_call 98; exact Calls.quiet_of (HT2.out _))))
        go_wp2_with fail
        refine (HCL.out _).mono ?_
        rintro e w9 ⟨hf9, B, c9, rfl, hr9, hn9⟩
        have HB9 := Lib.hid (Row.bs hr9)
        have HF9 := Lib.hid (((HF.out.drewN nq)).trans hf9 (fun _ _ h => h))
        have HN9 := Lib.hid hn9
        clear hf9 hr9 hn9
        go_wp2_with fail
        refine bodyPost_ret (v := .tuple #[.slice B 0 c9, .int .i64 8, .int .i64 0]) ?_ rfl (UnfEnd.good (k := 8) HD2.out hpl HF9.out HB9.out fun a ha => Nat.le_trans HF.out.size (HN9.out a ha))
        simp [results, Tryz.results81, go_sem]
      · have hne : ((s : Int) != (v : Int)) = true := by simp; omega
        have HD2 := Lib.hid (HD1.out.trans (if_neg hsv))
        go_wp2_with fail
        go_quiet ((first | (go_at_call 65; exact Calls.quiet_of_same (HT1.out _)) | (go_at_call 98; exact Calls.quiet_of (HT2.out _))))
        go_wp2_with fail
        refine bodyPost_ret (v := .tuple #[.slice none 0 0, .int .i64 0, .int .i64 2]) ?_ rfl (UnfEnd.bad HD2.out (HF.out.drewN nq))
        simp [results, Tryz.results81, go_sem]
    · obtain rfl : A8 = some ⟨b, o + 8, none⟩ := by rw [HA8.out, if_neg hc8]
      have hc4 : ¬ c = 4 := by omega
      by_cases hsv : s = v
      · have hne : ((s : Int) != (v : Int)) = false := by simp [hsv]
        have HD2 := Lib.hid (HD1.out.trans (if_pos hsv))
        go_wp2_with fail
        go_quiet ((first | (go_at_call 65; exact Calls.quiet_of_same (HT1.out _)) | (go_at_call 98; exact Calls.quiet_of (HT2.out _))))
        go_wp2_with fail
        refine (HCL.out _).mono ?_
        rintro e w9 ⟨hf9, B, c9, rfl, hr9, hn9⟩
        have HB9 := Lib.hid (Row.bs hr9)
        have HF9 := Lib.hid (((HF.out.drewN nq)).trans hf9 (fun _ _ h => h))
        have HN9 := Lib.hid hn9
        clear hf9 hr9 hn9
        go_wp2_with fail
        refine bodyPost_ret (v := .tuple #[.slice B u c9, .int .i64 ((8 + u : Nat) : Int), .int .i64 0]) ?_ rfl (UnfEnd.good HD2.out hpl HF9.out HB9.out fun a ha => Nat.le_trans HF.out.size (HN9.out a ha))
        simp [results, Tryz.results81, go_sem]
      · have hne : ((s : Int) != (v : Int)) = true := by simp; omega
        have HD2 := Lib.hid (HD1.out.trans (if_neg hsv))
        go_wp2_with fail
        go_quiet ((first | (go_at_call 65; exact Calls.quiet_of_same (HT1.out _)) | (go_at_call 98; exact Calls.quiet_of (HT2.out _))))
        go_wp2_with fail
        refine bodyPost_ret (v := .tuple #[.slice none 0 0, .int .i64 0, .int .i64 2]) ?_ rfl (UnfEnd.bad HD2.out (HF.out.drewN nq))
        simp [results, Tryz.results81, go_sem]
end Go.Proofs.YtlcmnihpfpmajaaGreat
