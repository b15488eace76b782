/- The wal claims' texts, several in one: Rdr, Num, Cut, Read, All, Ld. Conditions stand with each theorem. -/
import Derived.Test.YtlcmnihpfpmajaaGreatZa21
import Derived.Deep.RegionHeld
import Derived.Deep.RegionLaw
/- kept, the reader's next. Conditions stand with each. -/
namespace Go.Proofs.YtlcmnihpfpmajaaGreat
open Go.RowKit

theorem row_form {w : World} {A : Option Addr} {n c : Nat} {xs : List UInt8} (h : Row w (.slice A n c) xs) : A = none ∨ ∃ g, A = some ⟨g, 0, none⟩ := by
  rcases h.2 with ⟨e, _⟩ | ⟨g, cap, cur, e, _⟩
  · injection e with e; exact .inl e
  · injection e with e; exact .inr ⟨g, e⟩
section
variable {w w' : World} {bl bd : Nat} {R : Nat → Prop} {l : Lg} {sv rv : Value} {vs : List Value}
theorem keptB_eq (d : Dk) (n : Int) : keptB d.fs n = (d.read n).take (d.kept n) := by
  unfold keptB Dk.read Dk.kept
  cases Fl.at_ d.fs n with
  | none => rfl
  | some f => rfl
theorem kept_le {d : Dk} (h : Fl.ok d.fs) (n : Int) : d.kept n ≤ (d.read n).length := by
  unfold Dk.read Dk.kept
  cases hf : Fl.at_ d.fs n with
  | none => exact Nat.zero_le _
  | some f => exact h.le f (Fl.at_mem hf).1
set_option maxRecDepth 20000 in
set_option maxHeartbeats 1000000 in
theorem lkept_any {S : Nat → Prop} {d : Dk} {K : Nat} (h : LM w bl bd R l sv rv vs) (hD : Disk w S bd d) (hs : d.small K) (hK : K ≤ 400000000) (hok : Fl.ok d.fs) {n : Nat} (hn : n < 9223372036854775808) :
    Calls Tryz.prog 66 #[.pointer (some ⟨bl, 0, none⟩), .int .i64 (n : Int)] w fun e w' => Fresh w w' ∧ ∃ A c, e = .returned (.slice A (keptB d.fs n).length c) ∧ Bs w' A (keptB d.fs n).length c (keptB d.fs n) ∧ (A = none ∨ ∃ g, A = some ⟨g, 0, none⟩) ∧ ∀ a, A = some a → w.heap.size ≤ a.block := by
  have hnw := nat_wf hn
  have HB := Lib.hid h.blk
  have HST := Lib.hid (show ∀ W, Fresh w W → Fresh w W ∧ W.cell? ⟨bl, 0, none⟩ = some (.pointer (some ⟨bd, 0, none⟩)) from fun W hW => ⟨hW, (HB.out.touch hW id).cell 0⟩)
  have KR := Lib.hid (show ∀ W, Fresh w W → Calls Tryz.prog 54 #[.pointer (some ⟨bd, 0, none⟩), .int .i64 (n : Int)] W fun e w' => Fresh W w' ∧ ∃ B c, e = .returned (.slice B (d.read n).length c) ∧ Row w' (.slice B (d.read n).length c) (d.read n) ∧ ∀ a, B = some a → W.heap.size ≤ a.block from fun W hW => disk_read (hD.fresh hW) hs (by omega) hnw)
  have KK := Lib.hid (show ∀ W, Fresh w W → Calls Tryz.prog 80 #[.pointer (some ⟨bd, 0, none⟩), .int .i64 (n : Int)] W fun e w' => W = w' ∧ e = .returned (.int .i64 (d.kept n)) from fun W hW => disk_kept (hD.fresh hW) hnw)
  have hle := kept_le hok (n : Int)
  have hrl : (d.read (n : Int)).length ≤ 400000000 := by
    unfold Dk.read
    cases hf : Fl.at_ d.fs (n : Int) with
    | none => simp
    | some f => exact Nat.le_trans (hs.raw f (Fl.at_mem hf).1) hK
  have HE := Lib.hid (keptB_eq d (n : Int))
  have HLE := Lib.hid hle
  clear h hD hs hok
  generalize d.read (n : Int) = rd at *
  generalize d.kept (n : Int) = kp at *
  have hkl : (keptB d.fs n).length = kp := by rw [HE.out, List.length_take]; omega
  rw [hkl]
  have hi : (kp : Int) ≤ (rd.length : Int) := by omega
  clear hkl
  go_enter Tryz.func66, Tryz.ntmps66
  go_upto_region 1 with fail
  go_region_held (fun W => Fresh w W ∧ W.cell? ⟨bl, 0, none⟩ = some (.pointer (some ⟨bd, 0, none⟩)))
    (first | exact HST.out _ ((Touch.refl _ w).drew) | assumption)
    (first
      | (go_at_call 54; refine (KR.out _ (And.left (by assumption))).mono ?_; rintro e w2 ⟨t2, B2, c2, rfl, hr2, hn2⟩; have k2 := HST.out w2 ((And.left (by assumption : Fresh w _ ∧ _)).trans t2 fun _ _ => id); have q2 : kp ≤ c2 := Nat.le_trans HLE.out (Row.bs hr2).2.1; have q3 : (kp : Int) ≤ (c2 : Int) := Int.ofNat_le.2 q2; have HR2 := Lib.hid (Row.bs hr2); have HF2 := Lib.hid (row_form hr2); have HN2 := Lib.hid hn2; clear hr2 hn2)
      | (go_at_call 80; refine (KK.out _ (And.left (by assumption))).mono ?_; rintro e w3 ⟨rfl, rfl⟩))
  have HK2 := Lib.hid k2.1
  clear k2 t2
  go_wp2_with fail
  go_ret
  refine ⟨HK2.out, B2, c2, rfl, ?_, HF2.out, fun a ha => HN2.out a ha⟩
  rw [HE.out]
  exact HR2.out.take HLE.out
end
/-- how the reader's next ends -/
def NextEnd (w : World) (br : Nat) (A : Option Addr) (n c : Nat) (raw : List UInt8) (at_ : Nat) (e : Ending) (w' : World) : Prop :=
  match Enc.unframe (raw.drop at_) with
  | none => e = .returned (.tuple #[.slice none 0 0, .bool false]) ∧ Fresh w w'
  | some (p, k) => ∃ B c', e = .returned (.tuple #[.slice B p.length c', .bool true]) ∧ Touch (· = br) w w' ∧ Blk w' br 119 #[.slice A n c, .int .i64 ((at_ + k : Nat) : Int)] ∧ Bs w' B p.length c' p ∧ ∀ a, B = some a → 0 < p.length → w.heap.size ≤ a.block
set_option maxRecDepth 20000 in
set_option maxHeartbeats 2000000 in
theorem rnext_any {w : World} {br : Nat} {A : Option Addr} {n c : Nat} {raw : List UInt8} {at_ : Nat} (hb : Blk w br 119 #[.slice A n c, .int .i64 (at_ : Int)]) (hr : Bs w A n c raw) (hA : A = none ∨ ∃ b o, A = some ⟨b, o, none⟩) (hat : at_ ≤ n) (hn : n ≤ 400000000) :
    Calls Tryz.prog 67 #[.pointer (some ⟨br, 0, none⟩)] w (NextEnd w br A n c raw at_) := by
  have hnc := hr.2.1
  have hcm := hr.2.2.1
  have hrl := hr.1
  unfold maxLen at hcm
  obtain ⟨A2, hA2, hd⟩ : ∃ A2, A2 = (match A with | some a => if c = at_ then some a else some (a.add at_) | none => none : Option Addr) ∧ Bs w A2 (n - at_) (c - at_) (raw.drop at_) := by
    refine ⟨_, rfl, ?_⟩
    by_cases h0 : n - at_ = 0
    · exact ⟨by rw [List.length_drop]; omega, by omega, by unfold maxLen; omega, fun h => by omega⟩
    · obtain ⟨b, o, rfl⟩ := hr.at_ (by omega)
      dsimp only
      rw [if_neg (by omega), add_flat]
      exact hr.drop_ hat
  have c0 : w.drew.cell? ⟨br, 0, none⟩ = some (.slice A n c) := hb.cell 0
  have c1 : w.drew.cell? ⟨br, 1, none⟩ = some (.int .i64 (at_ : Int)) := hb.cell 1
  have KU := Lib.hid (unframe_any A2 (n - at_) (c - at_) (raw.drop at_) w.drew hd.drew (by omega))
  have HB := Lib.hid hb; have HA2 := Lib.hid hA2
  unfold NextEnd
  generalize raw.drop at_ = rest at *
  have hd1 := hd.1
  have HNIL := Lib.hid (show 0 < n → A ≠ none from fun h => by
    obtain ⟨b, o, e⟩ := hr.at_ h
    rw [e]; simp)
  clear hb hr hd
  have key : ∀ (B2 : Option Addr) (m2 k2 : Nat), B2 = A2 → m2 = n - at_ → k2 = c - at_ → Calls Tryz.prog 81 #[.slice B2 m2 k2] w.drew (UnfEnd w.drew rest) := by
    rintro B2 m2 k2 rfl rfl rfl
    exact KU.out
  have KEY := Lib.hid key
  clear key KU
  have hat2 : (at_ : Int) ≤ (n : Int) := by omega
  have hrest : rest.length = n - at_ := hd1
  cases hu : Enc.unframe rest with
  | none =>
    have HU := Lib.hid hu
    clear hu
    dsimp only
    rcases hA with rfl | ⟨b, o, rfl⟩
    · go_enter Tryz.func67, Tryz.ntmps67
      go_upto_region 1 with fail
      go_region_held (fun W => W.cell? ⟨br, 0, none⟩ = some (.slice none n c) ∧ W.cell? ⟨br, 1, none⟩ = some (.int .i64 (at_ : Int)))
        (first | exact ⟨c0, c1⟩ | assumption)
        (first | (go_at_call 81; refine (KEY.out _ _ _ (by rw [HA2.out]) (by first | rfl | omega) (by first | rfl | omega)).mono ?_; intro e w2 hend; have hend2 := hend; unfold UnfEnd Unf at hend2; rw [HU.out] at hend2; obtain ⟨t2, rfl⟩ := hend2; have k2 : w2.cell? ⟨br, 0, none⟩ = some (.slice none n c) ∧ w2.cell? ⟨br, 1, none⟩ = some (.int .i64 (at_ : Int)) := ⟨t2.cell c0 id, t2.cell c1 id⟩))
      have HT2 := Lib.hid (show Fresh w w2 from (Touch.refl (fun _ => False) w).drew.trans t2 fun _ _ => id)
      clear t2 k2 hend
      go_wp2_with fail
      go_ret2
      exact ⟨rfl, HT2.out⟩
    · by_cases hca : c = at_
      · have hnn : n = at_ := by omega
        subst hnn
        subst hca
        have KE2 := Lib.hid (show ∀ W, W = w.drew → Calls Tryz.prog 81 #[.slice (some ⟨b, o, none⟩) 0 0] W (UnfEnd w.drew rest) from fun W hW => by
          rw [hW]
          exact KEY.out _ _ _ (by rw [HA2.out]; exact (if_pos rfl).symm) (Nat.sub_self _).symm (Nat.sub_self _).symm)
        clear hnc hat hat2 hrl hrest hd1 HNIL HA2 hcm hn KEY
        go_enter Tryz.func67, Tryz.ntmps67
        go_upto_region 1 with fail
        go_region_law (first | (go_simp; go_at_call 81; refine (KE2.out _ rfl).mono ?_; intro e w2 hend; have hend2 := hend; unfold UnfEnd Unf at hend2; rw [HU.out] at hend2; obtain ⟨t2, rfl⟩ := hend2))
        all_goals
          have HT2 := Lib.hid (show Fresh w w2 from (Touch.refl (fun _ => False) w).drew.trans t2 fun _ _ => id)
          clear t2 hend
          go_wp2_with fail
          go_ret2
          exact ⟨rfl, HT2.out⟩
      · have hca2 : ¬ c = at_ := hca
        have EA := Lib.hid (show A2 = some ⟨b, o + at_, none⟩ by rw [HA2.out]; dsimp only; rw [if_neg hca, add_flat])
        go_enter Tryz.func67, Tryz.ntmps67
        go_upto_region 1 with fail
        go_region_held (fun W => W.cell? ⟨br, 0, none⟩ = some (.slice (some ⟨b, o, none⟩) n c) ∧ W.cell? ⟨br, 1, none⟩ = some (.int .i64 (at_ : Int)))
          (first | exact ⟨c0, c1⟩ | assumption)
          (first | (go_at_call 81; refine (KEY.out _ _ _ (by rw [EA.out]) (by first | rfl | omega) (by first | rfl | omega)).mono ?_; intro e w2 hend; have hend2 := hend; unfold UnfEnd Unf at hend2; rw [HU.out] at hend2; obtain ⟨t2, rfl⟩ := hend2; have k2 : w2.cell? ⟨br, 0, none⟩ = some (.slice (some ⟨b, o, none⟩) n c) ∧ w2.cell? ⟨br, 1, none⟩ = some (.int .i64 (at_ : Int)) := ⟨t2.cell c0 id, t2.cell c1 id⟩))
        have HT2 := Lib.hid (show Fresh w w2 from (Touch.refl (fun _ => False) w).drew.trans t2 fun _ _ => id)
        clear t2 k2 hend
        go_wp2_with fail
        go_ret2
        exact ⟨rfl, HT2.out⟩
  | some q =>
    obtain ⟨p, k⟩ := q
    have hle := Enc.unframe_le hu
    have HU := Lib.hid hu
    clear hu
    dsimp only
    have hca : ¬ c = at_ := by omega
    rcases hA with rfl | ⟨b, o, rfl⟩
    · exact absurd HNIL.out (by simp; omega)
    · have EA := Lib.hid (show A2 = some ⟨b, o + at_, none⟩ by rw [HA2.out]; dsimp only; rw [if_neg hca, add_flat])
      have hwr : IntKind.i64.wrap ((at_ : Int) + (k : Int)) = (at_ : Int) + (k : Int) := IntWalk.i64_in _ (by omega)
      go_enter Tryz.func67, Tryz.ntmps67
      go_upto_region 1 with fail
      go_region_held (fun W => W.cell? ⟨br, 0, none⟩ = some (.slice (some ⟨b, o, none⟩) n c) ∧ W.cell? ⟨br, 1, none⟩ = some (.int .i64 (at_ : Int)))
        (first | exact ⟨c0, c1⟩ | assumption)
        (first | (go_at_call 81; refine (KEY.out _ _ _ (by rw [EA.out]) (by first | rfl | omega) (by first | rfl | omega)).mono ?_; intro e w2 hend; have hend2 := hend; unfold UnfEnd Unf at hend2; rw [HU.out] at hend2; obtain ⟨t2, B2, c2, rfl, hb2, hn2⟩ := hend2; have k2 : w2.cell? ⟨br, 0, none⟩ = some (.slice (some ⟨b, o, none⟩) n c) ∧ w2.cell? ⟨br, 1, none⟩ = some (.int .i64 (at_ : Int)) := ⟨t2.cell c0 id, t2.cell c1 id⟩))
      have HT2 := Lib.hid (show Fresh w w2 from (Touch.refl (fun _ => False) w).drew.trans t2 fun _ _ => id)
      have hbb := HB.out.touch HT2.out id
      have HB2 := Lib.hid hb2; have HN2 := Lib.hid hn2; have HBB := Lib.hid hbb
      have e1 := hbb.cell 1
      have f1 := hbb.frozen 1
      simp only [List.getElem?_toArray, List.getElem?_cons_zero, List.getElem?_cons_succ] at e1
      clear t2 k2 hend hb2 hn2 hbb
      go_wp2_with fail
      go_ret2
      have hbb2 := HBB.out.set_ 1 (.int .i64 ((at_ : Int) + (k : Int)))
      refine ⟨B2, c2, rfl, (HT2.out.mono (S' := (· = br)) fun _ _ h => h.elim).setCell (p := ⟨br, 1, none⟩) (.inr rfl) _, ?_, ?_, fun a ha _ => HN2.out a ha⟩
      · simpa using hbb2
      · refine HB2.out.keep fun h0 q v hq ⟨a, ha, e⟩ => ?_
        rw [World.cell?_setCell_far _ _ _ _ (by
          have h1 := HN2.out a ha
          have h2 := HB.out.lt
          show br ≠ q.block
          rw [e]
          have h3 : w.heap.size ≤ a.block := h1
          omega)]
        exact hq
end Go.Proofs.YtlcmnihpfpmajaaGreat

/- wal.numbers. Condition: numbers as an int holds them. -/
namespace Go.Proofs.YtlcmnihpfpmajaaGreat
open Go.RowKit

theorem un8_snoc (l : List UInt8) (b : UInt8) : un8 (l ++ [b]) = un8 l * 256 + b.toNat := by simp [un8]
theorem un8_fold (l : List UInt8) : ∀ n, l.foldl (fun n c => n * 256 + c.toNat) n = n * 256 ^ l.length + un8 l := by
  induction l with
  | nil => intro n; simp [un8]
  | cons b l ih =>
    intro n
    show l.foldl _ (n * 256 + b.toNat) = n * 256 ^ (l.length + 1) + l.foldl _ (0 * 256 + b.toNat)
    rw [ih, ih, Nat.pow_succ, Nat.add_mul, Nat.add_mul, Nat.mul_assoc, Nat.mul_comm 256]
    omega
theorem un8_append (a b : List UInt8) : un8 (a ++ b) = un8 a * 256 ^ b.length + un8 b := by
  unfold un8
  rw [List.foldl_append]
  exact un8_fold b _
/-- the first i numbers of a payload -/
def numsOf (p : List UInt8) (i : Nat) : List Nat := (List.range i).map (num p)
theorem numsOf_succ (p : List UInt8) (i : Nat) : numsOf p (i + 1) = numsOf p i ++ [num p i] := by simp [numsOf, List.range_succ]
theorem numsOf_len (p : List UInt8) (i : Nat) : (numsOf p i).length = i := by simp [numsOf]
theorem or_i64 {x c : Nat} (hc : c < 256) (hx : x * 256 + c < 9223372036854775808) : bits .or .i64 ((x : Int) * 256) (c : Int) = ((x * 256 + c : Nat) : Int) := by
  have h1 : (BitVec.ofInt 64 ((x * 256 : Nat) : Int)).toNat = x * 256 := by rw [BitVec.ofInt_natCast, BitVec.toNat_ofNat]; omega
  have h2 : (BitVec.ofInt 64 (c : Int)).toNat = c := by rw [BitVec.ofInt_natCast, BitVec.toNat_ofNat]; omega
  have h3 : x * 256 ||| c = x * 256 + c := by
    have := Nat.shiftLeft_add_eq_or_of_lt (i := 8) (b := c) (by omega) x
    rw [Nat.shiftLeft_eq] at this
    exact this.symm
  have e : (x : Int) * 256 = ((x * 256 : Nat) : Int) := by omega
  rw [e]
  show IntKind.i64.wrap ((BitVec.ofInt 64 ((x * 256 : Nat) : Int) ||| BitVec.ofInt 64 (c : Int)).toNat : Int) = _
  rw [BitVec.toNat_or, h1, h2, h3]
  exact IntWalk.i64_in _ (by omega)

set_option maxRecDepth 20000 in
set_option maxHeartbeats 2000000 in
theorem numbers_any (A : Option Addr) (c m : Nat) (p : List UInt8) (w : World) (h : Bs w A (1 + 8 * m) c p) (hm0 : 1 ≤ m) (hm : m ≤ 10) (hn : ∀ i, i < m → num p i < 9223372036854775808) :
    Calls Tryz.prog 68 #[.slice A (1 + 8 * m) c] w fun e w' => Fresh w w' ∧ ∃ B c', e = .returned (.slice B m c') ∧ IsInts w' B m c' (natsV (numsOf p m)) ∧ ∀ a, B = some a → 0 < m → w.heap.size ≤ a.block := by
  have hc1 := h.2.1
  have hc2 := h.2.2.1
  unfold maxLen at hc2
  have hpl := h.1
  obtain ⟨b, o, rfl⟩ := h.at_ (by omega)
  have H := Lib.hid h; have HN := Lib.hid hn
  have HD := Lib.hid (show Bs w (some ⟨b, o + 1, none⟩) (8 * m) (c - 1) (p.drop 1) from by
    have := h.drop_ (k := 1) (by omega)
    rwa [show 1 + 8 * m - 1 = 8 * m by omega] at this)
  have e1 : 1 + 8 * m - 1 = 8 * m := by omega
  have z1 : (1 : Int) ≤ ((1 + 8 * m : Nat) : Int) := by omega
  have hcn : ¬ c = 1 := by omega
  clear h hn
  go_enter Tryz.func68, Tryz.ntmps68
  go_wp2_with fail
  go_loopw [3, 4] (fun v u wr => ∃ (j : Nat) (A4 : Option Addr) (c4 k4 : Nat), j ≤ m ∧ k4 = 8 * (m - j) ∧ u = .slice A4 k4 c4 ∧ Bs w A4 k4 c4 (p.drop (1 + 8 * j)) ∧ Own wr 3 1 v (numsOf p j).length (intsV (natsV (numsOf p j))) ∧ (∀ q, v.ownBlock = some q → w.heap.size ≤ q) ∧ Fresh w wr) (fun _ u _ => (match u with | .slice _ n _ => n | _ => 0))
  case atStart => exact ⟨0, _, _, _, Nat.zero_le _, by omega, rfl, HD.out, Own.nil_ _ _ _, fun q hq => by (cases hq), Touch.refl _ _⟩
  case round =>
    obtain ⟨j, A4, c4, k4, hj, hk4, rfl, hB, hO, hN, hF⟩ := hrel
    have HB := Lib.hid hB; have HO := Lib.hid hO; have HNB := Lib.hid hN; have HF := Lib.hid hF; have HK4 := Lib.hid hk4
    obtain ⟨OA, oc, rfl, ho1, ho2, _⟩ := hO.form
    unfold maxLen at ho2
    have hb1 := hB.2.1
    have hb2 := hB.2.2.1
    unfold maxLen at hb2
    have hnl := numsOf_len p j
    clear hB hO hN hF hk4
    by_cases hlt : j < m
    · have hk8 : 8 ≤ k4 := by have := HK4.out; omega
      obtain ⟨b4, o4, rfl⟩ := HB.out.at_ (by omega)
      have z8 : (8 : Int) ≤ (k4 : Int) := by omega
      have z9 : (8 : Int) ≤ (c4 : Int) := by omega
      obtain ⟨q, hq⟩ : ∃ q, q = (p.drop (1 + 8 * j)).take 8 := ⟨_, rfl⟩
      have hql : q.length = 8 := by rw [hq, List.length_take, HB.out.1]; omega
      have HNUM := Lib.hid (show num p j = un8 q by rw [hq]; rfl)
      have hlt63 := HN.out j hlt
      rw [HNUM.out] at hlt63
      have HQ := Lib.hid (show Bs wr (some ⟨b4, o4, none⟩) 8 c4 q from by rw [hq]; exact (HB.out.fresh HF.out).take hk8)
      clear hq
      go_wp2_with fail
      go_loop [5, 18] (fun x i => ∃ t : Nat, t ≤ 8 ∧ i = .int .i64 t ∧ x = .int .i64 (un8 (q.take t) : Nat)) (fun _ i => 8 - (intOf i).toNat)
      case atStart => exact ⟨0, by omega, rfl, rfl⟩
      case round =>
        obtain ⟨t, ht, rfl, rfl⟩ := hrel
        by_cases ht8 : t < 8
        · have ct : wr.cell? ⟨b4, o4 + t, none⟩ = some (.int .u8 ((q.getD t 0).toNat : Int)) := HQ.out.cellAt (by omega)
          have hbt := (q.getD t 0).toNat_lt
          have HT := Lib.hid (show un8 (q.take (t + 1)) = un8 (q.take t) * 256 + (q.getD t 0).toNat by
            rw [List.take_add_one, List.getD_eq_getElem?_getD, List.getElem?_eq_getElem (by omega)]
            exact un8_snoc _ _)
          have hub : un8 (q.take t) * 256 + (q.getD t 0).toNat < 9223372036854775808 := by
            rw [← HT.out]
            have h1 := un8_append (q.take (t + 1)) (q.drop (t + 1))
            rw [List.take_append_drop] at h1
            have h2 : 1 ≤ 256 ^ (q.drop (t + 1)).length := Nat.pos_of_ne_zero (by simp)
            have h3 := Nat.mul_le_mul_left (un8 (q.take (t + 1))) h2
            omega
          generalize un8 (q.take t) = x at *
          generalize (q.getD t 0).toNat = y at *
          have HOR := Lib.hid (or_i64 hbt hub)
          have wx : IntKind.i64.wrap ((x : Int) * 256) = (x : Int) * 256 := IntWalk.i64_in _ (by omega)
          go_wp2_with fail
          go_round
          case rel => exact ⟨t + 1, by omega, by go_num, by rw [HOR.out, HT.out]⟩
          case measure => simp [intOf] <;> omega
        · obtain rfl : t = 8 := by omega
          rw [show q.take 8 = q from List.take_of_length_le (by omega), ← HNUM.out]
          obtain ⟨N, hN⟩ : ∃ N, N = num p j := ⟨_, rfl⟩
          rw [← hN]
          have HNS := Lib.hid (show numsOf p (j + 1) = numsOf p j ++ [N] by rw [numsOf_succ, hN])
          have HSRC := Lib.hid (int_new wr (N : Int))
          clear hN
          go_wp2_with (at_builtin; refine wpList_own_src _ rfl _ _ 27 27 rfl 3 (.int .i64 0) 1 8 Tryz.info3 Tryz.underlying27 rfl (.slice OA (numsOf p j).length oc) (numsOf p j).length (intsV (natsV (numsOf p j))) rfl (HO.out.alloc _) (intsV_one _) (.slice (some ⟨wr.heap.size, 0, none⟩) 1 1) 1 [.int .i64 (N : Int)] rfl HSRC.out (by unfold maxLen; omega) (by omega) ?_; intro D c5 w5 o5 g5 b5; have HO5 := Lib.hid o5; have HG5 := Lib.hid (grow_step HF.out g5 HNB.out b5); have HG55 := Lib.hid g5; clear o5 g5 b5; rw [numsOf_len] at HO5 HG5)
          refine ⟨⟨j + 1, (if c4 = 8 then some ⟨b4, o4, none⟩ else some ⟨b4, o4 + 8, none⟩), c4 - 8, k4 - 8, by omega, by have := HK4.out; omega, rfl, ?_, ?_, HG5.out.2, HG5.out.1⟩, by show k4 - 8 < k4; omega⟩
          · have hd := HB.out.drop_ (k := 8) hk8
            rw [List.drop_drop, show 1 + 8 * j + 8 = 1 + 8 * (j + 1) by omega] at hd
            by_cases hc8 : c4 = 8
            · rw [if_pos hc8]
              exact ⟨hd.1, hd.2.1, hd.2.2.1, fun h0 => by have := HB.out.2.1; omega⟩
            · rw [if_neg hc8]
              exact hd
          · rw [numsOf_len, HNS.out, show intsV (natsV (numsOf p j ++ [N])) = intsV (natsV (numsOf p j)) ++ [.int .i64 (N : Int)] by simp [intsV, natsV]]
            exact HO5.out
    · obtain rfl : j = m := by omega
      obtain rfl : k4 = 0 := by have := HK4.out; omega
      rw [hnl]
      go_wp2_with fail
      have HI := Lib.hid ((show Own wr 3 1 (.slice OA j oc) j (intsV (natsV (numsOf p j))) from by have := HO.out; rw [numsOf_len] at this; exact this).ints)
      have HNB2 := Lib.hid (show ∀ (q : Nat), (Value.slice OA j oc).ownBlock = some q → w.heap.size ≤ q from by have := HNB.out; rw [numsOf_len] at this; exact this)
      go_ret
      refine ⟨HF.out, OA, oc, rfl, HI.out, fun a ha h0 => ?_⟩
      refine HNB2.out a.block ?_
      rw [ha]
      simp [Value.ownBlock]
end Go.Proofs.YtlcmnihpfpmajaaGreat

/- wal.Log.cut. Conditions stand with it. -/
namespace Go.Proofs.YtlcmnihpfpmajaaGreat
open Go.RowKit
section
variable {w : World} {bl bd : Nat} {R : Nat → Prop} {l : Lg} {sv rv : Value} {vs : List Value}
def CutEnd (w : World) (bl bd : Nat) (R : Nat → Prop) (l : Lg) (m : Nat) (sv rv : Value) (e : Ending) (w' : World) : Prop :=
  e = .returned (.tuple #[]) ∧ Touch (· = bl) w w' ∧ ∃ rv' vs', LM w' bl bd R { l with c := l.c.cut m } sv rv' vs' ∧ ∀ k, rv'.ownBlock = some k → rv.ownBlock = some k
theorem RecsOf.drop {rows : List (List UInt8)} (h : RecsOf w R vs rows) (k : Nat) : RecsOf w R (vs.drop k) (rows.drop k) :=
  ⟨by rw [List.length_drop, List.length_drop, h.len], fun i b hb => by
    rw [List.getElem?_drop] at hb
    obtain ⟨A, c, h1, h2⟩ := h.at_ _ b hb
    exact ⟨A, c, by rw [List.getElem?_drop]; exact h1, h2⟩, fun u hu => h.one u (List.mem_of_mem_drop hu)⟩
theorem cut_end (h : LM w bl bd R l sv rv vs) (hR : ¬ R bl) {m : Nat} (hlt : l.c.first < m) {rv' : Value} {k : Nat} (hk : k = min (m - l.c.first) l.c.rows.length) (ho : Ow w 26 1 rv' (l.c.rows.length - k) (vs.drop k)) (hown : ∀ k, rv'.ownBlock = some k → rv.ownBlock = some k) :
    CutEnd w bl bd R l m sv rv (.returned (.tuple #[])) ((w.setCell ⟨bl, 4, none⟩ rv').setCell ⟨bl, 3, none⟩ (.int .i64 (m : Int))).drew := by
  have hT : Touch (· = bl) w ((w.setCell ⟨bl, 4, none⟩ rv').setCell ⟨bl, 3, none⟩ (.int .i64 (m : Int))).drew := (((Touch.refl (· = bl) w).setCell (p := ⟨bl, 4, none⟩) (.inr rfl) _).setCell (p := ⟨bl, 3, none⟩) (.inr rfl) _).drew
  have hc : l.c.cut m = ⟨m, l.c.rows.drop k⟩ := by
    unfold Ct.cut
    rw [if_pos hlt]
    congr 1
    by_cases hle : m - l.c.first ≤ l.c.rows.length
    · rw [hk, Nat.min_eq_left hle]
    · rw [hk, Nat.min_eq_right (by omega), List.drop_of_length_le (by omega), List.drop_of_length_le (by omega)]
  refine ⟨rfl, hT, rv', vs.drop k, ⟨?_, ?_, ?_, ?_⟩, hown⟩
  · have := ((h.blk.set_ 4 rv').set_ 3 (.int .i64 (m : Int))).drew
    rw [hc]
    simpa using this
  · exact h.segs.touch hT fun q hq e => h.segs.ne_blk h.blk (by decide) (by rw [hq, e])
  · rw [hc]
    show Ow _ _ 1 rv' (l.c.rows.drop k).length (vs.drop k)
    rw [List.length_drop]
    exact ho.touch hT fun q hq e => h.rows.ne_blk h.blk (by decide) (by rw [hown q hq, e])
  · rw [hc]
    exact (h.recs.drop k).touch hT fun q hq e => hR (e ▸ hq)
set_option maxRecDepth 20000 in
set_option maxHeartbeats 2000000 in
theorem lcut_any (h : LM w bl bd R l sv rv vs) (hR : ¬ R bl) (hb : l.c.next ≤ 1000000000) {m : Nat} (hm : m ≤ 1000000000) :
    Calls Tryz.prog 48 #[.pointer (some ⟨bl, 0, none⟩), .int .i64 (m : Int)] w (CutEnd w bl bd R l m sv rv) := by
  have hnx : l.c.first + l.c.rows.length ≤ 1000000000 := hb
  have c3 : w.cell? ⟨bl, 3, none⟩ = some (.int .i64 (l.c.first : Int)) := h.blk.cell 3
  have hwr : IntKind.i64.wrap ((m : Int) - (l.c.first : Int)) = (m : Int) - (l.c.first : Int) := IntWalk.i64_in _ (by omega)
  obtain ⟨A, c, rfl, hnc, hcm, hA⟩ := h.rows.form
  have c4 : w.cell? ⟨bl, 4, none⟩ = some (.slice A l.c.rows.length c) := h.blk.cell 4
  have f4 := h.blk.frozen 4
  have f3 := h.blk.frozen 3
  have ho := h.rows
  have HE := Lib.hid (fun hlt rv' k => @cut_end w bl bd R l sv _ vs h hR m hlt rv' k)
  have H := Lib.hid h
  clear h hb
  unfold maxLen at hcm
  generalize hfi : l.c.first = fi at *
  generalize hrl : l.c.rows.length = rl at *
  by_cases hlt : fi < m
  · have hgt : (0 : Int) < (m : Int) - (fi : Int) := by omega
    have HE2 := Lib.hid (HE.out hlt)
    clear HE
    obtain ⟨k, hk⟩ : ∃ k, k = min (m - fi) rl := ⟨_, rfl⟩
    have hkn : (min ((m : Int) - (fi : Int)) (rl : Int)) = (k : Int) := by omega
    have hkn2 : (min ((m : Int) - (fi : Int)) (rl : Int)).toNat = k := by omega
    have h0 : (0 : Int) ≤ min ((m : Int) - (fi : Int)) (rl : Int) := by omega
    have hk1 : k ≤ rl := by omega
    rcases hA with ⟨rfl, h2, h3⟩ | ⟨g, o, rfl⟩
    · subst h2 h3
      obtain rfl : k = 0 := by omega
      have HK := Lib.hid hk
      have HO := Lib.hid ho
      clear hk hkn hkn2 ho hnc hcm hk1
      go_enter Tryz.func48, Tryz.ntmps48
      go_wp2_with fail
      go_region
      go_wp2_with fail
      go_end0
      have := HE2.out (.slice none 0 0) 0 HK.out HO.out (fun q hq => by simp [Value.ownBlock] at hq)
      simpa using this
    · have hod := ho.drop hk1
      rw [Nat.mul_one k] at hod
      have HO := Lib.hid hod
      clear hod
      have HO1 := Lib.hid ho
      clear ho
      by_cases hck : c = k
      · have hck2 : (c : Int) = min ((m : Int) - (fi : Int)) (rl : Int) := by omega
        have hck3 : c = (min ((m : Int) - (fi : Int)) (rl : Int)).toNat := by omega
        go_enter Tryz.func48, Tryz.ntmps48
        go_wp2_with fail
        go_region
        go_wp2_with fail
        go_end0
        rw [← hk]
        have hrk : rl = k := by omega
        have hvl : vs.length = rl := by have := HO1.out.1; omega
        have := HE2.out _ _ hk (show Ow w 26 1 (.slice (some ⟨g, o * 1, none⟩) (rl - k) 0) (rl - k) (vs.drop k) from by
          rw [List.drop_of_length_le (by omega), show rl - k = 0 by omega]
          exact HO1.out.empty (Nat.zero_le _)) (fun q hq => by first | (simp [Value.ownBlock] at hq; done) | simpa [Value.ownBlock] using hq)
        simpa using this
      · have hck3 : ¬ c = (min ((m : Int) - (fi : Int)) (rl : Int)).toNat := by omega
        go_enter Tryz.func48, Tryz.ntmps48
        go_wp2_with fail
        go_region
        go_wp2_with fail
        go_end0
        rw [← hk]
        have := HE2.out (.slice (some ⟨g, o * 1 + k, none⟩) (rl - k) (c - k)) k hk HO.out (fun q hq => by simpa [Value.ownBlock] using hq)
        simpa using this
  · have hgt : ¬ (0 : Int) < (m : Int) - (fi : Int) := by omega
    go_enter Tryz.func48, Tryz.ntmps48
    go_wp2_with fail
    go_end0
    have hl : ({ l with c := l.c.cut m } : Lg) = l := by unfold Ct.cut; rw [if_neg (by omega)]
    exact ⟨rfl, Touch.refl _ _, _, _, by rw [hl]; exact H.out, fun k hk => hk⟩
end
end Go.Proofs.YtlcmnihpfpmajaaGreat

/- wal.Log.Read. Conditions stand with it. -/
namespace Go.Proofs.YtlcmnihpfpmajaaGreat
open Go.RowKit
section
variable {w : World} {bl bd : Nat} {R : Nat → Prop} {l : Lg} {sv rv : Value} {vs : List Value}
def ReadEnd (w : World) (c : Ct) (i : Int) (e : Ending) (w' : World) : Prop :=
  Fresh w w' ∧ (((i < (c.first : Int) ∨ (c.next : Int) ≤ i) ∧ e = .returned (.tuple #[.slice none 0 0, .int .i64 6])) ∨
    ∃ j b B k, i = (c.first : Int) + (j : Nat) ∧ c.rows[j]? = some b ∧ e = .returned (.tuple #[.slice B b.length k, .int .i64 0]) ∧ Bs w' B b.length k b ∧ ∀ a, B = some a → w.heap.size ≤ a.block)
set_option maxRecDepth 20000 in
set_option maxHeartbeats 2000000 in
theorem lread_any (h : LM w bl bd R l sv rv vs) (hb : l.c.next ≤ 1000000000) (hr : ∀ b ∈ l.c.rows, b.length ≤ 100000000) (i : Int) :
    Calls Tryz.prog 27 #[.pointer (some ⟨bl, 0, none⟩), .int .i64 i] w (ReadEnd w l.c i) := by
  have HN := Lib.hid (next_any h hb)
  have HB := Lib.hid h.blk
  have hnx : (l.c.next : Int) = (l.c.first : Int) + (l.c.rows.length : Int) := by unfold Ct.next; omega
  have hb2 : l.c.next ≤ 1000000000 := hb
  have c3 : w.cell? ⟨bl, 3, none⟩ = some (.int .i64 (l.c.first : Int)) := h.blk.cell 3
  by_cases h1 : i < (l.c.first : Int)
  · clear h hb hr
    go_enter Tryz.func27, Tryz.ntmps27
    go_wp2_with fail
    go_ret2
    exact ⟨Touch.refl _ _, .inl ⟨.inl h1, rfl⟩⟩
  · by_cases h2 : (l.c.next : Int) ≤ i
    · clear h hb hr
      go_enter Tryz.func27, Tryz.ntmps27
      go_wp2_with fail
      refine HN.out.mono ?_
      rintro e w2 ⟨rfl, q, rfl⟩
      go_wp2_with fail
      go_ret2
      exact ⟨(Touch.refl _ _).drewN q, .inl ⟨.inr h2, rfl⟩⟩
    · obtain ⟨j, hj⟩ : ∃ j : Nat, i = (l.c.first : Int) + (j : Int) := ⟨(i - (l.c.first : Int)).toNat, by omega⟩
      have hjl : j < l.c.rows.length := by omega
      obtain ⟨b, hbj⟩ : ∃ b, l.c.rows[j]? = some b := ⟨_, List.getElem?_eq_getElem hjl⟩
      obtain ⟨A, k, hvj, hbs, _⟩ := h.recs.at_ j b hbj
      obtain ⟨D, cd, rfl, hn1, hn2, hD⟩ := h.rows.form
      obtain ⟨g, o, rfl⟩ : ∃ g o, D = some ⟨g, o, none⟩ := by
        rcases hD with ⟨_, h2, _⟩ | ⟨g, o, e⟩
        · omega
        · exact ⟨g, _, e⟩
      have cj : w.cell? ⟨g, o + j, none⟩ = some (.slice A b.length k) := (h.rows.cell (j := j) (by omega)).trans hvj
      have HST := Lib.hid (show ∀ W, Fresh w W → Fresh w W ∧ W.cell? ⟨bl, 3, none⟩ = some (.int .i64 (l.c.first : Int)) ∧ W.cell? ⟨bl, 4, none⟩ = some (.slice (some ⟨g, o, none⟩) l.c.rows.length cd) ∧ W.cell? ⟨g, o + j, none⟩ = some (.slice A b.length k) from fun W hW => ⟨hW, hW.cell c3 id, (HB.out.touch hW id).cell 4, hW.cell cj id⟩)
      have KC := Lib.hid (show ∀ W, Fresh w W → Calls Tryz.prog 43 #[.slice A b.length k] W fun e w' => Fresh W w' ∧ ∃ B c', e = .returned (.slice B b.length c') ∧ Row w' (.slice B b.length c') b ∧ (∀ a, B = some a → W.heap.size ≤ a.block) from fun W hW => clone_any A b.length k b W (hbs.fresh hW) (by have := hr b (List.mem_of_getElem? hbj); omega))
      have HBJ := Lib.hid hbj
      have HJ := Lib.hid hj
      have hwr : IntKind.i64.wrap (i - (l.c.first : Int)) = (j : Int) := by rw [IntWalk.i64_in _ (by omega)]; omega
      have hji : (j : Int) < (l.c.rows.length : Int) := by omega
      clear h hb hr hbs hvj cj hD hbj hj
      go_enter Tryz.func27, Tryz.ntmps27
      go_wp2_with fail
      refine HN.out.mono ?_
      rintro e w2 ⟨rfl, q, rfl⟩
      go_upto_region 3 with fail
      go_region_held (fun W => Fresh w W ∧ W.cell? ⟨bl, 3, none⟩ = some (.int .i64 (l.c.first : Int)) ∧ W.cell? ⟨bl, 4, none⟩ = some (.slice (some ⟨g, o, none⟩) l.c.rows.length cd) ∧ W.cell? ⟨g, o + j, none⟩ = some (.slice A b.length k))
        (first | exact HST.out _ (((Touch.refl _ w).drewN q).drew) | exact HST.out _ ((Touch.refl _ w).drewN q) | assumption)
        (first
          | (go_at_call 43; refine (KC.out _ (And.left (by assumption))).mono ?_; rintro e w3 ⟨t3, B2, c2, rfl, hr2, hn2⟩; have k2 := HST.out w3 ((And.left (by assumption : Fresh w _ ∧ _)).trans t3 fun _ _ => id); have HR2 := Lib.hid (Row.bs hr2); have HN2 := Lib.hid (show ∀ a, B2 = some a → w.heap.size ≤ a.block from fun a ha => Nat.le_trans (Touch.size (And.left (by assumption : Fresh w _ ∧ _))) (hn2 a ha)); clear hr2 hn2))
      have HK2 := Lib.hid k2.1
      go_wp2_with fail
      go_ret2
      exact ⟨HK2.out, .inr ⟨j, b, B2, c2, HJ.out, HBJ.out, rfl, HR2.out, HN2.out⟩⟩
end
end Go.Proofs.YtlcmnihpfpmajaaGreat

/- wal.Log.All: slices.Clone of the rows. Conditions stand with it. -/
namespace Go.Proofs.YtlcmnihpfpmajaaGreat
open Go.RowKit
theorem Own.lit0 (w : World) (e : TypeId) (size : Nat) : Own (w.alloc (.cells #[] e)) e size (.slice (some ⟨w.heap.size, 0, none⟩) 0 0) 0 [] :=
  ⟨by simp, .inr ⟨w.heap.size, 0, #[], rfl, heap_alloc_new w _, Nat.le_refl _, Nat.zero_le _, by simp, by simp⟩⟩
theorem Tryz.underlying33 : Tryz.prog.underlying 33 = some (.slice 26) := by kernel_rfl
set_option maxRecDepth 20000 in
set_option maxHeartbeats 1000000 in
theorem cloneR_any (v : Value) (n : Nat) (vs : List Value) (w : World) (h : Ow w 26 1 v n vs) (h1 : ∀ u ∈ vs, u.oneCell' = true) (hl : n ≤ 1000000000) :
    Calls Tryz.prog 56 #[v] w fun e w' => Fresh w w' ∧ ∃ B c', e = .returned (.slice B n c') ∧ Own w' 26 1 (.slice B n c') n vs ∧ ∀ k, (Value.slice B n c').ownBlock = some k → w.heap.size ≤ k := by
  have q36 : ∀ (w : World) (a : Option Addr) (n c n' c' : Nat), (binOp .eql 33 (.slice a n c) (.slice none n' c')).run Tryz.prog w = .ok (.bool a.isNone) w := fun w a n c n' c' => Lib.run_eql_slice_nil w _ _ a n c n' c' Tryz.underlying33
  have H := Lib.hid h
  have hn := h.1
  obtain ⟨A, c, rfl, h2, h3, h4⟩ := h.form
  cases A with
  | none =>
    have h0 : n = 0 := by
      rcases h4 with ⟨_, e, _⟩ | ⟨g, o, e⟩
      · exact e
      · cases e
    subst h0
    have hu : vs = [] := List.eq_nil_of_length_eq_zero (by omega)
    subst hu
    clear h h4
    go_enter Tryz.func56, Tryz.ntmps56
    go_wp2_with fail
    go_ret
    exact ⟨Touch.refl _ _, none, 0, rfl, Own.nil_ _ _ _, fun _ h => by cases h⟩
  | some a =>
    clear h h4
    have H1 := Lib.hid h1
    go_enter Tryz.func56, Tryz.ntmps56
    go_wp2_with (at_builtin; go_loud (refine wpList_own_src _ rfl _ _ 33 33 rfl 26 (.slice none 0 0) 1 24 Tryz.info26 Tryz.underlying33 rfl (.slice (some ⟨w.heap.size, 0, none⟩) 0 0) 0 [] rfl (Own.lit0 _ _ _) (by simp) (.slice (some a) n c) n vs rfl (Ow.src (H.out.alloc _) Tryz.underlying33 H1.out) (by unfold maxLen; omega) (by omega) ?_; intro B1 c1 w1 o1 g1 b1; simp only [Nat.zero_add, List.nil_append] at o1 g1 b1 ⊢; have HO := Lib.hid o1; have HG := Lib.hid g1; have HB := Lib.hid b1; clear o1 g1 b1))
    go_ret
    have hT : Fresh w w1 := ((Touch.refl _ w).alloc _).grown HG.out fun k hk => .inl (by simp only [Value.ownBlock, Option.some.injEq] at hk; omega)
    refine ⟨hT, B1, c1, rfl, HO.out, fun k hk => ?_⟩
    rcases HB.out with h | h
    · rw [hk] at h; simp only [Value.ownBlock, Option.some.injEq] at h; omega
    · rw [hk, alloc_size] at h; injection h with h; omega
end Go.Proofs.YtlcmnihpfpmajaaGreat

/- A log in memory beside its disk; what a call may leave. No condition but those that stand with each. -/
namespace Go.Proofs.YtlcmnihpfpmajaaGreat
open Go.RowKit
section
variable {w w' w'' : World} {bl bd : Nat} {R S R' S' : Nat → Prop} {l l' l'' : Lg} {sv rv sv' rv' : Value} {vs vs' : List Value} {d d' d'' : Dk}
theorem Disk.below (h : Disk w S bd d) : ∀ k, S k → k < w.heap.size := by obtain ⟨_, _, _, _, _, h⟩ := h; exact h
theorem Disk.good (h : Disk w S bd d) : (∀ f ∈ d.fs, f.kept ≤ f.raw.length ∧ f.raw ≠ [] ∧ (Lit.int .i64 f.n).wf = true) ∧ d.fs.Pairwise fun a b => a.n < b.n := by
  obtain ⟨bm, fv, fs, hd, _, _⟩ := h
  rw [hd.fls]
  refine ⟨fun f hf => ?_, List.pairwise_map.2 (hd.apart.imp fun h => h.1)⟩
  obtain ⟨g, hg, rfl⟩ := List.mem_map.1 hf
  exact ⟨(hd.file g hg).le, (hd.file g hg).some_, (hd.file g hg).key⟩
theorem Disk.nodup (h : Disk w S bd d) : (d.fs.map Fl.n).Nodup := List.pairwise_map.2 (h.good.2.imp fun h => by omega)
/-- a log beside its disk: the disk's blocks S, the log's own, its records' R: none is in two of these -/
structure LD (w : World) (bl bd : Nat) (S R : Nat → Prop) (l : Lg) (d : Dk) (sv rv : Value) (vs : List Value) : Prop where
  lm : LM w bl bd R l sv rv vs
  dk : Disk w S bd d
  dis : ∀ k, lfoot bl sv rv k ∨ R k → ¬ S k
  nR : ∀ k, lfoot bl sv rv k → ¬ R k
  Rlt : ∀ k, R k → k < w.heap.size
theorem LD.fresh (h : LD w bl bd S R l d sv rv vs) (hf : Fresh w w') : LD w' bl bd S R l d sv rv vs :=
  ⟨h.lm.fresh hf, h.dk.fresh hf, h.dis, h.nR, fun k hk => Nat.lt_of_lt_of_le (h.Rlt k hk) hf.size⟩
theorem LD.lt (h : LD w bl bd S R l d sv rv vs) : ∀ k, lfoot bl sv rv k ∨ R k → k < w.heap.size := fun k hk => hk.elim (h.lm.lt k) (h.Rlt k)
theorem LD.disk (h : LD w bl bd S R l d sv rv vs) (ht : Touch S w w') (hd : Disk w' (more S w w') bd d') : LD w' bl bd (more S w w') R l d' sv rv vs :=
  ⟨h.lm.touch ht h.dis, hd, fun k hk hs => by
    rcases hs with hs | hs
    · exact h.dis k hk hs
    · have := h.lt k hk; omega, h.nR, fun k hk => Nat.lt_of_lt_of_le (h.Rlt k hk) ht.size⟩
/-- what a call may leave -/
structure LX (w w' : World) (bl bd : Nat) (S R : Nat → Prop) (sv rv : Value) (l' : Lg) (d' : Dk) (S' R' : Nat → Prop) (sv' rv' : Value) (vs' : List Value) : Prop where
  ld : LD w' bl bd S' R' l' d' sv' rv' vs'
  tch : Touch (fun k => lfoot bl sv rv k ∨ S k) w w'
  sS : ∀ k, S' k → S k ∨ w.heap.size ≤ k
  sR : ∀ k, R' k → R k ∨ w.heap.size ≤ k
  sF : ∀ k, lfoot bl sv' rv' k → lfoot bl sv rv k ∨ w.heap.size ≤ k
def LB (w w' : World) (bl bd : Nat) (S R : Nat → Prop) (sv rv : Value) (l' : Lg) (d' : Dk) : Prop := ∃ S' R' sv' rv' vs', LX w w' bl bd S R sv rv l' d' S' R' sv' rv' vs'
theorem LD.same (h : LD w bl bd S R l d sv rv vs) : LX w w bl bd S R sv rv l d S R sv rv vs := ⟨h, Touch.refl _ _, fun _ => .inl, fun _ => .inl, fun _ => .inl⟩
theorem LX.trans {S2 R2 : Nat → Prop} {sv2 rv2 : Value} {vs2 : List Value} (h : LX w w' bl bd S R sv rv l' d' S' R' sv' rv' vs') (h2 : LX w' w'' bl bd S' R' sv' rv' l'' d'' S2 R2 sv2 rv2 vs2) : LX w w'' bl bd S R sv rv l'' d'' S2 R2 sv2 rv2 vs2 := by
  have hs := h.tch.size
  refine ⟨h2.ld, h.tch.trans h2.tch fun k hk hx => ?_, fun k hk => ?_, fun k hk => ?_, fun k hk => ?_⟩
  · rcases hx with hx | hx
    · exact (h.sF k hx).elim .inl fun e => by omega
    · exact (h.sS k hx).elim .inr fun e => by omega
  · exact (h2.sS k hk).elim (h.sS k) fun e => .inr (by omega)
  · exact (h2.sR k hk).elim (h.sR k) fun e => .inr (by omega)
  · exact (h2.sF k hk).elim (h.sF k) fun e => .inr (by omega)
theorem LX.fresh (h : LX w w' bl bd S R sv rv l' d' S' R' sv' rv' vs') (hf : Fresh w' w'') : LX w w'' bl bd S R sv rv l' d' S' R' sv' rv' vs' :=
  ⟨h.ld.fresh hf, h.tch.trans hf fun _ _ => False.elim, h.sS, h.sR, h.sF⟩
theorem LX.disk {d2 : Dk} (h : LX w w' bl bd S R sv rv l' d' S' R' sv' rv' vs') (ht : Touch S' w' w'') (hd : Disk w'' (more S' w' w'') bd d2) : LX w w'' bl bd S R sv rv l' d2 (more S' w' w'') R' sv' rv' vs' := by
  have hs := h.tch.size
  refine ⟨h.ld.disk ht hd, h.tch.trans ht fun k hk hx => (h.sS k hx).elim .inr fun e => by omega, fun k hk => ?_, h.sR, h.sF⟩
  rcases hk with hk | hk
  · exact h.sS k hk
  · exact .inr (by omega)
/-- stores into the log's own blocks; new rows of its own -/
theorem LX.own {sv2 rv2 : Value} {vs2 : List Value} {R2 : Nat → Prop} (h : LX w w' bl bd S R sv rv l' d' S' R' sv' rv' vs') (ht : Touch (lfoot bl sv' rv') w' w'') (hm : LM w'' bl bd R2 l'' sv2 rv2 vs2)
    (hF : ∀ k, lfoot bl sv2 rv2 k → lfoot bl sv' rv' k ∨ (w'.heap.size ≤ k ∧ ¬ R2 k)) (hR : ∀ k, R2 k → R' k ∨ (w.heap.size ≤ k ∧ k < w''.heap.size ∧ ¬ S' k ∧ ¬ lfoot bl sv' rv' k)) : LX w w'' bl bd S R sv rv l'' d' S' R2 sv2 rv2 vs2 := by
  have hs := h.tch.size
  have hs2 := ht.size
  have hSlt := h.ld.dk.below
  refine ⟨⟨hm, h.ld.dk.touch ht fun k hk hf => h.ld.dis k (.inl hf) hk, fun k hk hsk => ?_, fun k hk hr => ?_, fun k hk => ?_⟩, h.tch.trans ht fun k hk hx => (h.sF k hx).elim .inl fun e => by omega, h.sS, fun k hk => ?_, fun k hk => ?_⟩
  · rcases hk with hk | hk
    · rcases hF k hk with h1 | h1
      · exact h.ld.dis k (.inl h1) hsk
      · have := hSlt k hsk; omega
    · rcases hR k hk with h1 | h1
      · exact h.ld.dis k (.inr h1) hsk
      · exact h1.2.2.1 hsk
  · rcases hF k hk with h1 | h1
    · rcases hR k hr with h2 | h2
      · exact h.ld.nR k h1 h2
      · exact h2.2.2.2 h1
    · exact h1.2 hr
  · rcases hR k hk with h1 | h1
    · have := h.ld.Rlt k h1; omega
    · exact h1.2.1
  · rcases hR k hk with h1 | h1
    · exact h.sR k h1
    · exact .inr h1.1
  · rcases hF k hk with h1 | h1
    · exact h.sF k h1
    · exact .inr (by omega)
/-- cells of the log's block are stored -/
theorem LX.block (h : LX w w' bl bd S R sv rv l' d' S' R' sv' rv' vs') (ht : Touch (· = bl) w' w'') (hl : l''.segs = l'.segs) (hc : l''.c = l'.c)
    (hb : Blk w'' bl 85 #[.pointer (some ⟨bd, 0, none⟩), .int .i64 (l''.base : Int), sv', .int .i64 (l''.c.first : Int), rv', .bool l''.failed, .bool l''.dirty]) : LX w w'' bl bd S R sv rv l'' d' S' R' sv' rv' vs' := by
  have hm := h.ld.lm
  refine h.own (ht.mono fun k _ hk => .inl hk) ⟨hb, ?_, ?_, ?_⟩ (fun k hk => .inl hk) (fun k hk => .inl hk)
  · rw [hl]
    exact hm.segs.touch ht fun k hk e => hm.segs.ne_blk hm.blk (by decide) (by rw [hk, e])
  · rw [hc]
    exact hm.rows.touch ht fun k hk e => hm.rows.ne_blk hm.blk (by decide) (by rw [hk, e])
  · rw [hc]
    exact hm.recs.touch ht fun k hk e => h.ld.nR k (.inl e) hk
end
section
variable {P : Program}
theorem wp_fb_src (w : World) {o : Oper} {a : Act} {K : Act → World → Prop} {Q : Exit → Act → World → Prop} (s x : Operand) (t tx : TypeId)
    (ho : o.op = .call { callee := .builtin .append, args := #[s, x], argTypes := #[t, tx] })
    (e : TypeId) (hinfo : (P.info? e).map (fun i => (i.zero, i.size, i.bytes)) = some (some (.int .u8 0), 1, 1)) (ht : P.underlying t = some (.slice e))
    {g cap : Nat} {l ys : List UInt8} (hv : a.eval s = .slice (some ⟨g, 0, none⟩) l.length cap) (h : Fb w g cap l) (y : Value) (m : Nat) (hx : a.eval x = y) (hs : Src P 1 tx y m (u8s ys) w) (h63 : l.length + m ≤ 140737488355328)
    (hk : ∀ g' c' w', Bs w' (some ⟨g', 0, none⟩) (l.length + m) c' (l ++ ys) → w.grownBy w' (some g) → (g' = g ∨ g' = w.heap.size) → K (a.put o.dst (.slice (some ⟨g', 0, none⟩) (l.length + m) c')) w') : o.wp P a w K Q := by
  obtain ⟨i, hi, hz, hs1, hb1⟩ := info_parts hinfo
  obtain ⟨g', c', w', hr, h2, h3, h4⟩ := run_fb_src (P := P) w t tx o.type e i ht hi hz hs1 hb1 h y m hs h63
  unfold Oper.wp execOp
  simp only [ho, resolve, invoke, builtin, Sem.run_bind, Sem.run_pure, Result.andThen_ok, List.map_toArray, List.map_cons, List.map_nil, hv, hx, hr]
  exact hk g' c' w' h2 h3 h4
/-- the same in a region that draws -/
theorem step_fb_src (w : World) {ops : Array Oper} {o : Oper} {a : Act} {K : Act → World → Prop} {Q : Exit → Act → World → Prop} {E : Prop} (hgd : o.guard = none) (s x : Operand) (t tx : TypeId)
    (ho : o.op = .call { callee := .builtin .append, args := #[s, x], argTypes := #[t, tx] })
    (e : TypeId) (hinfo : (P.info? e).map (fun i => (i.zero, i.size, i.bytes)) = some (some (.int .u8 0), 1, 1)) (ht : P.underlying t = some (.slice e))
    {g cap : Nat} {l ys : List UInt8} (hv : a.eval s = .slice (some ⟨g, 0, none⟩) l.length cap) (h : Fb w g cap l) (y : Value) (m : Nat) (hx : a.eval x = y) (hs : Src P 1 tx y m (u8s ys) w) (h63 : l.length + m ≤ 140737488355328)
    (hk : ∀ g' c' w', Bs w' (some ⟨g', 0, none⟩) (l.length + m) c' (l ++ ys) → w.grownBy w' (some g) → (g' = g ∨ g' = w.heap.size) → K (a.put o.dst (.slice (some ⟨g', 0, none⟩) (l.length + m) c')) w') : if Region.wanted o (yielded ops a.tmps) = true then Oper.wp P o a w K Q else E := by
  have hw : Region.wanted o (yielded ops a.tmps) = true := by simp [Region.wanted, hgd]
  rw [if_pos hw]
  exact wp_fb_src w s x t tx ho e hinfo ht hv h y m hx hs h63 hk
theorem step_ow_src (w : World) {ops : Array Oper} {o : Oper} {a : Act} {K : Act → World → Prop} {Q : Exit → Act → World → Prop} {E : Prop} (hgd : o.guard = none) (s x : Operand) (t tx : TypeId)
    (ho : o.op = .call { callee := .builtin .append, args := #[s, x], argTypes := #[t, tx] })
    (e : TypeId) (z : Value) (size bytes : Nat) (hinfo : (P.info? e).map (fun i => (i.zero, i.size, i.bytes)) = some (some z, size, bytes)) (ht : P.underlying t = some (.slice e)) (hzs : z.cells.size = size)
    (v : Value) (n : Nat) (xs : List Value) (hv : a.eval s = v) (hown : Ow w e size v n xs) (h1 : ∀ u ∈ xs, u.oneCell' = true) (y : Value) (m : Nat) (news : List Value) (hx : a.eval x = y) (hs : Src P size tx y m news w) (h63 : n + m ≤ maxLen) (hbytes : (n + m) * bytes ≤ 140737488355328)
    (h : ∀ B c' w', Ow w' e size (.slice B (n + m) c') (n + m) (xs ++ news) → w.grownBy w' v.ownBlock → ((Value.slice B (n + m) c').ownBlock = v.ownBlock ∨ (Value.slice B (n + m) c').ownBlock = some w.heap.size) → K (a.put o.dst (.slice B (n + m) c')) w') :
    if Region.wanted o (yielded ops a.tmps) = true then Oper.wp P o a w K Q else E := by
  have hw : Region.wanted o (yielded ops a.tmps) = true := by simp [Region.wanted, hgd]
  rw [if_pos hw]
  exact wp_ow_src w s x t tx ho e z size bytes hinfo ht hzs v n xs hv hown h1 y m news hx hs h63 hbytes h
end
end Go.Proofs.YtlcmnihpfpmajaaGreat
