/- The contracts of the codec's eye: each reads at its place, or panics with a stop at the place of the fault. -/
import Derived.Test.YtdfhdanfigpbpaaDec
import Derived.Test.YtdfhdanfigpbpaaWriters
import Derived.ScopeJumps
import Derived.BigQuiet
import Derived.Deep.QuietTactic
namespace Go.Proofs.Ytdfhdanfigpbpaa
open Go.RowKit

/-- An eye at block be over bytes at its place p. -/
def Eye (w : World) (be : Nat) (A : Option Addr) (n c : Nat) (xs : List UInt8) (p : Nat) : Prop := Blk w be 111 #[.slice A n c, .int .i64 p] ∧ Bs w A n c xs ∧ p ≤ n ∧ ∀ a, A = some a → 0 < n → a.block < be
def stopAt (p : Nat) : PanicEntry := { v := .iface 118 (.agg #[.int .i64 p]), recovered := false }
/-- What an eye's method does. -/
def EyeEnd {α : Type} (f : α → Value) (be : Nat) (A : Option Addr) (n c : Nat) (xs : List UInt8) (w : World) (r : Dec.Rd α) (e : Ending) (w' : World) : Prop :=
  match r with
  | .ok (x, p) => e = .returned (f x) ∧ Eye w' be A n c xs p ∧ Touch (· = be) w w'
  | .error at_ => e = .panicked [stopAt at_] ∧ Touch (· = be) w w'

set_option maxHeartbeats 1000000 in
theorem fail_any (x : Value) (p : Nat) (w : World) : Calls Try.prog 105 #[x, .int .i64 p] w fun e w' => w = w' ∧ e = .panicked [stopAt p] := by
  have hb : ∀ w, (Instr.build 118 #[(0, .int .i64 p)]).run Try.prog w = .ok (.agg #[.int .i64 p]) w := fun _ => by kernel_rfl
  go_enter Try.func105, Try.ntmps105
  go_wp2
  exact ⟨rfl, rfl, rfl⟩

set_option maxRecDepth 100000 in
set_option maxHeartbeats 2000000 in
theorem enumber_end (be : Nat) (A : Option Addr) (n c : Nat) (xs : List UInt8) (lo hi : Int) (w : World) (he : Eye w be A n c xs n) :
    Calls Try.prog 64 #[.pointer (some ⟨be, 0, none⟩), .int .i64 lo, .int .i64 hi] w (fun e w' => w = w' ∧ e = .panicked [stopAt n]) := by
  have hc0 := he.1.cell 0
  have hc1 := he.1.cell 1
  simp only [List.getElem?_toArray, List.getElem?_cons_zero, List.getElem?_cons_succ] at hc0 hc1
  have hm := he.2.1.2.2.1
  have hn := he.2.1.2.1
  unfold maxLen at hm
  clear he
  go_enter Try.func64, Try.ntmps64
  go_wp2_with fail
  go_step3
  go_wp2_with fail
  refine (fail_any _ _ _).mono ?_
  rintro e w1 ⟨rfl, rfl⟩
  exact ⟨rfl, rfl, rfl⟩

/-- a scope whose label is come to by jumps forward alone -/
theorem wp_scope_fwd {P : Program} {Q : Exit → Act → World → Prop} {a : Act} {w : World} {c rest : Code} (l : Nat) (hf : findLabel c l = some rest)
    (first : c.wp P (Exit.jump l (fun a w => rest.wp P (Exit.jump l (fun _ _ => False) Q) a w) Q) a w) : (Code.scope c).wp P Q a w :=
  wp_scope_jumps l (fun a w => rest.wp P (Exit.jump l (fun _ _ => False) Q) a w) (fun _ _ => 0) hf first fun a w h =>
    Code.wp_mono (fun e a' w' q => by
      cases e with
      | goto l' => exact ⟨q.1, q.2.elim⟩
      | _ => exact q) h

set_option maxRecDepth 100000 in
set_option maxHeartbeats 2000000 in
theorem enumber_big (be : Nat) (A : Option Addr) (n c : Nat) (xs : List UInt8) (p : Nat) (lo hi : Int) (w : World) (he : Eye w be A n c xs p) (hp : p < n) (hk : 7 < (xs.getD p 0).toNat) :
    Calls Try.prog 64 #[.pointer (some ⟨be, 0, none⟩), .int .i64 lo, .int .i64 hi] w (fun e w' => w = w' ∧ e = .panicked [stopAt p]) := by
  have hc0 := he.1.cell 0
  have hc1 := he.1.cell 1
  simp only [List.getElem?_toArray, List.getElem?_cons_zero, List.getElem?_cons_succ] at hc0 hc1
  have hm := he.2.1.2.2.1
  have hn := he.2.1.2.1
  unfold maxLen at hm
  obtain ⟨b, o, rfl⟩ := he.2.1.at_ (by omega)
  have hcell := he.2.1.cellAt hp
  have hlt := (xs.getD p 0).toNat_lt
  generalize (xs.getD p 0).toNat = k at *
  clear he
  go_enter Try.func64, Try.ntmps64
  go_wp2_with fail
  refine wp_scope_fwd 0 rfl ?_
  go_wp2_with fail
  refine wp_goto ?_
  go_wp2_with fail
  refine ⟨rfl, ?_⟩
  show Code.wp _ _ _ _ _
  go_wp2_with fail
  refine (fail_any _ _ _).mono ?_
  rintro e w1 ⟨rfl, rfl⟩
  exact ⟨rfl, rfl, rfl⟩

set_option maxRecDepth 100000 in
set_option maxHeartbeats 2000000 in
theorem enumber_short (be : Nat) (A : Option Addr) (n c : Nat) (xs : List UInt8) (p : Nat) (lo hi : Int) (w : World) (he : Eye w be A n c xs p) (hp : p < n) (hk : ¬ 7 < (xs.getD p 0).toNat) (hs : n - p - 1 < (xs.getD p 0).toNat) :
    Calls Try.prog 64 #[.pointer (some ⟨be, 0, none⟩), .int .i64 lo, .int .i64 hi] w (fun e w' => w = w' ∧ e = .panicked [stopAt n]) := by
  have hc0 := he.1.cell 0
  have hc1 := he.1.cell 1
  simp only [List.getElem?_toArray, List.getElem?_cons_zero, List.getElem?_cons_succ] at hc0 hc1
  have hm := he.2.1.2.2.1
  have hn := he.2.1.2.1
  unfold maxLen at hm
  obtain ⟨b, o, rfl⟩ := he.2.1.at_ (by omega)
  have hcell := he.2.1.cellAt hp
  have hlt := (xs.getD p 0).toNat_lt
  generalize (xs.getD p 0).toNat = k at *
  clear he
  go_enter Try.func64, Try.ntmps64
  go_wp2_with fail
  refine wp_scope_fwd 0 rfl ?_
  go_wp2_with fail
  refine (fail_any _ _ _).mono ?_
  rintro e w1 ⟨rfl, rfl⟩
  exact ⟨rfl, rfl, rfl⟩

theorem ofInt_i64 (a : Nat) (ha : a < 9223372036854775808) : (BitVec.ofInt 64 (a : Int)).toNat = a := by
  rw [BitVec.ofInt_natCast, BitVec.toNat_ofNat]; exact Nat.mod_eq_of_lt (by omega)
theorem or_step (m b : Nat) (hm : m < 281474976710656) (hb : b < 2 ^ 8) : bits .or .i64 (wrap64 ((m : Int) * 256)) (wrap64 (b : Int)) = ((256 * m + b : Nat) : Int) := by
  rw [IntWalk.wrap64_in _ (by omega), IntWalk.wrap64_in _ (by omega), show (m : Int) * 256 = ((2 ^ 8 * m : Nat) : Int) by omega]
  have hx : 2 ^ 8 * m + b < 2 ^ 63 := by omega
  show IntKind.i64.wrap ((BitVec.ofInt 64 ((2 ^ 8 * m : Nat) : Int) ||| BitVec.ofInt 64 (b : Int)).toNat : Int) = _
  rw [BitVec.toNat_or, ofInt_i64 _ (by omega), ofInt_i64 b (by omega), ← Nat.two_pow_add_eq_or_of_lt hb, IntKind.wrap_i64]
  omega

set_option maxRecDepth 100000 in
set_option maxHeartbeats 4000000 in
theorem enumber_pos (be : Nat) (A : Option Addr) (n c : Nat) (xs : List UInt8) (p : Nat) (lo hi : Int) (w : World) (he : Eye w be A n c xs p) (hp : p < n) (k : Nat) (hkk : k = (xs.getD p 0).toNat) (hk : ¬ 7 < k) (hs : ¬ n - p - 1 < k) (h0 : 0 < k) :
    Calls Try.prog 64 #[.pointer (some ⟨be, 0, none⟩), .int .i64 lo, .int .i64 hi] w (EyeEnd (α := Int) (fun v => .int .i64 v) be A n c xs w (Dec.number lo hi xs p)) := by
  have hc0 := he.1.cell 0
  have hc1 := he.1.cell 1
  have hf1 := he.1.frozen 1
  simp only [List.getElem?_toArray, List.getElem?_cons_zero, List.getElem?_cons_succ] at hc0 hc1
  have hm := he.2.1.2.2.1
  have hn := he.2.1.2.1
  unfold maxLen at hm
  obtain ⟨b, o, rfl⟩ := he.2.1.at_ (by omega)
  have hcell := he.2.1.cellAt hp
  rw [← hkk] at hcell
  have hlt := (xs.getD p 0).toNat_lt
  rw [← hkk] at hlt
  have HKK := Lib.hid hkk; clear hkk
  have HE := Lib.hid he; clear he
  have hbe : b ≠ be := Nat.ne_of_lt (HE.out.2.2.2 _ rfl (by omega))
  have hxl := HE.out.2.1.1
  obtain ⟨W, hW⟩ : ∃ W, W = w.setCell ⟨be, 1, none⟩ (.int .i64 ((p : Int) + (1 + (k : Int)))) := ⟨_, rfl⟩
  have hBW : Blk W be 111 #[.slice (some ⟨b, o, none⟩) n c, .int .i64 ((p : Int) + (1 + (k : Int)))] := by rw [hW]; exact HE.out.1.set_ 1 _
  have hTW : Touch (· = be) w W := by rw [hW]; exact (Touch.refl (· = be) w).setCell (p := ⟨be, 1, none⟩) (.inr rfl) _
  have hSW : Bs W (some ⟨b, o, none⟩) n c xs := HE.out.2.1.touch hTW (fun a ha _ e => by injection ha with ha; subst ha; exact hbe e)
  have HBW := Lib.hid hBW; clear hBW
  have HTW := Lib.hid hTW; clear hTW
  have HSW := Lib.hid hSW; clear hSW
  have hno : ∀ nq, Dec.number lo hi xs p = .error p → EyeEnd (α := Int) (fun v => .int .i64 v) be (some ⟨b, o, none⟩) n c xs w (Dec.number lo hi xs p) (.panicked [stopAt p]) (W.drewN nq) := by
    intro nq h
    rw [h]
    exact ⟨rfl, HTW.out.drewN nq⟩
  have hyes : ∀ nq (m : Nat), Dec.number lo hi xs p = .ok ((m : Int), p + 1 + k) → EyeEnd (α := Int) (fun v => .int .i64 v) be (some ⟨b, o, none⟩) n c xs w (Dec.number lo hi xs p) (.returned (.int .i64 m)) (W.drewN nq) := by
    intro nq m h
    rw [h]
    refine ⟨rfl, ⟨?_, HSW.out.drewN nq, by omega, HE.out.2.2.2⟩, HTW.out.drewN nq⟩
    have h0 := HBW.out.drewN nq
    have e1 : (p : Int) + (1 + (k : Int)) = ((p + 1 + k : Nat) : Int) := by omega
    rw [e1] at h0
    exact h0
  have hds : ((xs.drop (p + 1)).take k).length = k := by rw [List.length_take, List.length_drop, hxl]; omega
  have hspec : Dec.number lo hi xs p = if (0 < k ∧ xs.getD (p + 1) 0 = 0) ∨ (Dec.val ((xs.drop (p + 1)).take k) : Int) < lo ∨ hi < (Dec.val ((xs.drop (p + 1)).take k) : Int) then .error p else .ok ((Dec.val ((xs.drop (p + 1)).take k) : Int), p + 1 + k) := by
    unfold Dec.number
    rw [← HKK.out, hxl, if_neg (by omega), if_neg hk, if_neg hs]
  have hval := Dec.val_lt7 ((xs.drop (p + 1)).take k) (by omega)
  obtain ⟨ds, hdsE⟩ : ∃ ds, ds = (xs.drop (p + 1)).take k := ⟨_, rfl⟩
  rw [← hdsE] at hds hspec hval
  have HNO := Lib.hid hno; clear hno
  have HYES := Lib.hid hyes; clear hyes
  have HSPEC := Lib.hid hspec; clear hspec
  have HDSE := Lib.hid hdsE; clear hdsE
  have HDS := Lib.hid hds; clear hds
  have HXL := Lib.hid hxl; clear hxl
  go_enter Try.func64, Try.ntmps64
  go_wp2_with fail
  refine wp_scope_fwd 0 rfl ?_
  go_wp2_with fail
  rw [← hW]
  have HW := Lib.hid hW; clear hW
  have hWc0 := HBW.out.cell 0
  have hWc1 := HBW.out.cell 1
  simp only [List.getElem?_toArray, List.getElem?_cons_zero, List.getElem?_cons_succ] at hWc0 hWc1
  clear hc0 hc1 hf1 hcell
  have hs1 : IntKind.i64.wrap ((p : Int) + 1) = (p : Int) + 1 := IntWalk.i64_in _ (by omega)
  go_quiet (fail)
  clear hs1
  go_wp2_with fail
  rw [show p + (1 + k) - (p + 1) = k from by omega]
  go_loop [8, 74] (fun m i => ∃ j : Nat, j ≤ k ∧ i = .int .i64 j ∧ m = .int .i64 (Dec.val (ds.take j) : Nat)) (fun _ i => k - (intOf i).toNat)
  case atStart => exact ⟨0, by omega, rfl, rfl⟩
  case round =>
    obtain ⟨j, hj, rfl, rfl⟩ := hrel
    by_cases hlt : j < k
    · have hcj : W.cell? ⟨b, o + (p + 1) + j, none⟩ = some (.int .u8 ((xs.getD (p + 1 + j) 0).toNat : Int)) := by
        rw [show o + (p + 1) + j = o + (p + 1 + j) from by omega]
        exact HSW.out.cellAt (by omega)
      have hvl : Dec.val (ds.take j) < 281474976710656 := by
        have h1 := Dec.val_lt (ds.take j)
        have h2 : 256 ^ (ds.take j).length ≤ 256 ^ 6 := Nat.pow_le_pow_right (by omega) (by rw [List.length_take]; omega)
        have h3 : (256 : Nat) ^ 6 = 281474976710656 := by decide
        omega
      have hxl := (xs.getD (p + 1 + j) 0).toNat_lt
      have hor := or_step _ _ hvl hxl
      have hstep : Dec.val (ds.take (j + 1)) = 256 * Dec.val (ds.take j) + (xs.getD (p + 1 + j) 0).toNat := by
        have hdl : j < ds.length := by rw [HDS.out]; exact hlt
        rw [Dec.val_take ds j hdl]
        congr 2
        have h1 : ds[j]? = xs[p + 1 + j]? := by rw [HDSE.out, List.getElem?_take, if_pos hlt, List.getElem?_drop]
        have h2 : ds[j]? = some ds[j] := List.getElem?_eq_getElem hdl
        rw [List.getD_eq_getElem?_getD, ← h1, h2]
        rfl
      have HOR := Lib.hid hor; clear hor
      have HSTEP := Lib.hid hstep; clear hstep
      clear hxl hvl
      go_wp2_with fail
      go_round
      case rel => exact ⟨j + 1, by omega, by go_num, by rw [HSTEP.out, ← HOR.out, List.getD_eq_getElem?_getD]⟩
      case measure => simp [intOf] <;> omega
    · obtain rfl : j = k := by omega
      have htake : ds.take j = ds := List.take_of_length_le (by rw [HDS.out]; omega)
      rw [htake]
      have hc1 : W.cell? ⟨b, o + (p + 1), none⟩ = some (.int .u8 ((xs.getD (p + 1) 0).toNat : Int)) := HSW.out.cellAt (by omega)
      have hx1 : xs.getD (p + 1) 0 = 0 ↔ (xs.getD (p + 1) 0).toNat = 0 := by
        constructor
        · intro h; rw [h]; rfl
        · intro h; exact UInt8.toNat_inj.1 (by rw [h]; rfl)
      have HX1 := Lib.hid hx1; clear hx1
      obtain ⟨x1, hx1E⟩ : ∃ x1, x1 = (xs.getD (p + 1) 0).toNat := ⟨_, rfl⟩
      rw [← hx1E] at hc1
      have HX1E := Lib.hid hx1E; clear hx1E
      obtain ⟨m, hmE⟩ : ∃ m, m = Dec.val ds := ⟨_, rfl⟩
      rw [← hmE] at hval ⊢
      have HME := Lib.hid hmE; clear hmE htake hlt
      have hk0 : decide (0 < (j : Int)) = true := by simpa using h0
      by_cases hz : x1 = 0
      · have hzb : ((x1 : Int) == 0) = true := by subst hz; rfl
        have herr : Dec.number lo hi xs p = .error p := by rw [HSPEC.out, if_pos (.inl ⟨h0, HX1.out.2 (by rw [← HX1E.out, hz])⟩)]
        have HERR := Lib.hid herr; clear herr
        clear hz
        go_wp2_with fail
        refine wp_goto ?_
        go_wp2_with fail
        refine ⟨rfl, ?_⟩
        show Code.wp _ _ _ _ _
        go_wp2_with fail
        refine (fail_any _ _ _).mono ?_
        rintro e w1 ⟨rfl, rfl⟩
        exact ⟨rfl, HNO.out _ HERR.out⟩
      · have hzb : ((x1 : Int) == 0) = false := by simp; omega
        have hnz : ¬ (0 < j ∧ xs.getD (p + 1) 0 = 0) := fun h => hz (by rw [HX1E.out]; exact HX1.out.1 h.2)
        have HNZ := Lib.hid hnz; clear hnz
        clear hz
        by_cases hlo : (m : Int) < lo
        · have herr : Dec.number lo hi xs p = .error p := by rw [HSPEC.out, if_pos (.inr (.inl (by rw [← HME.out]; exact hlo)))]
          have HERR := Lib.hid herr; clear herr
          go_wp2_with fail
          refine wp_goto ?_
          go_wp2_with fail
          refine ⟨rfl, ?_⟩
          show Code.wp _ _ _ _ _
          go_wp2_with fail
          refine (fail_any _ _ _).mono ?_
          rintro e w1 ⟨rfl, rfl⟩
          exact ⟨rfl, HNO.out _ HERR.out⟩
        · by_cases hhi : hi < (m : Int)
          · have herr : Dec.number lo hi xs p = .error p := by rw [HSPEC.out, if_pos (.inr (.inr (by rw [← HME.out]; exact hhi)))]
            have HERR := Lib.hid herr; clear herr
            go_wp2_with fail
            refine wp_goto ?_
            go_wp2_with fail
            refine ⟨rfl, ?_⟩
            show Code.wp _ _ _ _ _
            go_wp2_with fail
            refine (fail_any _ _ _).mono ?_
            rintro e w1 ⟨rfl, rfl⟩
            exact ⟨rfl, HNO.out _ HERR.out⟩
          · have hok : Dec.number lo hi xs p = .ok ((m : Int), p + 1 + j) := by
              rw [HSPEC.out, ← HME.out, if_neg (by
                rintro (h | h | h)
                · exact HNZ.out h
                · exact hlo h
                · exact hhi h)]
            have HOK := Lib.hid hok; clear hok
            go_wp2_with fail
            simp only [Exit.jump]
            go_ret
            exact HYES.out _ _ HOK.out

set_option maxRecDepth 100000 in
set_option maxHeartbeats 4000000 in
theorem enumber_zero (be : Nat) (A : Option Addr) (n c : Nat) (xs : List UInt8) (p : Nat) (lo hi : Int) (w : World) (he : Eye w be A n c xs p) (hp : p < n) (k : Nat) (hkk : k = (xs.getD p 0).toNat) (hk : ¬ 7 < k) (hs : ¬ n - p - 1 < k) (h0 : k = 0) :
    Calls Try.prog 64 #[.pointer (some ⟨be, 0, none⟩), .int .i64 lo, .int .i64 hi] w (EyeEnd (α := Int) (fun v => .int .i64 v) be A n c xs w (Dec.number lo hi xs p)) := by
  have hc0 := he.1.cell 0
  have hc1 := he.1.cell 1
  have hf1 := he.1.frozen 1
  simp only [List.getElem?_toArray, List.getElem?_cons_zero, List.getElem?_cons_succ] at hc0 hc1
  have hm := he.2.1.2.2.1
  have hn := he.2.1.2.1
  unfold maxLen at hm
  obtain ⟨b, o, rfl⟩ := he.2.1.at_ (by omega)
  have hcell := he.2.1.cellAt hp
  rw [← hkk] at hcell
  have hlt := (xs.getD p 0).toNat_lt
  rw [← hkk] at hlt
  have HKK := Lib.hid hkk; clear hkk
  have HE := Lib.hid he; clear he
  have H0 := Lib.hid h0; clear h0
  have hbe : b ≠ be := Nat.ne_of_lt (HE.out.2.2.2 _ rfl (by omega))
  have hxl := HE.out.2.1.1
  obtain ⟨W, hW⟩ : ∃ W, W = w.setCell ⟨be, 1, none⟩ (.int .i64 ((p : Int) + (1 + (k : Int)))) := ⟨_, rfl⟩
  have hBW : Blk W be 111 #[.slice (some ⟨b, o, none⟩) n c, .int .i64 ((p : Int) + (1 + (k : Int)))] := by rw [hW]; exact HE.out.1.set_ 1 _
  have hTW : Touch (· = be) w W := by rw [hW]; exact (Touch.refl (· = be) w).setCell (p := ⟨be, 1, none⟩) (.inr rfl) _
  have hSW : Bs W (some ⟨b, o, none⟩) n c xs := HE.out.2.1.touch hTW (fun a ha _ e => by injection ha with ha; subst ha; exact hbe e)
  have HBW := Lib.hid hBW; clear hBW
  have HTW := Lib.hid hTW; clear hTW
  have HSW := Lib.hid hSW; clear hSW
  have hno : ∀ nq, Dec.number lo hi xs p = .error p → EyeEnd (α := Int) (fun v => .int .i64 v) be (some ⟨b, o, none⟩) n c xs w (Dec.number lo hi xs p) (.panicked [stopAt p]) (W.drewN nq) := by
    intro nq h
    rw [h]
    exact ⟨rfl, HTW.out.drewN nq⟩
  have hyes : ∀ nq (m : Nat), Dec.number lo hi xs p = .ok ((m : Int), p + 1 + k) → EyeEnd (α := Int) (fun v => .int .i64 v) be (some ⟨b, o, none⟩) n c xs w (Dec.number lo hi xs p) (.returned (.int .i64 m)) (W.drewN nq) := by
    intro nq m h
    rw [h]
    refine ⟨rfl, ⟨?_, HSW.out.drewN nq, by omega, HE.out.2.2.2⟩, HTW.out.drewN nq⟩
    have h0 := HBW.out.drewN nq
    have e1 : (p : Int) + (1 + (k : Int)) = ((p + 1 + k : Nat) : Int) := by omega
    rw [e1] at h0
    exact h0
  have hds : ((xs.drop (p + 1)).take k).length = k := by rw [List.length_take, List.length_drop, hxl]; omega
  have hspec : Dec.number lo hi xs p = if (0 < k ∧ xs.getD (p + 1) 0 = 0) ∨ (Dec.val ((xs.drop (p + 1)).take k) : Int) < lo ∨ hi < (Dec.val ((xs.drop (p + 1)).take k) : Int) then .error p else .ok ((Dec.val ((xs.drop (p + 1)).take k) : Int), p + 1 + k) := by
    unfold Dec.number
    rw [← HKK.out, hxl, if_neg (by omega), if_neg hk, if_neg hs]
  have hval := Dec.val_lt7 ((xs.drop (p + 1)).take k) (by omega)
  obtain ⟨ds, hdsE⟩ : ∃ ds, ds = (xs.drop (p + 1)).take k := ⟨_, rfl⟩
  rw [← hdsE] at hds hspec hval
  have HNO := Lib.hid hno; clear hno
  have HYES := Lib.hid hyes; clear hyes
  have HSPEC := Lib.hid hspec; clear hspec
  have HDSE := Lib.hid hdsE; clear hdsE
  have HDS := Lib.hid hds; clear hds
  have HXL := Lib.hid hxl; clear hxl
  go_enter Try.func64, Try.ntmps64
  go_wp2_with fail
  refine wp_scope_fwd 0 rfl ?_
  go_wp2_with fail
  rw [← hW]
  have HW := Lib.hid hW; clear hW
  have hWc0 := HBW.out.cell 0
  have hWc1 := HBW.out.cell 1
  simp only [List.getElem?_toArray, List.getElem?_cons_zero, List.getElem?_cons_succ] at hWc0 hWc1
  clear hc0 hc1 hf1 hcell
  have hs1 : IntKind.i64.wrap ((p : Int) + 1) = (p : Int) + 1 := IntWalk.i64_in _ (by omega)
  go_quiet (fail)
  clear hs1
  have hds0 : ds = [] := List.eq_nil_of_length_eq_zero (by rw [HDS.out]; exact H0.out)
  have hv0 : Dec.val ds = 0 := by rw [hds0]; rfl
  have hk0 : decide (0 < (k : Int)) = false := by have := H0.out; simp; omega
  have HV0 := Lib.hid hv0
  clear hds0 hv0 hval
  go_wp2_with fail
  all_goals
    rw [show p + (1 + k) - (p + 1) = k from by omega]
    go_loop [8, 74] (fun m i => m = .int .i64 0 ∧ i = .int .i64 0) (fun _ _ => 0)
    case atStart => exact ⟨rfl, rfl⟩
    case round =>
      obtain ⟨rfl, rfl⟩ := hrel
      have hk00 : ¬ (0 : Int) < (k : Int) := by have := H0.out; omega
      by_cases hlo : (0 : Int) < lo
      · have herr : Dec.number lo hi xs p = .error p := by rw [HSPEC.out, if_pos (.inr (.inl (by rw [HV0.out]; exact hlo)))]
        have HERR := Lib.hid herr; clear herr
        go_wp2_with fail
        refine wp_goto ?_
        go_wp2_with fail
        refine ⟨rfl, ?_⟩
        show Code.wp _ _ _ _ _
        go_wp2_with fail
        refine (fail_any _ _ _).mono ?_
        rintro e w1 ⟨rfl, rfl⟩
        exact ⟨rfl, HNO.out _ HERR.out⟩
      · by_cases hhi : hi < (0 : Int)
        · have herr : Dec.number lo hi xs p = .error p := by rw [HSPEC.out, if_pos (.inr (.inr (by rw [HV0.out]; exact hhi)))]
          have HERR := Lib.hid herr; clear herr
          go_wp2_with fail
          refine wp_goto ?_
          go_wp2_with fail
          refine ⟨rfl, ?_⟩
          show Code.wp _ _ _ _ _
          go_wp2_with fail
          refine (fail_any _ _ _).mono ?_
          rintro e w1 ⟨rfl, rfl⟩
          exact ⟨rfl, HNO.out _ HERR.out⟩
        · have hok : Dec.number lo hi xs p = .ok (((0 : Nat) : Int), p + 1 + k) := by
            rw [HSPEC.out, HV0.out, if_neg (by
              rintro (h | h | h)
              · have := H0.out; omega
              · exact hlo h
              · exact hhi h)]
          have HOK := Lib.hid hok; clear hok
          go_wp2_with fail
          simp only [Exit.jump]
          go_ret
          exact HYES.out _ 0 HOK.out

theorem enumber_any (be : Nat) (A : Option Addr) (n c : Nat) (xs : List UInt8) (p : Nat) (lo hi : Int) (w : World) (he : Eye w be A n c xs p) :
    Calls Try.prog 64 #[.pointer (some ⟨be, 0, none⟩), .int .i64 lo, .int .i64 hi] w (EyeEnd (α := Int) (fun v => .int .i64 v) be A n c xs w (Dec.number lo hi xs p)) := by
  have hxl := he.2.1.1
  by_cases hp : p < n
  · by_cases hk : 7 < (xs.getD p 0).toNat
    · refine (enumber_big be A n c xs p lo hi w he hp hk).mono ?_
      rintro e w' ⟨rfl, rfl⟩
      unfold Dec.number
      rw [if_neg (by omega), if_pos hk]
      exact ⟨rfl, Touch.refl _ _⟩
    · by_cases hs : n - p - 1 < (xs.getD p 0).toNat
      · refine (enumber_short be A n c xs p lo hi w he hp hk hs).mono ?_
        rintro e w' ⟨rfl, rfl⟩
        unfold Dec.number
        rw [if_neg (by omega), if_neg hk, hxl, if_pos hs]
        exact ⟨rfl, Touch.refl _ _⟩
      · rcases Nat.eq_zero_or_pos (xs.getD p 0).toNat with h0 | h0
        · exact enumber_zero be A n c xs p lo hi w he hp _ rfl hk hs h0
        · exact enumber_pos be A n c xs p lo hi w he hp _ rfl hk hs h0
  · have : p = n := by have := he.2.2.1; omega
    subst this
    refine (enumber_end be A p c xs lo hi w he).mono ?_
    rintro e w' ⟨rfl, rfl⟩
    unfold Dec.number
    rw [if_pos (by omega), hxl]
    exact ⟨rfl, Touch.refl _ _⟩
end Go.Proofs.Ytdfhdanfigpbpaa
