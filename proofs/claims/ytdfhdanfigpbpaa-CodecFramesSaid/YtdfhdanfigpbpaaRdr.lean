/- The contracts of the reference's Reader: number, signed, text, flag, end. -/
import Derived.Test.YtdfhdanfigpbpaaEye2
namespace Go.Proofs.Ytdfhdanfigpbpaa
open Go.RowKit

/-- A Reader at block br over bytes: its place, whether it is refused, and where. -/
def Rdr (w : World) (br : Nat) (A : Option Addr) (n c : Nat) (xs : List UInt8) (p : Nat) (bad : Bool) (on : Nat) : Prop :=
  Blk w br 103 #[.slice A n c, .int .i64 p, .bool bad, .int .i64 on] ∧ Bs w A n c xs ∧ p ≤ n ∧ (∀ a, A = some a → 0 < n → a.block < br) ∧ n ≤ 140737488355328
def RdrSt (w : World) (br : Nat) (A : Option Addr) (n c : Nat) (xs : List UInt8) (st : Except Nat Nat) : Prop :=
  ∃ p bad on, Rdr w br A n c xs p bad on ∧ st = if bad then .error on else .ok p
def RdrEnd {α : Type} (f : α → Value) (z : α) (br : Nat) (A : Option Addr) (n c : Nat) (xs : List UInt8) (st : Except Nat Nat) (g : Nat → Dec.Rd α) (w : World) (e : Ending) (w' : World) : Prop :=
  ∃ x st', e = .returned (f x) ∧ RdrSt w' br A n c xs st' ∧ Touch (· = br) w w' ∧
    (match st with
      | .error a => x = z ∧ st' = .error a
      | .ok p => match g p with
        | .error a => x = z ∧ st' = .error a
        | .ok (y, q) => x = y ∧ st' = .ok q)
/-- the place is turned -/
theorem Rdr.set_ {w : World} {br : Nat} {A : Option Addr} {n c : Nat} {xs : List UInt8} {p : Nat} {bad : Bool} {on : Nat} (h : Rdr w br A n c xs p bad on) (q : Nat) (hq : q ≤ n) : Rdr (w.setCell ⟨br, 1, none⟩ (.int .i64 q)) br A n c xs q bad on :=
  ⟨h.1.set_ 1 _, h.2.1.touch ((Touch.refl (· = br) w).setCell (p := ⟨br, 1, none⟩) (.inr rfl) _) (fun a ha h0 e => by have := h.2.2.2.1 a ha h0; omega), hq, h.2.2.2⟩
theorem Rdr.drewN {w : World} {br : Nat} {A : Option Addr} {n c : Nat} {xs : List UInt8} {p : Nat} {bad : Bool} {on : Nat} (h : Rdr w br A n c xs p bad on) (q : Nat) : Rdr (w.drewN q) br A n c xs p bad on := ⟨h.1, h.2.1, h.2.2⟩

set_option maxRecDepth 20000 in
set_option maxHeartbeats 1000000 in
theorem no_any (br : Nat) (A : Option Addr) (n c : Nat) (xs : List UInt8) (p on a : Nat) (w : World) (h : Rdr w br A n c xs p false on) :
    Calls Try.prog 106 #[.pointer (some ⟨br, 0, none⟩), .int .i64 a] w fun e w' => e = .returned (.tuple #[]) ∧ Rdr w' br A n c xs p true a ∧ Touch (· = br) w w' := by
  have hc2 := h.1.cell 2
  have hc3 := h.1.cell 3
  have hf2 := h.1.frozen 2
  have hf3 := h.1.frozen 3
  simp only [List.getElem?_toArray, List.getElem?_cons_zero, List.getElem?_cons_succ] at hc2 hc3
  have hT : Touch (· = br) w ((w.setCell ⟨br, 2, none⟩ (.bool true)).setCell ⟨br, 3, none⟩ (.int .i64 a)) := ((Touch.refl (· = br) w).setCell (p := ⟨br, 2, none⟩) (.inr rfl) _).setCell (p := ⟨br, 3, none⟩) (.inr rfl) _
  have hR : Rdr ((w.setCell ⟨br, 2, none⟩ (.bool true)).setCell ⟨br, 3, none⟩ (.int .i64 a)) br A n c xs p true a :=
    ⟨(h.1.set_ 2 _).set_ 3 _, h.2.1.touch hT (fun a ha h0 e => by have := h.2.2.2.1 a ha h0; omega), h.2.2⟩
  have HT := Lib.hid hT
  have HR := Lib.hid hR
  clear hT hR h
  have hnot : ∀ (x : Bool) (w : World), (Op.unary .not (.bool x)).run Try.prog w = .ok (.bool (!x)) w := fun _ _ => rfl
  go_enter Try.func106, Try.ntmps106
  go_wp2_with fail
  go_end0
  exact ⟨rfl, HR.out, HT.out⟩

set_option maxRecDepth 100000 in
set_option maxHeartbeats 1000000 in
theorem rnumber_bad (br : Nat) (A : Option Addr) (n c : Nat) (xs : List UInt8) (p on : Nat) (lo hi : Int) (w : World) (h : Rdr w br A n c xs p true on) :
    Calls Try.prog 67 #[.pointer (some ⟨br, 0, none⟩), .int .i64 lo, .int .i64 hi] w fun e w' => w = w' ∧ e = .returned (.int .i64 0) := by
  have hc1 := h.1.cell 1
  have hc2 := h.1.cell 2
  simp only [List.getElem?_toArray, List.getElem?_cons_zero, List.getElem?_cons_succ] at hc1 hc2
  clear h
  go_enter Try.func67, Try.ntmps67
  go_wp2_with fail
  go_ret
  exact ⟨rfl, rfl⟩

/-- what number does where it is refused at a place -/
def RNo (br : Nat) (A : Option Addr) (n c : Nat) (xs : List UInt8) (p a : Nat) (w : World) (e : Ending) (w' : World) : Prop := e = .returned (.int .i64 0) ∧ Rdr w' br A n c xs p true a ∧ Touch (· = br) w w'

set_option maxRecDepth 100000 in
set_option maxHeartbeats 2000000 in
theorem rnumber_end (br : Nat) (A : Option Addr) (n c : Nat) (xs : List UInt8) (on : Nat) (lo hi : Int) (w : World) (h : Rdr w br A n c xs n false on) :
    Calls Try.prog 67 #[.pointer (some ⟨br, 0, none⟩), .int .i64 lo, .int .i64 hi] w (RNo br A n c xs n n w) := by
  have hc0 := h.1.cell 0
  have hc1 := h.1.cell 1
  have hc2 := h.1.cell 2
  simp only [List.getElem?_toArray, List.getElem?_cons_zero, List.getElem?_cons_succ] at hc0 hc1 hc2
  have HK := Lib.hid (no_any br A n c xs n on n w h)
  clear h
  go_enter Try.func67, Try.ntmps67
  go_wp2_with fail
  refine HK.out.mono ?_
  rintro e w1 ⟨rfl, h1, h2⟩
  have H1 := Lib.hid h1
  have H2 := Lib.hid h2
  clear h1 h2
  go_wp2_with fail
  go_ret
  exact ⟨rfl, H1.out, H2.out⟩

set_option maxRecDepth 100000 in
set_option maxHeartbeats 2000000 in
theorem rnumber_big (br : Nat) (A : Option Addr) (n c : Nat) (xs : List UInt8) (p on : Nat) (lo hi : Int) (w : World) (h : Rdr w br A n c xs p false on) (hp : p < n) (hk : 7 < (xs.getD p 0).toNat) :
    Calls Try.prog 67 #[.pointer (some ⟨br, 0, none⟩), .int .i64 lo, .int .i64 hi] w (RNo br A n c xs p p w) := by
  have hc0 := h.1.cell 0
  have hc1 := h.1.cell 1
  have hc2 := h.1.cell 2
  simp only [List.getElem?_toArray, List.getElem?_cons_zero, List.getElem?_cons_succ] at hc0 hc1 hc2
  have HK := Lib.hid (no_any br A n c xs p on p w h)
  obtain ⟨b, o, rfl⟩ := h.2.1.at_ (by omega)
  have hcell := h.2.1.cellAt hp
  have hlt := (xs.getD p 0).toNat_lt
  generalize (xs.getD p 0).toNat = k at *
  clear h
  go_enter Try.func67, Try.ntmps67
  go_wp2_with fail
  refine HK.out.mono ?_
  rintro e w1 ⟨rfl, h1, h2⟩
  have H1 := Lib.hid h1
  have H2 := Lib.hid h2
  clear h1 h2
  go_wp2_with fail
  go_ret
  exact ⟨rfl, H1.out, H2.out⟩

set_option maxRecDepth 100000 in
set_option maxHeartbeats 2000000 in
theorem rnumber_short (br : Nat) (A : Option Addr) (n c : Nat) (xs : List UInt8) (p on : Nat) (lo hi : Int) (w : World) (h : Rdr w br A n c xs p false on) (hp : p < n) (hk : ¬ 7 < (xs.getD p 0).toNat) (hs : n - p - 1 < (xs.getD p 0).toNat) :
    Calls Try.prog 67 #[.pointer (some ⟨br, 0, none⟩), .int .i64 lo, .int .i64 hi] w (RNo br A n c xs p n w) := by
  have hc0 := h.1.cell 0
  have hc1 := h.1.cell 1
  have hc2 := h.1.cell 2
  simp only [List.getElem?_toArray, List.getElem?_cons_zero, List.getElem?_cons_succ] at hc0 hc1 hc2
  have hm := h.2.1.2.2.1
  have hn := h.2.1.2.1
  unfold maxLen at hm
  have HK := Lib.hid (no_any br A n c xs p on n w h)
  obtain ⟨b, o, rfl⟩ := h.2.1.at_ (by omega)
  have hcell := h.2.1.cellAt hp
  have hlt := (xs.getD p 0).toNat_lt
  generalize (xs.getD p 0).toNat = k at *
  have hs' : (n : Int) < (p : Int) + 1 + (k : Int) := by omega
  clear hs
  have hN := h.2.2.2.2
  clear h
  go_enter Try.func67, Try.ntmps67
  go_wp2_with fail
  refine HK.out.mono ?_
  rintro e w1 ⟨rfl, h1, h2⟩
  have H1 := Lib.hid h1
  have H2 := Lib.hid h2
  clear h1 h2
  go_wp2_with fail
  go_ret
  exact ⟨rfl, H1.out, H2.out⟩

/-- what number does where all its bytes are there -/
def RYes (br : Nat) (A : Option Addr) (n c : Nat) (xs : List UInt8) (p : Nat) (w : World) (r : Dec.Rd Int) (e : Ending) (w' : World) : Prop :=
  match r with
  | .error a => RNo br A n c xs p a w e w'
  | .ok (v, q) => e = .returned (.int .i64 v) ∧ (∃ on, Rdr w' br A n c xs q false on) ∧ Touch (· = br) w w'

set_option maxRecDepth 100000 in
set_option maxHeartbeats 4000000 in
theorem rnumber_read (br : Nat) (A : Option Addr) (n c : Nat) (xs : List UInt8) (p on : Nat) (lo hi : Int) (w : World) (h : Rdr w br A n c xs p false on) (hp : p < n) (k : Nat) (hkk : k = (xs.getD p 0).toNat) (hk : ¬ 7 < k) (hs : ¬ n - p - 1 < k) :
    Calls Try.prog 67 #[.pointer (some ⟨br, 0, none⟩), .int .i64 lo, .int .i64 hi] w (RYes br A n c xs p w (Dec.number lo hi xs p)) := by
  have hc0 := h.1.cell 0
  have hc1 := h.1.cell 1
  have hc2 := h.1.cell 2
  have hf1 := h.1.frozen 1
  simp only [List.getElem?_toArray, List.getElem?_cons_zero, List.getElem?_cons_succ] at hc0 hc1 hc2
  have hm := h.2.1.2.2.1
  have hn := h.2.1.2.1
  unfold maxLen at hm
  have HK := Lib.hid (no_any br A n c xs p on p w h)
  obtain ⟨b, o, rfl⟩ := h.2.1.at_ (by omega)
  have hcell := h.2.1.cellAt hp
  rw [← hkk] at hcell
  have hlt := (xs.getD p 0).toNat_lt
  rw [← hkk] at hlt
  have hxl := h.2.1.1
  have hspec : Dec.number lo hi xs p = if (0 < k ∧ xs.getD (p + 1) 0 = 0) ∨ (Dec.val ((xs.drop (p + 1)).take k) : Int) < lo ∨ hi < (Dec.val ((xs.drop (p + 1)).take k) : Int) then .error p else .ok ((Dec.val ((xs.drop (p + 1)).take k) : Int), p + 1 + k) := by
    unfold Dec.number
    rw [← hkk, hxl, if_neg (by omega), if_neg hk, if_neg hs]
  have hds : ((xs.drop (p + 1)).take k).length = k := by rw [List.length_take, List.length_drop, hxl]; omega
  have hval := Dec.val_lt7 ((xs.drop (p + 1)).take k) (by omega)
  have hs' : ¬ (n : Int) < (p : Int) + 1 + (k : Int) := by omega
  obtain ⟨ds, hdsE⟩ : ∃ ds, ds = (xs.drop (p + 1)).take k := ⟨_, rfl⟩
  rw [← hdsE] at hds hspec hval
  have H := Lib.hid h
  have HSPEC := Lib.hid hspec
  have HDSE := Lib.hid hdsE
  have HDS := Lib.hid hds
  have HXL := Lib.hid hxl
  have HKK := Lib.hid hkk
  clear h hspec hdsE hds hxl hkk
  have hs2 : p + 1 + k ≤ n := by omega
  clear hs
  go_enter Try.func67, Try.ntmps67
  go_wp2_with fail
  go_loop [9, 10] (fun m i => ∃ j : Nat, j ≤ k ∧ i = .int .i64 j ∧ m = .int .i64 (Dec.val (ds.take j) : Nat)) (fun _ i => k - (intOf i).toNat)
  case atStart => exact ⟨0, by omega, rfl, rfl⟩
  case round =>
    obtain ⟨j, hj, rfl, rfl⟩ := hrel
    by_cases hlt2 : j < k
    · have hcj : w.cell? ⟨b, o + (p + 1 + j), none⟩ = some (.int .u8 ((xs.getD (p + 1 + j) 0).toNat : Int)) := H.out.2.1.cellAt (by omega)
      have hvl : Dec.val (ds.take j) < 281474976710656 := by
        have h1 := Dec.val_lt (ds.take j)
        have h2 : 256 ^ (ds.take j).length ≤ 256 ^ 6 := Nat.pow_le_pow_right (by omega) (by rw [List.length_take]; omega)
        have h3 : (256 : Nat) ^ 6 = 281474976710656 := by decide
        omega
      have hxb := (xs.getD (p + 1 + j) 0).toNat_lt
      have hstep : Dec.val (ds.take (j + 1)) = 256 * Dec.val (ds.take j) + (xs.getD (p + 1 + j) 0).toNat := by
        have hdl : j < ds.length := by rw [HDS.out]; exact hlt2
        rw [Dec.val_take ds j hdl]
        congr 2
        have h1 : ds[j]? = xs[p + 1 + j]? := by rw [HDSE.out, List.getElem?_take, if_pos hlt2, List.getElem?_drop]
        have h2 : ds[j]? = some ds[j] := List.getElem?_eq_getElem hdl
        rw [List.getD_eq_getElem?_getD, ← h1, h2]
        rfl
      have HSTEP := Lib.hid hstep; clear hstep
      generalize (xs.getD (p + 1 + j) 0).toNat = y at *
      go_wp2_with fail
      go_round
      case rel => exact ⟨j + 1, by omega, by go_num, by rw [HSTEP.out]; go_num⟩
      case measure => simp [intOf] <;> omega
    · obtain rfl : j = k := by omega
      have htake : ds.take j = ds := List.take_of_length_le (by rw [HDS.out]; omega)
      rw [htake]
      obtain ⟨m, hmE⟩ : ∃ m, m = Dec.val ds := ⟨_, rfl⟩
      rw [← hmE] at hval ⊢
      have HME := Lib.hid hmE; clear hmE htake hlt2
      have HERR : Hid (Dec.number lo hi xs p = .error p → ∀ w1, Rdr w1 br (some ⟨b, o, none⟩) n c xs p true p → Touch (· = br) w w1 → RYes br (some ⟨b, o, none⟩) n c xs p w (Dec.number lo hi xs p) (.returned (.int .i64 0)) w1) := Lib.hid fun h w1 h1 h2 => by rw [h]; exact ⟨rfl, h1, h2⟩
      have HOK : Hid (Dec.number lo hi xs p = .ok ((m : Int), p + 1 + j) → RYes br (some ⟨b, o, none⟩) n c xs p w (Dec.number lo hi xs p) (.returned (.int .i64 m)) (w.setCell ⟨br, 1, none⟩ (.int .i64 ((p : Int) + 1 + (j : Int))))) := Lib.hid fun h => by
        rw [h]
        have h9 := H.out.set_ (p + 1 + j) (by omega)
        rw [show ((p + 1 + j : Nat) : Int) = (p : Int) + 1 + (j : Int) from by omega] at h9
        exact ⟨rfl, ⟨on, h9⟩, (Touch.refl (· = br) w).setCell (p := ⟨br, 1, none⟩) (.inr rfl) _⟩
      have hnum : ∀ a : Nat, ((xs.getD (p + 1) 0).toNat = 0 ↔ xs.getD (p + 1) 0 = 0) := fun _ => by
        constructor
        · intro h; exact UInt8.toNat_inj.1 (by rw [h]; rfl)
        · intro h; rw [h]; rfl
      have HX1 := Lib.hid (hnum 0); clear hnum
      rcases Nat.eq_zero_or_pos j with h0 | h0
      · have hk0 : decide (0 < (j : Int)) = false := by subst h0; rfl
        have hk00 : ¬ (0 : Int) < (j : Int) := by omega
        have HZ := Lib.hid h0; clear h0
        by_cases hlo : (m : Int) < lo
        · have herr := Lib.hid (HERR.out (by rw [HSPEC.out, if_pos (.inr (.inl (by rw [← HME.out]; exact hlo)))]))
          go_wp2_with fail
          refine HK.out.mono ?_
          rintro e w1 ⟨rfl, h1, h2⟩
          have H1 := Lib.hid h1; have H2 := Lib.hid h2; clear h1 h2
          go_wp2_with fail
          go_ret
          exact herr.out _ H1.out H2.out
        · by_cases hhi : hi < (m : Int)
          · have herr := Lib.hid (HERR.out (by rw [HSPEC.out, if_pos (.inr (.inr (by rw [← HME.out]; exact hhi)))]))
            go_wp2_with fail
            refine HK.out.mono ?_
            rintro e w1 ⟨rfl, h1, h2⟩
            have H1 := Lib.hid h1; have H2 := Lib.hid h2; clear h1 h2
            go_wp2_with fail
            go_ret
            exact herr.out _ H1.out H2.out
          · have hok := Lib.hid (HOK.out (by
              rw [HSPEC.out, ← HME.out, if_neg (by
                rintro (h | h | h)
                · have := HZ.out; omega
                · exact hlo h
                · exact hhi h)]))
            go_wp2_with fail
            go_ret
            exact hok.out
      · have hk0 : decide (0 < (j : Int)) = true := by simpa using h0
        have hcx : w.cell? ⟨b, o + (p + 1), none⟩ = some (.int .u8 ((xs.getD (p + 1) 0).toNat : Int)) := H.out.2.1.cellAt (by omega)
        have HPOS : Hid (0 < j) := Lib.hid h0
        obtain ⟨x1, hx1E⟩ : ∃ x1, x1 = (xs.getD (p + 1) 0).toNat := ⟨_, rfl⟩
        rw [← hx1E] at hcx
        have HX1E := Lib.hid hx1E; clear hx1E
        by_cases hz : x1 = 0
        · have hzb : ((x1 : Int) == 0) = true := by subst hz; rfl
          have herr := Lib.hid (HERR.out (by rw [HSPEC.out, if_pos (.inl ⟨h0, HX1.out.1 (by rw [← HX1E.out]; exact hz)⟩)]))
          clear hz
          go_wp2_with fail
          refine HK.out.mono ?_
          rintro e w1 ⟨rfl, h1, h2⟩
          have H1 := Lib.hid h1; have H2 := Lib.hid h2; clear h1 h2
          go_wp2_with fail
          go_ret
          exact herr.out _ H1.out H2.out
        · have hzb : ((x1 : Int) == 0) = false := by simp; omega
          have hnz := Lib.hid (show ¬ (0 < j ∧ xs.getD (p + 1) 0 = 0) from fun h => hz (by rw [HX1E.out]; exact HX1.out.2 h.2))
          clear hz
          by_cases hlo : (m : Int) < lo
          · have herr := Lib.hid (HERR.out (by rw [HSPEC.out, if_pos (.inr (.inl (by rw [← HME.out]; exact hlo)))]))
            go_wp2_with fail
            refine HK.out.mono ?_
            rintro e w1 ⟨rfl, h1, h2⟩
            have H1 := Lib.hid h1; have H2 := Lib.hid h2; clear h1 h2
            go_wp2_with fail
            go_ret
            exact herr.out _ H1.out H2.out
          · by_cases hhi : hi < (m : Int)
            · have herr := Lib.hid (HERR.out (by rw [HSPEC.out, if_pos (.inr (.inr (by rw [← HME.out]; exact hhi)))]))
              go_wp2_with fail
              refine HK.out.mono ?_
              rintro e w1 ⟨rfl, h1, h2⟩
              have H1 := Lib.hid h1; have H2 := Lib.hid h2; clear h1 h2
              go_wp2_with fail
              go_ret
              exact herr.out _ H1.out H2.out
            · have hok := Lib.hid (HOK.out (by
                rw [HSPEC.out, ← HME.out, if_neg (by
                  rintro (h | h | h)
                  · exact hnz.out h
                  · exact hlo h
                  · exact hhi h)]))
              go_wp2_with fail
              go_ret
              exact hok.out

theorem rnumber_any (br : Nat) (A : Option Addr) (n c : Nat) (xs : List UInt8) (st : Except Nat Nat) (lo hi : Int) (w : World) (h : RdrSt w br A n c xs st) :
    Calls Try.prog 67 #[.pointer (some ⟨br, 0, none⟩), .int .i64 lo, .int .i64 hi] w (RdrEnd (α := Int) (fun v => .int .i64 v) 0 br A n c xs st (Dec.number lo hi xs) w) := by
  obtain ⟨p, bad, on, h, rfl⟩ := h
  have hxl := h.2.1.1
  cases bad
  · have key : ∀ a e w', Dec.number lo hi xs p = .error a → RNo br A n c xs p a w e w' → RdrEnd (α := Int) (fun v => .int .i64 v) 0 br A n c xs (.ok p) (Dec.number lo hi xs) w e w' := by
      rintro a e w' hr ⟨rfl, h1, h2⟩
      exact ⟨0, .error a, rfl, ⟨p, true, a, h1, rfl⟩, h2, by simp [hr]⟩
    by_cases hp : p < n
    · by_cases hk : 7 < (xs.getD p 0).toNat
      · exact (rnumber_big br A n c xs p on lo hi w h hp hk).mono fun e w' hh => key p e w' (by unfold Dec.number; rw [if_neg (by omega), if_pos hk]) hh
      · by_cases hs : n - p - 1 < (xs.getD p 0).toNat
        · exact (rnumber_short br A n c xs p on lo hi w h hp hk hs).mono fun e w' hh => key n e w' (by unfold Dec.number; rw [if_neg (by omega), if_neg hk, hxl, if_pos hs]) hh
        · refine (rnumber_read br A n c xs p on lo hi w h hp _ rfl hk hs).mono fun e w' hh => ?_
          cases hr : Dec.number lo hi xs p with
          | error a => rw [hr] at hh; exact key a e w' hr hh
          | ok y =>
            rw [hr] at hh
            obtain ⟨rfl, ⟨on', h1⟩, h2⟩ := hh
            exact ⟨y.1, .ok y.2, rfl, ⟨y.2, false, on', h1, rfl⟩, h2, by simp [hr]⟩
    · have : p = n := by have := h.2.2.1; omega
      subst this
      exact (rnumber_end br A p c xs on lo hi w h).mono fun e w' hh => key p e w' (by unfold Dec.number; rw [if_pos (by omega), hxl]) hh
  · refine (rnumber_bad br A n c xs p on lo hi w h).mono ?_
    rintro e w' ⟨rfl, rfl⟩
    exact ⟨0, .error on, rfl, ⟨p, true, on, h, rfl⟩, Touch.refl _ _, rfl, rfl⟩

theorem RdrEnd.cases {α : Type} {f : α → Value} {z : α} {br : Nat} {A : Option Addr} {n c : Nat} {xs : List UInt8} {st : Except Nat Nat} {g : Nat → Dec.Rd α} {w : World} {e : Ending} {w' : World} (h : RdrEnd f z br A n c xs st g w e w') :
    ∃ x st', e = .returned (f x) ∧ RdrSt w' br A n c xs st' ∧ Touch (· = br) w w' ∧ ((∃ a, st = .error a ∧ x = z ∧ st' = .error a) ∨ (∃ p a, st = .ok p ∧ g p = .error a ∧ x = z ∧ st' = .error a) ∨ (∃ p q, st = .ok p ∧ g p = .ok (x, q) ∧ st' = .ok q)) := by
  obtain ⟨x, st', h1, h2, h3, h4⟩ := h
  refine ⟨x, st', h1, h2, h3, ?_⟩
  cases st with
  | error a => exact .inl ⟨a, rfl, h4⟩
  | ok p =>
    cases hg : g p with
    | error a => simp only [hg] at h4; exact .inr (.inl ⟨p, a, rfl, hg, h4⟩)
    | ok y => simp only [hg] at h4; exact .inr (.inr ⟨p, y.2, rfl, by rw [hg, h4.1], h4.2⟩)

set_option maxRecDepth 20000 in
set_option maxHeartbeats 1000000 in
theorem rsigned_any (br : Nat) (A : Option Addr) (n c : Nat) (xs : List UInt8) (st : Except Nat Nat) (w : World) (h : RdrSt w br A n c xs st) :
    Calls Try.prog 69 #[.pointer (some ⟨br, 0, none⟩)] w (RdrEnd (α := Int) (fun v => .int .i64 v) 0 br A n c xs st (Dec.signed xs) w) := by
  have HK := Lib.hid (rnumber_any br A n c xs st 0 4503599627370496 w h)
  clear h
  go_enter Try.func69, Try.ntmps69
  go_wp2_with fail
  refine HK.out.mono ?_
  intro e w1 h
  obtain ⟨x, st', rfl, h1, h2, h3⟩ := h.cases
  have hx : 0 ≤ x ∧ x ≤ 4503599627370496 := by
    rcases h3 with ⟨a, _, rfl, _⟩ | ⟨p, a, _, _, rfl, _⟩ | ⟨p, q, _, hr, _⟩
    · omega
    · omega
    · obtain ⟨_, _, _, a, b, _⟩ := Dec.number_ok hr; exact ⟨a, b⟩
  obtain ⟨hx0, hx1⟩ := hx
  have hend : RdrEnd (α := Int) (fun v => .int .i64 v) 0 br A n c xs st (Dec.signed xs) w (.returned (.int .i64 (Dec.sgn x))) w1 := by
    refine ⟨Dec.sgn x, st', rfl, h1, h2, ?_⟩
    rcases h3 with ⟨a, rfl, rfl, rfl⟩ | ⟨p, a, rfl, hr, rfl, rfl⟩ | ⟨p, q, rfl, hr, rfl⟩
    · exact ⟨rfl, rfl⟩
    · simp [Dec.signed, Dec.plain, hr, Dec.sgn]
    · simp [Dec.signed, Dec.plain, hr]
  have HEND := Lib.hid hend
  clear hend h h1 h2 h3
  by_cases ho : x % 2 = 1
  · have hob : (x % 2 == 1) = true := by simpa using ho
    have hg := Lib.hid (show Dec.sgn x = -((x + 1) / 2) from if_pos ho)
    clear ho
    go_wp2_with fail
    go_ret
    have := HEND.out
    rw [hg.out, ← sgn_neg x hx0 hx1] at this
    exact this
  · have hob : (x % 2 == 1) = false := by simpa using ho
    have hg := Lib.hid (show Dec.sgn x = x / 2 from if_neg ho)
    clear ho
    go_wp2_with fail
    go_ret
    have := HEND.out
    rw [hg.out] at this
    exact this
end Go.Proofs.Ytdfhdanfigpbpaa
