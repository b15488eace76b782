/- The contracts of the codec's eye that stand on number: plain, signed, text, flag. -/
import Derived.Test.YtdfhdanfigpbpaaEye
import Derived.Laws.BytesArg
namespace Go.Proofs.Ytdfhdanfigpbpaa
open Go.RowKit

/-- bytes that can be read, as a string -/
theorem run_convert_Bs {P : Program} {w : World} {A : Option Addr} {n c : Nat} {xs : List UInt8} (src dst : TypeId) (hs : P.underlying src = some (.slice 5)) (he : P.underlying 5 = some (.int .u8)) (hd : P.underlying dst = some .string)
    (h : Bs w A n c xs) : (convert src dst (.slice A n c)).run P w = .ok (.string ⟨xs.toArray⟩) w := by
  have hl := h.1
  have hnil : xs = [] → ∀ ad, (convert src dst (.slice (some ad) n c)).run P w = .ok (.string ⟨xs.toArray⟩) w := by
    intro e ad
    subst e
    have hn : n = 0 := by simpa using hl.symm
    subst hn
    rw [run_convert_bytes_string w src dst _ _ 0 c hs he hd, run_bytesToString w _ 0 c [] (by simp [loadCells, loadCellsFrom])]
    rfl
  rcases Nat.eq_zero_or_pos n with h0 | h0
  · have e : xs = [] := List.eq_nil_of_length_eq_zero (by omega)
    cases A with
    | none =>
      subst e
      exact run_convert_bytes_nil w src 5 hs he n c dst hd
    | some ad => exact hnil e ad
  · obtain ⟨b, o, rfl⟩ := h.at_ h0
    have := run_convert_bytes_arg (P := P) w src 5 hs he b o n c (xs.map fun x => (x.toNat : Int)) (by simpa using hl) (by
      intro i hi
      rw [h.cellAt hi]
      have hi' : i < xs.length := by omega
      simp [List.getD_eq_getElem?_getD, hi']) dst hd
    rw [this]
    congr 2
    simp [strOfNums, Function.comp_def]

theorem Bs.drop_ {w : World} {b o n c : Nat} {xs : List UInt8} (h : Bs w (some ⟨b, o, none⟩) n c xs) {k : Nat} (hk : k ≤ n) : Bs w (some ⟨b, o + k, none⟩) (n - k) (c - k) (xs.drop k) := by
  refine ⟨by rw [List.length_drop, h.1], by have := h.2.1; omega, by have := h.2.2.1; omega, fun h0 => ⟨b, o + k, rfl, fun j x hx => ?_⟩⟩
  rw [List.getElem?_drop] at hx
  obtain ⟨b', o', e, hc⟩ := h.2.2.2 (by omega)
  injection e with e
  injection e with e1 e2
  subst e1 e2
  have := hc _ x hx
  rwa [← Nat.add_assoc] at this
theorem EyeEnd.cases {α : Type} {f : α → Value} {be : Nat} {A : Option Addr} {n c : Nat} {xs : List UInt8} {w : World} {r : Dec.Rd α} {e : Ending} {w' : World} (h : EyeEnd f be A n c xs w r e w') :
    (∃ a, r = .error a ∧ e = .panicked [stopAt a] ∧ Touch (· = be) w w') ∨ (∃ x p, r = .ok (x, p) ∧ e = .returned (f x) ∧ Eye w' be A n c xs p ∧ Touch (· = be) w w') := by
  cases r with
  | error a => exact .inl ⟨a, rfl, h.1, h.2⟩
  | ok y => exact .inr ⟨y.1, y.2, rfl, h.1, h.2.1, h.2.2⟩
theorem EyeEnd.bad {α : Type} {f : α → Value} {be : Nat} {A : Option Addr} {n c : Nat} {xs : List UInt8} {w w' : World} {r : Dec.Rd α} {a : Nat} (hr : r = .error a) (h : Touch (· = be) w w') : EyeEnd f be A n c xs w r (.panicked [stopAt a]) w' := hr ▸ ⟨rfl, h⟩
theorem EyeEnd.good {α : Type} {f : α → Value} {be : Nat} {A : Option Addr} {n c : Nat} {xs : List UInt8} {w w' : World} {r : Dec.Rd α} {x : α} {p : Nat} (hr : r = .ok (x, p)) (he : Eye w' be A n c xs p) (h : Touch (· = be) w w') : EyeEnd f be A n c xs w r (.returned (f x)) w' := hr ▸ ⟨rfl, he, h⟩

set_option maxRecDepth 20000 in
set_option maxHeartbeats 1000000 in
theorem eplain_any (be : Nat) (A : Option Addr) (n c : Nat) (xs : List UInt8) (p : Nat) (w : World) (he : Eye w be A n c xs p) :
    Calls Try.prog 76 #[.pointer (some ⟨be, 0, none⟩)] w (EyeEnd (α := Int) (fun v => .int .i64 v) be A n c xs w (Dec.plain xs p)) := by
  have HK := Lib.hid (enumber_any be A n c xs p 0 4503599627370496 w he)
  clear he
  go_enter Try.func76, Try.ntmps76
  go_wp2_with fail
  refine HK.out.mono ?_
  intro e w1 h
  rcases h.cases with ⟨a, hr, rfl, ht⟩ | ⟨x, q, hr, rfl, he, ht⟩
  · exact ⟨rfl, EyeEnd.bad hr ht⟩
  · have HR := Lib.hid hr; clear hr h
    have HE := Lib.hid he; clear he
    have HT := Lib.hid ht; clear ht
    go_wp2_with fail
    go_ret
    exact EyeEnd.good HR.out HE.out HT.out

theorem sgn_neg (x : Int) (h0 : 0 ≤ x) (h1 : x ≤ 4503599627370496) : wrap64 (-(x + 1).tdiv 2) = -((x + 1) / 2) := by
  rw [Int.tdiv_eq_ediv_of_nonneg (by omega), IntWalk.wrap64_in _ (by omega)]

set_option maxRecDepth 20000 in
set_option maxHeartbeats 1000000 in
theorem esigned_any (be : Nat) (A : Option Addr) (n c : Nat) (xs : List UInt8) (p : Nat) (w : World) (he : Eye w be A n c xs p) :
    Calls Try.prog 66 #[.pointer (some ⟨be, 0, none⟩)] w (EyeEnd (α := Int) (fun v => .int .i64 v) be A n c xs w (Dec.signed xs p)) := by
  have HK := Lib.hid (eplain_any be A n c xs p w he)
  clear he
  go_enter Try.func66, Try.ntmps66
  go_wp2_with fail
  refine HK.out.mono ?_
  intro e w1 h
  rcases h.cases with ⟨a, hr, rfl, ht⟩ | ⟨x, q, hr, rfl, he, ht⟩
  · exact ⟨rfl, EyeEnd.bad (by unfold Dec.signed; rw [hr]) ht⟩
  · obtain ⟨_, _, _, hx0, hx1, _⟩ := Dec.number_ok hr
    have hs : Dec.signed xs p = .ok (Dec.sgn x, q) := by unfold Dec.signed; rw [hr]
    have HS := Lib.hid hs; clear hs
    clear hr h
    have HE := Lib.hid he; clear he
    have HT := Lib.hid ht; clear ht
    by_cases ho : x % 2 = 1
    · have hob : (x % 2 == 1) = true := by simpa using ho
      have hg : Dec.sgn x = -((x + 1) / 2) := if_pos ho
      have HG := Lib.hid hg
      have HO := Lib.hid ho
      clear hg ho
      go_wp2_with fail
      go_ret
      have := EyeEnd.good (f := fun v : Int => Value.int .i64 v) HS.out HE.out HT.out
      rw [HG.out, ← sgn_neg x hx0 hx1] at this
      exact this
    · have hob : (x % 2 == 1) = false := by simpa using ho
      have hg : Dec.sgn x = x / 2 := if_neg ho
      have HG := Lib.hid hg
      clear hg ho
      go_wp2_with fail
      go_ret
      have := EyeEnd.good (f := fun v : Int => Value.int .i64 v) HS.out HE.out HT.out
      rw [HG.out] at this
      exact this

set_option maxRecDepth 100000 in
set_option maxHeartbeats 2000000 in
theorem etext_any (be : Nat) (A : Option Addr) (n c : Nat) (xs : List UInt8) (p : Nat) (w : World) (he : Eye w be A n c xs p) :
    Calls Try.prog 65 #[.pointer (some ⟨be, 0, none⟩)] w (EyeEnd (α := List UInt8) (fun v => .string ⟨v.toArray⟩) be A n c xs w (Dec.text xs p)) := by
  have HK := Lib.hid (enumber_any be A n c xs p 0 1048576 w he)
  clear he
  go_enter Try.func65, Try.ntmps65
  go_wp2_with fail
  refine HK.out.mono ?_
  intro e w1 h
  rcases h.cases with ⟨a, hr, rfl, ht⟩ | ⟨x, q, hr, rfl, he, ht⟩
  · exact ⟨rfl, EyeEnd.bad (by unfold Dec.text; rw [hr]) ht⟩
  · obtain ⟨hpn, _, hq, hx0, hx1, _⟩ := Dec.number_ok hr
    have hxl := he.2.1.1
    rw [hxl] at hpn hq
    obtain ⟨m, rfl⟩ := Int.eq_ofNat_of_zero_le hx0
    obtain ⟨b, o, rfl⟩ := he.2.1.at_ (by omega)
    have hs : Dec.text xs p = if n - q < m then .error n else .ok ((xs.drop q).take m, q + m) := by unfold Dec.text; rw [hr, hxl]; rfl
    have HS := Lib.hid hs
    have hnc := he.2.1.2.1
    have hcm := he.2.1.2.2.1
    unfold maxLen at hcm
    have hc0 := he.1.cell 0
    have hc1 := he.1.cell 1
    have hf1 := he.1.frozen 1
    simp only [List.getElem?_toArray, List.getElem?_cons_zero, List.getElem?_cons_succ] at hc0 hc1
    have HE := Lib.hid he
    have HT := Lib.hid ht
    have HXL := Lib.hid hxl
    clear hs he ht hr h hxl
    have hs1 : IntKind.i64.wrap ((n : Int) - (q : Int)) = (n : Int) - (q : Int) := IntWalk.i64_in _ (by omega)
    by_cases hbig : n - q < m
    · have hb1 : (n : Int) - (q : Int) < (m : Int) := by omega
      have HS2 := Lib.hid (HS.out.trans (if_pos hbig))
      go_wp2_with fail
      go_quiet (fail)
      clear hs1
      go_wp2_with fail
      refine (fail_any _ _ _).mono ?_
      rintro e w2 ⟨rfl, rfl⟩
      exact ⟨rfl, EyeEnd.bad HS2.out (HT.out.drewN _)⟩
    · have hb1 : ¬ (n : Int) - (q : Int) < (m : Int) := by omega
      have HS2 := Lib.hid (HS.out.trans (if_neg hbig))
      go_wp2_with fail
      go_quiet (fail)
      clear hs1
      go_wp2_with fail
      obtain ⟨W, hW⟩ : ∃ W, W = (w1.drewN nq).setCell ⟨be, 1, none⟩ (.int .i64 ((q : Int) + (m : Int))) := ⟨_, rfl⟩
      have hBW : Blk W be 111 #[.slice (some ⟨b, o, none⟩) n c, .int .i64 ((q : Int) + (m : Int))] := by rw [hW]; exact (HE.out.1.drewN nq).set_ 1 _
      have hTW : Touch (· = be) w1 W := by rw [hW]; exact ((Touch.refl (· = be) w1).drewN nq).setCell (p := ⟨be, 1, none⟩) (.inr rfl) _
      have hbe : b ≠ be := Nat.ne_of_lt (HE.out.2.2.2 _ rfl (by omega))
      have hSW : Bs W (some ⟨b, o, none⟩) n c xs := HE.out.2.1.touch hTW (fun a ha _ e => by injection ha with ha; subst ha; exact hbe e)
      rw [← hW]
      have HW := Lib.hid hW; clear hW
      have hWc0 := hBW.cell 0
      have hWc1 := hBW.cell 1
      simp only [List.getElem?_toArray, List.getElem?_cons_zero, List.getElem?_cons_succ] at hWc0 hWc1
      have hgood : ∀ r, EyeEnd (α := List UInt8) (fun v => .string ⟨v.toArray⟩) be (some ⟨b, o, none⟩) n c xs w (Dec.text xs p) (.returned (.string ⟨((xs.drop q).take m).toArray⟩)) (W.drewN r) := by
        intro r
        refine EyeEnd.good (f := fun v : List UInt8 => Value.string ⟨v.toArray⟩) HS2.out ⟨?_, hSW.drewN r, by omega, HE.out.2.2.2⟩ ((HT.out.trans hTW (fun _ _ h => h)).drewN r)
        have h0 := hBW.drewN r
        rw [show (q : Int) + (m : Int) = ((q + m : Nat) : Int) from by omega] at h0
        exact h0
      have HGOOD := Lib.hid hgood
      have HSW := Lib.hid hSW
      clear hgood hSW hBW hTW hc0 hc1 hf1
      have hs2 : IntKind.i64.wrap ((q : Int) + (m : Int) - (m : Int)) = (q : Int) := by rw [IntWalk.i64_in _ (by omega)]; omega
      by_cases hcq : c = q
      · have hm0 : m = 0 := by omega
        subst hm0
        subst hcq
        have hcv : ∀ r, (convert 24 9 (.slice (some ⟨b, o, none⟩) 0 0)).run Try.prog (W.drewN r) = .ok (.string ⟨(([] : List UInt8)).toArray⟩) (W.drewN r) := fun r =>
          run_convert_Bs _ _ Try.underlying24 Try.underlying5 Try.underlying9 ⟨rfl, Nat.le_refl _, by simp [maxLen], fun h => by omega⟩
        have hs3 : IntKind.i64.wrap (c : Int) = (c : Int) := IntWalk.i64_in _ (by omega)
        clear hs2
        go_quiet (fail)
        go_wp2_with fail
        go_ret
        have := fun r => HGOOD.out r
        simp only [List.take_zero] at this
        exact this _
      · have hcv : ∀ r, (convert 24 9 (.slice (some ⟨b, o + q, none⟩) m (c - q))).run Try.prog (W.drewN r) = .ok (.string ⟨((xs.drop q).take m).toArray⟩) (W.drewN r) := fun r =>
          run_convert_Bs _ _ Try.underlying24 Try.underlying5 Try.underlying9 ((HSW.out.drop_ (k := q) (by omega)).take (by omega) |>.drewN r)
        go_quiet (fail)
        go_wp2_with fail
        go_ret
        exact HGOOD.out _

set_option maxRecDepth 100000 in
set_option maxHeartbeats 2000000 in
theorem eflag_any (be : Nat) (A : Option Addr) (n c : Nat) (xs : List UInt8) (p : Nat) (w : World) (he : Eye w be A n c xs p) :
    Calls Try.prog 84 #[.pointer (some ⟨be, 0, none⟩)] w (EyeEnd (α := Bool) (fun v => .bool v) be A n c xs w (Dec.flag xs p)) := by
  have hxl := he.2.1.1
  have hnc := he.2.1.2.1
  have hcm := he.2.1.2.2.1
  have hpn := he.2.2.1
  unfold maxLen at hcm
  have hc0 := he.1.cell 0
  have hc1 := he.1.cell 1
  have hf1 := he.1.frozen 1
  simp only [List.getElem?_toArray, List.getElem?_cons_zero, List.getElem?_cons_succ] at hc0 hc1
  have HE := Lib.hid he; clear he
  have HXL := Lib.hid hxl; clear hxl
  by_cases hp : p = n
  · subst hp
    have hs : Dec.flag xs p = .error p := by unfold Dec.flag; rw [HXL.out, if_pos (Nat.le_refl _)]
    have HS := Lib.hid hs; clear hs
    have hb : ((p : Int) == (p : Int)) = true := by simp
    go_enter Try.func84, Try.ntmps84
    go_wp2_with fail
    go_quiet (fail)
    go_wp2_with fail
    refine (fail_any _ _ _).mono ?_
    rintro e w2 ⟨rfl, rfl⟩
    exact ⟨rfl, EyeEnd.bad HS.out ((Touch.refl _ _).drewN _)⟩
  · obtain ⟨b, o, rfl⟩ := HE.out.2.1.at_ (by omega)
    have hcell := HE.out.2.1.cellAt (j := p) (by omega)
    have hlt := (xs.getD p 0).toNat_lt
    have hb : ((p : Int) == (n : Int)) = false := by simp; omega
    have hs : Dec.flag xs p = if 1 < (xs.getD p 0).toNat then .error p else .ok ((xs.getD p 0).toNat == 1, p + 1) := by unfold Dec.flag; rw [HXL.out, if_neg (by omega)]
    have HS := Lib.hid hs; clear hs
    generalize (xs.getD p 0).toNat = x at *
    by_cases hx : 1 < x
    · have HS2 := Lib.hid (HS.out.trans (if_pos hx))
      have hx' : decide ((1 : Int) < (x : Int)) = true := by simp; omega
      go_enter Try.func84, Try.ntmps84
      go_wp2_with fail
      go_quiet (fail)
      go_wp2_with fail
      refine (fail_any _ _ _).mono ?_
      rintro e w2 ⟨rfl, rfl⟩
      exact ⟨rfl, EyeEnd.bad HS2.out ((Touch.refl _ _).drewN _)⟩
    · have HS2 := Lib.hid (HS.out.trans (if_neg hx))
      have hx' : decide ((1 : Int) < (x : Int)) = false := by simp; omega
      go_enter Try.func84, Try.ntmps84
      go_wp2_with fail
      go_quiet (fail)
      go_wp2_with fail
      have hbe : b ≠ be := Nat.ne_of_lt (HE.out.2.2.2 _ rfl (by omega))
      obtain ⟨W, hW⟩ : ∃ W, W = (w.drewN nq).setCell ⟨be, 1, none⟩ (.int .i64 ((p : Int) + 1)) := ⟨_, rfl⟩
      have hBW : Blk W be 111 #[.slice (some ⟨b, o, none⟩) n c, .int .i64 ((p : Int) + 1)] := by rw [hW]; exact (HE.out.1.drewN nq).set_ 1 _
      have hTW : Touch (· = be) w W := by rw [hW]; exact ((Touch.refl (· = be) w).drewN nq).setCell (p := ⟨be, 1, none⟩) (.inr rfl) _
      have hSW : Bs W (some ⟨b, o, none⟩) n c xs := HE.out.2.1.touch hTW (fun a ha _ e => by injection ha with ha; subst ha; exact hbe e)
      have hcell2 : W.cell? ⟨b, o + p, none⟩ = some (.int .u8 (x : Int)) := hTW.cell hcell hbe
      rw [← hW]
      have HW := Lib.hid hW; clear hW
      have hWc0 := hBW.cell 0
      have hWc1 := hBW.cell 1
      simp only [List.getElem?_toArray, List.getElem?_cons_zero, List.getElem?_cons_succ] at hWc0 hWc1
      have hgood : ∀ r, EyeEnd (α := Bool) (fun v => .bool v) be (some ⟨b, o, none⟩) n c xs w (Dec.flag xs p) (.returned (.bool (x == 1))) (W.drewN r) := by
        intro r
        refine EyeEnd.good (f := fun v : Bool => Value.bool v) HS2.out ⟨?_, hSW.drewN r, by omega, HE.out.2.2.2⟩ (hTW.drewN r)
        exact hBW.drewN r
      have HGOOD := Lib.hid hgood
      clear hgood hSW hBW hTW hc0 hc1 hf1 hcell
      have hs2 : IntKind.i64.wrap ((p : Int) + 1 - 1) = (p : Int) := by rw [IntWalk.i64_in _ (by omega)]; omega
      by_cases h1 : x = 1
      · subst h1
        go_quiet (fail)
        go_wp2_with fail
        go_ret
        exact HGOOD.out _
      · have hx0 : x = 0 := by omega
        subst hx0
        go_quiet (fail)
        go_wp2_with fail
        go_ret
        exact HGOOD.out _
end Go.Proofs.Ytdfhdanfigpbpaa
