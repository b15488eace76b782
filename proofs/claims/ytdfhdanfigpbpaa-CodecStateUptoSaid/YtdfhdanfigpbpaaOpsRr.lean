/- The contracts of the reference's Reader.flag and ReadOps. Conditions stand with them. -/
import Derived.Test.YtdfhdanfigpbpaaOpsRd
import Derived.Test.YtdfhdanfigpbpaaRefRs
namespace Go.Proofs.Ytdfhdanfigpbpaa
open Go.RowKit

set_option maxRecDepth 100000 in
set_option maxHeartbeats 2000000 in
theorem rflag_any (br : Nat) (A : Option Addr) (n c : Nat) (xs : List UInt8) (st : Except Nat Nat) (w : World) (h : RdrSt w br A n c xs st) :
    Calls Try.prog 85 #[.pointer (some ⟨br, 0, none⟩)] w (RdrEnd (α := Bool) (fun v => .bool v) false br A n c xs st (Dec.flag xs) w) := by
  obtain ⟨p, bad, on, hd, rfl⟩ := h
  have hxl := hd.2.1.1
  have hnc := hd.2.1.2.1
  have hcm := hd.2.1.2.2.1
  have hpn := hd.2.2.1
  unfold maxLen at hcm
  have hc0 := hd.1.cell 0
  have hc1 := hd.1.cell 1
  have hf1 := hd.1.frozen 1
  have hc2 := hd.1.cell 2
  simp only [List.getElem?_toArray, List.getElem?_cons_zero, List.getElem?_cons_succ] at hc0 hc1 hc2
  have HD := Lib.hid hd; clear hd
  have HXL := Lib.hid hxl; clear hxl
  cases bad
  · simp only [Bool.false_eq_true, if_false]
    by_cases hp : p = n
    · subst hp
      have hs : Dec.flag xs p = .error p := by unfold Dec.flag; rw [HXL.out, if_pos (Nat.le_refl _)]
      have HS := Lib.hid hs; clear hs
      go_enter Try.func85, Try.ntmps85
      go_wp2_with fail
      go_quiet (fail)
      go_wp2_with fail
      refine (no_any br A p c xs p on p _ (HD.out.drewN nq)).mono ?_
      rintro e w2 ⟨rfl, h1, h2⟩
      have H1 := Lib.hid h1
      have H2 := Lib.hid h2
      clear h1 h2
      go_wp2_with fail
      go_ret
      exact ⟨false, .error p, rfl, ⟨p, true, p, H1.out, rfl⟩, ((Touch.refl _ _).drewN nq).trans H2.out (fun _ _ h => h), by simp [HS.out]⟩
    · obtain ⟨b, o, rfl⟩ := HD.out.2.1.at_ (by omega)
      have hcell := HD.out.2.1.cellAt (j := p) (by omega)
      have hlt := (xs.getD p 0).toNat_lt
      have hb : ¬ ((n : Int) ≤ (p : Int)) := by omega
      have hs : Dec.flag xs p = if 1 < (xs.getD p 0).toNat then .error p else .ok ((xs.getD p 0).toNat == 1, p + 1) := by unfold Dec.flag; rw [HXL.out, if_neg (by omega)]
      have HS := Lib.hid hs; clear hs
      generalize (xs.getD p 0).toNat = x at *
      by_cases hx : 1 < x
      · have HS2 := Lib.hid (HS.out.trans (if_pos hx))
        have hx' : decide ((1 : Int) < (x : Int)) = true := by simp; omega
        go_enter Try.func85, Try.ntmps85
        go_wp2_with fail
        go_quiet (fail)
        go_wp2_with fail
        go_quiet (fail)
        go_wp2_with fail
        refine (no_any br _ n c xs p on p _ (HD.out.drewN _)).mono ?_
        rintro e w2 ⟨rfl, h1, h2⟩
        have H1 := Lib.hid h1
        have H2 := Lib.hid h2
        clear h1 h2
        go_wp2_with fail
        go_ret
        exact ⟨false, .error p, rfl, ⟨p, true, p, H1.out, rfl⟩, ((Touch.refl _ _).drewN _).trans H2.out (fun _ _ h => h), by simp [HS2.out]⟩
      · have HS2 := Lib.hid (HS.out.trans (if_neg hx))
        have hx' : decide ((1 : Int) < (x : Int)) = false := by simp; omega
        go_enter Try.func85, Try.ntmps85
        go_wp2_with fail
        go_quiet (fail)
        rename Nat => nq1
        go_wp2_with fail
        go_quiet (fail)
        go_wp2_with fail
        have hbe : b ≠ br := Nat.ne_of_lt (HD.out.2.2.2.1 _ rfl (by omega))
        obtain ⟨W, hW⟩ : ∃ W, W = (w.drewN (nq1 + nq)).setCell ⟨br, 1, none⟩ (.int .i64 ((p : Int) + 1)) := ⟨_, rfl⟩
        have hRW : Rdr W br (some ⟨b, o, none⟩) n c xs (p + 1) false on := by
          have := (HD.out.drewN (nq1 + nq)).set_ (p + 1) (by omega)
          rw [hW]
          simpa using this
        have hTW : Touch (· = br) w W := by rw [hW]; exact ((Touch.refl (· = br) w).drewN _).setCell (p := ⟨br, 1, none⟩) (.inr rfl) _
        have hcell2 : W.cell? ⟨b, o + p, none⟩ = some (.int .u8 (x : Int)) := hTW.cell hcell hbe
        rw [← hW]
        have HW := Lib.hid hW; clear hW
        have hWc0 := hRW.1.cell 0
        have hWc1 := hRW.1.cell 1
        simp only [List.getElem?_toArray, List.getElem?_cons_zero, List.getElem?_cons_succ] at hWc0 hWc1
        have hgood : ∀ r, RdrEnd (α := Bool) (fun v => .bool v) false br (some ⟨b, o, none⟩) n c xs (.ok p) (Dec.flag xs) w (.returned (.bool (x == 1))) (W.drewN r) := by
          intro r
          exact ⟨x == 1, .ok (p + 1), rfl, ⟨p + 1, false, on, hRW.drewN r, rfl⟩, hTW.drewN r, by simp [HS2.out]⟩
        have HGOOD := Lib.hid hgood
        clear hgood hRW hTW hc0 hc1 hf1 hcell
        have hs2 : IntKind.i64.wrap ((p : Int) + 1 - 1) = (p : Int) := by rw [IntWalk.i64_in _ (by omega)]; omega
        push_cast at hWc1
        by_cases h1 : x = 1
        · subst h1
          go_quiet (fail)
          go_wp2_with fail
          go_ret
          exact HGOOD.out _
        · have hx0 : x = 0 := by omega
          subst hx0
          go_quiet (fail)
          go_wp2_with fail
          go_ret
          exact HGOOD.out _
  · simp only [if_true]
    go_enter Try.func85, Try.ntmps85
    go_wp2_with fail
    go_ret
    exact ⟨false, .error on, rfl, ⟨p, true, on, HD.out, rfl⟩, Touch.refl _ _, rfl, rfl⟩

/-- how far the reference's reading of a batch is -/
def Stp {α : Type} (st : Except Nat Nat) (g : Nat → Dec.Rd α) (x : α) (st' : Except Nat Nat) : Prop :=
  match st with
  | .error a => st' = .error a
  | .ok p => (∃ a, g p = .error a ∧ st' = .error a) ∨ (∃ q, g p = .ok (x, q) ∧ st' = .ok q)
theorem Stp.of {α : Type} {z x : α} {st st' : Except Nat Nat} {g : Nat → Dec.Rd α} (h : (∃ b, st = .error b ∧ x = z ∧ st' = .error b) ∨ (∃ p b, st = .ok p ∧ g p = .error b ∧ x = z ∧ st' = .error b) ∨ (∃ p q, st = .ok p ∧ g p = .ok (x, q) ∧ st' = .ok q)) : Stp st g x st' := by
  cases st with
  | error a => exact step_err h
  | ok p => exact step_ok h
theorem Stp.err {α : Type} {x : α} {a : Nat} {st' : Except Nat Nat} {g : Nat → Dec.Rd α} (h : Stp (.error a) g x st') : st' = .error a := h
theorem Stp.ok {α : Type} {x : α} {p : Nat} {st' : Except Nat Nat} {g : Nat → Dec.Rd α} (h : Stp (.ok p) g x st') : (∃ a, g p = .error a ∧ st' = .error a) ∨ (∃ q, g p = .ok (x, q) ∧ st' = .ok q) := h
def OpsSt (xs : List UInt8) (N k : Nat) (lst : List Dec.Op) (st : Except Nat Nat) : Prop :=
  match st with
  | .ok p => k ≤ p ∧ p ≤ xs.length ∧ Dec.ops xs 0 = Dec.pre lst (Dec.many Dec.op xs (N - k) p)
  | .error a => Dec.ops xs 0 = .error a
theorem OpsSt.bad {xs : List UInt8} {N k p a : Nat} {lst lst' : List Dec.Op} (h : OpsSt xs N k lst (.ok p)) (hk : k < N) (ho : Dec.op xs p = .error a) : OpsSt xs N (k + 1) lst' (.error a) := by
  obtain ⟨_, _, h⟩ := h
  show Dec.ops xs 0 = .error a
  rw [h, show N - k = (N - (k + 1)) + 1 by omega]
  exact Dec.pre_bad ho
theorem OpsSt.good {xs : List UInt8} {N k p q : Nat} {lst : List Dec.Op} {o : Dec.Op} (h : OpsSt xs N k lst (.ok p)) (hk : k < N) (ho : Dec.op xs p = .ok (o, q)) : OpsSt xs N (k + 1) (lst ++ [o]) (.ok q) := by
  obtain ⟨h1, h2, h⟩ := h
  have hgo := op_go ho h2
  refine ⟨by omega, hgo.2, ?_⟩
  rw [h, show N - k = (N - (k + 1)) + 1 by omega]
  exact Dec.pre_step ho

set_option maxRecDepth 100000 in
set_option maxHeartbeats 8000000 in
theorem refops_read (A : Option Addr) (n c : Nat) (xs : List UInt8) (w : World) (hbs : Bs w A n c xs) (hA : ∀ a, A = some a → 0 < n → a.block < w.heap.size) (hn : n ≤ 3000000000000) :
    Calls Try.prog 38 #[.slice A n c] w (OpsEnd w (Dec.whole (Dec.ops xs 0) n)) := by
  have hxl : xs.length = n := hbs.1
  obtain ⟨w0, hw0⟩ : ∃ w0, w0 = w.alloc (.cells #[.slice A n c, .int .i64 0, .bool false, .int .i64 0] 103) := ⟨_, rfl⟩
  have hT0 : Fresh w w0 := by rw [hw0]; exact (Touch.refl _ w).alloc _
  have hD0 : Blk w0 w.heap.size 103 #[.slice A n c, .int .i64 ((0 : Nat) : Int), .bool false, .int .i64 ((0 : Nat) : Int)] := by rw [hw0]; exact Blk.new _ _ _
  have HS0 := Lib.hid (show RdrSt w0 w.heap.size A n c xs (.ok 0) from ⟨0, false, 0, ⟨hD0, hbs.fresh hT0, Nat.zero_le _, hA, by omega⟩, rfl⟩)
  have HT0 := Lib.hid hT0
  have HW0 := Lib.hid hw0
  clear hT0 hD0 hw0 hbs hA
  go_enter Try.func38, Try.ntmps38
  go_wp2_with fail
  rw [← HW0.out]
  refine (rnumber_any w.heap.size A n c xs (.ok 0) 0 4503599627370496 w0 HS0.out).mono ?_
  intro e w1 h
  obtain ⟨N, st1, rfl, hs, ht, h3⟩ := h.cases
  have HS1 := Lib.hid hs
  have HT1 := Lib.hid (show Fresh w w1 from HT0.out.trans ht fun _ _ h => by omega)
  have hN : 0 ≤ N ∧ N ≤ 4503599627370496 ∧ OpsSt xs N.toNat 0 [] st1 := by
    rcases step_ok h3 with ⟨a, hg, e1⟩ | ⟨q, hg, e1⟩
    · have hz : N = 0 := by
        rcases h3 with ⟨b, e, _⟩ | ⟨p', b, e, hg', hz, h⟩ | ⟨p', q, e, hg', h⟩
        · cases e
        · exact hz
        · injection e with e; subst e; have := hg.symm.trans hg'; cases this
      subst e1 hz
      exact ⟨by omega, by omega, show Dec.ops xs 0 = .error a by unfold Dec.ops Dec.bind Dec.plain; rw [hg]⟩
    · subst e1
      have h9 := Dec.number_ok hg
      refine ⟨h9.2.2.2.2.2, h9.2.2.2.2.1, by omega, h9.2.2.1, ?_⟩
      rw [Dec.pre_nil]
      unfold Dec.ops Dec.bind Dec.plain
      rw [hg]
      rfl
  obtain ⟨hN0, hN1, hst1⟩ := hN
  have HST1 := Lib.hid hst1
  clear hs ht h3 hst1 h
  go_wp2_with fail
  go_loopw [6, 8] (fun lv i wr => ∃ k : Nat, (k : Int) ≤ N ∧ i = .int .i64 k ∧ ∃ (lst : List Dec.Op) (st : Except Nat Nat), lst.length = k ∧ VRow wr 114 3 lv k (opsV lst) ∧ (∀ j, lv.ownBlock = some j → w.heap.size ≤ j) ∧
      RdrSt wr w.heap.size A n c xs st ∧ Fresh w wr ∧ OpsSt xs N.toNat k lst st) (fun _ i _ => N.toNat - (intOf i).toNat)
  case atStart => exact ⟨0, by omega, rfl, [], st1, rfl, VRow.nil_ _ _ _, fun j h => own_none h, HS1.out, HT1.out, HST1.out⟩
  case round =>
    obtain ⟨k, hk, rfl, lst, st, hlk, hvr, hown, ⟨p, bad, on, hd, hst⟩, ht, hsp⟩ := hrel
    have hcb := hd.1.cell 2
    simp only [List.getElem?_toArray, List.getElem?_cons_zero, List.getElem?_cons_succ] at hcb
    have HVR := Lib.hid hvr; clear hvr
    have HOWN := Lib.hid hown; clear hown
    have HSP := Lib.hid hsp; clear hsp
    have HD := Lib.hid hd; clear hd
    have HT := Lib.hid ht; clear ht
    have HSR := Lib.hid (show RdrSt wr w.heap.size A n c xs st from ⟨p, bad, on, HD.out, hst⟩)
    by_cases hgo : (k : Int) < N ∧ bad = false
    · obtain ⟨hlt, rfl⟩ := hgo
      simp only [Bool.false_eq_true, if_false] at hst
      subst hst
      have hkp := HSP.out.1
      have hpn := HD.out.2.2.1
      have hltn : k < N.toNat := by omega
      obtain ⟨ob, hob⟩ : ∃ ob, ob = wr.heap.size := ⟨_, rfl⟩
      obtain ⟨S1, hS1⟩ : ∃ S1, S1 = wr.alloc (.cells #[.string ⟨#[]⟩, .string ⟨#[]⟩, .bool false] 114) := ⟨_, rfl⟩
      have HBO1 := Lib.hid (show Blk S1 ob 114 #[.string ⟨#[]⟩, .string ⟨#[]⟩, .bool false] by rw [hS1, hob]; exact Blk.new _ _ _)
      have HSR1 := Lib.hid (show RdrSt S1 w.heap.size A n c xs (.ok p) by rw [hS1]; exact ⟨p, false, on, ⟨HD.out.1.alloc _, HD.out.2.1.alloc _, HD.out.2.2⟩, rfl⟩)
      have HTR1 := Lib.hid (show Touch (· = w.heap.size) wr S1 by rw [hS1]; exact (Touch.refl _ wr).alloc _)
      have hobw : wr.heap.size ≤ ob := by omega
      have hobb : ob ≠ w.heap.size := by have := HD.out.1.lt; omega
      have hobg : w.heap.size < ob := by have := HD.out.1.lt; omega
      have hnb : ∀ j, u6.ownBlock = some j → ¬ (j = w.heap.size) := fun j hj e => HVR.out.ne_blk HD.out.1 (by decide) (by rw [hj, e])
      have HNB := Lib.hid hnb
      have HSTEP : Hid (∀ (wa : World) (i : Nat) (u : Value) (st : Except Nat Nat), RdrSt wa w.heap.size A n c xs st → RdrSt (wa.setCell ⟨ob, i, none⟩ u) w.heap.size A n c xs st) := Lib.hid (by
        rintro wa i u st ⟨p', bad', on', h, e⟩
        refine ⟨p', bad', on', ⟨h.1.far (p := ⟨ob, i, none⟩) (fun e => hobb e.symm) _, h.2.1.keep fun h0 p v hp ⟨a, ha, e⟩ => ?_, h.2.2⟩, e⟩
        have := h.2.2.2.1 a ha h0
        rw [World.cell?_setCell_other _ _ _ _ (by intro h9; rw [← h9] at e; simp at e; omega)]
        exact hp)
      have HOB := Lib.hid hob
      have HS1' := Lib.hid hS1
      clear hnb hS1 hob
      go_wp2_with fail
      rw [← HS1'.out, ← HOB.out]
      refine (rtext_any w.heap.size A n c xs (.ok p) S1 HSR1.out).mono ?_
      intro e w2 h
      obtain ⟨x1, st2, rfl, hs, ht, h31⟩ := h.cases
      have hbo := HBO1.out.touch ht hobb
      have hc2 := hbo.cell 0
      have hf2 := hbo.frozen 0
      simp only [List.getElem?_toArray, List.getElem?_cons_zero] at hc2
      obtain ⟨S2, hS2⟩ : ∃ S2, S2 = w2.setCell ⟨ob, 0, none⟩ (.string ⟨x1.toArray⟩) := ⟨_, rfl⟩
      have HBO2 := Lib.hid (show Blk S2 ob 114 #[.string ⟨x1.toArray⟩, .string ⟨#[]⟩, .bool false] by rw [hS2]; exact hbo.set_ 0 (.string ⟨x1.toArray⟩))
      have HSR2 := Lib.hid (show RdrSt S2 w.heap.size A n c xs st2 by rw [hS2]; exact HSTEP.out _ _ _ _ hs)
      have HTR2 := Lib.hid (show Touch (· = w.heap.size) wr S2 by rw [hS2]; exact (HTR1.out.trans ht fun _ _ h => h).setCell (p := ⟨ob, 0, none⟩) (.inl hobw) _)
      have H31 := Lib.hid (Stp.of h31)
      have HS2 := Lib.hid hS2
      clear hs ht h31 hbo hS2 h
      go_wp2_with fail
      rw [← HS2.out]
      clear hc2 hf2
      refine (rflag_any w.heap.size A n c xs st2 S2 HSR2.out).mono ?_
      intro e w3 h
      obtain ⟨g, st3, rfl, hs, ht, h32⟩ := h.cases
      have hbo := HBO2.out.touch ht hobb
      have hc2 := hbo.cell 2
      have hf2 := hbo.frozen 2
      simp only [List.getElem?_toArray, List.getElem?_cons_zero, List.getElem?_cons_succ] at hc2
      obtain ⟨S3, hS3⟩ : ∃ S3, S3 = w3.setCell ⟨ob, 2, none⟩ (.bool g) := ⟨_, rfl⟩
      have HBO3 := Lib.hid (show Blk S3 ob 114 #[.string ⟨x1.toArray⟩, .string ⟨#[]⟩, .bool g] by rw [hS3]; exact hbo.set_ 2 (.bool g))
      have HSR3 := Lib.hid (show RdrSt S3 w.heap.size A n c xs st3 by rw [hS3]; exact HSTEP.out _ _ _ _ hs)
      have HTR3 := Lib.hid (show Touch (· = w.heap.size) wr S3 by rw [hS3]; exact (HTR2.out.trans ht fun _ _ h => h).setCell (p := ⟨ob, 2, none⟩) (.inl hobw) _)
      have HT3 := Lib.hid (show Fresh w S3 from HT.out.trans HTR3.out fun i hi h => by omega)
      have HDR3 := Lib.hid (show Blk S3 ob 114 #[.string ⟨x1.toArray⟩, .string ⟨#[]⟩, .bool g] from HBO3.out)
      have H32 := Lib.hid (Stp.of h32)
      have HS3 := Lib.hid hS3
      clear hs ht h32 hbo hS3 h
      obtain ⟨ii, hi, hz, hi3, hi40⟩ := info_parts Try.infoOp
      have hc3 := HBO3.out.cell 2
      simp only [List.getElem?_toArray, List.getElem?_cons_zero, List.getElem?_cons_succ] at hc3
      rw [HS3.out] at hc3
      cases hg : g with
      | true =>
        subst hg
        have hd0 := HBO3.out.cell 0
        have hd1 := HBO3.out.cell 1
        have hd2 := HBO3.out.cell 2
        simp only [List.getElem?_toArray, List.getElem?_cons_zero, List.getElem?_cons_succ] at hd0 hd1 hd2
        rw [HS3.out] at hd0 hd1 hd2
        have HVR2 := Lib.hid (show VRow ((w3.setCell ⟨ob, 2, none⟩ (.bool true)).alloc (.cells #[.string ⟨x1.toArray⟩, .string ⟨#[]⟩, .bool true] 114)) 114 3 u6 k (opsV lst) from by
          rw [← HS3.out]
          exact (HVR.out.touch HTR3.out (fun j hj => HNB.out j hj)).alloc _)
        have HNC : Hid (∀ j u, [.string ⟨x1.toArray⟩, .string ⟨#[]⟩, .bool true][j]? = some u → ((w3.setCell ⟨ob, 2, none⟩ (.bool true)).alloc (.cells #[.string ⟨x1.toArray⟩, .string ⟨#[]⟩, .bool true] 114)).cell? ((⟨w3.heap.size, 0, none⟩ : Addr).add j) = some u) := Lib.hid (by
          have h := new_cells (w3.setCell ⟨ob, 2, none⟩ (.bool true)) 114 [.string ⟨x1.toArray⟩, .string ⟨#[]⟩, .bool true]
          rw [show (w3.setCell ⟨ob, 2, none⟩ (.bool true)).heap.size = w3.heap.size from by simp] at h
          exact h)
        have HST : Hid (OpsSt xs N.toNat (k + 1) (lst ++ [⟨x1, [], true⟩]) st3) := Lib.hid (by
          rcases H31.out.ok with ⟨a, hg0, e1⟩ | ⟨q1, hg0, e1⟩
          · subst e1
            have e2 := H32.out.err
            subst e2
            exact HSP.out.bad hltn (by unfold Dec.op Dec.bind; simp only [hg0])
          · subst e1
            rcases H32.out.ok with ⟨a, hg1, e2⟩ | ⟨q2, hg1, e2⟩
            · subst e2
              exact HSP.out.bad hltn (by unfold Dec.op Dec.bind; simp only [hg0]; simp only [hg1])
            · subst e2
              exact HSP.out.good hltn (by unfold Dec.op Dec.bind; simp only [hg0]; simp only [hg1]; rfl))
        have hsz : w.heap.size + 1 ≤ w3.heap.size := by have h := HT3.out.size; rw [HS3.out] at h; have h2 := HDR3.out.lt; rw [HS3.out] at h2; simp at h2; omega
        go_wp2_with (at_builtin; (refine wpList_append_lies _ rfl _ _ 50 rfl 0 114 ii (.agg #[.string ⟨#[]⟩, .string ⟨#[]⟩, .bool false]) 3 40 Try.underlying50 hi hz hi3 hi40 rfl (by decide) u6 k (opsV lst) rfl HVR2.out ⟨w3.heap.size, 0, none⟩ 1 1 [.string ⟨x1.toArray⟩, .string ⟨#[]⟩, .bool true] rfl rfl HNC.out (by intro u hu; simp only [List.mem_cons, List.not_mem_nil, or_false] at hu; rcases hu with rfl | rfl | rfl <;> rfl) (by omega) (by unfold maxLen; omega) (by omega) (Nat.zero_le _) _ rfl ?_); intro g9 c9 w9 hr9 hg9 ho9 hl9)
        have hend9 : RdrSt w9 w.heap.size A n c xs st3 ∧ Fresh w w9 := by
          rw [← HS3.out] at hg9
          have h1 : Fresh w (S3.alloc (.cells #[.string ⟨x1.toArray⟩, .string ⟨#[]⟩, .bool true] 114)) := HT3.out.alloc _
          obtain ⟨p', bad', on', hd, hst⟩ := HSR3.out
          refine ⟨⟨p', bad', on', ⟨(hd.1.alloc _).grown hg9 (fun e => HNB.out _ e.symm rfl), ?_, hd.2.2⟩, hst⟩, h1.grown hg9 (fun j hj => .inl (HOWN.out j hj))⟩
          refine (hd.2.1.alloc (.cells #[.string ⟨x1.toArray⟩, .string ⟨#[]⟩, .bool true] 114)).keep fun h0 p v hp ⟨a, ha, e⟩ => ?_
          have h6 : a.block < w.heap.size := hd.2.2.2.1 a ha h0
          refine (World.cell?_of_block (hg9.block p.block ?_ ?_)).trans hp
          · rw [e]
            exact Nat.lt_of_lt_of_le h6 h1.size
          · intro e5
            rw [e] at e5
            have := HOWN.out _ e5.symm
            omega
        have hown9 : ∀ j, (Value.slice (some ⟨g9, 0, none⟩) (k + 1) c9).ownBlock = some j → w.heap.size ≤ j := by
          intro j hj
          have hj' : g9 = j := by simpa [Value.ownBlock] using hj
          subst hj'
          rcases ho9 with h | h
          · exact HOWN.out _ h
          · rw [h]; simp; omega
        have HEND9 := Lib.hid hend9
        have HOWN9 := Lib.hid hown9
        have HR9 := Lib.hid (show VRow w9 114 3 (.slice (some ⟨g9, 0, none⟩) (k + 1) c9) (k + 1) (opsV (lst ++ [⟨x1, [], true⟩])) from by rw [opsV_snoc]; exact hr9)
        clear hend9 hown9 hr9 hg9 ho9 hl9
        go_roundw
        case rel => exact ⟨k + 1, by omega, by go_num, lst ++ [⟨x1, [], true⟩], st3, by simp [hlk], HR9.out, HOWN9.out, HEND9.out.1, HEND9.out.2, HST.out⟩
        case measure => simp [intOf] <;> omega
      | false =>
        subst hg
        go_wp2_with fail
        rw [← HS3.out]
        refine (rtext_any w.heap.size A n c xs st3 S3 HSR3.out).mono ?_
        intro e w4 h
        obtain ⟨x2, st4, rfl, hs, ht, h33⟩ := h.cases
        have hbo := HBO3.out.touch ht hobb
        have hc1 := hbo.cell 1
        have hf1 := hbo.frozen 1
        simp only [List.getElem?_toArray, List.getElem?_cons_zero, List.getElem?_cons_succ] at hc1
        obtain ⟨S4, hS4⟩ : ∃ S4, S4 = w4.setCell ⟨ob, 1, none⟩ (.string ⟨x2.toArray⟩) := ⟨_, rfl⟩
        have HBO4 := Lib.hid (show Blk S4 ob 114 #[.string ⟨x1.toArray⟩, .string ⟨x2.toArray⟩, .bool false] by rw [hS4]; exact hbo.set_ 1 (.string ⟨x2.toArray⟩))
        have HSR4 := Lib.hid (show RdrSt S4 w.heap.size A n c xs st4 by rw [hS4]; exact HSTEP.out _ _ _ _ hs)
        have HTR4 := Lib.hid (show Touch (· = w.heap.size) wr S4 by rw [hS4]; exact (HTR3.out.trans ht fun _ _ h => h).setCell (p := ⟨ob, 1, none⟩) (.inl hobw) _)
        have HT4 := Lib.hid (show Fresh w S4 from HT.out.trans HTR4.out fun i hi h => by omega)
        have HDR4 := Lib.hid (show Blk S4 ob 114 #[.string ⟨x1.toArray⟩, .string ⟨x2.toArray⟩, .bool false] from HBO4.out)
        have H33 := Lib.hid (Stp.of h33)
        have HS4 := Lib.hid hS4
        clear hs ht h33 hbo hS4 h
        have hd0 := HBO4.out.cell 0
        have hd1 := HBO4.out.cell 1
        have hd2 := HBO4.out.cell 2
        simp only [List.getElem?_toArray, List.getElem?_cons_zero, List.getElem?_cons_succ] at hd0 hd1 hd2
        rw [HS4.out] at hd0 hd1 hd2
        have HVR2 := Lib.hid (show VRow ((w4.setCell ⟨ob, 1, none⟩ (.string ⟨x2.toArray⟩)).alloc (.cells #[.string ⟨x1.toArray⟩, .string ⟨x2.toArray⟩, .bool false] 114)) 114 3 u6 k (opsV lst) from by
          rw [← HS4.out]
          exact (HVR.out.touch HTR4.out (fun j hj => HNB.out j hj)).alloc _)
        have HNC : Hid (∀ j u, [.string ⟨x1.toArray⟩, .string ⟨x2.toArray⟩, .bool false][j]? = some u → ((w4.setCell ⟨ob, 1, none⟩ (.string ⟨x2.toArray⟩)).alloc (.cells #[.string ⟨x1.toArray⟩, .string ⟨x2.toArray⟩, .bool false] 114)).cell? ((⟨w4.heap.size, 0, none⟩ : Addr).add j) = some u) := Lib.hid (by
          have h := new_cells (w4.setCell ⟨ob, 1, none⟩ (.string ⟨x2.toArray⟩)) 114 [.string ⟨x1.toArray⟩, .string ⟨x2.toArray⟩, .bool false]
          rw [show (w4.setCell ⟨ob, 1, none⟩ (.string ⟨x2.toArray⟩)).heap.size = w4.heap.size from by simp] at h
          exact h)
        have HST : Hid (OpsSt xs N.toNat (k + 1) (lst ++ [⟨x1, x2, false⟩]) st4) := Lib.hid (by
          rcases H31.out.ok with ⟨a, hg0, e1⟩ | ⟨q1, hg0, e1⟩
          · subst e1
            have e2 := H32.out.err
            subst e2
            have e3 := H33.out.err
            subst e3
            exact HSP.out.bad hltn (by unfold Dec.op Dec.bind; simp only [hg0])
          · subst e1
            rcases H32.out.ok with ⟨a, hg1, e2⟩ | ⟨q2, hg1, e2⟩
            · subst e2
              have e3 := H33.out.err
              subst e3
              exact HSP.out.bad hltn (by unfold Dec.op Dec.bind; simp only [hg0]; simp only [hg1])
            · subst e2
              rcases H33.out.ok with ⟨a, hg2, e3⟩ | ⟨q3, hg2, e3⟩
              · subst e3
                exact HSP.out.bad hltn (by unfold Dec.op Dec.bind; simp only [hg0]; simp only [hg1]; simp only [hg2]; rfl)
              · subst e3
                exact HSP.out.good hltn (by unfold Dec.op Dec.bind; simp only [hg0]; simp only [hg1]; simp only [hg2]; rfl))
        have hsz : w.heap.size + 1 ≤ w4.heap.size := by have h := HT4.out.size; rw [HS4.out] at h; have h2 := HDR4.out.lt; rw [HS4.out] at h2; simp at h2; omega
        go_wp2_with (at_builtin; (refine wpList_append_lies _ rfl _ _ 50 rfl 0 114 ii (.agg #[.string ⟨#[]⟩, .string ⟨#[]⟩, .bool false]) 3 40 Try.underlying50 hi hz hi3 hi40 rfl (by decide) u6 k (opsV lst) rfl HVR2.out ⟨w4.heap.size, 0, none⟩ 1 1 [.string ⟨x1.toArray⟩, .string ⟨x2.toArray⟩, .bool false] rfl rfl HNC.out (by intro u hu; simp only [List.mem_cons, List.not_mem_nil, or_false] at hu; rcases hu with rfl | rfl | rfl <;> rfl) (by omega) (by unfold maxLen; omega) (by omega) (Nat.zero_le _) _ rfl ?_); intro g9 c9 w9 hr9 hg9 ho9 hl9)
        have hend9 : RdrSt w9 w.heap.size A n c xs st4 ∧ Fresh w w9 := by
          rw [← HS4.out] at hg9
          have h1 : Fresh w (S4.alloc (.cells #[.string ⟨x1.toArray⟩, .string ⟨x2.toArray⟩, .bool false] 114)) := HT4.out.alloc _
          obtain ⟨p', bad', on', hd, hst⟩ := HSR4.out
          refine ⟨⟨p', bad', on', ⟨(hd.1.alloc _).grown hg9 (fun e => HNB.out _ e.symm rfl), ?_, hd.2.2⟩, hst⟩, h1.grown hg9 (fun j hj => .inl (HOWN.out j hj))⟩
          refine (hd.2.1.alloc (.cells #[.string ⟨x1.toArray⟩, .string ⟨x2.toArray⟩, .bool false] 114)).keep fun h0 p v hp ⟨a, ha, e⟩ => ?_
          have h6 : a.block < w.heap.size := hd.2.2.2.1 a ha h0
          refine (World.cell?_of_block (hg9.block p.block ?_ ?_)).trans hp
          · rw [e]
            exact Nat.lt_of_lt_of_le h6 h1.size
          · intro e5
            rw [e] at e5
            have := HOWN.out _ e5.symm
            omega
        have hown9 : ∀ j, (Value.slice (some ⟨g9, 0, none⟩) (k + 1) c9).ownBlock = some j → w.heap.size ≤ j := by
          intro j hj
          have hj' : g9 = j := by simpa [Value.ownBlock] using hj
          subst hj'
          rcases ho9 with h | h
          · exact HOWN.out _ h
          · rw [h]; simp; omega
        have HEND9 := Lib.hid hend9
        have HOWN9 := Lib.hid hown9
        have HR9 := Lib.hid (show VRow w9 114 3 (.slice (some ⟨g9, 0, none⟩) (k + 1) c9) (k + 1) (opsV (lst ++ [⟨x1, x2, false⟩])) from by rw [opsV_snoc]; exact hr9)
        clear hend9 hown9 hr9 hg9 ho9 hl9
        go_roundw
        case rel => exact ⟨k + 1, by omega, by go_num, lst ++ [⟨x1, x2, false⟩], st4, by simp [hlk], HR9.out, HOWN9.out, HEND9.out.1, HEND9.out.2, HST.out⟩
        case measure => simp [intOf] <;> omega
    · obtain ⟨A', c', rfl, _⟩ := HVR.out.form
      have HEND := Lib.hid (rend_any w.heap.size A n c xs st wr HSR.out)
      have hfin : (∃ a, Dec.whole (Dec.ops xs 0) n = .error a ∧ rendV n st = .tuple #[.int .i64 a, .int .i64 2]) ∨ (Dec.whole (Dec.ops xs 0) n = .ok lst ∧ rendV n st = .tuple #[.int .i64 0, .int .i64 0]) := by
        cases st with
        | error a => exact .inl ⟨a, by rw [show Dec.ops xs 0 = .error a from HSP.out]; rfl, rfl⟩
        | ok q =>
          have hb : bad = false := by
            cases bad
            · rfl
            · simp at hst
          have hkN : N.toNat - k = 0 := by
            have : ¬ (k : Int) < N := fun h => hgo ⟨h, hb⟩
            omega
          have h9 := HSP.out.2.2
          rw [hkN, Dec.pre_done] at h9
          rw [h9]
          by_cases hq : q < n
          · exact .inl ⟨q, if_pos hq, if_pos hq⟩
          · exact .inr ⟨if_neg hq, if_neg hq⟩
      have HFIN := Lib.hid hfin
      have hcond : (decide ((k : Int) < N) && !bad) = false := by
        cases bad
        · have : ¬ (k : Int) < N := fun h => hgo ⟨h, rfl⟩
          simp; omega
        · simp
      clear hfin hst hgo
      by_cases hkN : (k : Int) < N
      · have hbt : bad = true := by simpa [hkN] using hcond
        subst hbt
        go_wp2_with fail
        refine HEND.out.mono ?_
        rintro e wz ⟨ht9, rfl⟩
        have HTZ := Lib.hid (show Fresh w wz from HT.out.trans ht9 fun i hi h => by omega)
        rcases HFIN.out with ⟨a, hsp, hrv⟩ | ⟨hsp, hrv⟩
        · have HE := Lib.hid (show OpsEnd w (Dec.whole (Dec.ops xs 0) n) (.returned (.tuple #[.slice none 0 0, .int .i64 a, .int .i64 2])) wz from OpsEnd.bad hsp HTZ.out)
          simp only [hrv]
          clear hsp hrv ht9
          go_wp2_with fail
          exact bodyPost_ret (v := .tuple #[.slice none 0 0, .int .i64 a, .int .i64 2]) (by simp [results, Try.results38, go_sem]) rfl HE.out
        · have HE := Lib.hid (show OpsEnd w (Dec.whole (Dec.ops xs 0) n) (.returned (.tuple #[.slice A' k c', .int .i64 0, .int .i64 0])) wz from OpsEnd.good hsp hlk.symm (HVR.out.touch ht9 (fun j hj e => HVR.out.ne_blk HD.out.1 (by decide) (by rw [hj, e]))) HOWN.out HTZ.out)
          simp only [hrv]
          clear hsp hrv ht9
          go_wp2_with fail
          exact bodyPost_ret (v := .tuple #[.slice A' k c', .int .i64 0, .int .i64 0]) (by simp [results, Try.results38, go_sem]) rfl HE.out
      · go_wp2_with fail
        refine HEND.out.mono ?_
        rintro e wz ⟨ht9, rfl⟩
        have HTZ := Lib.hid (show Fresh w wz from HT.out.trans ht9 fun i hi h => by omega)
        rcases HFIN.out with ⟨a, hsp, hrv⟩ | ⟨hsp, hrv⟩
        · have HE := Lib.hid (show OpsEnd w (Dec.whole (Dec.ops xs 0) n) (.returned (.tuple #[.slice none 0 0, .int .i64 a, .int .i64 2])) wz from OpsEnd.bad hsp HTZ.out)
          simp only [hrv]
          clear hsp hrv ht9
          go_wp2_with fail
          exact bodyPost_ret (v := .tuple #[.slice none 0 0, .int .i64 a, .int .i64 2]) (by simp [results, Try.results38, go_sem]) rfl HE.out
        · have HE := Lib.hid (show OpsEnd w (Dec.whole (Dec.ops xs 0) n) (.returned (.tuple #[.slice A' k c', .int .i64 0, .int .i64 0])) wz from OpsEnd.good hsp hlk.symm (HVR.out.touch ht9 (fun j hj e => HVR.out.ne_blk HD.out.1 (by decide) (by rw [hj, e]))) HOWN.out HTZ.out)
          simp only [hrv]
          clear hsp hrv ht9
          go_wp2_with fail
          exact bodyPost_ret (v := .tuple #[.slice A' k c', .int .i64 0, .int .i64 0]) (by simp [results, Try.results38, go_sem]) rfl HE.out
end Go.Proofs.Ytdfhdanfigpbpaa
