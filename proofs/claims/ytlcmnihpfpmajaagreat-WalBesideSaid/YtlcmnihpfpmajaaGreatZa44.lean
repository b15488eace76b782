/- The wal claims' texts, several in one: Tel. Conditions stand with each theorem. -/
import Derived.Test.YtlcmnihpfpmajaaGreatZa35
import Derived.Test.YtlcmnihpfpmajaaGreatZa25
import Derived.Deep.CutRange
import Derived.Deep.RegionHeld3
/- The law's tells: a range over the log's All beside a content. Conditions stand with it. -/
namespace Go.Proofs.YtlcmnihpfpmajaaGreat
open Go.RowKit
attribute [local go_sem] Oper.semAt_some
def telB (a b : Ct) : Bool := decide (a.first = b.first) && decide (a.rows = b.rows)
theorem telB_iff {a b : Ct} : telB a b = true ↔ a = b := by
  unfold telB
  rw [Bool.and_eq_true, decide_eq_true_eq, decide_eq_true_eq]
  constructor
  · rintro ⟨h1, h2⟩
    cases a; cases b; dsimp only at h1 h2; rw [h1, h2]
  · rintro rfl
    exact ⟨rfl, rfl⟩
theorem telB_self (a : Ct) : telB a a = true := telB_iff.2 rfl
theorem telB_not {a b : Ct} (h : a ≠ b) : telB a b = false := by
  cases hb : telB a b with
  | false => rfl
  | true => exact absurd (telB_iff.1 hb) h
def TlI (w : World) (b5 : Nat) (c : Ct) (cv : Value) (rows : List (List UInt8)) (pre : List RcY) (V : World) : Prop :=
  (Blk V w.heap.size 35 #[.int .i64 (c.first : Int), cv] ∧ Blk V (w.heap.size + 1) 4 #[.bool false] ∧ Blk V b5 3 #[.int .i64 (pre.length : Int)] ∧ pre.length ≤ rows.length ∧ rows.take pre.length = c.rows.take pre.length) ∧ Below w.heap.size w V
theorem TlI.own_ {w w2 : World} {b5 : Nat} {c : Ct} {cv : Value} {rows : List (List UInt8)} (h2 : w.heap.size ≤ w2.heap.size) : OwnFrom w2.heap.size (TlI w b5 c cv rows) :=
  OwnFrom.and (Own.from (fun _ _ _ _ hs hg hr => by obtain ⟨q1, q2, q3, q4⟩ := hs; exact ⟨q1.own_ hg hr, q2.own_ hg hr, q3.own_ hg hr, q4⟩) _) (ownFrom_below (Nat.le_refl _) h2)
def TlX (w : World) (a c : Ct) (V : World) : Prop := (Blk V (w.heap.size + 1) 4 #[.bool false] ∧ a ≠ c) ∧ Below w.heap.size w V
theorem TlX.own_ {w w2 : World} {a c : Ct} (h2 : w.heap.size ≤ w2.heap.size) : OwnFrom w2.heap.size (fun (_ : List RcY) V => TlX w a c V) :=
  OwnFrom.and (Own.from (fun _ _ _ _ hs hg hr => by obtain ⟨q1, q2⟩ := hs; exact ⟨q1.own_ hg hr, q2⟩) _) (ownFrom_below (Nat.le_refl _) h2)
theorem tl_round {w V : World} {b5 kk nr Z : Nat} {c : Ct} {cv v : Value} {rows : List (List UInt8)} {pre : List RcY} {i : Nat} {b : List UInt8} (h5w : w.heap.size + 1 < b5) (h3 : Blk V w.heap.size 35 #[.int .i64 (c.first : Int), cv]) (h4 : Blk V (w.heap.size + 1) 4 #[.bool false]) (h5 : Blk V b5 3 #[.int .i64 (kk : Int)]) (hbl : Below w.heap.size w V)
    (hpre : rows.take kk = c.rows.take kk) (hkk : kk = pre.length) (hb : rows[kk]? = some b) (hb2 : c.rows[kk]? = some b) (hlt : kk < rows.length) :
    KeepsOthers V ((V.drewN nr).setCell ⟨b5, 0, none⟩ (.int .i64 ((kk : Int) + 1))) ∧ LKp (fun k => k = w.heap.size + 1 ∨ k = b5) Z V ((V.drewN nr).setCell ⟨b5, 0, none⟩ (.int .i64 ((kk : Int) + 1))) ∧ TlI w b5 c cv rows (pre ++ [(i, b, v)]) ((V.drewN nr).setCell ⟨b5, 0, none⟩ (.int .i64 ((kk : Int) + 1))) := by
  have hT : Touch (fun k => k = w.heap.size + 1 ∨ k = b5) V ((V.drewN nr).setCell ⟨b5, 0, none⟩ (.int .i64 ((kk : Int) + 1))) := ((Touch.refl (fun k => k = w.heap.size + 1 ∨ k = b5) V).drewN nr).setCell (p := ⟨b5, 0, none⟩) (.inr (.inr rfl)) _
  have hT5 : Touch (fun k => k = b5) V ((V.drewN nr).setCell ⟨b5, 0, none⟩ (.int .i64 ((kk : Int) + 1))) := ((Touch.refl (fun k => k = b5) V).drewN nr).setCell (p := ⟨b5, 0, none⟩) (.inr rfl) _
  have hf : Fresh V (V.drewN nr) := (Touch.refl (fun _ => False) V).drewN nr
  refine ⟨(keepsF hf).trans (KeepsOthers.setCell _ _ _), LKp.touch hT, ⟨h3.touch hT5 (by omega), h4.touch hT5 (by omega), ?_, ?_, ?_⟩, (hbl.trans (hf.bel.mono hbl.size)).setCell (p := ⟨b5, 0, none⟩) (by show w.heap.size ≤ b5; omega) _⟩
  · have := (h5.drewN nr).set_ 0 (.int .i64 ((kk : Int) + 1))
    rw [List.length_append, List.length_singleton, ← hkk]
    simpa using this
  · rw [List.length_append, List.length_singleton, ← hkk]; omega
  · rw [List.length_append, List.length_singleton, ← hkk, List.take_add_one, List.take_add_one, hb, hb2, hpre]
theorem tl_stop {w V : World} {kk nr : Nat} {a c : Ct} {b b2 : List UInt8} (h4 : Blk V (w.heap.size + 1) 4 #[.bool false]) (hbl : Below w.heap.size w V) (hb : a.rows[kk]? = some b) (hb2 : c.rows[kk]? = some b2) (hne : ¬ b = b2) :
    KeepsOthers V ((V.drewN nr).setCell ⟨w.heap.size + 1, 0, none⟩ (.bool false)) ∧ Exit.ret = Exit.ret ∧ TlX w a c ((V.drewN nr).setCell ⟨w.heap.size + 1, 0, none⟩ (.bool false)) := by
  have hf : Fresh V (V.drewN nr) := (Touch.refl (fun _ => False) V).drewN nr
  refine ⟨(keepsF hf).trans (KeepsOthers.setCell _ _ _), rfl, ⟨?_, fun e => ?_⟩, (hbl.trans (hf.bel.mono hbl.size)).setCell (p := ⟨w.heap.size + 1, 0, none⟩) (Nat.le_succ _) _⟩
  · have := (h4.drewN nr).set_ 0 (.bool false)
    simpa using this
  · rw [e, hb2] at hb
    injection hb with hb
    exact hne hb.symm
section
variable {w : World} {bl bd : Nat} {R Q : Nat → Prop} {l : Lg} {sv rv cv : Value} {vs : List Value} {c : Ct}
set_option maxRecDepth 100000 in
set_option maxHeartbeats 8000000 in
theorem tells_any (h : LM w bl bd R l sv rv vs) (hnx : l.c.next ≤ 1000000000) (hrl : ∀ b ∈ l.c.rows, b.length ≤ 100000000) (hR : ∀ k, R k → k < w.heap.size) (hc : CM w Q cv c.rows) (hQ : ∀ k, Q k → k < w.heap.size) (hcn : c.next ≤ 1000000000) :
    Calls Tryz.prog 13 #[.pointer (some ⟨bl, 0, none⟩), .agg #[.int .i64 (c.first : Int), cv]] w fun e w' => Fresh w w' ∧ e = .returned (.bool (telB l.c c)) := by
  obtain ⟨cA, cc, rfl, hcc1, hcc2, hcA⟩ := hc.form
  obtain ⟨m, hm⟩ : ∃ m, m = c.rows.length := ⟨_, rfl⟩
  rw [← hm] at hc hcc1 hcA ⊢
  obtain ⟨w0, hw0⟩ : ∃ w0, w0 = (w.alloc (.cells #[.int .i64 (c.first : Int), .slice cA m cc] 35)).alloc (.cells #[.bool false] 4) := ⟨_, rfl⟩
  have hf0 : Fresh w w0 := by rw [hw0]; exact ((Touch.refl _ w).alloc _).alloc _
  have hb3 : Blk w0 w.heap.size 35 #[.int .i64 (c.first : Int), .slice cA m cc] := by rw [hw0]; exact (Blk.new _ _ _).alloc _
  have hb4 : Blk w0 (w.heap.size + 1) 4 #[.bool false] := by rw [hw0]; have := Blk.new (w.alloc (.cells #[.int .i64 (c.first : Int), .slice cA m cc] 35)) 4 #[.bool false]; rwa [alloc_size] at this
  have H := Lib.hid h; have HW0 := Lib.hid hw0; have HF0 := Lib.hid hf0; have H3 := Lib.hid hb3; have H4 := Lib.hid hb4; have HRL := Lib.hid hrl; have HR := Lib.hid hR; have HC := Lib.hid hc; have HQ := Lib.hid hQ; have HM := Lib.hid hm
  have hnb : c.first + m ≤ 1000000000 := by rw [hm]; exact hcn
  have KF := Lib.hid (show ∀ W, Fresh w0 W → Calls Tryz.prog 31 #[.pointer (some ⟨bl, 0, none⟩)] W fun e w' => e = .returned (.int .i64 (l.c.first : Int)) ∧ w' = W from fun W hW => first_any ((h.fresh hf0).fresh hW))
  have KN := Lib.hid (show ∀ W, Fresh w0 W → Calls Tryz.prog 32 #[.pointer (some ⟨bl, 0, none⟩)] W fun e w' => e = .returned (.int .i64 (l.c.next : Int)) ∧ ∃ q, w' = W.drewN q from fun W hW => next_any ((h.fresh hf0).fresh hW) hnx)
  have KC := Lib.hid (show ∀ W, Fresh w0 W → Calls Tryz.prog 21 #[.agg #[.int .i64 (c.first : Int), .slice cA m cc]] W fun e w' => Fresh w0 w' ∧ e = .returned (.int .i64 ((c.first + m : Nat) : Int)) from fun W hW => (cnext_any W (by omega)).mono fun e w' ⟨q1, q2⟩ => ⟨hW.trans q1 fun _ _ => id, q2⟩)
  have HE := Lib.hid (show ∀ W, Fresh w0 W → Fresh w0 W ∧ W.cell? ⟨w.heap.size, 0, none⟩ = some (.int .i64 (c.first : Int)) ∧ W.cell? ⟨w.heap.size, 1, none⟩ = some (.slice cA m cc) from fun W hW => ⟨hW, (hb3.touch hW id).cell 0, (hb3.touch hW id).cell 1⟩)
  have HZ := Lib.hid (show ∀ W, Fresh w0 W → W.cell? ⟨w.heap.size + 1, 0, none⟩ = some (.bool false) ∧ W.frozen? ⟨w.heap.size + 1, 0, none⟩ = false from fun W hW => ⟨(hb4.touch hW id).cell 0, (hb4.touch hW id).frozen 0⟩)
  have hend : ∀ W, Fresh w0 W → l.c ≠ c → Fresh w (W.setCell ⟨w.heap.size + 1, 0, none⟩ (.bool false)) ∧ Ending.returned (.bool false) = .returned (.bool (telB l.c c)) := fun W hW hne => ⟨(hf0.trans hW fun _ _ => id).setCell (.inl (Nat.le_succ _)) _, by rw [telB_not hne]⟩
  have HEND := Lib.hid hend
  clear h hw0 hf0 hb3 hb4 hrl hR hc hQ hm hend
  by_cases hfe : l.c.first = c.first
  · have hfb : ((l.c.first : Int) != (c.first : Int)) = false := by rw [hfe]; simp
    have HFE := Lib.hid hfe
    clear hfe
    by_cases hne : l.c.next = c.first + m
    · have hnb2 : ((l.c.next : Int) != ((c.first + m : Nat) : Int)) = false := by rw [hne]; simp
      have hnb3 : ((l.c.next : Int) != (c.first : Int) + (m : Int)) = false := hnb2
      have HLEN := Lib.hid (show l.c.rows.length = m by have := HFE.out; unfold Ct.next at hne; omega)
      clear hne
      refine (callsIn_wide (n := 3)).1 ?_
      refine callsIn_of_wp_marks Tryz.func13 rfl trivial ?_ rfl
      simp only [Tryz.ntmps13, List.size_toArray, List.length_cons, List.length_nil, Nat.reduceAdd, Nat.reduceSub, Array.replicate_succ, Array.replicate_zero, List.push_toArray, List.append_toArray, List.nil_append, List.cons_append]
      refine wpIn_wide.2 ?_
      go_upto_region 1 with fail
      rw [← HW0.out]
      go_cut [19] from 8 to 19 (fun v w6 => v = .bool false ∧ Fresh w0 w6)
      case first =>
        go_region_held3 (fun W => Fresh w0 W ∧ W.cell? ⟨w.heap.size, 0, none⟩ = some (.int .i64 (c.first : Int)) ∧ W.cell? ⟨w.heap.size, 1, none⟩ = some (.slice cA m cc))
          (first | exact HE.out _ ((Touch.refl _ w0).drew) | exact HE.out _ (Touch.refl _ w0) | assumption | exact HE.out _ ((Touch.refl _ w0).drewN _) | exact HE.out _ (((Touch.refl _ w0).drew).drewN _) | exact HE.out _ (Touch.drewN HF4.out _))
          (first
            | (go_at_call 31; refine (KF.out _ (And.left (by assumption))).mono ?_; rintro e w3 ⟨rfl, rfl⟩)
            | (go_at_call 32; refine (KN.out _ (And.left (by assumption))).mono ?_; rintro e w3 ⟨rfl, q, rfl⟩)
            | (go_at_call 21; refine (KC.out _ (And.left (by assumption))).mono ?_; rintro e w4 ⟨hf4, rfl⟩; have k4 := HE.out _ hf4; have HF4 := Lib.hid hf4; clear hf4))
        all_goals
          go_wp2_with fail
          go_meet
          case rel => exact ⟨rfl, by first | exact HF4.out | exact HF4.out.drewN _⟩
      case rest =>
        obtain ⟨rfl, hf6⟩ := hcut
        have HF6 := Lib.hid hf6
        clear hf6
        obtain ⟨w5, hw5⟩ : ∃ w5, w5 = wc.alloc (.cells #[.int .i64 0] 3) := ⟨_, rfl⟩
        have hf5 : Fresh w0 w5 := by rw [hw5]; exact HF6.out.alloc _
        have hb5 : Blk w5 wc.heap.size 3 #[.int .i64 0] := by rw [hw5]; exact Blk.new _ _ _
        have hsc : w.heap.size + 1 < wc.heap.size := by have := H4.out.lt; have := HF6.out.size; omega
        have HW5 := Lib.hid hw5
        go_wp2_with fail
        rw [← HW5.out]
        refine (lall_any bl w5).mono ?_
        rintro e w6 ⟨rfl, hw6⟩
        have hfa : Fresh w5 w6 := by rw [hw6]; exact (Touch.refl _ _).alloc _
        have hf6 : Fresh w w6 := (HF0.out.trans hf5 fun _ _ => id).trans hfa fun _ _ => id
        have HA := Lib.hid (show Blk w6 w5.heap.size 32 #[.pointer (some ⟨bl, 0, none⟩)] by rw [hw6]; exact Blk.new _ _ _)
        have H56 := Lib.hid (hb5.touch hfa id)
        have HF56 := Lib.hid (hf5.trans hfa fun _ _ => id)
        have HF06 := Lib.hid hf6
        have HL6 := Lib.hid (H.out.fresh hf6)
        have hs5 := hf5.size
        have hs6 := hfa.size
        have hw65 := hb5.lt
        clear hw5 hf5 hb5 hw6 hfa hf6
        go_wp2_with fail
        refine wpIn_wide (n := 3).1 ?_
        refine range_ok (F := Fence.wide) (n := 3) rfl (by decide) (gf := 55) (lb := #[.pointer (some ⟨w5.heap.size, 0, none⟩)]) rfl trivial (enters_of Tryz.func55 (by kernel_rfl) rfl)
          (log_told 2 w5.heap.size bl bd R l sv rv vs (fun k => k = w.heap.size + 1 ∨ k = wc.heap.size) w6 (by decide) HA.out HL6.out hnx HRL.out
            (fun k hk => by omega) (fun k hk => ⟨fun e => by have := HR.out k hk; omega, by have := HR.out k hk; omega⟩))
          (fun pre x V l o o' hok hl hc => hok.put hl hc) (fun pre x V V1 hok hf => hok.fresh hf)
          (fun x b V => b = { tmps := #[.pointer (some ⟨bl, 0, none⟩), .agg #[.int .i64 (c.first : Int), .slice cA m cc], undef, .pointer (some ⟨w.heap.size, 0, none⟩), .pointer (some ⟨w.heap.size + 1, 0, none⟩), .pointer (some ⟨wc.heap.size, 0, none⟩), .int .i64 (x.1 : Int), x.2.2, u8, u9, u10, u11, u12, u13, u14, u15, u16, u17, u18, .bool false, .pointer (some ⟨bl, 0, none⟩), .func (.func 55) #[] #[.pointer (some ⟨w5.heap.size, 0, none⟩)], .int .i64 (x.1 : Int), x.2.2, undef, undef, undef, undef, undef, undef, undef, undef, undef, undef, undef, undef, undef, undef, undef, undef, undef, undef, undef, undef, undef, undef, undef, undef, undef, undef, undef, undef, undef, undef, undef], defers := [] })
          (fun x b V l o o' h hl hc => h)
          (fun h => LKp.fresh h) (fun h1 h2 => h1.trans_ h2) (fun V l o o' _ hl hc _ => LKp.put V l o o' hl hc) (fun _ => rfl)
          (TlI w wc.heap.size c (.slice cA m cc) l.c.rows) (fun _ V => TlX w l.c c V) (TlI.own_ (by omega)) (TlX.own_ (by omega))
          ⟨⟨H3.out.touch HF56.out id, H4.out.touch HF56.out id, H56.out, Nat.zero_le _, rfl⟩, Fresh.bel HF06.out⟩ ?assign ?body ?done ?stop
        case assign =>
          rintro l' pre ⟨i, b, v⟩ V K hok hK
          clear hok
          simp only [rcEnc, List.zip_toArray, List.size_toArray, List.zip_cons_cons, List.zip_nil_left]
          gi_wp2
          exact hK _ _ (Touch.refl _ V) rfl
        case body =>
          rintro l' pre ⟨i, b, v⟩ a₁ V ⟨⟨h3, h4, h5, hle, hpre⟩, hbl⟩ ⟨hi, hbk, hrow, hnew⟩ rfl hlt
          dsimp only at hi hbk hrow hnew
          obtain ⟨kk, hkk⟩ : ∃ kk, kk = pre.length := ⟨_, rfl⟩
          rw [← hkk] at h5 hle hpre hi hbk hlt
          obtain ⟨A1, c1, rfl, hb1⟩ : ∃ A1 c1, v = .slice A1 b.length c1 ∧ Bs V A1 b.length c1 b := by
            obtain ⟨A, cb, hv, _⟩ := hrow.form
            exact ⟨A, cb, hv, by rw [hv] at hrow; exact hrow.bs⟩
          have hkm : kk < m := by rw [← HLEN.out]; exact hlt
          obtain ⟨b2, hb2⟩ : ∃ b2, c.rows[kk]? = some b2 := ⟨_, List.getElem?_eq_getElem (by rw [← HM.out]; exact hkm)⟩
          obtain ⟨vs2, hrd, hrec, _⟩ := HC.out.fresh (Touch.ofBelow hbl _)
          obtain ⟨A2, c2, hv2, hbs2, _⟩ := hrec.at_ kk b2 hb2
          obtain ⟨g, o, rfl⟩ : ∃ g o, cA = some ⟨g, o, none⟩ := by
            rcases hcA with ⟨_, h2, _⟩ | e
            · omega
            · exact e
          rw [← HM.out] at hrd
          have cR : ∀ q, (V.drewN q).cell? ⟨g, o + kk, none⟩ = some (.slice A2 b2.length c2) := fun _ => hrd.cell hv2
          have c30 : ∀ q, (V.drewN q).cell? ⟨w.heap.size, 0, none⟩ = some (.int .i64 (c.first : Int)) := fun _ => h3.cell 0
          have c31 : ∀ q, (V.drewN q).cell? ⟨w.heap.size, 1, none⟩ = some (.slice (some ⟨g, o, none⟩) m cc) := fun _ => h3.cell 1
          have c50 : ∀ q, (V.drewN q).cell? ⟨wc.heap.size, 0, none⟩ = some (.int .i64 (kk : Int)) := fun _ => h5.cell 0
          have kc1 : ∀ q, (convert 26 9 (.slice A1 b.length c1)).run Tryz.prog (V.drewN q) = .ok (.string ⟨b.toArray⟩) (V.drewN q) := fun q => run_convert_Bs 26 9 Tryz.underlying26 Tryz.underlying5 Tryz.underlying9 (hb1.drewN q)
          have kc2 : ∀ q, (convert 26 9 (.slice A2 b2.length c2)).run Tryz.prog (V.drewN q) = .ok (.string ⟨b2.toArray⟩) (V.drewN q) := fun q => run_convert_Bs 26 9 Tryz.underlying26 Tryz.underlying5 Tryz.underlying9 (hbs2.drewN q)
          have hi2 : (i : Int) = (c.first : Int) + (kk : Int) := by rw [hi, HFE.out]; omega
          have hine : ((i : Int) != (c.first : Int) + (kk : Int)) = false := by rw [hi2]; simp
          have hmd : decide ((m : Int) ≤ (kk : Int)) = false := decide_eq_false (by omega)
          have hmi : ¬ (m : Int) ≤ (kk : Int) := by omega
          have hmdn : decide (m ≤ kk) = false := decide_eq_false (by omega)
          have hwr : IntKind.i64.wrap ((c.first : Int) + (kk : Int)) = (c.first : Int) + (kk : Int) := IntWalk.i64_in _ (by omega)
          have hwk : IntKind.i64.wrap ((kk : Int) + 1) = (kk : Int) + 1 := IntWalk.i64_in _ (by omega)
          have hkmi : (kk : Int) < (m : Int) := by omega
          have H3V := Lib.hid h3; have H4V := Lib.hid h4; have H5V := Lib.hid h5; have HBL := Lib.hid hbl; have HPRE := Lib.hid hpre; have HKK := Lib.hid hkk; have HBK := Lib.hid hbk; have HB2 := Lib.hid hb2
          clear h3 h4 h5 hbl hpre hkk hbk hb2 hi hi2 hrow hnew hrd hrec hv2 hbs2 hb1 hcA
          by_cases hbe : b = b2
          · subst hbe
            have hbb : (b == b) = true := beq_self_eq_true b
            gi_wp2
            refine region_round l' rfl (by simp) (by kernel_rfl) (by kernel_rfl) ?_
            repeat (gi_big_quiet_step (fail))
            refine wpQuietIn_nil ?_
            intro _ hw'
            obtain ⟨nr, hw''⟩ := hw'
            subst hw''
            have f50 : (V.drewN nr).frozen? ⟨wc.heap.size, 0, none⟩ = false := H5V.out.frozen 0
            gi_wp2
            have hr := tl_round (Z := w6.heap.size) (nr := nr) (i := i) (v := .slice A1 b.length c1) hsc H3V.out H4V.out H5V.out HBL.out HPRE.out HKK.out HBK.out HB2.out hlt
            exact ⟨hr.1, hr.2.1, hr.2.2⟩
          · have hbb : (b == b2) = false := by simpa using hbe
            have f40 : ∀ q, (V.drewN q).frozen? ⟨w.heap.size + 1, 0, none⟩ = false := fun _ => H4V.out.frozen 0
            have c40 : ∀ q, (V.drewN q).cell? ⟨w.heap.size + 1, 0, none⟩ = some (.bool false) := fun _ => H4V.out.cell 0
            have HBE := Lib.hid hbe
            clear hbe
            gi_wp2
            refine region_round l' rfl (by simp) (by kernel_rfl) (by kernel_rfl) ?_
            repeat (gi_big_quiet_step (fail))
            refine wpQuietIn_nil ?_
            intro _ hw'
            obtain ⟨nr, hw''⟩ := hw'
            subst hw''
            gi_wp2
            have hr := tl_stop (nr := nr) H4V.out HBL.out HBK.out HB2.out HBE.out
            exact ⟨hr.1, rfl, hr.2.2⟩
        case done =>
          rintro D ys V hD hS ⟨⟨h3, h4, h5, hle, hpre⟩, hbl⟩ hKD
          have hrows : l.c.rows = c.rows := by
            rw [hS, List.take_length] at hpre
            rw [hpre, List.take_of_length_le (by rw [HLEN.out, ← HM.out]; exact Nat.le_refl _)]
          have heq : l.c = c := telB_iff.1 (by unfold telB; rw [decide_eq_true HFE.out, decide_eq_true hrows]; rfl)
          have hyl : ys.length = m := by rw [hS]; exact HLEN.out
          rw [hyl] at h5
          have c31 : V.cell? ⟨w.heap.size, 1, none⟩ = some (.slice cA m cc) := h3.cell 1
          have c50 : V.cell? ⟨wc.heap.size, 0, none⟩ = some (.int .i64 (m : Int)) := h5.cell 0
          have c40 : V.cell? ⟨w.heap.size + 1, 0, none⟩ = some (.bool false) := h4.cell 0
          have f40 : V.frozen? ⟨w.heap.size + 1, 0, none⟩ = false := h4.frozen 0
          have e1 : ((m : Int) == (m : Int)) = true := by simp
          have HBL := Lib.hid hbl; have HKD := Lib.hid hKD; have HEQ := Lib.hid heq
          have HDD := Lib.hid (show w.heap.size ≤ D by omega)
          clear hbl hKD heq hS hD hpre hrows hle h3 h4 h5 hyl
          go_wp2_with fail
          have hK' := (KeepsOthers.setCell V ⟨w.heap.size + 1, 0, none⟩ (.bool true)).same D _ HKD.out rfl
          refine ⟨by simp, .inl ⟨_, _, rfl, run_takeDeferred hK', ?_⟩⟩
          have hc5 := cell_kept (World.cell?_setCell_same' V ⟨w.heap.size + 1, 0, none⟩ (.bool true) (by rw [c40]; rfl)) (grownBy_putObj' _ D (.deferred none)) (fun r e => by cases e; exact ⟨_, hK', rfl⟩)
          refine ⟨.bool true, ?_, Touch.ofBelow ((HBL.out.setCell (p := ⟨w.heap.size + 1, 0, none⟩) (Nat.le_succ _) _).trans (belowK_b (w := w) (Nat.le_refl _) _ D _ _ HDD.out hK' rfl rfl)) _, ?_⟩
          · simp [results, Tryz.results13, go_sem, hc5]
          · rw [HEQ.out, telB_self]
        case stop =>
          rintro D pre V hD hs ⟨⟨h4, hne⟩, hbl⟩ hKD
          have c40 : V.cell? ⟨w.heap.size + 1, 0, none⟩ = some (.bool false) := h4.cell 0
          have HBL := Lib.hid hbl; have HKD := Lib.hid hKD; have HNE := Lib.hid hne
          have HDD := Lib.hid (show w.heap.size ≤ D by omega)
          clear hbl hKD hne hD hs h4
          refine wpIn_wide.2 ?_
          go_wp2_with fail
          refine ⟨by simp, .inl ⟨_, _, rfl, run_takeDeferred HKD.out, ?_⟩⟩
          have hc5 := cell_kept c40 (grownBy_putObj' _ D (.deferred none)) (fun r e => by cases e; exact ⟨_, HKD.out, rfl⟩)
          refine ⟨.bool false, ?_, Touch.ofBelow (HBL.out.trans (belowK_b (w := w) (Nat.le_refl _) _ D _ _ HDD.out HKD.out rfl rfl)) _, ?_⟩
          · simp [results, Tryz.results13, go_sem, hc5]
          · rw [telB_not HNE.out]
    · have HNE := Lib.hid (show l.c ≠ c from fun e => hne (by rw [e, Ct.next, ← HM.out]))
      have hnb2 : ((l.c.next : Int) != ((c.first + m : Nat) : Int)) = true := bne_iff_ne.2 (by omega)
      clear hne
      go_enter Tryz.func13, Tryz.ntmps13
      go_upto_region 1 with fail
      rw [← HW0.out]
      go_region_held3 (fun W => Fresh w0 W ∧ W.cell? ⟨w.heap.size, 0, none⟩ = some (.int .i64 (c.first : Int)) ∧ W.cell? ⟨w.heap.size, 1, none⟩ = some (.slice cA m cc))
        (first | exact HE.out _ ((Touch.refl _ w0).drew) | exact HE.out _ (Touch.refl _ w0) | assumption | exact HE.out _ ((Touch.refl _ w0).drewN _) | exact HE.out _ (((Touch.refl _ w0).drew).drewN _) | exact HE.out _ (Touch.drewN HF4.out _))
        (first
          | (go_at_call 31; refine (KF.out _ (And.left (by assumption))).mono ?_; rintro e w3 ⟨rfl, rfl⟩)
          | (go_at_call 32; refine (KN.out _ (And.left (by assumption))).mono ?_; rintro e w3 ⟨rfl, q, rfl⟩)
          | (go_at_call 21; refine (KC.out _ (And.left (by assumption))).mono ?_; rintro e w4 ⟨hf4, rfl⟩; have k4 := HE.out _ hf4; have zz := HZ.out _ hf4; have z1 : w4.cell? ⟨w.heap.size + 1, 0, none⟩ = some (.bool false) := zz.1; have z2 : w4.frozen? ⟨w.heap.size + 1, 0, none⟩ = false := zz.2; have z1q : ∀ q, (w4.drewN q).cell? ⟨w.heap.size + 1, 0, none⟩ = some (.bool false) := fun _ => zz.1; have z2q : ∀ q, (w4.drewN q).frozen? ⟨w.heap.size + 1, 0, none⟩ = false := fun _ => zz.2; have HF4 := Lib.hid hf4; clear hf4 zz))
      all_goals
        go_wp2_with fail
        first
          | (refine bodyPost_ret (v := .bool false) (by simp [results, Tryz.results13, go_sem, World.cell?_setCell_same' w4 ⟨w.heap.size + 1, 0, none⟩ (.bool false) (by rw [z1]; rfl)]) rfl ?_; exact HEND.out _ HF4.out HNE.out)
          | (refine bodyPost_ret (v := .bool false) (by simp [results, Tryz.results13, go_sem, World.cell?_setCell_same' (w4.drewN _) ⟨w.heap.size + 1, 0, none⟩ (.bool false) (by rw [z1q]; rfl)]) rfl ?_; exact HEND.out _ (HF4.out.drewN _) HNE.out)
  · have hne : l.c ≠ c := fun e => hfe (by rw [e])
    have HNE := Lib.hid hne
    have hfb : ((l.c.first : Int) != (c.first : Int)) = true := bne_iff_ne.2 (by omega)
    obtain ⟨e1, e2, e3⟩ := HE.out w0 (Touch.refl _ _)
    have e2q : ∀ q, (w0.drewN q).cell? ⟨w.heap.size, 0, none⟩ = some (.int .i64 (c.first : Int)) := fun _ => e2
    clear hne
    go_enter Tryz.func13, Tryz.ntmps13
    go_upto_region 1 with fail
    rw [← HW0.out]
    go_quiet ((first | (go_at_call 31; exact Calls.quiet_of_same (KF.out _ (by first | exact (Touch.refl _ w0).drewN _ | exact (Touch.refl _ w0).drew | exact Touch.refl _ w0)))))
    go_upto_region 2 with fail
    generalize hw2 : World.drewN w0 _ = w2
    have hf2 : Fresh w0 w2 := by rw [← hw2]; exact (Touch.refl (fun _ => False) w0).drewN _
    obtain ⟨z1, z2⟩ := HZ.out w2 hf2
    have HF2 := Lib.hid hf2
    clear hf2 hw2
    go_wp2_with fail
    refine bodyPost_ret (v := .bool false) (by simp [results, Tryz.results13, go_sem, World.cell?_setCell_same' w2 ⟨w.heap.size + 1, 0, none⟩ (.bool false) (by rw [z1]; rfl)]) rfl ?_
    exact HEND.out w2 HF2.out HNE.out
end
end Go.Proofs.YtlcmnihpfpmajaaGreat
