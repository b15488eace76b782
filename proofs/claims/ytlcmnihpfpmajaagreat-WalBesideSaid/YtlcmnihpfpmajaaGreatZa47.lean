/- The wal claims' texts, several in one: Doa. Conditions stand with each theorem. -/
import Derived.Test.YtlcmnihpfpmajaaGreatZa43
import Derived.Test.YtlcmnihpfpmajaaGreatZa45
import Derived.Test.YtlcmnihpfpmajaaGreatZa46
/- The law's does where a record is appended. Conditions stand with it. -/
namespace Go.Proofs.YtlcmnihpfpmajaaGreat
open Go.RowKit
def DoEnd (w : World) (bp bd : Nat) (F S : Nat → Prop) (p' : PS) (n : Nat) (x : Ending) (w' : World) : Prop := x = .returned (.bool true) ∧ PG w w' bp bd F S p' n
section
variable {w w' w'' : World} {bp bd bl n : Nat} {F S R Q S' R' Q' : Nat → Prop} {p p' : PS} {l l' : Lg} {sv rv cv mv kv tv sv' rv' cv' mv' kv' tv' : Value} {vs vs' : List Value} {i T : Nat}
/-- blocks that are none of the play's are written -/
theorem PX.aside {X : Nat → Prop} (h : PX w w' bp bd F S bl S' R' Q' p' l' n sv' rv' vs' cv' mv' kv' tv') (ht : Touch X w' w'') (hx : ∀ k, X k → w.heap.size ≤ k ∧ ¬ pfoot bp bl R' Q' sv' rv' mv' kv' tv' k ∧ ¬ S' k) : PX w w'' bp bd F S bl S' R' Q' p' l' n sv' rv' vs' cv' mv' kv' tv' := by
  have hp := h.pm
  have hs := ht.size
  have d1 : ∀ k, pfoot bp bl R' Q' sv' rv' mv' kv' tv' k → ¬ X k := fun k hk hX => (hx k hX).2.1 hk
  refine ⟨⟨hp.blk.touch ht (d1 bp (.inr (.inr (.inl (.inl rfl))))), ⟨hp.ld.lm.touch ht fun k hk => d1 k (hk.elim .inl fun e => .inr (.inl e)), hp.ld.dk.touch ht fun k hk hX => (hx k hX).2.2 hk, hp.ld.dis, hp.ld.nR, fun k hk => by have := hp.ld.Rlt k hk; omega⟩, hp.alk, hp.c.touch ht fun k hk => d1 k (.inr (.inr (.inr hk))),
    hp.mb.touch ht (fun k hk => d1 k (.inr (.inr (.inl (.inr (.inl hk)))))) fun k hk => d1 k (.inr (.inr (.inr hk))), hp.ks.touch ht fun k hk => d1 k (.inr (.inr (.inl (.inr (.inr (.inl hk)))))), hp.ts.touch ht fun k hk => d1 k (.inr (.inr (.inl (.inr (.inr (.inr hk)))))), hp.ap, hp.dis, hp.nQ, fun k hk => by have := hp.Qlt k hk; omega⟩, ?_, h.sF, h.sS, h.tc.trans ht fun k hk hX => by have := (hx k hX).1; omega, h.sC⟩
  exact h.tch.trans ht fun k hk hX => by have := (hx k hX).1; omega
/-- more blocks that are only read -/
theorem PX.moreQ (h : PX w w' bp bd F S bl S' R' Q' p' l' n sv' rv' vs' cv' mv' kv' tv') (hf : Fresh w' w'') : PX w w'' bp bd F S bl S' R' (more Q' w' w'') p' l' n sv' rv' vs' cv' mv' kv' tv' := by
  have h2 := h.fresh hf
  have hp := h2.pm
  have hlt := h.pm.lt
  have hS := h.pm.ld.dk.below
  have hs := h.tch.size
  refine h2.own (Touch.refl _ _) rfl rfl hp.blk (hp.c.weak fun k => .inl) (hp.mb.weak fun k => .inl) hp.ks hp.ts hp.ap (fun k hk => .inl (.inr hk)) fun k hk => ?_
  rcases hk with hk | ⟨hk, hk2⟩
  · exact .inl hk
  · exact .inr ⟨by omega, hk2, fun e => by have := hlt k e; omega, fun e => by have := hS k e; omega⟩
set_option maxRecDepth 20000 in
theorem clipx_any (A : Option Addr) (n c : Nat) (xs : List UInt8) (w : World) (h : Bs w A n c xs) :
    Calls Tryz.prog 20 #[.slice A n c] w fun e w' => w' = w ∧ e = .returned (.slice A (min n 200) c) ∧ Bs w A (min n 200) c (xs.take (min n 200)) := by
  have hm := h.2.2.1
  have hnc := h.2.1
  unfold maxLen at hm
  have H := Lib.hid h
  clear h
  by_cases hb : 200 < n
  · have hmin : min n 200 = 200 := by omega
    rw [hmin]
    go_enter Tryz.func20, Tryz.ntmps20
    go_wp2_with fail
    go_ret
    exact ⟨rfl, rfl, H.out.take (by omega)⟩
  · have hmin : min n 200 = n := by omega
    rw [hmin]
    go_enter Tryz.func20, Tryz.ntmps20
    go_wp2_with fail
    go_ret
    exact ⟨rfl, rfl, H.out.take (Nat.le_refl _)⟩
set_option maxRecDepth 200000 in
set_option maxHeartbeats 16000000 in
theorem doesA (h : PM w bp bd bl S R Q p l n sv rv vs cv mv kv tv) (hv : PInv p i T) (hi : i ≤ 200) (hT : T ≤ 900000) (hb : p.l.base ≤ 16777216) {Do N K : Int} (hDo : Do % 7 = 0 ∨ Do % 7 = 1) {BA CA : Option Addr} {bm bc cm cc : Nat} {xs : List UInt8} (hB : Bs w BA bm bc xs)
    (hbd : ∀ a, BA = some a → 0 < bm → ¬ pfoot bp bl R Q sv rv mv kv tv a.block ∧ ¬ S a.block ∧ a.block < w.heap.size) :
    Calls Tryz.prog 12 #[.pointer (some ⟨bp, 0, none⟩), .agg #[.int .i64 Do, .int .i64 N, .int .i64 K, .slice BA bm bc, .slice CA cm cc]] w (DoEnd w bp bd (pfoot bp bl R Q sv rv mv kv tv) S (p.app (xs.take (min bm 200))) n) := by
  obtain ⟨vA, vc, rfl, _⟩ := h.c.form
  obtain ⟨w1, hw1⟩ : ∃ w1, w1 = w.alloc (.cells #[.int .i64 Do, .int .i64 N, .int .i64 K, .slice BA bm bc, .slice CA cm cc] 29) := ⟨_, rfl⟩
  have hf1 : Fresh w w1 := by rw [hw1]; exact (Touch.refl (fun _ => False) w).alloc _
  have hb0 : Blk w1 w.heap.size 29 #[.int .i64 Do, .int .i64 N, .int .i64 K, .slice BA bm bc, .slice CA cm cc] := by rw [hw1]; exact Blk.new _ _ _
  obtain ⟨F, hF⟩ : ∃ F, F = pfoot bp bl R Q sv rv mv kv tv := ⟨_, rfl⟩
  have hx1 := h.same.fresh hf1
  rw [← hF] at hx1 hbd ⊢
  obtain ⟨mm, hmm⟩ : ∃ mm, mm = min bm 200 := ⟨_, rfl⟩
  obtain ⟨x, hx⟩ : ∃ x, x = xs.take mm := ⟨_, rfl⟩
  have hxl : x.length = mm := by rw [hx, List.length_take, hB.1]; omega
  have hm2 : mm ≤ 200 := by omega
  have hmb : mm ≤ bm := by omega
  have c0 : w1.cell? ⟨w.heap.size, 0, none⟩ = some (.int .i64 Do) := hb0.cell 0
  have c3 : w1.cell? ⟨w.heap.size, 3, none⟩ = some (.slice BA bm bc) := hb0.cell 3
  have d0 : w1.cell? ⟨bp, 0, none⟩ = some (.pointer (some ⟨bd, 0, none⟩)) := hx1.pm.blk.cell 0
  have KO := Lib.hid (disk_ops hx1.pm.ld.dk)
  have KW := Lib.hid (within_any Do 7 w1 (by omega) (by omega))
  have KC := Lib.hid (show Calls Tryz.prog 20 #[.slice BA bm bc] w1 fun e w' => w' = w1 ∧ e = .returned (.slice BA mm bc) ∧ Bs w1 BA mm bc x from by
    have := clipx_any BA bm bc xs w1 (hB.fresh hf1)
    rw [← hmm, ← hx] at this
    exact this)
  have HX1 := Lib.hid hx1; have HF1 := Lib.hid hf1; have HW1 := Lib.hid hw1; have HV := Lib.hid hv; have HBD := Lib.hid hbd; have HFF := Lib.hid hF; have HXL := Lib.hid hxl; have HBLT := Lib.hid (fun k (hk : pfoot bp bl R Q sv rv mv kv tv k) => h.lt k hk)
  have hbp := h.blk.lt
  have hal := h.alk
  have HAL := Lib.hid hal
  have HCN := Lib.hid (hv.cn hi hal)
  have HBB := Lib.hid (hv.begB hi hb hal (f := l.c.first) (nx := l.c.next) (m := mm + 25) (by have := (hv.cn hi hal).2.1; unfold Ct.next at this; omega) (by have := (hv.cn hi hal).2.1; omega) (by omega))
  have HAP := Lib.hid (hv.app hi hT (b := x) (by omega))
  have HAK := Lib.hid (append_alk (d := p.d) hal x)
  rw [← hmm, ← hx]
  obtain ⟨lo, hlo⟩ : ∃ lo, lo = p.d.ops := ⟨_, rfl⟩
  rw [← hlo] at KO HAP
  obtain ⟨ee, hee⟩ : ∃ ee, ee = (appendP p.d p.l x).2.2.2 := ⟨_, rfl⟩
  obtain ⟨ix, hix⟩ : ∃ ix, ix = (appendP p.d p.l x).2.2.1 := ⟨_, rfl⟩
  rw [← hee, ← hix] at HAP
  have HEE := Lib.hid hee; have HIX := Lib.hid hix
  clear h hv hb hB hbd hf1 hb0 hF hx1 hmm hx hal hw1 hxl hlo hee hix
  rcases hDo with hr | hr
  · rw [hr] at KW
    go_enter Tryz.func12, Tryz.ntmps12
    go_upto_region 1 with fail
    rw [← HW1.out]
    go_wp2_with fail
    refine KO.out.mono ?_
    rintro e w2 ⟨rfl, rfl⟩
    go_wp2_with fail
    refine KW.out.mono ?_
    rintro e w2 ⟨rfl, rfl⟩
    go_wp2_with fail
    refine KC.out.mono ?_
    rintro e w2 ⟨rfl, rfl, hbs⟩
    have HBS := Lib.hid hbs
    have KL := Lib.hid (lend_any BA mm bc x w2 hbs (by omega))
    have hs1 := HF1.out.size
    go_wp2_with fail
    refine KL.out.mono ?_
    rintro e w3 ⟨hf3, B2, c2, rfl, hlent, hn2⟩
    have hx3 := HX1.out.fresh hf3
    have d1 : w3.cell? ⟨bp, 1, none⟩ = some (.pointer (some ⟨bl, 0, none⟩)) := hx3.pm.blk.cell 1
    have hs3 := hf3.size
    have hlow : ∀ k, pfoot bp bl R Q sv rv mv kv tv k ∨ S k → k < w2.heap.size := fun k hk => hk.elim (fun e => by have := HX1.out.pm.lt k e; exact this) fun e => HX1.out.pm.ld.dk.below k e
    have hlb : ∀ k, (Value.slice B2 mm c2).ownBlock = some k → w2.heap.size ≤ k := fun k hk => by
      cases B2 with
      | none => cases hk
      | some a => injection hk with hk; have := hn2 a rfl; omega
    have KA := Lib.hid (show Calls Tryz.prog 19 #[.pointer (some ⟨bl, 0, none⟩), .slice B2 mm c2] w3 fun e w4 => e = .returned (.tuple #[.int .i64 (ix : Int), .int .i64 ee]) ∧ ∃ S4 R4 l4 sv4 rv4 vs4, PX w w4 bp bd F S bl S4 R4 Q { p with d := (appendP p.d p.l x).1, l := (appendP p.d p.l x).2.1 } l4 n sv4 rv4 vs4 (.slice vA p.c.rows.length vc) mv kv tv ∧ Touch (fun k => lfoot bl sv rv k ∨ S k) w3 w4 ∧ ∀ k, w2.heap.size ≤ k → k < w3.heap.size → ¬ pfoot bp bl R4 Q sv4 rv4 mv kv tv k ∧ ¬ S4 k from by
      refine (lappend_any (xs := x) (m := mm) (K := 200000000) hx3.pm.ld hlent.bs (fun a ha h0 => ⟨fun e => ?_, fun e => ?_, ?_⟩) HBB.out (by have := HCN.out.2.2.1; omega) (by omega)).mono ?_
      · have h1 := hn2 a ha; have h2 := hlow _ (.inl (.inl e)); omega
      · have h1 := hn2 a ha; have h2 := hlow _ (.inr e); omega
      · obtain ⟨b, o, e, hc⟩ := hlent.bs.2.2.2 h0
        rw [ha] at e
        injection e with e
        have h3 := hc 0 _ (List.getElem?_eq_getElem (by rw [HXL.out]; exact h0))
        rw [e]
        exact World.block_lt_of_cell? _ _ h3
      · rintro e w4 ⟨rfl, S4, R4, sv4, rv4, vs4, hlx⟩
        obtain ⟨a1, a2, a3⟩ := HAK.out
        rw [a1] at hlx
        have e1 := hlx.sF
        have e2 := hlx.sR
        have e3 := hlx.sS
        refine ⟨by rw [a3, ← HIX.out, ← HEE.out], S4, R4, _, sv4, rv4, vs4, hx3.log hlx a2, hlx.tch, fun k h1 h2 => ⟨fun e => ?_, fun e => ?_⟩⟩
        · rcases e with e | e | e
          · rcases e1 k e with e | e
            · have := hlow k (.inl (.inl e)); omega
            · omega
          · rcases e2 k e with e | e
            · have := hlow k (.inl (.inr (.inl e))); omega
            · omega
          · have := hlow k (.inl (.inr (.inr e))); omega
        · rcases e3 k e with e | e
          · have := hlow k (.inr e); omega
          · omega)
    have HL3 := Lib.hid hlent; have HLB := Lib.hid hlb; have HLOW := Lib.hid hlow
    have HLT3 := Lib.hid (show ∀ k, (Value.slice B2 (mm + 4) c2).ownBlock = some k → w2.heap.size ≤ k ∧ k < w3.heap.size from fun k hk => ⟨hlb k (by cases B2 <;> exact hk), hlent.2.lt k hk⟩)
    have HB3 := Lib.hid (HBS.out.fresh hf3)
    clear hf3 hx3 hlent hlow hlb hn2 KL
    go_wp2_with fail
    refine KA.out.mono ?_
    rintro e w4 ⟨rfl, S4, R4, l4, sv4, rv4, vs4, hx4, ht4, hnw⟩
    have e3 : w4.cell? ⟨bp, 3, none⟩ = some (.int .i64 (p.c.first : Int)) := hx4.pm.blk.cell 3
    have e4 : w4.cell? ⟨bp, 4, none⟩ = some (.slice vA p.c.rows.length vc) := hx4.pm.blk.cell 4
    have hpn := HV.out.next
    unfold Ct.next at hpn
    have KN := Lib.hid (cnext_any (first := p.c.first) (n := p.c.rows.length) (c := vc) (A := vA) w4 (by omega))
    have hl4 : Lent w4 B2 mm c2 x := ⟨HL3.out.1, HL3.out.2.touch ht4 fun k hk e => by
      have h1 := (HLT3.out k hk).1
      rcases e with e | e
      · have := HLOW.out k (.inl (.inl e)); omega
      · have := HLOW.out k (.inr e); omega⟩
    have hb4 : Bs w4 BA mm bc x := HB3.out.touch ht4 fun a ha h0 e => by
      obtain ⟨q1, q2, _⟩ := HBD.out a ha (by omega)
      rw [HFF.out] at q1
      exact e.elim (fun e => q1 (.inl e)) q2
    have HX4 := Lib.hid hx4; have HNW := Lib.hid hnw; have HL4 := Lib.hid hl4; have HB4 := Lib.hid hb4
    clear hx4 ht4 hnw hl4 hb4 KA d0 d1 c0 c3
    go_wp2_with fail
    refine KN.out.mono ?_
    rintro e w5 ⟨hf5, rfl⟩
    have KI := Lib.hid (intact_any BA B2 mm bc c2 x w5 (HB4.out.fresh hf5) ⟨HL4.out.1, HL4.out.2.touch hf5 fun _ _ => id⟩ (by omega))
    have HX5 := Lib.hid (HX4.out.fresh hf5); have HB5 := Lib.hid (HB4.out.fresh hf5)
    clear hf5 KN
    go_wp2_with fail
    refine KI.out.mono ?_
    rintro e w6 ⟨rfl, ht6⟩
    have hx6 := HX5.out.aside ht6 fun k hk => by
      have h1 := HLT3.out k (by cases B2 <;> exact hk)
      have h2 := HNW.out k h1.1 h1.2
      exact ⟨by omega, h2.1, h2.2⟩
    have hb6 : Bs w6 BA mm bc x := HB5.out.touch ht6 fun a ha h0 e => by
      have h1 := (HLT3.out a.block (by cases B2 <;> exact e)).1
      have h2 := (HBD.out a ha (by omega)).2.2
      omega
    have e3 : w6.cell? ⟨bp, 3, none⟩ = some (.int .i64 (p.c.first : Int)) := hx6.pm.blk.cell 3
    have e4 : w6.cell? ⟨bp, 4, none⟩ = some (.slice vA p.c.rows.length vc) := hx6.pm.blk.cell 4
    have KWI := Lib.hid (cwith_any (first := p.c.first) hx6.pm.c hx6.pm.Qlt (by dsimp only; omega) hb6 (by omega))
    have HX6 := Lib.hid hx6
    clear hx6 hb6 ht6 KI
    have HPN := Lib.hid (show (p.c.next : Int) = (p.c.first : Int) + (p.c.rows.length : Int) from by unfold Ct.next; omega)
    have hres : ∀ w7 nA nl nc, Fresh w6 w7 → CM w7 (more Q w6 w7) (.slice nA nl nc) (p.c.rows ++ [x]) → Calls Tryz.prog 30 #[.pointer (some ⟨bp, 0, none⟩), .agg #[.int .i64 (p.c.first : Int), .slice nA nl nc], .int .i64 ee, .int .i64 (lo : Int)] w7 (DoEnd w bp bd F S (p.app x) n) := by
      intro w7 nA nl nc hf7 hcm
      have hx7 := HX6.out.moreQ hf7
      have hl := HV.out.lens
      refine (calls_any hx7.pm (by dsimp only; omega) (by dsimp only; omega) (by dsimp only; omega) (next := p.c.add x) hcm ee lo).mono ?_
      rintro e w8 ⟨rfl, cv8, mv8, kv8, hx8⟩
      have hfin := hx7.trans hx8 (fun _ => id) (fun _ => id)
      have hbt := HAP.out.2.1
      refine ⟨by rw [hbt], ?_⟩
      have hapq : p.app x = ({ p with d := (appendP p.d p.l x).1, l := (appendP p.d p.l x).2.1 } : PS).called (p.c.add x) ee := by rw [HEE.out]; rfl
      rw [hapq]
      exact hfin.pg
    have HRES := Lib.hid hres
    clear hres
    by_cases he : ee = 0
    · have hixe : ((ix : Int) != (p.c.first : Int) + (p.c.rows.length : Int)) = false := by rw [HAP.out.2.2.2.1 he, HPN.out]; simp
      subst he
      go_wp2_with fail
      refine KWI.out.mono ?_
      rintro e w7 ⟨hf7, nv, rfl, hcm⟩
      obtain ⟨nA, nl, nc, rfl⟩ : ∃ nA nl nc, nv = Value.slice nA nl nc := by
        obtain ⟨a, b, e, _⟩ := hcm.form
        exact ⟨_, _, _, e⟩
      have KF := Lib.hid (HRES.out w7 nA nl nc hf7 hcm)
      clear hf7 hcm KWI
      go_wp2_with fail
      refine KF.out.mono ?_
      rintro e w8 ⟨rfl, hpg⟩
      have HPG := Lib.hid hpg
      clear hpg KF
      go_wp2_with fail
      go_ret
      exact ⟨rfl, HPG.out⟩
    · have hix0 : ix = 0 := HAP.out.2.2.2.2.1 he
      have HIX0 := Lib.hid hix0
      subst hix0
      have heb : (ee == 0) = false := by simpa using he
      have hen : (ee != 0) = true := by simpa using he
      clear HIX0
      go_wp2_with fail
      refine KWI.out.mono ?_
      rintro e w7 ⟨hf7, nv, rfl, hcm⟩
      obtain ⟨nA, nl, nc, rfl⟩ : ∃ nA nl nc, nv = Value.slice nA nl nc := by
        obtain ⟨a, b, e, _⟩ := hcm.form
        exact ⟨_, _, _, e⟩
      have KF := Lib.hid (HRES.out w7 nA nl nc hf7 hcm)
      clear hf7 hcm KWI
      go_wp2_with fail
      refine KF.out.mono ?_
      rintro e w8 ⟨rfl, hpg⟩
      have HPG := Lib.hid hpg
      clear hpg KF
      go_wp2_with fail
      go_ret
      exact ⟨rfl, HPG.out⟩
  · rw [hr] at KW
    go_enter Tryz.func12, Tryz.ntmps12
    go_upto_region 1 with fail
    rw [← HW1.out]
    go_wp2_with fail
    refine KO.out.mono ?_
    rintro e w2 ⟨rfl, rfl⟩
    go_wp2_with fail
    refine KW.out.mono ?_
    rintro e w2 ⟨rfl, rfl⟩
    go_wp2_with fail
    refine KC.out.mono ?_
    rintro e w2 ⟨rfl, rfl, hbs⟩
    have HBS := Lib.hid hbs
    have KL := Lib.hid (lend_any BA mm bc x w2 hbs (by omega))
    have hs1 := HF1.out.size
    go_wp2_with fail
    refine KL.out.mono ?_
    rintro e w3 ⟨hf3, B2, c2, rfl, hlent, hn2⟩
    have hx3 := HX1.out.fresh hf3
    have d1 : w3.cell? ⟨bp, 1, none⟩ = some (.pointer (some ⟨bl, 0, none⟩)) := hx3.pm.blk.cell 1
    have hs3 := hf3.size
    have hlow : ∀ k, pfoot bp bl R Q sv rv mv kv tv k ∨ S k → k < w2.heap.size := fun k hk => hk.elim (fun e => by have := HX1.out.pm.lt k e; exact this) fun e => HX1.out.pm.ld.dk.below k e
    have hlb : ∀ k, (Value.slice B2 mm c2).ownBlock = some k → w2.heap.size ≤ k := fun k hk => by
      cases B2 with
      | none => cases hk
      | some a => injection hk with hk; have := hn2 a rfl; omega
    have KA := Lib.hid (show Calls Tryz.prog 19 #[.pointer (some ⟨bl, 0, none⟩), .slice B2 mm c2] w3 fun e w4 => e = .returned (.tuple #[.int .i64 (ix : Int), .int .i64 ee]) ∧ ∃ S4 R4 l4 sv4 rv4 vs4, PX w w4 bp bd F S bl S4 R4 Q { p with d := (appendP p.d p.l x).1, l := (appendP p.d p.l x).2.1 } l4 n sv4 rv4 vs4 (.slice vA p.c.rows.length vc) mv kv tv ∧ Touch (fun k => lfoot bl sv rv k ∨ S k) w3 w4 ∧ ∀ k, w2.heap.size ≤ k → k < w3.heap.size → ¬ pfoot bp bl R4 Q sv4 rv4 mv kv tv k ∧ ¬ S4 k from by
      refine (lappend_any (xs := x) (m := mm) (K := 200000000) hx3.pm.ld hlent.bs (fun a ha h0 => ⟨fun e => ?_, fun e => ?_, ?_⟩) HBB.out (by have := HCN.out.2.2.1; omega) (by omega)).mono ?_
      · have h1 := hn2 a ha; have h2 := hlow _ (.inl (.inl e)); omega
      · have h1 := hn2 a ha; have h2 := hlow _ (.inr e); omega
      · obtain ⟨b, o, e, hc⟩ := hlent.bs.2.2.2 h0
        rw [ha] at e
        injection e with e
        have h3 := hc 0 _ (List.getElem?_eq_getElem (by rw [HXL.out]; exact h0))
        rw [e]
        exact World.block_lt_of_cell? _ _ h3
      · rintro e w4 ⟨rfl, S4, R4, sv4, rv4, vs4, hlx⟩
        obtain ⟨a1, a2, a3⟩ := HAK.out
        rw [a1] at hlx
        have e1 := hlx.sF
        have e2 := hlx.sR
        have e3 := hlx.sS
        refine ⟨by rw [a3, ← HIX.out, ← HEE.out], S4, R4, _, sv4, rv4, vs4, hx3.log hlx a2, hlx.tch, fun k h1 h2 => ⟨fun e => ?_, fun e => ?_⟩⟩
        · rcases e with e | e | e
          · rcases e1 k e with e | e
            · have := hlow k (.inl (.inl e)); omega
            · omega
          · rcases e2 k e with e | e
            · have := hlow k (.inl (.inr (.inl e))); omega
            · omega
          · have := hlow k (.inl (.inr (.inr e))); omega
        · rcases e3 k e with e | e
          · have := hlow k (.inr e); omega
          · omega)
    have HL3 := Lib.hid hlent; have HLB := Lib.hid hlb; have HLOW := Lib.hid hlow
    have HLT3 := Lib.hid (show ∀ k, (Value.slice B2 (mm + 4) c2).ownBlock = some k → w2.heap.size ≤ k ∧ k < w3.heap.size from fun k hk => ⟨hlb k (by cases B2 <;> exact hk), hlent.2.lt k hk⟩)
    have HB3 := Lib.hid (HBS.out.fresh hf3)
    clear hf3 hx3 hlent hlow hlb hn2 KL
    go_wp2_with fail
    refine KA.out.mono ?_
    rintro e w4 ⟨rfl, S4, R4, l4, sv4, rv4, vs4, hx4, ht4, hnw⟩
    have e3 : w4.cell? ⟨bp, 3, none⟩ = some (.int .i64 (p.c.first : Int)) := hx4.pm.blk.cell 3
    have e4 : w4.cell? ⟨bp, 4, none⟩ = some (.slice vA p.c.rows.length vc) := hx4.pm.blk.cell 4
    have hpn := HV.out.next
    unfold Ct.next at hpn
    have KN := Lib.hid (cnext_any (first := p.c.first) (n := p.c.rows.length) (c := vc) (A := vA) w4 (by omega))
    have hl4 : Lent w4 B2 mm c2 x := ⟨HL3.out.1, HL3.out.2.touch ht4 fun k hk e => by
      have h1 := (HLT3.out k hk).1
      rcases e with e | e
      · have := HLOW.out k (.inl (.inl e)); omega
      · have := HLOW.out k (.inr e); omega⟩
    have hb4 : Bs w4 BA mm bc x := HB3.out.touch ht4 fun a ha h0 e => by
      obtain ⟨q1, q2, _⟩ := HBD.out a ha (by omega)
      rw [HFF.out] at q1
      exact e.elim (fun e => q1 (.inl e)) q2
    have HX4 := Lib.hid hx4; have HNW := Lib.hid hnw; have HL4 := Lib.hid hl4; have HB4 := Lib.hid hb4
    clear hx4 ht4 hnw hl4 hb4 KA d0 d1 c0 c3
    go_wp2_with fail
    refine KN.out.mono ?_
    rintro e w5 ⟨hf5, rfl⟩
    have KI := Lib.hid (intact_any BA B2 mm bc c2 x w5 (HB4.out.fresh hf5) ⟨HL4.out.1, HL4.out.2.touch hf5 fun _ _ => id⟩ (by omega))
    have HX5 := Lib.hid (HX4.out.fresh hf5); have HB5 := Lib.hid (HB4.out.fresh hf5)
    clear hf5 KN
    go_wp2_with fail
    refine KI.out.mono ?_
    rintro e w6 ⟨rfl, ht6⟩
    have hx6 := HX5.out.aside ht6 fun k hk => by
      have h1 := HLT3.out k (by cases B2 <;> exact hk)
      have h2 := HNW.out k h1.1 h1.2
      exact ⟨by omega, h2.1, h2.2⟩
    have hb6 : Bs w6 BA mm bc x := HB5.out.touch ht6 fun a ha h0 e => by
      have h1 := (HLT3.out a.block (by cases B2 <;> exact e)).1
      have h2 := (HBD.out a ha (by omega)).2.2
      omega
    have e3 : w6.cell? ⟨bp, 3, none⟩ = some (.int .i64 (p.c.first : Int)) := hx6.pm.blk.cell 3
    have e4 : w6.cell? ⟨bp, 4, none⟩ = some (.slice vA p.c.rows.length vc) := hx6.pm.blk.cell 4
    have KWI := Lib.hid (cwith_any (first := p.c.first) hx6.pm.c hx6.pm.Qlt (by dsimp only; omega) hb6 (by omega))
    have HX6 := Lib.hid hx6
    clear hx6 hb6 ht6 KI
    have HPN := Lib.hid (show (p.c.next : Int) = (p.c.first : Int) + (p.c.rows.length : Int) from by unfold Ct.next; omega)
    have hres : ∀ w7 nA nl nc, Fresh w6 w7 → CM w7 (more Q w6 w7) (.slice nA nl nc) (p.c.rows ++ [x]) → Calls Tryz.prog 30 #[.pointer (some ⟨bp, 0, none⟩), .agg #[.int .i64 (p.c.first : Int), .slice nA nl nc], .int .i64 ee, .int .i64 (lo : Int)] w7 (DoEnd w bp bd F S (p.app x) n) := by
      intro w7 nA nl nc hf7 hcm
      have hx7 := HX6.out.moreQ hf7
      have hl := HV.out.lens
      refine (calls_any hx7.pm (by dsimp only; omega) (by dsimp only; omega) (by dsimp only; omega) (next := p.c.add x) hcm ee lo).mono ?_
      rintro e w8 ⟨rfl, cv8, mv8, kv8, hx8⟩
      have hfin := hx7.trans hx8 (fun _ => id) (fun _ => id)
      have hbt := HAP.out.2.1
      refine ⟨by rw [hbt], ?_⟩
      have hapq : p.app x = ({ p with d := (appendP p.d p.l x).1, l := (appendP p.d p.l x).2.1 } : PS).called (p.c.add x) ee := by rw [HEE.out]; rfl
      rw [hapq]
      exact hfin.pg
    have HRES := Lib.hid hres
    clear hres
    by_cases he : ee = 0
    · have hixe : ((ix : Int) != (p.c.first : Int) + (p.c.rows.length : Int)) = false := by rw [HAP.out.2.2.2.1 he, HPN.out]; simp
      subst he
      go_wp2_with fail
      refine KWI.out.mono ?_
      rintro e w7 ⟨hf7, nv, rfl, hcm⟩
      obtain ⟨nA, nl, nc, rfl⟩ : ∃ nA nl nc, nv = Value.slice nA nl nc := by
        obtain ⟨a, b, e, _⟩ := hcm.form
        exact ⟨_, _, _, e⟩
      have KF := Lib.hid (HRES.out w7 nA nl nc hf7 hcm)
      clear hf7 hcm KWI
      go_wp2_with fail
      refine KF.out.mono ?_
      rintro e w8 ⟨rfl, hpg⟩
      have HPG := Lib.hid hpg
      clear hpg KF
      go_wp2_with fail
      go_ret
      exact ⟨rfl, HPG.out⟩
    · have hix0 : ix = 0 := HAP.out.2.2.2.2.1 he
      have HIX0 := Lib.hid hix0
      subst hix0
      have heb : (ee == 0) = false := by simpa using he
      have hen : (ee != 0) = true := by simpa using he
      clear HIX0
      go_wp2_with fail
      refine KWI.out.mono ?_
      rintro e w7 ⟨hf7, nv, rfl, hcm⟩
      obtain ⟨nA, nl, nc, rfl⟩ : ∃ nA nl nc, nv = Value.slice nA nl nc := by
        obtain ⟨a, b, e, _⟩ := hcm.form
        exact ⟨_, _, _, e⟩
      have KF := Lib.hid (HRES.out w7 nA nl nc hf7 hcm)
      clear hf7 hcm KWI
      go_wp2_with fail
      refine KF.out.mono ?_
      rintro e w8 ⟨rfl, hpg⟩
      have HPG := Lib.hid hpg
      clear hpg KF
      go_wp2_with fail
      go_ret
      exact ⟨rfl, HPG.out⟩
end
end Go.Proofs.YtlcmnihpfpmajaaGreat
