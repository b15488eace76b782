/- The wal claims' texts, several in one: Opd. Conditions stand with each theorem. -/
import Derived.Test.YtlcmnihpfpmajaaGreatZa43
import Derived.Test.YtlcmnihpfpmajaaGreatZa44
import Derived.Deep.CutBlock
/- The law's opened: the log is opened anew, and told. Conditions stand with it. -/
namespace Go.Proofs.YtlcmnihpfpmajaaGreat
open Go.RowKit
/-- the play beside a log that was opened anew -/
structure OSt (w W : World) (bp bd bl bl2 : Nat) (F S R Q R2 : Nat → Prop) (p : PS) (l lo : Lg) (n : Nat) (sv rv : Value) (vs : List Value) (sv2 rv2 : Value) (vs2 : List Value) (cv mv kv tv : Value) : Prop where
  px : PX w W bp bd F S bl S R Q p l n sv rv vs cv mv kv tv
  ld : LD W bl2 bd S R2 lo p.d sv2 rv2 vs2
  new : ∀ k, lfoot bl2 sv2 rv2 k ∨ R2 k → w.heap.size ≤ k
section
variable {w W W' : World} {bp bd bl bl2 n : Nat} {F S R Q R2 : Nat → Prop} {p : PS} {l lo : Lg} {sv rv cv mv kv tv sv2 rv2 : Value} {vs vs2 : List Value}
theorem OSt.fresh (h : OSt w W bp bd bl bl2 F S R Q R2 p l lo n sv rv vs sv2 rv2 vs2 cv mv kv tv) (hf : Fresh W W') : OSt w W' bp bd bl bl2 F S R Q R2 p l lo n sv rv vs sv2 rv2 vs2 cv mv kv tv :=
  ⟨h.px.fresh hf, h.ld.fresh hf, h.new⟩
/-- the content is stored -/
theorem OSt.setc (h : OSt w W bp bd bl bl2 F S R Q R2 p l lo n sv rv vs sv2 rv2 vs2 cv mv kv tv) (hlt : bp < w.heap.size) {_Q2 : Nat → Prop} {c2 : Ct} {v2 : Value} (hc : CM W Q v2 c2.rows) :
    OSt w ((W.setCell ⟨bp, 3, none⟩ (.int .i64 (c2.first : Int))).setCell ⟨bp, 4, none⟩ v2) bp bd bl bl2 F S R Q R2 { p with c := c2 } l lo n sv rv vs sv2 rv2 vs2 v2 mv kv tv := by
  have hp := h.px.pm
  obtain ⟨w4, hw4⟩ : ∃ w4, w4 = (W.setCell ⟨bp, 3, none⟩ (.int .i64 (c2.first : Int))).setCell ⟨bp, 4, none⟩ v2 := ⟨_, rfl⟩
  have hT : Touch (fun k => k = bp) W w4 := by
    rw [hw4]
    exact ((Touch.refl (fun k => k = bp) W).setCell (p := ⟨bp, 3, none⟩) (.inr rfl) _).setCell (p := ⟨bp, 4, none⟩) (.inr rfl) _
  rw [← hw4]
  have hnb : ∀ k, lfoot bl2 sv2 rv2 k ∨ R2 k → k ≠ bp := fun k hk e => by have := h.new k hk; omega
  refine ⟨h.px.own (hT.mono fun k _ hk => .inl hk) rfl rfl ?_ (hc.touch hT fun k hk e => hp.nQ k hk (.inl e)) (hp.mb.touch hT (fun k hk e => ?_) fun k hk e => hp.nQ k hk (.inl e)) (hp.ks.touch hT fun k hk e => hp.ks.ne_blk hp.blk (by decide) (by rw [hk, e])) (hp.ts.touch hT fun k hk e => hp.ts.ne_blk hp.blk (by decide) (by rw [hk, e])) hp.ap (fun k hk => .inl (.inr hk)) fun k hk => .inl hk, ⟨h.ld.lm.touch hT hnb, h.ld.dk.touch hT fun k hk e => (hp.dis bp (.inl (.inl rfl))).2.2 (e ▸ hk), h.ld.dis, h.ld.nR, fun k hk => Nat.lt_of_lt_of_le (h.ld.Rlt k hk) hT.size⟩, h.new⟩
  · rw [hw4]
    have := (hp.blk.set_ 3 (.int .i64 (c2.first : Int))).set_ 4 v2
    simpa using this
  · obtain ⟨vl, _, hmo, _⟩ := hp.mb
    exact hmo.ne_blk hp.blk (by decide) (by rw [hk, e])
theorem opened_st (h : PM w bp bd bl S R Q p l n sv rv vs cv mv kv tv) {base : Nat} {W W' : World} {e : Ending} (hf : Fresh w W) (ho : OpenEnd W bd S p.d base e W') :
    ∃ bl2 R2 sv2 rv2 vs2, e = .returned (.tuple #[.pointer (some ⟨bl2, 0, none⟩), .int .i64 0]) ∧ OSt w W' bp bd bl bl2 (pfoot bp bl R Q sv rv mv kv tv) S R Q R2 p l (openP p.d.fs base) n sv rv vs sv2 rv2 vs2 cv mv kv tv := by
  obtain ⟨ht, bl2, R2, sv2, rv2, vs2, rfl, hld, hnew⟩ := ho
  have hs := hf.size
  have h1 := h.same.fresh hf
  have hl := h1.pm.ld
  refine ⟨bl2, R2, sv2, rv2, vs2, rfl, ?_, hld, fun k hk => by have := hnew k hk; omega⟩
  have hx : LX W W' bl bd S R sv rv l p.d S R sv rv vs := ⟨⟨hl.lm.touch ht hl.dis, hld.dk, hl.dis, hl.nR, fun k hk => Nat.lt_of_lt_of_le (hl.Rlt k hk) ht.size⟩, ht.mono fun k _ hk => .inr hk, fun _ => .inl, fun _ => .inl, fun _ => .inl⟩
  exact h1.log hx h1.pm.alk
def OpdEnd (w : World) (bp bd bl : Nat) (S R Q : Nat → Prop) (p : PS) (n : Nat) (sv rv mv kv tv : Value) (x : Ending) (w' : World) : Prop :=
  x = .returned (.bool true) ∧ ∃ bl2 R2 cv' sv2 rv2 vs2, PX w w' bp bd (pfoot bp bl R Q sv rv mv kv tv) S bl2 S R2 Q { p with c := (openP p.d.fs (n * 1048576)).c, l := openP p.d.fs (n * 1048576), maybe := [], cuts := [] } (openP p.d.fs (n * 1048576)) n sv2 rv2 vs2 cv' (.slice none 0 0) (.slice none 0 0) tv
theorem OSt.end_ {c1 : Ct} (h : OSt w W bp bd bl bl2 F S R Q R2 { p with c := c1 } l lo n sv rv vs sv2 rv2 vs2 cv mv kv tv) (hc : c1 = lo.c) (hlt : ∀ k, F k → k < w.heap.size) (hpw : ∀ k, pown bp mv kv tv k ∨ Q k → F k) :
    PX w (((W.setCell ⟨bp, 1, none⟩ (.pointer (some ⟨bl2, 0, none⟩))).setCell ⟨bp, 5, none⟩ (.slice none 0 0)).setCell ⟨bp, 6, none⟩ (.slice none 0 0)) bp bd F S bl2 S R2 Q { p with c := lo.c, l := lo, maybe := [], cuts := [] } lo n sv2 rv2 vs2 cv (.slice none 0 0) (.slice none 0 0) tv := by
  subst hc
  have hp := h.px.pm
  have hw : Touch (fun k => k = bp) W (((W.setCell ⟨bp, 1, none⟩ (.pointer (some ⟨bl2, 0, none⟩))).setCell ⟨bp, 5, none⟩ (.slice none 0 0)).setCell ⟨bp, 6, none⟩ (.slice none 0 0)) :=
    (((Touch.refl (fun k => k = bp) W).setCell (p := ⟨bp, 1, none⟩) (.inr rfl) _).setCell (p := ⟨bp, 5, none⟩) (.inr rfl) _).setCell (p := ⟨bp, 6, none⟩) (.inr rfl) _
  refine h.px.swap hw h.ld (fun k hk => ⟨h.new k hk, fun e => ?_, fun e => ?_⟩) (Alk.refl lo) ?_
  · have := h.new k hk; have := hlt k (hpw k (.inl e)); omega
  · have := h.new k hk; have := hlt k (hpw k (.inr e)); omega
  · have := ((hp.blk.set_ 1 (.pointer (some ⟨bl2, 0, none⟩))).set_ 5 (.slice none 0 0)).set_ 6 (.slice none 0 0)
    simpa using this
set_option maxRecDepth 200000 in
set_option maxHeartbeats 16000000 in
theorem opened_any (h : PM w bp bd bl S R Q p l n sv rv vs cv mv kv tv) (_hn : n < 16) {cr : Bool} (hlo : lo = openP p.d.fs (n * 1048576))
    (hop : ∀ W, Fresh w W → Calls Tryz.prog 25 #[.pointer (some ⟨bd, 0, none⟩), .int .i64 (n : Int)] W (OpenEnd W bd S p.d (n * 1048576)))
    (hal : lo.c = p.c ∨ (cr = true ∧ Al p lo.c)) (hfl : lo.failed = false) (hnx : lo.c.next ≤ 1000000) (hrl : ∀ b ∈ lo.c.rows, b.length ≤ 100000000) (hpn : p.c.next ≤ 1000000) (hmn : ∀ x ∈ p.maybe, x.next ≤ 1000000) (hcn : ∀ m ∈ p.cuts, p.c.first < m ∧ m ≤ p.c.next)
    (hml : p.maybe.length ≤ 1000000) (hkl : p.cuts.length ≤ 1000000) :
    Calls Tryz.prog 15 #[.pointer (some ⟨bp, 0, none⟩), .bool cr] w (OpdEnd w bp bd bl S R Q p n sv rv mv kv tv) := by
  have b0 : w.cell? ⟨bp, 0, none⟩ = some (.pointer (some ⟨bd, 0, none⟩)) := h.blk.cell 0
  have b2 : w.cell? ⟨bp, 2, none⟩ = some (.int .i64 (n : Int)) := h.blk.cell 2
  obtain ⟨F, hF⟩ : ∃ F, F = pfoot bp bl R Q sv rv mv kv tv := ⟨_, rfl⟩
  have KO := Lib.hid (show ∀ W, Fresh w W → Calls Tryz.prog 25 #[.pointer (some ⟨bd, 0, none⟩), .int .i64 (n : Int)] W fun e w' => ∃ bl2 R2 sv2 rv2 vs2, e = .returned (.tuple #[.pointer (some ⟨bl2, 0, none⟩), .int .i64 0]) ∧ OSt w w' bp bd bl bl2 F S R Q R2 p l lo n sv rv vs sv2 rv2 vs2 cv mv kv tv from fun W hW => (hop W hW).mono fun e w' ho => by
    obtain ⟨bl2, R2, sv2, rv2, vs2, rfl, h1⟩ := opened_st h hW ho
    rw [← hlo, ← hF] at h1
    exact ⟨bl2, R2, sv2, rv2, vs2, rfl, h1⟩)
  have HFL := Lib.hid (show ∀ k, F k → k < w.heap.size from fun k hk => by rw [hF] at hk; exact h.lt k hk)
  have HPW := Lib.hid (show ∀ k, pown bp mv kv tv k ∨ Q k → F k from fun k hk => by rw [hF]; exact hk.elim (fun e => .inr (.inr (.inl e))) fun e => .inr (.inr (.inr e)))
  have hbp := h.blk.lt
  have H := Lib.hid h; have HLO := Lib.hid hlo; have HAL := Lib.hid hal; have HMN := Lib.hid hmn; have HCN := Lib.hid hcn; have HRL := Lib.hid hrl; have HFF := Lib.hid hF; have HFA := Lib.hid hfl
  have HS := Lib.hid (show ∀ W, Fresh w W → Fresh w W ∧ W.cell? ⟨bp, 0, none⟩ = some (.pointer (some ⟨bd, 0, none⟩)) ∧ W.cell? ⟨bp, 2, none⟩ = some (.int .i64 (n : Int)) from fun W hW => ⟨hW, hW.cell b0 id, hW.cell b2 id⟩)
  have HEND := Lib.hid (show ∀ W bl2 R2 sv2 rv2 vs2 cv1 c1, c1 = lo.c → OSt w W bp bd bl bl2 F S R Q R2 { p with c := c1 } l lo n sv rv vs sv2 rv2 vs2 cv1 mv kv tv → OpdEnd w bp bd bl S R Q p n sv rv mv kv tv (.returned (.bool true)) (((W.setCell ⟨bp, 1, none⟩ (.pointer (some ⟨bl2, 0, none⟩))).setCell ⟨bp, 5, none⟩ (.slice none 0 0)).setCell ⟨bp, 6, none⟩ (.slice none 0 0)) from fun W bl2 R2 sv2 rv2 vs2 cv1 c1 hc1 ho => by
    have h1 := ho.end_ hc1 HFL.out HPW.out
    rw [hF, hlo] at h1
    exact ⟨rfl, bl2, R2, cv1, sv2, rv2, vs2, h1⟩)
  clear h hlo hop hal hfl hrl hmn hcn hF
  go_enter Tryz.func15, Tryz.ntmps15
  go_upto_region 1 with fail
  go_region_held3 (fun W => W.cell? ⟨bp, 0, none⟩ = some (.pointer (some ⟨bd, 0, none⟩)) ∧ W.cell? ⟨bp, 2, none⟩ = some (.int .i64 (n : Int)))
    (first | exact ⟨b0, b2⟩ | exact ⟨y0, y2⟩ | assumption)
    (first
      | (go_at_call 25; refine (KO.out _ (by first | exact (Touch.refl _ w).drew | exact Touch.refl _ w)).mono ?_; rintro e w1 ⟨bl2, R2, sv2, rv2, vs2, rfl, hst⟩; have y0 : w1.cell? ⟨bp, 0, none⟩ = some (.pointer (some ⟨bd, 0, none⟩)) := hst.px.pm.blk.cell 0; have y2 : w1.cell? ⟨bp, 2, none⟩ = some (.int .i64 (n : Int)) := hst.px.pm.blk.cell 2; have HST := Lib.hid hst; clear hst))
  have KFA := Lib.hid (failed_any HST.out.ld.lm)
  rw [HFA.out] at KFA
  obtain ⟨cA, cc, hcv, _, _, _⟩ := HST.out.px.pm.c.form
  have HCV := Lib.hid hcv
  have y3 : w1.cell? ⟨bp, 3, none⟩ = some (.int .i64 (p.c.first : Int)) := HST.out.px.pm.blk.cell 3
  have y4 : w1.cell? ⟨bp, 4, none⟩ = some (.slice cA p.c.rows.length cc) := by rw [← hcv]; exact HST.out.px.pm.blk.cell 4
  have KT := Lib.hid (show Calls Tryz.prog 13 #[.pointer (some ⟨bl2, 0, none⟩), .agg #[.int .i64 (p.c.first : Int), .slice cA p.c.rows.length cc]] w1 fun e w' => Fresh w1 w' ∧ e = .returned (.bool (telB lo.c p.c)) from by
    rw [← hcv]
    exact tells_any HST.out.ld.lm (by omega) HRL.out HST.out.ld.Rlt HST.out.px.pm.c HST.out.px.pm.Qlt (by omega))
  clear hcv b0 b2
  go_wp2_with fail
  refine KFA.out.mono ?_
  rintro e w2 ⟨rfl, rfl⟩
  go_wp2_with fail
  refine KT.out.mono ?_
  rintro e w2 ⟨hf2, rfl⟩
  have hst2 := HST.out.fresh hf2
  obtain ⟨ok0, hok0⟩ : ∃ ok0, ok0 = telB lo.c p.c := ⟨_, rfl⟩
  rw [← hok0]
  obtain ⟨vl, hvl, hmo, hvc⟩ := hst2.px.pm.mb
  obtain ⟨mA, mc, hmv, _, _, hmA⟩ := hmo.form
  obtain ⟨kA, kc, hkv, _, _, hkA⟩ := hst2.px.pm.ks.form
  have HST2 := Lib.hid hst2; have HOK := Lib.hid hok0; have HMV := Lib.hid hmv; have HKV := Lib.hid hkv
  clear hf2 hst2 hok0 y0 y2 y3 y4 KO KT KFA HS hvl hmo hvc hmv hkv
  go_upto_block 0 with fail
  obtain ⟨L, hL⟩ : ∃ L, L = p.maybe.length := ⟨_, rfl⟩
  have HL := Lib.hid hL
  rw [← hL] at HMV hmA hml
  clear hL
  go_cut [7] from 8 to 73 (fun okv W => ∃ (okb : Bool) (c1 : Ct) (cv1 : Value), okv = .bool okb ∧ OSt w W bp bd bl bl2 F S R Q R2 { p with c := c1 } l lo n sv rv vs sv2 rv2 vs2 cv1 mv kv tv ∧ ((okb = true ∧ c1 = lo.c) ∨ (okb = false ∧ c1 = p.c ∧ cr = true ∧ ∃ m0 ∈ p.cuts, lo.c = p.c.cut m0)))
  case first =>
    go_wp2_with fail
    go_loopw [7, 8] (fun okv i W => ∃ (k : Nat) (okb : Bool) (c1 : Ct) (cv1 : Value), k ≤ L ∧ i = .int .i64 (k : Int) ∧ okv = .bool okb ∧ OSt w W bp bd bl bl2 F S R Q R2 { p with c := c1 } l lo n sv rv vs sv2 rv2 vs2 cv1 mv kv tv ∧ ((okb = true ∧ c1 = lo.c) ∨ (okb = false ∧ c1 = p.c ∧ cr = true ∧ lo.c ≠ p.c ∧ Al p lo.c ∧ ∀ j, j < k → p.maybe[j]? ≠ some lo.c))) (fun _ i _ => L - (intOf i).toNat)
    case atStart =>
      refine ⟨0, ok0, p.c, cv, Nat.zero_le _, rfl, rfl, HST2.out, ?_⟩
      cases hb : ok0 with
      | true => exact .inl ⟨rfl, (telB_iff.1 (by rw [← HOK.out, hb])).symm⟩
      | false =>
        have hne : lo.c ≠ p.c := fun e => by have := HOK.out; rw [hb, e, telB_self] at this; cases this
        obtain ⟨h1, h2⟩ := HAL.out.resolve_left hne
        exact .inr ⟨rfl, rfl, h1, hne, h2, fun j hj => by omega⟩
    case round =>
      obtain ⟨k, okb, c1, cv1, hk, rfl, rfl, hst, hcase⟩ := hrel
      have HS1 := Lib.hid hst
      have c5 : wr.cell? ⟨bp, 5, none⟩ = some (.slice mA L mc) := by rw [← HMV.out]; exact hst.px.pm.blk.cell 5
      by_cases hkL : k < L
      · have hkd : decide ((k : Int) < (L : Int)) = true := decide_eq_true (by omega)
        have hki : (k : Int) < (L : Int) := by omega
        cases cr with
        | false =>
          have hc1 : okb = true ∧ c1 = lo.c := hcase.resolve_right fun ⟨_, _, h, _⟩ => by cases h
          have HC1 := Lib.hid hc1
          clear hst hcase hc1
          go_wp2_with fail
          go_meet
          case rel => exact ⟨okb, c1, cv1, rfl, HS1.out, .inl HC1.out⟩
        | true =>
          cases okb with
          | true =>
            have hc1 : c1 = lo.c := by
              rcases hcase with ⟨_, h⟩ | ⟨h, _⟩
              · exact h
              · cases h
            have HC1 := Lib.hid hc1
            clear hst hcase hc1
            go_wp2_with fail
            go_meet
            case rel => exact ⟨true, c1, cv1, rfl, HS1.out, .inl ⟨rfl, HC1.out⟩⟩
          | false =>
            obtain ⟨_, hc1, _, hne, hAl, hall⟩ := hcase.resolve_left fun ⟨h, _⟩ => by cases h
            subst hc1
            obtain ⟨vl, hvl, hmo, hvc⟩ := hst.px.pm.mb
            dsimp only at hvl hmo hvc
            obtain ⟨x, hx⟩ : ∃ x, p.maybe[k]? = some x := ⟨_, List.getElem?_eq_getElem (by rw [← HL.out]; exact hkL)⟩
            obtain ⟨xv, hxv, hxc⟩ := hvc k x hx
            obtain ⟨xA, xc, rfl, _⟩ := hxc.form
            obtain ⟨g, o, rfl⟩ : ∃ g o, mA = some ⟨g, o * 2, none⟩ := by
              rcases hmA with ⟨_, h2, _⟩ | ⟨g, o, e⟩
              · omega
              · exact ⟨g, o, e⟩
            rw [HMV.out, ← HL.out] at hmo
            have hct := ctsC_get p.maybe vl k x _ hx hxv
            have g0 : wr.cell? ⟨g, o * 2 + k * 2, none⟩ = some (.int .i64 (x.first : Int)) := (hmo.cell (j := k * 2) (by omega)).trans hct.1
            have g1 : wr.cell? ⟨g, o * 2 + k * 2 + 1, none⟩ = some (.slice xA x.rows.length xc) := (hmo.cell (j := k * 2 + 1) (by omega)).trans hct.2
            have hb1 := hst.px.pm.blk
            have f3 : wr.frozen? ⟨bp, 3, none⟩ = false := hb1.frozen 3
            have KT := Lib.hid (show Calls Tryz.prog 13 #[.pointer (some ⟨bl2, 0, none⟩), .agg #[.int .i64 (x.first : Int), .slice xA x.rows.length xc]] wr fun e w' => Fresh wr w' ∧ e = .returned (.bool (telB lo.c x)) from
              tells_any hst.ld.lm (by omega) HRL.out hst.ld.Rlt hxc hst.px.pm.Qlt (by have := HMN.out x (List.mem_of_getElem? hx); omega))
            have hwk : IntKind.i64.wrap ((k : Int) + 1) = (k : Int) + 1 := IntWalk.i64_in _ (by omega)
            have HXC := Lib.hid hxc; have HX := Lib.hid hx; have HAl := Lib.hid hAl; have HNE := Lib.hid hne; have HALL := Lib.hid hall; have HMO := Lib.hid hmo; have HCT := Lib.hid hct
            clear hst hcase hvl hmo hvc hx hxv hxc hct hb1 hAl hne hall hmA
            obtain ⟨tb, htb⟩ : ∃ tb, tb = telB lo.c x := ⟨_, rfl⟩
            rw [← htb] at KT
            have HTB := Lib.hid htb
            clear htb
            cases tb with
            | true =>
              go_wp2_with fail
              refine KT.out.mono ?_
              rintro e w4 ⟨hf4, rfl⟩
              have hst4 := HS1.out.fresh hf4
              have e3 : w4.cell? ⟨bp, 3, none⟩ = some (.int .i64 (p.c.first : Int)) := hst4.px.pm.blk.cell 3
              have e4 : w4.cell? ⟨bp, 4, none⟩ = some cv1 := hst4.px.pm.blk.cell 4
              have e5 : w4.cell? ⟨bp, 5, none⟩ = some (.slice (some ⟨g, o * 2, none⟩) L mc) := by rw [← HMV.out]; exact hst4.px.pm.blk.cell 5
              have f3 : w4.frozen? ⟨bp, 3, none⟩ = false := hst4.px.pm.blk.frozen 3
              have f4 : w4.frozen? ⟨bp, 4, none⟩ = false := hst4.px.pm.blk.frozen 4
              have g0' : w4.cell? ⟨g, o * 2 + k * 2, none⟩ = some (.int .i64 (x.first : Int)) := hf4.cell g0 id
              have g1' : w4.cell? ⟨g, o * 2 + k * 2 + 1, none⟩ = some (.slice xA x.rows.length xc) := hf4.cell g1 id
              have HST4 := Lib.hid hst4; have HXC4 := Lib.hid (HXC.out.fresh hf4)
              clear hst4 hf4 KT
              go_wp2_with fail
              go_roundw
              case rel =>
                refine ⟨k + 1, true, x, _, by omega, by go_num, by first | rfl | trivial, HST4.out.setc hbp (_Q2 := Q) HXC4.out, .inl ⟨rfl, (telB_iff.1 HTB.out.symm).symm⟩⟩
              case measure => simp [intOf] <;> omega
            | false =>
              go_wp2_with fail
              refine KT.out.mono ?_
              rintro e w4 ⟨hf4, rfl⟩
              have HST4 := Lib.hid (HS1.out.fresh hf4)
              clear hf4 KT
              go_wp2_with fail
              go_roundw
              case rel =>
                refine ⟨k + 1, false, p.c, cv1, by omega, by go_num, by first | rfl | trivial, HST4.out, .inr ⟨by first | rfl | trivial, by first | rfl | trivial, by first | rfl | trivial, HNE.out, HAl.out, fun j hj => ?_⟩⟩
                by_cases hjk : j = k
                · subst hjk
                  rw [HX.out]
                  intro e
                  injection e with e
                  have := HTB.out
                  rw [e, telB_self] at this
                  cases this
                · exact HALL.out j (by omega)
              case measure => simp [intOf] <;> omega
      · obtain rfl : k = L := by omega
        have hkd : decide ((k : Int) < (k : Int)) = false := by simp
        have HCS := Lib.hid (show (okb = true ∧ c1 = lo.c) ∨ (okb = false ∧ c1 = p.c ∧ cr = true ∧ ∃ m0 ∈ p.cuts, lo.c = p.c.cut m0) from hcase.imp id fun ⟨h1, h2, h3, h4, h5, h6⟩ => ⟨h1, h2, h3, h5.resolve_left fun hm => by
          obtain ⟨j, hj⟩ := List.getElem?_of_mem hm
          exact h6 j (by rw [HL.out]; exact (List.getElem?_eq_some_iff.1 hj).1) hj⟩)
        clear hst hcase
        go_wp2_with fail
        go_meet
        case rel => exact ⟨okb, c1, cv1, rfl, HS1.out, HCS.out⟩
  case rest =>
    obtain ⟨okb, c1, cv1, rfl, hst, hcase⟩ := hcut
    obtain ⟨KL, hKL⟩ : ∃ KL, KL = p.cuts.length := ⟨_, rfl⟩
    rw [← hKL] at HKV hkA hkl
    have hks := hst.px.pm.ks
    dsimp only at hks
    rw [HKV.out, ← hKL] at hks
    have d3 : wc.cell? ⟨bp, 3, none⟩ = some (.int .i64 (c1.first : Int)) := hst.px.pm.blk.cell 3
    have d6 : wc.cell? ⟨bp, 6, none⟩ = some (.slice kA KL kc) := by rw [← HKV.out]; exact hst.px.pm.blk.cell 6
    have HST3 := Lib.hid hst; have HCASE := Lib.hid hcase; have HKS := Lib.hid hks; have HKL := Lib.hid hKL
    clear hst hcase hks hKL
    go_wp2_with fail
    go_loopw [9, 10] (fun mo i W => ∃ (k mst : Nat), k ≤ KL ∧ i = .int .i64 (k : Int) ∧ mo = .int .i64 (mst : Int) ∧ W = wc ∧ ∀ j m, j < k → p.cuts[j]? = some m → m ≤ mst) (fun _ i _ => KL - (intOf i).toNat)
    case atStart => exact ⟨0, c1.first, Nat.zero_le _, rfl, rfl, rfl, fun j m hj => by omega⟩
    case round =>
      obtain ⟨k, mst, hk, rfl, rfl, rfl, hall⟩ := hrel
      have HALL := Lib.hid hall
      clear hall
      by_cases hkL : k < KL
      · have hkd : decide ((k : Int) < (KL : Int)) = true := decide_eq_true (by omega)
        have hki : (k : Int) < (KL : Int) := by omega
        obtain ⟨g, o, rfl⟩ : ∃ g o, kA = some ⟨g, o, none⟩ := by
          rcases hkA with ⟨_, h2, _⟩ | ⟨g, o, e⟩
          · omega
          · exact ⟨g, _, e⟩
        obtain ⟨m, hm⟩ : ∃ m, p.cuts[k]? = some m := ⟨_, List.getElem?_eq_getElem (by rw [← HKL.out]; exact hkL)⟩
        have ck : wr.cell? ⟨g, o + k, none⟩ = some (.int .i64 (m : Int)) := by
          rw [HKS.out.cell (j := k) (by omega), intsV_get]
          simp [natsV, hm]
        have hwk : IntKind.i64.wrap ((k : Int) + 1) = (k : Int) + 1 := IntWalk.i64_in _ (by omega)
        have HM := Lib.hid hm
        clear hm hkA
        by_cases hgt : mst < m
        · have hgd : decide ((mst : Int) < (m : Int)) = true := decide_eq_true (by omega)
          have hgi : (mst : Int) < (m : Int) := by omega
          go_wp2_with fail
          go_roundw
          case rel =>
            refine ⟨k + 1, m, by omega, by go_num, rfl, by first | rfl | trivial, fun j m' hj hm' => ?_⟩
            by_cases hjk : j = k
            · subst hjk
              rw [HM.out] at hm'
              injection hm' with e
              omega
            · have := HALL.out j m' (by omega) hm'; omega
          case measure => simp [intOf] <;> omega
        · have hgd : decide ((mst : Int) < (m : Int)) = false := decide_eq_false (by omega)
          have hgi : ¬ (mst : Int) < (m : Int) := by omega
          go_wp2_with fail
          go_roundw
          case rel =>
            refine ⟨k + 1, mst, by omega, by go_num, rfl, by first | rfl | trivial, fun j m' hj hm' => ?_⟩
            by_cases hjk : j = k
            · subst hjk
              rw [HM.out] at hm'
              injection hm' with e
              omega
            · exact HALL.out j m' (by omega) hm'
          case measure => simp [intOf] <;> omega
      · obtain rfl : k = KL := by omega
        have hkd : decide ((k : Int) < (k : Int)) = false := by simp
        have hwall := HST3.out.px.pm.blk
        have HFIN := Lib.hid (show ∀ W, Fresh wr W → W.cell? ⟨bp, 1, none⟩ = some (.pointer (some ⟨bl, 0, none⟩)) ∧ W.frozen? ⟨bp, 1, none⟩ = false ∧ W.cell? ⟨bp, 5, none⟩ = some mv ∧ W.frozen? ⟨bp, 5, none⟩ = false ∧ W.cell? ⟨bp, 6, none⟩ = some kv ∧ W.frozen? ⟨bp, 6, none⟩ = false from fun W hW => ⟨(hwall.touch hW id).cell 1, (hwall.touch hW id).frozen 1, (hwall.touch hW id).cell 5, (hwall.touch hW id).frozen 5, (hwall.touch hW id).cell 6, (hwall.touch hW id).frozen 6⟩)
        cases okb with
        | true =>
          have hc1 : c1 = lo.c := by
            rcases HCASE.out with ⟨_, h⟩ | ⟨h, _⟩
            · exact h
            · cases h
          have HC1 := Lib.hid hc1
          clear hc1 hwall
          go_upto_region 17 with fail
          go_quiet (fail)
          generalize hw2 : World.drewN wr _ = w2
          have hf2 : Fresh wr w2 := by rw [← hw2]; exact (Touch.refl (fun _ => False) wr).drewN _
          obtain ⟨q1, q2, q3, q4, q5, q6⟩ := HFIN.out w2 hf2
          have HSTE := Lib.hid (HST3.out.fresh hf2)
          clear hf2 hw2
          go_wp2_with fail
          go_ret
          exact ⟨rfl, (HEND.out _ _ _ _ _ _ _ _ HC1.out HSTE.out).2⟩
        | false =>
          obtain ⟨hc1, hcr, m0, hm0, hlc⟩ := (HCASE.out.resolve_left fun ⟨h, _⟩ => by cases h).2
          subst hc1 hcr
          obtain ⟨hm1, hm2⟩ := HCN.out m0 hm0
          have hlf : lo.c.first = m0 := by rw [hlc]; unfold Ct.cut; rw [if_pos hm1]
          have hcf : (p.c.cut m0).first = m0 := by unfold Ct.cut; rw [if_pos hm1]
          have hmst : m0 ≤ mst := by
            obtain ⟨j, hj⟩ := List.getElem?_of_mem hm0
            exact HALL.out j m0 (by rw [HKL.out]; exact (List.getElem?_eq_some_iff.1 hj).1) hj
          have hxc := HST3.out.px.pm.c
          dsimp only at hxc
          obtain ⟨vA, vc, hv1, _⟩ := hxc.form
          subst hv1
          have hpn2 : p.c.first + p.c.rows.length ≤ 1000000 := hpn
          have hmin : (min (m0 : Int) (p.c.next : Int)).toNat = m0 := by omega
          have KF := Lib.hid (show ∀ W, Fresh wr W → Calls Tryz.prog 31 #[.pointer (some ⟨bl2, 0, none⟩)] W fun e w' => e = .returned (.int .i64 (m0 : Int)) ∧ w' = W from fun W hW => by
            have := first_any (HST3.out.ld.lm.fresh hW)
            rw [hlf] at this
            exact this)
          have KCUT := Lib.hid (show ∀ W, Fresh wr W → Calls Tryz.prog 24 #[.agg #[.int .i64 (p.c.first : Int), .slice vA p.c.rows.length vc], .int .i64 (m0 : Int)] W fun e w' => Fresh wr w' ∧ ∃ xA xc, e = .returned (.agg #[.int .i64 (m0 : Int), .slice xA (p.c.cut m0).rows.length xc]) ∧ CM w' Q (.slice xA (p.c.cut m0).rows.length xc) (p.c.cut m0).rows from fun W hW => by
            refine (ccut_any (first := p.c.first) (hxc.fresh hW) (by omega) (m0 : Int)).mono ?_
            rintro e w' ⟨hf, v', rfl, hcm⟩
            rw [show (min (m0 : Int) ((⟨p.c.first, p.c.rows⟩ : Ct).next : Int)).toNat = m0 from hmin] at hcm ⊢
            obtain ⟨xA, xc, rfl, _⟩ := hcm.form
            refine ⟨hW.trans hf fun _ _ => id, xA, xc, ?_, hcm⟩
            rw [show ((⟨p.c.first, p.c.rows⟩ : Ct).cut m0).first = m0 from hcf])
          have KTL := Lib.hid (show ∀ W xA xc, Fresh wr W → CM W Q (.slice xA (p.c.cut m0).rows.length xc) (p.c.cut m0).rows → Calls Tryz.prog 13 #[.pointer (some ⟨bl2, 0, none⟩), .agg #[.int .i64 (m0 : Int), .slice xA (p.c.cut m0).rows.length xc]] W fun e w' => Fresh wr w' ∧ e = .returned (.bool true) from fun W xA xc hW hcm => by
            have hlt := HST3.out.fresh hW
            have := tells_any (c := p.c.cut m0) hlt.ld.lm (by omega) HRL.out hlt.ld.Rlt hcm hlt.px.pm.Qlt (by rw [Ct.next_cut hm2]; omega)
            rw [hcf, ← hlc, telB_self] at this
            rw [← hlc]
            exact this.mono fun e w' ⟨q1, q2⟩ => ⟨hW.trans q1 fun _ _ => id, q2⟩)
          have HSS := Lib.hid (show ∀ W, Fresh wr W → Fresh wr W ∧ W.cell? ⟨bp, 3, none⟩ = some (.int .i64 (p.c.first : Int)) ∧ W.cell? ⟨bp, 4, none⟩ = some (.slice vA p.c.rows.length vc) from fun W hW => ⟨hW, (hwall.touch hW id).cell 3, (hwall.touch hW id).cell 4⟩)
          have HFZ := Lib.hid (show ∀ W, Fresh wr W → W.frozen? ⟨bp, 3, none⟩ = false ∧ W.frozen? ⟨bp, 4, none⟩ = false from fun W hW => ⟨(hwall.touch hW id).frozen 3, (hwall.touch hW id).frozen 4⟩)
          have hgd1 : decide ((p.c.first : Int) < (m0 : Int)) = true := decide_eq_true (by omega)
          have hgd2 : decide (m0 ≤ mst) = true := decide_eq_true hmst
          have hgd3 : decide (p.c.first < m0) = true := decide_eq_true hm1
          have hgd4 : decide ((m0 : Int) ≤ (mst : Int)) = true := decide_eq_true (by omega)
          have HLC := Lib.hid hlc
          clear hwall hlf hxc hmin hlc
          go_upto_region 17 with fail
          go_cut [135] from 104 to 135 (fun v w6 => v = .bool true ∧ Fresh wr w6)
          case first =>
            go_region_held3 (fun W => Fresh wr W ∧ W.cell? ⟨bp, 3, none⟩ = some (.int .i64 (p.c.first : Int)) ∧ W.cell? ⟨bp, 4, none⟩ = some (.slice vA p.c.rows.length vc))
              (first | exact HSS.out _ ((Touch.refl _ wr).drew) | exact HSS.out _ (Touch.refl _ wr) | assumption)
              (first
                | (go_at_call 31; refine (KF.out _ (And.left (by assumption))).mono ?_; rintro e w3 ⟨rfl, rfl⟩)
                | (go_at_call 24; refine (KCUT.out _ (And.left (by assumption))).mono ?_; rintro e w3 ⟨hf3, xA, xc, rfl, hcm3⟩; have k3 := HSS.out _ hf3; have HCM3 := Lib.hid hcm3; have HF3 := Lib.hid hf3; clear hf3 hcm3)
                | (go_at_call 13; refine (KTL.out _ _ _ HF3.out HCM3.out).mono ?_; rintro e w4 ⟨hf4, rfl⟩; have k4 := HSS.out _ hf4; have HF4 := Lib.hid hf4; clear hf4))
            all_goals
              go_wp2_with fail
              go_meet
              case rel => exact ⟨rfl, HF4.out⟩
          case rest =>
            obtain ⟨rfl, hf6⟩ := hcut
            obtain ⟨q1, q2, q3⟩ := HSS.out _ hf6
            have HF6 := Lib.hid hf6
            clear hf6 q1
            go_upto_region 19 with fail
            go_region_law (first
              | (go_simp; go_at_call 31; refine (KF.out _ (by first | exact HF6.out | exact HF6.out.drew)).mono ?_; rintro e w3 ⟨rfl, rfl⟩)
              | (go_simp; go_at_call 24; refine (KCUT.out _ (by first | exact HF6.out | exact HF6.out.drew)).mono ?_; rintro e w7 ⟨hf7, xA, xc, rfl, hcm7⟩; have k7 := HSS.out _ hf7; have r3 := k7.2.1; have r4 := k7.2.2; have z7 := HFZ.out _ hf7; have z3 := z7.1; have z4 := z7.2; have hst8 := (HST3.out.fresh hf7).setc hbp (_Q2 := Q) hcm7; rw [hcf] at hst8; have HST8 := Lib.hid hst8; clear hf7 hcm7 k7 z7 hst8))
            all_goals
              obtain ⟨w8, hw8⟩ : ∃ w8, w8 = (w7.setCell ⟨bp, 3, none⟩ (.int .i64 (m0 : Int))).setCell ⟨bp, 4, none⟩ (.slice xA (p.c.cut m0).rows.length xc) := ⟨_, rfl⟩
              rw [← hw8]
              have h8 := HST8.out
              rw [← hw8] at h8
              have t1 : w8.cell? ⟨bp, 1, none⟩ = some (.pointer (some ⟨bl, 0, none⟩)) := h8.px.pm.blk.cell 1
              have t2 : w8.frozen? ⟨bp, 1, none⟩ = false := h8.px.pm.blk.frozen 1
              have t3 : w8.cell? ⟨bp, 5, none⟩ = some mv := h8.px.pm.blk.cell 5
              have t4 : w8.frozen? ⟨bp, 5, none⟩ = false := h8.px.pm.blk.frozen 5
              have t5 : w8.cell? ⟨bp, 6, none⟩ = some kv := h8.px.pm.blk.cell 6
              have t6 : w8.frozen? ⟨bp, 6, none⟩ = false := h8.px.pm.blk.frozen 6
              have H8 := Lib.hid h8
              clear h8 hw8 HST8 q2 q3
              go_wp2_with fail
              go_ret
              exact ⟨rfl, (HEND.out _ _ _ _ _ _ _ _ HLC.out.symm H8.out).2⟩
end
end Go.Proofs.YtlcmnihpfpmajaaGreat
