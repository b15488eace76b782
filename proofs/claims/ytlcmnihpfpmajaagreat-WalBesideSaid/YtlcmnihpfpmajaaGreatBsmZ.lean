/- Two plays on one disk in memory. Conditions stand with each. -/
import Derived.Test.YtlcmnihpfpmajaaGreatBsdZ
namespace Go.Proofs.YtlcmnihpfpmajaaGreat
open Go.RowKit
section
variable {w W W' : World} {bp bq bd bl bl1 bl2 m n B i T : Nat} {S S' R Q R1 Q1 R2 Q2 X : Nat → Prop} {p q : PS} {l l1 l2 : Lg} {sv rv cv mv kv tv sv1 rv1 cv1 mv1 kv1 tv1 sv2 rv2 cv2 mv2 kv2 tv2 : Value} {vs vs1 vs2 : List Value}
theorem PM.notS (h : PM w bp bd bl S R Q p l n sv rv vs cv mv kv tv) : ∀ k, pfoot bp bl R Q sv rv mv kv tv k → ¬ S k := fun k hk => by
  rcases hk with hk | hk | hk | hk
  · exact h.ld.dis k (.inl hk)
  · exact h.ld.dis k (.inr hk)
  · exact (h.dis k (.inl hk)).2.2
  · exact (h.dis k (.inr hk)).2.2
/-- a play beside what is written elsewhere -/
theorem PM.beside {d' : Dk} (h : PM w bp bd bl S R Q p l n sv rv vs cv mv kv tv) (ht : Touch X w W) (hX : ∀ k, pfoot bp bl R Q sv rv mv kv tv k → ¬ X k) (hd : Disk W S' bd d') (hS : ∀ k, S' k → ¬ pfoot bp bl R Q sv rv mv kv tv k) :
    PM W bp bd bl S' R Q { p with d := d' } l n sv rv vs cv mv kv tv := by
  have hs := ht.size
  refine ⟨h.blk.touch ht (hX bp (.inr (.inr (.inl (.inl rfl))))), ⟨h.ld.lm.touch ht fun k hk => hX k (hk.elim .inl fun e => .inr (.inl e)), hd, fun k hk e => hS k e (hk.elim .inl fun e => .inr (.inl e)), h.ld.nR, fun k hk => by have := h.ld.Rlt k hk; omega⟩, h.alk, h.c.touch ht fun k hk => hX k (.inr (.inr (.inr hk))),
    h.mb.touch ht (fun k hk => hX k (.inr (.inr (.inl (.inr (.inl hk)))))) fun k hk => hX k (.inr (.inr (.inr hk))), h.ks.touch ht fun k hk => hX k (.inr (.inr (.inl (.inr (.inr (.inl hk)))))), h.ts.touch ht fun k hk => hX k (.inr (.inr (.inl (.inr (.inr (.inr hk)))))), h.ap, fun k hk => ?_, h.nQ, fun k hk => by have := h.Qlt k hk; omega⟩
  obtain ⟨q1, q2, _⟩ := h.dis k hk
  exact ⟨q1, q2, fun e => hS k e (hk.elim (fun e => .inr (.inr (.inl e))) fun e => .inr (.inr (.inr e)))⟩
/-- two plays -/
def TP (W : World) (bp bq bd B : Nat) (p q : PS) (m n : Nat) : Prop := ∃ S bl1 R1 Q1 l1 sv1 rv1 vs1 cv1 mv1 kv1 tv1 bl2 R2 Q2 l2 sv2 rv2 vs2 cv2 mv2 kv2 tv2, PM W bp bd bl1 S R1 Q1 p l1 m sv1 rv1 vs1 cv1 mv1 kv1 tv1 ∧ PM W bq bd bl2 S R2 Q2 q l2 n sv2 rv2 vs2 cv2 mv2 kv2 tv2 ∧
  (∀ k, pfoot bp bl1 R1 Q1 sv1 rv1 mv1 kv1 tv1 k → ¬ pfoot bq bl2 R2 Q2 sv2 rv2 mv2 kv2 tv2 k) ∧ (∀ k, pfoot bp bl1 R1 Q1 sv1 rv1 mv1 kv1 tv1 k ∨ pfoot bq bl2 R2 Q2 sv2 rv2 mv2 kv2 tv2 k ∨ S k → B ≤ k) ∧ q.d = p.d
theorem TP.swap (h : TP W bp bq bd B p q m n) : TP W bq bp bd B q p n m := by
  obtain ⟨S, bl1, R1, Q1, l1, sv1, rv1, vs1, cv1, mv1, kv1, tv1, bl2, R2, Q2, l2, sv2, rv2, vs2, cv2, mv2, kv2, tv2, h1, h2, h3, h4, h5⟩ := h
  exact ⟨S, bl2, R2, Q2, l2, sv2, rv2, vs2, cv2, mv2, kv2, tv2, bl1, R1, Q1, l1, sv1, rv1, vs1, cv1, mv1, kv1, tv1, h2, h1, fun k a b => h3 k b a, fun k hk => h4 k (hk.elim (fun e => .inr (.inl e)) fun e => e.elim .inl fun e => .inr (.inr e)), h5.symm⟩
theorem TP.fresh (h : TP W bp bq bd B p q m n) (hf : Fresh W W') : TP W' bp bq bd B p q m n := by
  obtain ⟨S, bl1, R1, Q1, l1, sv1, rv1, vs1, cv1, mv1, kv1, tv1, bl2, R2, Q2, l2, sv2, rv2, vs2, cv2, mv2, kv2, tv2, h1, h2, h3, h4, h5⟩ := h
  exact ⟨S, bl1, R1, Q1, l1, sv1, rv1, vs1, cv1, mv1, kv1, tv1, bl2, R2, Q2, l2, sv2, rv2, vs2, cv2, mv2, kv2, tv2, (h1.same.fresh hf).pm, (h2.same.fresh hf).pm, h3, h4, h5⟩
/-- a step of the first play -/
theorem TP.step {p2 : PS} (_h1 : PM W bp bd bl1 S R1 Q1 p l1 m sv1 rv1 vs1 cv1 mv1 kv1 tv1) (h2 : PM W bq bd bl2 S R2 Q2 q l2 n sv2 rv2 vs2 cv2 mv2 kv2 tv2)
    (h3 : ∀ k, pfoot bp bl1 R1 Q1 sv1 rv1 mv1 kv1 tv1 k → ¬ pfoot bq bl2 R2 Q2 sv2 rv2 mv2 kv2 tv2 k) (h4 : ∀ k, pfoot bp bl1 R1 Q1 sv1 rv1 mv1 kv1 tv1 k ∨ pfoot bq bl2 R2 Q2 sv2 rv2 mv2 kv2 tv2 k ∨ S k → B ≤ k) (hB : B ≤ W.heap.size)
    (hp : PG W W' bp bd (pfoot bp bl1 R1 Q1 sv1 rv1 mv1 kv1 tv1) S p2 m) : TP W' bp bq bd B p2 { q with d := p2.d } m n ∧ Touch (fun k => B ≤ k) W W' := by
  obtain ⟨bl3, S3, R3, Q3, l3, sv3, rv3, vs3, cv3, mv3, kv3, tv3, hx⟩ := hp
  have hlt := h2.lt
  have hns := h2.notS
  refine ⟨⟨S3, bl3, R3, Q3, l3, sv3, rv3, vs3, cv3, mv3, kv3, tv3, bl2, R2, Q2, l2, sv2, rv2, vs2, cv2, mv2, kv2, tv2, hx.pm, h2.beside hx.tch (fun k hk e => ?_) hx.pm.ld.dk fun k hk e => ?_, fun k hk e => ?_, fun k hk => ?_, rfl⟩, hx.tch.mono fun k _ hk => h4 k (hk.elim .inl fun e => .inr (.inr e))⟩
  · exact e.elim (fun e => h3 k e hk) (hns k hk)
  · exact (hx.sS k hk).elim (fun e2 => hns k e e2) fun e2 => by have := hlt k e; omega
  · exact (hx.sF k hk).elim (fun e2 => h3 k e2 e) fun e2 => by have := hlt k e; omega
  · rcases hk with hk | hk | hk
    · exact (hx.sF k hk).elim (fun e => h4 k (.inl e)) (by omega)
    · exact h4 k (.inr (.inl hk))
    · exact (hx.sS k hk).elim (fun e => h4 k (.inr (.inr e))) (by omega)
theorem TP.pg (h : TP W bp bq bd B p q m n) : ∃ S F, PG W W bp bd F S p m := by
  obtain ⟨S, bl1, R1, Q1, l1, sv1, rv1, vs1, cv1, mv1, kv1, tv1, bl2, R2, Q2, l2, sv2, rv2, vs2, cv2, mv2, kv2, tv2, h1, h2, h3, h4, h5⟩ := h
  exact ⟨_, _, h1.same.pg⟩
theorem TP.eqd (h : TP W bp bq bd B p q m n) : q.d = p.d := by
  obtain ⟨S, bl1, R1, Q1, l1, sv1, rv1, vs1, cv1, mv1, kv1, tv1, bl2, R2, Q2, l2, sv2, rv2, vs2, cv2, mv2, kv2, tv2, h1, h2, h3, h4, h5⟩ := h
  exact h5
/-- does -/
theorem does_tp (h : TP W bp bq bd B p q m n) (hv : PInv p i T) (hi : i ≤ 150) (hT : T ≤ 900000) (hm : m < 16) (hbase : p.l.base = m * 1048576) {o : OpD} (ho : OpAt B W o) (hB : B ≤ W.heap.size) :
    Calls Tryz.prog 12 #[.pointer (some ⟨bp, 0, none⟩), .agg #[.int .i64 o.Do, .int .i64 o.N, .int .i64 o.K, .slice o.A o.m o.c, .slice o.C o.nc o.cc]] W fun e W' => e = .returned (.bool true) ∧ TP W' bp bq bd B (p.doS o) { q with d := (p.doS o).d } m n ∧ Touch (fun k => B ≤ k) W W' := by
  obtain ⟨S, bl1, R1, Q1, l1, sv1, rv1, vs1, cv1, mv1, kv1, tv1, bl2, R2, Q2, l2, sv2, rv2, vs2, cv2, mv2, kv2, tv2, h1, h2, h3, h4, h5⟩ := h
  refine (does_any h1 hv hi hT hm hbase ho (fun k hk => h4 k (hk.elim .inl fun e => .inr (.inr e))) hB).mono ?_
  rintro e W' ⟨rfl, hpg⟩
  exact ⟨rfl, TP.step h1 h2 h3 h4 hB hpg⟩
/-- the disk crashes -/
theorem crash_tp (h : TP W bp bq bd B p q m n) (hv : PInv p i T) (hi : i ≤ 150) {A : Option Addr} {nn c : Nat} {cuts : List Int} (hz : IsInts W A nn c cuts) (hzw : ∀ x ∈ cuts, -9223372036854775808 ≤ x ∧ x ≤ 9223372036854775807) (hA : ∀ a, A = some a → 0 < nn → a.block < B) (hB : B ≤ W.heap.size) :
    Calls Tryz.prog 14 #[.pointer (some ⟨bd, 0, none⟩), .slice A nn c] W fun e W' => e = .returned (.tuple #[]) ∧ TP W' bp bq bd B { p with d := p.d.crash cuts } { q with d := p.d.crash cuts } m n ∧ Touch (fun k => B ≤ k) W W' := by
  obtain ⟨S, bl1, R1, Q1, l1, sv1, rv1, vs1, cv1, mv1, kv1, tv1, bl2, R2, Q2, l2, sv2, rv2, vs2, cv2, mv2, kv2, tv2, h1, h2, h3, h4, h5⟩ := h
  refine (disk_crash h1.ld.dk (hv.small (by omega)) (by omega) hz hzw fun a ha h0 e => ?_).mono ?_
  · have := hA a ha h0; have := h4 _ (.inr (.inr e)); omega
  · rintro e W' ⟨rfl, ht, hd⟩
    exact ⟨rfl, TP.step h1 h2 h3 h4 hB (h1.same.disk ht hd).pg⟩
/-- the first log is opened anew behind a crash -/
theorem open_tp {cuts : List Int} (h : TP W bp bq bd B { p with d := p.d.crash cuts } q m n) (hv : PInv p i T) (hc : Calm p) (hi : i ≤ 150) (hm : m < 16) (hbase : p.l.base = m * 1048576) (hB : B ≤ W.heap.size) :
    Calls Tryz.prog 15 #[.pointer (some ⟨bp, 0, none⟩), .bool true] W fun e W' => e = .returned (.bool true) ∧ ∃ p2, TP W' bp bq bd B p2 q m n ∧ PInv p2 (i + 1) T ∧ Touch (fun k => B ≤ k) W W' := by
  have heq := h.eqd
  obtain ⟨S, bl1, R1, Q1, l1, sv1, rv1, vs1, cv1, mv1, kv1, tv1, bl2, R2, Q2, l2, sv2, rv2, vs2, cv2, mv2, kv2, tv2, h1, h2, h3, h4, h5⟩ := h
  obtain ⟨hcr, hcc, hcf⟩ := hv.crash (by omega) cuts
  rw [hbase] at hcr hcc hcf
  obtain ⟨ss, hlive, _⟩ := hcr.live
  unfold Live at hlive
  have hi1 := hv.next
  have hl := hv.lens
  refine (opened_px (cr := true) h1 hm hlive.shape (hcr.small (by omega)) (by have := hcr.files; dsimp only at this ⊢; omega) (hcc.imp id fun h => ⟨rfl, h⟩) hcf (by have := hcr.next; dsimp only at this ⊢; omega) hcr.rows (by dsimp only; omega) (fun x hx => by have := (hv.maybe x hx).1; omega) hv.cuts (by dsimp only; omega) (by dsimp only; omega)).mono ?_
  rintro e W' ⟨rfl, hpg⟩
  obtain ⟨k1, k2⟩ := TP.step h1 h2 h3 h4 hB hpg
  dsimp only at k1 heq
  rw [← heq] at k1
  refine ⟨rfl, _, k1, ?_, k2⟩
  rw [hc.1, hc.2.1, heq]
  exact hcr
/-- the first play's log, told -/
theorem TP.pt (h : TP W bp bq bd B p q m n) : ∃ S F bl vA vc, PT W W bp bd F S p m bl vA vc := by
  obtain ⟨S, F, hp⟩ := h.pg
  obtain ⟨bl, vA, vc, hpt⟩ := hp.pt
  exact ⟨S, F, bl, vA, vc, hpt⟩
/-- what a cell holds -/
def cellV (W : World) (b i : Nat) : Value := (W.cell? ⟨b, i, none⟩).getD (.bool false)
theorem cellV_of {b i : Nat} {v : Value} (h : W.cell? ⟨b, i, none⟩ = some v) : cellV W b i = v := by unfold cellV; rw [h]; rfl
/-- the cells that the law reads of both plays -/
def TwoC (bp bq : Nat) (W : World) : Prop := W.cell? ⟨bp, 1, none⟩ = some (cellV W bp 1) ∧ W.cell? ⟨bp, 3, none⟩ = some (cellV W bp 3) ∧ W.cell? ⟨bp, 4, none⟩ = some (cellV W bp 4) ∧ W.cell? ⟨bq, 1, none⟩ = some (cellV W bq 1) ∧ W.cell? ⟨bq, 3, none⟩ = some (cellV W bq 3) ∧ W.cell? ⟨bq, 4, none⟩ = some (cellV W bq 4)
theorem TP.cells (h : TP W bp bq bd B p q m n) : TwoC bp bq W := by
  obtain ⟨S, F, bl, vA, vc, h1⟩ := h.pt
  obtain ⟨S', F', bl', vA', vc', h2⟩ := h.swap.pt
  obtain ⟨_, a1, a2, a3⟩ := h1.cells
  obtain ⟨_, b1, b2, b3⟩ := h2.cells
  exact ⟨by rw [cellV_of a1]; exact a1, by rw [cellV_of a2]; exact a2, by rw [cellV_of a3]; exact a3, by rw [cellV_of b1]; exact b1, by rw [cellV_of b2]; exact b2, by rw [cellV_of b3]; exact b3⟩
/-- the first play's log tells its content -/
theorem TP.tells (h : TP W bp bq bd B p q m n) (hv : PInv p i T) (hi : i ≤ 200) : ∀ W', Fresh W W' → Calls Tryz.prog 13 #[cellV W bp 1, .agg #[cellV W bp 3, cellV W bp 4]] W' fun e w' => e = .returned (.bool true) ∧ Fresh W w' := fun W' hW => by
  obtain ⟨S, F, bl, vA, vc, h1⟩ := h.pt
  obtain ⟨_, a1, a2, a3⟩ := h1.cells
  rw [cellV_of a1, cellV_of a2, cellV_of a3]
  exact ((h1.fresh hW).tells hv hi).mono fun e w' q => ⟨q.2, hW.trans q.1 fun _ _ => id⟩
/-- a second log is opened on the play's disk -/
theorem second_open {F S0 : Nat → Prop} (h : PG w W bp bd F S0 p m) (hfs : p.d = Dk.new) {B : Nat} (hlo : LoF B w F S0) (hn : n < 16) :
    Calls Tryz.prog 25 #[.pointer (some ⟨bd, 0, none⟩), .int .i64 (n : Int)] W fun e W' => ∃ bl2, e = .returned (.tuple #[.pointer (some ⟨bl2, 0, none⟩), .int .i64 0]) ∧ Touch (fun k => B ≤ k) W W' ∧ W'.cell? ⟨bp, 0, none⟩ = some (.pointer (some ⟨bd, 0, none⟩)) ∧ (∀ W2, W2 = W'.alloc (.cells #[.pointer (some ⟨bd, 0, none⟩), .pointer (some ⟨bl2, 0, none⟩), .int .i64 (n : Int), .int .i64 0, .slice none 0 0, .slice none 0 0, .slice none 0 0, .slice none 0 0, .int .i64 (-1)] 38) → TP W2 bp W'.heap.size bd B p (PS.new (n * 1048576)) m n) := by
  obtain ⟨bl1, S, R1, Q1, l1, sv1, rv1, vs1, cv1, mv1, kv1, tv1, hx⟩ := h
  have hlo2 := hx.lo hlo
  have hs := hx.tch.size
  have h1 := hx.pm
  refine (lopen_shape h1.ld.dk (by rw [hfs]; exact new_small) (by omega) (by rw [hfs]; exact Nat.zero_le _) hn (by rw [hfs]; exact new_shape (n * 1048576) fun _ => False)).mono ?_
  rintro e W' ⟨ht, bl2, R2, sv2, rv2, vs2, rfl, hld, hnew⟩
  have p1 : PM W' bp bd bl1 S R1 Q1 { p with d := p.d } l1 m sv1 rv1 vs1 cv1 mv1 kv1 tv1 := h1.beside ht h1.notS hld.dk fun k hk e => h1.notS k e hk
  refine ⟨bl2, rfl, ht.mono fun k _ hk => hlo2 k (.inr hk), p1.blk.cell 0, fun W2 hW2 => ?_⟩
  have hs2 := ht.size
  have hf : Fresh W' W2 := by rw [hW2]; exact (Touch.refl (fun _ => False) W').alloc _
  have hblk : Blk W2 W'.heap.size 38 #[.pointer (some ⟨bd, 0, none⟩), .pointer (some ⟨bl2, 0, none⟩), .int .i64 (n : Int), .int .i64 0, .slice none 0 0, .slice none 0 0, .slice none 0 0, .slice none 0 0, .int .i64 (-1)] := by rw [hW2]; exact Blk.new _ _ _
  have hpo : ∀ k, pown W'.heap.size (.slice none 0 0) (.slice none 0 0) (.slice none 0 0) k → k = W'.heap.size := fun k hk => by
    rcases hk with hk | hk | hk | hk
    · exact hk
    · cases hk
    · cases hk
    · cases hk
  have hlt2 := hld.lt
  have hSlt := hld.dk.below
  have hld2 : LD W' bl2 bd S R2 (openP [] (n * 1048576)) Dk.new sv2 rv2 vs2 := by rw [hfs] at hld; exact hld
  have p2 : PM W2 W'.heap.size bd bl2 S R2 (fun _ => False) (PS.new (n * 1048576)) (openP [] (n * 1048576)) n sv2 rv2 vs2 (.slice none 0 0) (.slice none 0 0) (.slice none 0 0) (.slice none 0 0) := by
    refine ⟨hblk, hld2.fresh hf, Alk.refl _, CM.nil_ _ _, ⟨[], rfl, Ow.nil_ _ _ _, fun i c hi => by simp [PS.new] at hi⟩, Ow.nil_ _ _ _, Ow.nil_ _ _ _, fun k hk => (by cases hk), fun k hk => ?_, fun k hk => hk.elim, fun k hk => hk.elim⟩
    have hk2 := hk.elim (hpo k) fun e => e.elim
    exact ⟨fun e => by have := hlt2 k (.inl e); omega, fun e => by have := hlt2 k (.inr e); omega, fun e => by have := hSlt k e; omega⟩
  have hlt1 := h1.lt
  have hl1 := hlo.1
  have hnew2 : ∀ k, pfoot W'.heap.size bl2 R2 (fun _ => False) sv2 rv2 (.slice none 0 0) (.slice none 0 0) (.slice none 0 0) k → W.heap.size ≤ k := fun k hk => by
    rcases hk with hk | hk | hk | hk
    · exact hnew k (.inl hk)
    · exact hnew k (.inr hk)
    · have := hpo k hk; omega
    · exact hk.elim
  refine ⟨S, bl1, R1, Q1, l1, sv1, rv1, vs1, cv1, mv1, kv1, tv1, bl2, R2, (fun _ => False), openP [] (n * 1048576), sv2, rv2, vs2, .slice none 0 0, .slice none 0 0, .slice none 0 0, .slice none 0 0, (p1.same.fresh hf).pm, p2, fun k a b => ?_, fun k hk => ?_, hfs.symm⟩
  · have := hlt1 k a; have := hnew2 k b; omega
  · rcases hk with hk | hk | hk
    · exact hlo2 k (.inl hk)
    · have := hnew2 k hk; omega
    · exact hlo2 k (.inr hk)
set_option maxRecDepth 20000 in
/-- a number or a disk that is none -/
theorem open_bad (W : World) (a : Option Addr) (n : Nat) (h : a = none ∨ n = 16) (hn : n ≤ 16) : Calls Tryz.prog 25 #[.pointer a, .int .i64 (n : Int)] W fun e W' => e = .returned (.tuple #[.pointer none, .int .i64 1]) ∧ W' = W := by
  rcases h with rfl | rfl
  · go_enter Tryz.func25, Tryz.ntmps25
    go_wp2_with fail
    go_ret2
    exact ⟨rfl, rfl⟩
  · cases a with
    | none =>
      go_enter Tryz.func25, Tryz.ntmps25
      go_wp2_with fail
      go_ret2
      exact ⟨rfl, rfl⟩
    | some a =>
      go_enter Tryz.func25, Tryz.ntmps25
      go_wp2_with fail
      go_ret2
      exact ⟨rfl, rfl⟩
end
end Go.Proofs.YtlcmnihpfpmajaaGreat
