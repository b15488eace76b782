/- What the laws of wal ask of a play: its calls, its content, its end. Conditions stand with each. -/
import Derived.Test.YtlcmnihpfpmajaaGreatZa49
namespace Go.Proofs.YtlcmnihpfpmajaaGreat
open Go.RowKit
/-- an Op of those that came in, where it lies in a later world -/
theorem OpsAt.spot {w : World} {A : Option Addr} {n c j : Nat} {ops : List OpD} (h : OpsAt w A n c ops) (hj : j < n) : ∃ b off o, A = some ⟨b, off, none⟩ ∧ ops[j]? = some o := by
  have hlen := h.len
  obtain ⟨b, off, rfl⟩ := h.vs.at_ (by omega)
  exact ⟨b, off, ops[j]'(by omega), rfl, List.getElem?_eq_getElem _⟩
theorem OpsAt.rd {w W : World} {b off n c j : Nat} {ops : List OpD} {o : OpD} (h : OpsAt w (some ⟨b, off, none⟩) n c ops) (ho : ops[j]? = some o) (hf : Fresh w W) : OpAt w.heap.size W o ∧
    W.cell? ⟨b, off + j * 5, none⟩ = some (.int .i64 o.Do) ∧ W.cell? ⟨b, off + j * 5 + 1, none⟩ = some (.int .i64 o.N) ∧ W.cell? ⟨b, off + j * 5 + 2, none⟩ = some (.int .i64 o.K) ∧ W.cell? ⟨b, off + j * 5 + 3, none⟩ = some (.slice o.A o.m o.c) ∧ W.cell? ⟨b, off + j * 5 + 4, none⟩ = some (.slice o.C o.nc o.cc) := by
  have hv := h.vs.fresh hf
  have hx := fun r hr => flat_at OpD.cells 5 (fun _ => rfl) ops j r o ho hr
  exact ⟨(h.op o (List.mem_of_getElem? ho)).touch hf fun _ e => e.elim, hv.cellAt (hx 0 (by omega)), hv.cellAt (hx 1 (by omega)), hv.cellAt (hx 2 (by omega)), hv.cellAt (hx 3 (by omega)), hv.cellAt (hx 4 (by omega))⟩
/-- a play whose log and content can be told -/
def PT (w1 W : World) (bp bd : Nat) (F S : Nat → Prop) (p : PS) (n bl : Nat) (vA : Option Addr) (vc : Nat) : Prop := ∃ S1 R1 Q1 l1 sv1 rv1 vs1 mv1 kv1 tv1, PX w1 W bp bd F S bl S1 R1 Q1 p l1 n sv1 rv1 vs1 (.slice vA p.c.rows.length vc) mv1 kv1 tv1
section
variable {w w' w1 W : World} {bp bd bl n : Nat} {F S : Nat → Prop} {p : PS} {vA : Option Addr} {vc i T : Nat}
theorem PG.pt (h : PG w1 W bp bd F S p n) : ∃ bl vA vc, PT w1 W bp bd F S p n bl vA vc := by
  obtain ⟨bl, S1, R1, Q1, l1, sv1, rv1, vs1, cv1, mv1, kv1, tv1, hx⟩ := h
  obtain ⟨vA, vc, rfl, _⟩ := hx.pm.c.form
  exact ⟨bl, vA, vc, S1, R1, Q1, l1, sv1, rv1, vs1, mv1, kv1, tv1, hx⟩
theorem PT.pg (h : PT w1 W bp bd F S p n bl vA vc) : PG w1 W bp bd F S p n := by
  obtain ⟨S1, R1, Q1, l1, sv1, rv1, vs1, mv1, kv1, tv1, hx⟩ := h
  exact hx.pg
theorem PT.cells (h : PT w1 W bp bd F S p n bl vA vc) : W.cell? ⟨bp, 0, none⟩ = some (.pointer (some ⟨bd, 0, none⟩)) ∧ W.cell? ⟨bp, 1, none⟩ = some (.pointer (some ⟨bl, 0, none⟩)) ∧ W.cell? ⟨bp, 3, none⟩ = some (.int .i64 (p.c.first : Int)) ∧ W.cell? ⟨bp, 4, none⟩ = some (.slice vA p.c.rows.length vc) := by
  obtain ⟨S1, R1, Q1, l1, sv1, rv1, vs1, mv1, kv1, tv1, hx⟩ := h
  exact ⟨hx.pm.blk.cell 0, hx.pm.blk.cell 1, hx.pm.blk.cell 3, hx.pm.blk.cell 4⟩
theorem PT.fresh (h : PT w1 W bp bd F S p n bl vA vc) (hf : Fresh W w') : PT w1 w' bp bd F S p n bl vA vc := by
  obtain ⟨S1, R1, Q1, l1, sv1, rv1, vs1, mv1, kv1, tv1, hx⟩ := h
  exact ⟨S1, R1, Q1, l1, sv1, rv1, vs1, mv1, kv1, tv1, hx.fresh hf⟩
theorem PT.tells (h : PT w1 W bp bd F S p n bl vA vc) (hv : PInv p i T) (hi : i ≤ 200) :
    Calls Tryz.prog 13 #[.pointer (some ⟨bl, 0, none⟩), .agg #[.int .i64 (p.c.first : Int), .slice vA p.c.rows.length vc]] W fun e w' => Fresh W w' ∧ e = .returned (.bool true) := by
  obtain ⟨S1, R1, Q1, l1, sv1, rv1, vs1, mv1, kv1, tv1, hx⟩ := h
  exact tells_px hx.pm hv hi
theorem PT.frozen (h : PT w1 W bp bd F S p n bl vA vc) : W.frozen? ⟨bp, 3, none⟩ = false ∧ W.frozen? ⟨bp, 4, none⟩ = false := by
  obtain ⟨S1, R1, Q1, l1, sv1, rv1, vs1, mv1, kv1, tv1, hx⟩ := h
  exact ⟨hx.pm.blk.frozen 3, hx.pm.blk.frozen 4⟩
/-- a record is appended to the log itself -/
theorem append_pt {W2 : World} {B : Nat} (h : PT w1 W bp bd F S p n bl vA vc) (hl : LoF B w1 F S) (hv : PInv p i T) (hi : i ≤ 200) (hb : p.l.base ≤ 16777216) (hf : Fresh W W2) {A : Option Addr} {m c : Nat} {x : List UInt8} (hx : Bs W2 A m c x) (hxb : ∀ a, A = some a → 0 < m → (W.heap.size ≤ a.block ∨ a.block < B) ∧ a.block < W2.heap.size) (hm : m ≤ 1048576) :
    Calls Tryz.prog 19 #[.pointer (some ⟨bl, 0, none⟩), .slice A m c] W2 fun e w4 => e = .returned (.tuple #[.int .i64 ((appendP p.d p.l x).2.2.1 : Int), .int .i64 (appendP p.d p.l x).2.2.2]) ∧ PT w1 w4 bp bd F S { p with d := (appendP p.d p.l x).1, l := (appendP p.d p.l x).2.1 } n bl vA vc ∧ Bs w4 A m c x := by
  obtain ⟨S1, R1, Q1, l1, sv1, rv1, vs1, mv1, kv1, tv1, hx1⟩ := h
  have h2 := hx1.fresh hf
  have hlt := hx1.pm.lt
  have hSl := hx1.pm.ld.dk.below
  have hlo := hx1.lo hl
  have hout : ∀ a, A = some a → 0 < m → ¬ pfoot bp bl R1 Q1 sv1 rv1 mv1 kv1 tv1 a.block ∧ ¬ S1 a.block ∧ a.block < W2.heap.size := fun a ha h0 => by
    obtain ⟨q1, q2⟩ := hxb a ha h0
    refine ⟨fun e => ?_, fun e => ?_, q2⟩
    · have := hlt _ e; have := hlo _ (.inl e); omega
    · have := hSl _ e; have := hlo _ (.inr e); omega
  refine (append_px h2.pm hv hi hb hx hout hm).mono ?_
  rintro e w4 ⟨rfl, S4, R4, l4, sv4, rv4, vs4, hx4⟩
  refine ⟨rfl, ⟨S4, R4, Q1, l4, sv4, rv4, vs4, mv1, kv1, tv1, h2.trans hx4 (fun _ => id) fun _ => id⟩, hx.touch hx4.tch fun a ha h0 e => ?_⟩
  obtain ⟨q1, q2, _⟩ := hout a ha h0
  exact e.elim q1 q2
/-- the log itself is cut -/
theorem cut_pt (h : PT w1 W bp bd F S p n bl vA vc) (hv : PInv p i T) (hi : i ≤ 200) (hT : T ≤ 900000) (hb : p.l.base ≤ 16777216) (N : Int) :
    Calls Tryz.prog 23 #[.pointer (some ⟨bl, 0, none⟩), .int .i64 N] W fun e w4 => e = .returned (.int .i64 (cutP p.d p.l N).2.2) ∧ PT w1 w4 bp bd F S { p with d := (cutP p.d p.l N).1, l := (cutP p.d p.l N).2.1 } n bl vA vc := by
  obtain ⟨S1, R1, Q1, l1, sv1, rv1, vs1, mv1, kv1, tv1, hx1⟩ := h
  refine (cut_px hx1.pm hv hi hT hb N).mono ?_
  rintro e w4 ⟨rfl, S4, R4, l4, sv4, rv4, vs4, hx4⟩
  exact ⟨rfl, S4, R4, Q1, l4, sv4, rv4, vs4, mv1, kv1, tv1, hx1.trans hx4 (fun _ => id) fun _ => id⟩
/-- a record is put behind the content; the content is stored -/
theorem with_pt (h : PT w1 W bp bd F S p n bl vA vc) (hn : p.c.rows.length ≤ 1000000) {A : Option Addr} {m c : Nat} {x : List UInt8} (hx : Bs W A m c x) (hm : m ≤ 1000000000) :
    Calls Tryz.prog 22 #[.agg #[.int .i64 (p.c.first : Int), .slice vA p.c.rows.length vc], .slice A m c] W fun e W' => Fresh W W' ∧ ∃ xA xc, e = .returned (.agg #[.int .i64 (p.c.first : Int), .slice xA (p.c.add x).rows.length xc]) ∧ PT w1 ((W'.setCell ⟨bp, 3, none⟩ (.int .i64 (p.c.first : Int))).setCell ⟨bp, 4, none⟩ (.slice xA (p.c.add x).rows.length xc)) bp bd F S { p with c := p.c.add x } n bl xA xc := by
  obtain ⟨S1, R1, Q1, l1, sv1, rv1, vs1, mv1, kv1, tv1, hx1⟩ := h
  refine (cwith_any (first := p.c.first) hx1.pm.c hx1.pm.Qlt hn hx hm).mono ?_
  rintro e W' ⟨hf, v', rfl, hcm⟩
  obtain ⟨xA, xc, rfl, _⟩ := CM.form (rows := (p.c.add x).rows) hcm
  exact ⟨hf, xA, xc, rfl, S1, R1, _, l1, sv1, rv1, vs1, mv1, kv1, tv1, (hx1.moreQ hf).setc (c2 := p.c.add x) hcm⟩
/-- a content that lies in memory -/
def CMx (W : World) (v : Value) (rows : List (List UInt8)) : Prop := ∃ Q : Nat → Prop, CM W Q v rows ∧ ∀ k, Q k → k < W.heap.size
theorem CMx.fresh {v : Value} {rows : List (List UInt8)} (h : CMx W v rows) (hf : Fresh W w') : CMx w' v rows := by
  obtain ⟨Q, h1, h2⟩ := h
  exact ⟨Q, h1.touch hf fun _ _ => id, fun k hk => Nat.lt_of_lt_of_le (h2 k hk) hf.size⟩
theorem PT.cm (h : PT w1 W bp bd F S p n bl vA vc) : CMx W (.slice vA p.c.rows.length vc) p.c.rows := by
  obtain ⟨S1, R1, Q1, l1, sv1, rv1, vs1, mv1, kv1, tv1, hx1⟩ := h
  exact ⟨Q1, hx1.pm.c, hx1.pm.Qlt⟩
/-- the content is cut; it is stored -/
theorem ccut_pt (h : PT w1 W bp bd F S p n bl vA vc) (hn : p.c.next ≤ 1000000000) (before : Int) {c2 : Ct} (hc2 : c2 = p.c.cut (min before (p.c.next : Int)).toNat) :
    Calls Tryz.prog 24 #[.agg #[.int .i64 (p.c.first : Int), .slice vA p.c.rows.length vc], .int .i64 before] W fun e W' => Fresh W W' ∧ ∃ xA xc, e = .returned (.agg #[.int .i64 (c2.first : Int), .slice xA c2.rows.length xc]) ∧ CMx W' (.slice xA c2.rows.length xc) c2.rows ∧ PT w1 ((W'.setCell ⟨bp, 3, none⟩ (.int .i64 (c2.first : Int))).setCell ⟨bp, 4, none⟩ (.slice xA c2.rows.length xc)) bp bd F S { p with c := c2 } n bl xA xc := by
  obtain ⟨S1, R1, Q1, l1, sv1, rv1, vs1, mv1, kv1, tv1, hx1⟩ := h
  refine (ccut_any (first := p.c.first) hx1.pm.c (by unfold Ct.next at hn; omega) before).mono ?_
  rintro e W' ⟨hf, v', rfl, hcm⟩
  have e2 : (⟨p.c.first, p.c.rows⟩ : Ct).cut (min before ((⟨p.c.first, p.c.rows⟩ : Ct).next : Int)).toNat = c2 := hc2.symm
  rw [e2] at hcm ⊢
  obtain ⟨xA, xc, rfl, _⟩ := hcm.form
  exact ⟨hf, xA, xc, rfl, ⟨Q1, hcm, fun k hk => Nat.lt_of_lt_of_le (hx1.pm.Qlt k hk) hf.size⟩, S1, R1, Q1, l1, sv1, rv1, vs1, mv1, kv1, tv1, (hx1.fresh hf).setc (c2 := c2) hcm⟩
/-- the play's log beside any content -/
theorem PT.telc (h : PT w1 W bp bd F S p n bl vA vc) (hv : PInv p i T) (hi : i ≤ 200) {c2 : Ct} {v2 : Value} (hc : CMx W v2 c2.rows) (hn : c2.next ≤ 1000000000) :
    Calls Tryz.prog 13 #[.pointer (some ⟨bl, 0, none⟩), .agg #[.int .i64 (c2.first : Int), v2]] W fun e w' => Fresh W w' ∧ e = .returned (.bool (telB p.c c2)) := by
  obtain ⟨S1, R1, Q1, l1, sv1, rv1, vs1, mv1, kv1, tv1, hx⟩ := h
  obtain ⟨Q2, hc, hQ⟩ := hc
  obtain ⟨c1, c2', _, c4, _⟩ := hv.cn hi hx.pm.alk
  have := tells_any hx.pm.ld.lm (by omega) (fun b hb => by have := c4 b hb; omega) (fun k hk => hx.pm.lt k (.inr (.inl hk))) hc hQ hn
  rw [c1] at this
  exact this
theorem PX.pt {w0 : World} {F0 S0 S' R' Q' : Nat → Prop} {l' : Lg} {sv' rv' mv' kv' tv' cv' : Value} {vs' : List Value} (hx : PX w0 W bp bd F0 S0 bl S' R' Q' p l' n sv' rv' vs' cv' mv' kv' tv') : ∃ vA vc, PT w0 W bp bd F0 S0 p n bl vA vc := by
  obtain ⟨vA, vc, rfl, _⟩ := hx.pm.c.form
  exact ⟨vA, vc, S', R', Q', l', sv', rv', vs', mv', kv', tv', hx⟩
/-- an opening where nothing was refused -/
theorem openF_pg (h : PG w1 W bp bd F S p n) (hv : PInv p i T) (hi : i ≤ 150) (hn : n < 16) (hbase : p.l.base = n * 1048576) (hm0 : p.maybe = []) (hk0 : p.cuts = []) :
    Calls Tryz.prog 15 #[.pointer (some ⟨bp, 0, none⟩), .bool false] W fun e w2 => e = .returned (.bool true) ∧ PG w1 w2 bp bd F S p.openS n := by
  obtain ⟨bl, S1, R1, Q1, l1, sv1, rv1, vs1, cv1, mv1, kv1, tv1, hx⟩ := h
  obtain ⟨q1, q2, q3⟩ := hv.openS (by omega) hm0 hk0
  rw [hbase] at q2 q3
  obtain ⟨ss, hlive, _⟩ := hv.live
  unfold Live at hlive
  rw [hbase] at hlive
  have hl := hv.lens
  have hi1 := hv.next
  refine (opened_px (cr := false) hx.pm hn hlive.shape (hv.small (by omega)) (by have := hv.files; omega) (.inl q2) q3 (by rw [q2]; omega) (by rw [q2]; exact hv.rows) (by omega) (fun x hx => by have := (hv.maybe x hx).1; omega) hv.cuts (by omega) (by omega)).mono ?_
  rintro e w2 ⟨rfl, hpg⟩
  refine ⟨rfl, ?_⟩
  unfold PS.openS
  rw [hbase]
  exact PG.trans hx hpg
/-- nothing but what is new is written -/
theorem PG.new_ (h : PG w1 W bp bd F S p n) (hf : Fresh w w1) (hl : ∀ k, F k ∨ S k → w.heap.size ≤ k) : Fresh w W :=
  hf.trans h.tch fun k hk e => by have := hl k e; omega
/-- the disk crashes -/
theorem crash_pg (h : PG w1 W bp bd F S p n) (hv : PInv p i T) (hi : i ≤ 150) {A : Option Addr} {nn c : Nat} {cuts : List Int} (hz : IsInts W A nn c cuts) (hzw : ∀ x ∈ cuts, -9223372036854775808 ≤ x ∧ x ≤ 9223372036854775807) {B : Nat} (hl : LoF B w1 F S) (hA : ∀ a, A = some a → 0 < nn → a.block < B) :
    Calls Tryz.prog 14 #[.pointer (some ⟨bd, 0, none⟩), .slice A nn c] W fun e w' => e = .returned (.tuple #[]) ∧ ∃ p', p' = { p with d := p.d.crash cuts } ∧ PG w1 w' bp bd F S p' n := by
  obtain ⟨bl, S1, R1, Q1, l1, sv1, rv1, vs1, cv1, mv1, kv1, tv1, hx⟩ := h
  refine (disk_crash hx.pm.ld.dk (hv.small (by omega)) (by omega) hz hzw fun a ha h0 e => ?_).mono ?_
  · have h1 := hA a ha h0
    have h2 := hl.1
    rcases hx.sS _ e with e | e
    · have := hl.2 _ (.inr e); omega
    · omega
  · rintro e w' ⟨rfl, ht, hd⟩
    exact ⟨rfl, _, rfl, (hx.disk ht hd).pg⟩
/-- the log is opened anew behind a crash -/
theorem reopen_pg {cuts : List Int} (h : PG w1 W bp bd F S { p with d := p.d.crash cuts } n) (hv : PInv p i T) (hi : i ≤ 150) (hn : n < 16) (hbase : p.l.base = n * 1048576) :
    Calls Tryz.prog 15 #[.pointer (some ⟨bp, 0, none⟩), .bool true] W fun e w2 => e = .returned (.bool true) ∧ ∃ p2, PG w1 w2 bp bd F S p2 n ∧ PInv { p2 with struck := [], stop := -1 } (i + 1) T ∧ p2.l.base = n * 1048576 ∧ p2.struck = p.struck ∧ p2.stop = p.stop ∧ p2.maybe = [] ∧ p2.cuts = [] ∧ (p2.c = p.c ∨ Al p p2.c) := by
  obtain ⟨bl, S1, R1, Q1, l1, sv1, rv1, vs1, cv1, mv1, kv1, tv1, hx⟩ := h
  obtain ⟨hcr, hcc, hcf⟩ := hv.crash (by omega) cuts
  rw [hbase] at hcr hcc hcf
  obtain ⟨ss, hlive, _⟩ := hcr.live
  unfold Live at hlive
  have hi1 := hv.next
  have hl := hv.lens
  refine (opened_px (cr := true) hx.pm hn hlive.shape (hcr.small (by omega)) (by have := hcr.files; dsimp only at this ⊢; omega) (hcc.imp id fun h => ⟨rfl, h⟩) hcf (by have := hcr.next; dsimp only at this ⊢; omega) hcr.rows (by dsimp only; omega) (fun x hx => by have := (hv.maybe x hx).1; omega) hv.cuts (by dsimp only; omega) (by dsimp only; omega)).mono ?_
  rintro e w2 ⟨rfl, hpg⟩
  exact ⟨rfl, _, PG.trans hx hpg, hcr, rfl, rfl, rfl, rfl, rfl, hcc⟩
end
section
variable {w w' w1 W : World} {bp bd bl n : Nat} {F S : Nat → Prop} {p : PS} {vA : Option Addr} {vc i T : Nat}
/-- a record behind a content that lies in memory -/
theorem cmx_with {first : Nat} {v : Value} {rows : List (List UInt8)} (h : CMx W v rows) (hn : rows.length ≤ 1000000) {A : Option Addr} {m c : Nat} {x : List UInt8} (hx : Bs W A m c x) (hm : m ≤ 1000000000) :
    Calls Tryz.prog 22 #[.agg #[.int .i64 (first : Int), v], .slice A m c] W fun e W' => Fresh W W' ∧ ∃ v', e = .returned (.agg #[.int .i64 (first : Int), v']) ∧ CMx W' v' (rows ++ [x]) := by
  obtain ⟨Q, h1, h2⟩ := h
  refine (cwith_any (first := first) h1 h2 hn hx hm).mono ?_
  rintro e W' ⟨hf, v', rfl, hcm⟩
  refine ⟨hf, v', rfl, _, hcm, fun k hk => ?_⟩
  rcases hk with hk | hk
  · exact Nat.lt_of_lt_of_le (h2 k hk) hf.size
  · exact hk.2
/-- what a play only reads stays -/
theorem PG.keep {R1 Q1 : Nat → Prop} {p1 : PS} {l1 : Lg} {n1 : Nat} {sv1 rv1 : Value} {vs1 : List Value} {cv1 mv1 kv1 tv1 v : Value} {rows : List (List UInt8)} (h : PG w1 W bp bd F S p n) (h1 : PM w1 bp bd bl S R1 Q1 p1 l1 n1 sv1 rv1 vs1 cv1 mv1 kv1 tv1) (hc : CM w1 Q1 v rows) : CMx W v rows := by
  obtain ⟨_, _, _, _, _, _, _, _, _, _, _, _, hx⟩ := h
  exact ⟨Q1, hx.keep h1 hc, fun k hk => Nat.lt_of_lt_of_le (h1.Qlt k hk) hx.tch.size⟩
/-- slices of bytes that came in -/
structure BsD where
  A : Option Addr
  m : Nat
  c : Nat
  xs : List UInt8
def BsD.cells (x : BsD) : List Value := [.slice x.A x.m x.c]
structure BssAt (w : World) (A : Option Addr) (n c : Nat) (l : List BsD) : Prop where
  vs : Vs w 1 A n c (l.flatMap BsD.cells)
  lt : ∀ a, A = some a → 0 < n → a.block < w.heap.size
  bs : ∀ x ∈ l, Bs w x.A x.m x.c x.xs ∧ ∀ a, x.A = some a → 0 < x.m → a.block < w.heap.size
theorem BssAt.len {A : Option Addr} {n c : Nat} {l : List BsD} (h : BssAt w A n c l) : l.length = n := by
  have := h.vs.1
  rw [flat_length BsD.cells 1 (fun _ => rfl)] at this
  omega
theorem BssAt.spot {A : Option Addr} {n c j : Nat} {l : List BsD} (h : BssAt w A n c l) (hj : j < n) : ∃ b off o, A = some ⟨b, off, none⟩ ∧ l[j]? = some o := by
  have hlen := h.len
  obtain ⟨b, off, rfl⟩ := h.vs.at_ (by omega)
  exact ⟨b, off, l[j]'(by omega), rfl, List.getElem?_eq_getElem _⟩
theorem BssAt.rd {b off n c j : Nat} {l : List BsD} {o : BsD} (h : BssAt w (some ⟨b, off, none⟩) n c l) (ho : l[j]? = some o) (hf : Fresh w W) : Bs W o.A o.m o.c o.xs ∧ (∀ a, o.A = some a → 0 < o.m → a.block < w.heap.size) ∧ W.cell? ⟨b, off + j, none⟩ = some (.slice o.A o.m o.c) := by
  have hv := h.vs.fresh hf
  have hx := fun r hr => flat_at BsD.cells 1 (fun _ => rfl) l j r o ho hr
  obtain ⟨q1, q2⟩ := h.bs o (List.mem_of_getElem? ho)
  refine ⟨q1.fresh hf, q2, ?_⟩
  have h0 := hx 0 (by omega)
  rw [Nat.mul_one, Nat.add_zero] at h0
  exact hv.cellAt h0
/-- an Op that holds bytes only -/
def opB (x : BsD) : OpD := ⟨0, 0, 0, x.A, x.m, x.c, x.xs, none, 0, 0, []⟩
def opN (Do N : Int) : OpD := ⟨Do, N, 0, none, 0, 0, [], none, 0, 0, []⟩
def opC (C : Option Addr) (nc cc : Nat) (cuts : List Int) : OpD := ⟨5, 0, 0, none, 0, 0, [], C, nc, cc, cuts⟩
theorem ints_none (W : World) : IsInts W none 0 0 [] := ⟨rfl, Nat.le_refl _, by simp [maxLen], fun h => by omega⟩
theorem bs_none (W : World) : Bs W none 0 0 [] := ⟨rfl, Nat.le_refl _, by simp [maxLen], fun h => by omega⟩
theorem opB_at {B : Nat} {x : BsD} (h : Bs W x.A x.m x.c x.xs) (hb : ∀ a, x.A = some a → 0 < x.m → a.block < B) : OpAt B W (opB x) :=
  ⟨h, hb, ints_none W, (fun a ha => by cases ha), (fun y hy => by cases hy)⟩
theorem opN_at {B : Nat} (W : World) (Do N : Int) : OpAt B W (opN Do N) := ⟨bs_none W, (fun a ha => by cases ha), ints_none W, (fun a ha => by cases ha), (fun y hy => by cases hy)⟩
theorem opC_at {B : Nat} {C : Option Addr} {nc cc : Nat} {cuts : List Int} (h : IsInts W C nc cc cuts) (hb : ∀ a, C = some a → 0 < nc → a.block < B) (hr : ∀ x ∈ cuts, -9223372036854775808 ≤ x ∧ x ≤ 9223372036854775807) : OpAt B W (opC C nc cc cuts) :=
  ⟨bs_none W, (fun a ha => by cases ha), h, hb, hr⟩
theorem doS_B (p : PS) (x : BsD) : p.doS (opB x) = p.app (x.xs.take (min x.m 200)) := by
  unfold PS.doS opB
  exact if_pos (.inl rfl)
theorem doS_4 (p : PS) (N : Int) : p.doS (opN 4 N) = p.haltS (N % 12).toNat := by
  unfold PS.doS opN
  dsimp only
  rw [if_neg (by decide), if_neg (by decide), if_neg (by decide), if_pos (by decide)]
theorem doS_2 (p : PS) (N : Int) : p.doS (opN 2 N) = p.cutS N := by
  unfold PS.doS opN
  dsimp only
  rw [if_neg (by decide), if_pos (by decide)]
theorem doS_C (p : PS) (C : Option Addr) (nc cc : Nat) (cuts : List Int) : p.doS (opC C nc cc cuts) = p.crashS cuts := by
  unfold PS.doS opC
  dsimp only
  rw [if_neg (by decide), if_neg (by decide), if_neg (by decide), if_neg (by decide), if_pos (by decide)]
theorem Calm.haltS_c (m : Nat) : (p.haltS m).c = p.c ∧ (p.haltS m).maybe = p.maybe ∧ (p.haltS m).cuts = p.cuts := ⟨rfl, rfl, rfl⟩
/-- what a record that is appended makes of what might be -/
theorem app_may (p : PS) (b : List UInt8) : ((p.app b).c = p.c.add b ∧ (p.app b).maybe = [] ∧ (p.app b).cuts = []) ∨ ((p.app b).c = p.c ∧ (p.app b).maybe = p.maybe ++ [p.c.add b] ∧ (p.app b).cuts = p.cuts) := by
  unfold PS.app PS.called
  split
  · exact .inl ⟨rfl, rfl, rfl⟩
  · right
    rw [if_neg (by unfold Ct.add; dsimp only; omega)]
    exact ⟨rfl, rfl, rfl⟩
theorem crash_may (h : PInv p i T) (hi : i ≤ 400) (cuts : List Int) : (p.crashS cuts).c = p.c ∨ Al p (p.crashS cuts).c := (h.crash hi cuts).2.1
end
/-- slices of bools that came in -/
structure BoolsAt (w : World) (A : Option Addr) (n c : Nat) (l : List Bool) : Prop where
  vs : Vs w 1 A n c (l.flatMap fun b => [.bool b])
theorem BoolsAt.len {w : World} {A : Option Addr} {n c : Nat} {l : List Bool} (h : BoolsAt w A n c l) : l.length = n := by
  have := h.vs.1
  rw [flat_length (fun b => [Value.bool b]) 1 (fun _ => rfl)] at this
  omega
theorem BoolsAt.rd {w W : World} {A : Option Addr} {n c j : Nat} {l : List Bool} (h : BoolsAt w A n c l) (hj : j < n) (hf : Fresh w W) : ∃ b off o, A = some ⟨b, off, none⟩ ∧ W.cell? ⟨b, off + j, none⟩ = some (.bool o) := by
  have hlen := h.len
  obtain ⟨b, off, rfl⟩ := h.vs.at_ (by omega)
  have hv := h.vs.fresh hf
  have h0 := flat_at (fun b => [Value.bool b]) 1 (fun _ => rfl) l j 0 (l[j]'(by omega)) (List.getElem?_eq_getElem _) (by omega)
  rw [Nat.mul_one, Nat.add_zero] at h0
  exact ⟨b, off, l[j]'(by omega), rfl, hv.cellAt h0⟩
theorem ints_rd {w W : World} {A : Option Addr} {n c j : Nat} {xs : List Int} (h : IsInts w A n c xs) (hj : j < n) (hf : Fresh w W) : ∃ b off z, A = some ⟨b, off, none⟩ ∧ z ∈ xs ∧ W.cell? ⟨b, off + j, none⟩ = some (.int .i64 z) := by
  obtain ⟨b, off, rfl, hc⟩ := h.2.2.2 (by omega)
  have hl := h.1
  exact ⟨b, off, xs[j]'(by omega), rfl, List.getElem_mem _, hf.cell (hc j _ (List.getElem?_eq_getElem _)) id⟩
end Go.Proofs.YtlcmnihpfpmajaaGreat
