/- The wal claims' texts, several in one: Pm, Hin, Cal, Bnd. Conditions stand with each theorem. -/
import Derived.Test.YtlcmnihpfpmajaaGreatZa26
import Derived.Test.YtlcmnihpfpmajaaGreatZa41
import Derived.Test.YtlcmnihpfpmajaaGreatZa42
import Derived.Test.YtlcmnihpfpmajaaGreatZa13
import Derived.Deep.RegionHeld3
/- The law's play in memory: its block, its rows of contents, cuts and struck operations, beside its log and disk. No condition but those that stand with each. -/
namespace Go.Proofs.YtlcmnihpfpmajaaGreat
open Go.RowKit

/-- contents in a row: the cells -/
def ctsC : List Ct → List Value → List Value
  | [], _ => []
  | _, [] => []
  | c :: l, v :: vl => .int .i64 (c.first : Int) :: v :: ctsC l vl
theorem ctsC_len : ∀ (l : List Ct) (vl : List Value), vl.length = l.length → (ctsC l vl).length = l.length * 2
  | [], _, _ => rfl
  | c :: l, [], h => by simp at h
  | c :: l, v :: vl, h => by
    have := ctsC_len l vl (by simpa using h)
    simp only [ctsC, List.length_cons, this]
    omega
theorem ctsC_snoc : ∀ (l : List Ct) (vl : List Value) (c : Ct) (v : Value), vl.length = l.length → ctsC (l ++ [c]) (vl ++ [v]) = ctsC l vl ++ [.int .i64 (c.first : Int), v]
  | [], [], _, _, _ => rfl
  | [], _ :: _, _, _, h => by simp at h
  | _ :: _, [], _, _, h => by simp at h
  | a :: l, u :: vl, c, v, h => by
    have := ctsC_snoc l vl c v (by simpa using h)
    simp only [List.cons_append, ctsC, this]
theorem ctsC_get : ∀ (l : List Ct) (vl : List Value) (i : Nat) (c : Ct) (v : Value), l[i]? = some c → vl[i]? = some v → (ctsC l vl)[i * 2]? = some (.int .i64 (c.first : Int)) ∧ (ctsC l vl)[i * 2 + 1]? = some v
  | [], _, _, _, _, h, _ => by simp at h
  | _ :: _, [], _, _, _, _, h => by simp at h
  | a :: l, u :: vl, 0, c, v, h, h' => by
    simp only [List.getElem?_cons_zero, Option.some.injEq] at h h'
    subst h h'
    exact ⟨rfl, rfl⟩
  | a :: l, u :: vl, i + 1, c, v, h, h' => by
    have := ctsC_get l vl i c v (by simpa using h) (by simpa using h')
    rw [show (i + 1) * 2 = i * 2 + 1 + 1 by omega]
    simp only [ctsC, List.getElem?_cons_succ]
    exact this
/-- the contents that might be, in memory -/
def MbM (w : World) (Q : Nat → Prop) (mv : Value) (l : List Ct) : Prop := ∃ vl : List Value, vl.length = l.length ∧ Ow w 35 2 mv l.length (ctsC l vl) ∧ (∀ (i : Nat) (c : Ct), l[i]? = some c → ∃ v, vl[i]? = some v ∧ CM w Q v c.rows)
theorem ctsC_one : ∀ (l : List Ct) (vl : List Value), (∀ v ∈ vl, v.oneCell' = true) → ∀ u ∈ ctsC l vl, u.oneCell' = true
  | [], _, _, u, hu => by cases hu
  | _ :: _, [], _, u, hu => by cases hu
  | c :: l, v :: vl, h, u, hu => by
    rcases List.mem_cons.1 hu with rfl | hu
    · rfl
    · rcases List.mem_cons.1 hu with rfl | hu
      · exact h _ (List.mem_cons_self ..)
      · exact ctsC_one l vl (fun x hx => h x (List.mem_cons_of_mem _ hx)) u hu
def pown (bp : Nat) (mv kv tv : Value) (k : Nat) : Prop := k = bp ∨ mv.ownBlock = some k ∨ kv.ownBlock = some k ∨ tv.ownBlock = some k
/-- the law's play in memory -/
structure PM (w : World) (bp bd bl : Nat) (S R Q : Nat → Prop) (p : PS) (l : Lg) (n : Nat) (sv rv : Value) (vs : List Value) (cv mv kv tv : Value) : Prop where
  blk : Blk w bp 38 #[.pointer (some ⟨bd, 0, none⟩), .pointer (some ⟨bl, 0, none⟩), .int .i64 (n : Int), .int .i64 (p.c.first : Int), cv, mv, kv, tv, .int .i64 p.stop]
  ld : LD w bl bd S R l p.d sv rv vs
  alk : Alk p.l l
  c : CM w Q cv p.c.rows
  mb : MbM w Q mv p.maybe
  ks : Ow w 3 1 kv p.cuts.length (intsV (natsV p.cuts))
  ts : Ow w 3 1 tv p.struck.length (intsV p.struck)
  ap : ∀ k, kv.ownBlock = some k → tv.ownBlock ≠ some k
  dis : ∀ k, pown bp mv kv tv k ∨ Q k → ¬ lfoot bl sv rv k ∧ ¬ R k ∧ ¬ S k
  nQ : ∀ k, Q k → ¬ pown bp mv kv tv k
  Qlt : ∀ k, Q k → k < w.heap.size
/-- the blocks that the play itself writes into, the log's beside -/
def CoreAt (w : World) (bp k : Nat) : Prop := ∃ bd bl S R Q p l n sv rv vs cv mv kv tv, PM w bp bd bl S R Q p l n sv rv vs cv mv kv tv ∧ (lfoot bl sv rv k ∨ pown bp mv kv tv k)
theorem CoreAt.of {w : World} {bp bd bl k : Nat} {S R Q : Nat → Prop} {p : PS} {l : Lg} {n : Nat} {sv rv : Value} {vs : List Value} {cv mv kv tv : Value} (hk : CoreAt w bp k) (h : PM w bp bd bl S R Q p l n sv rv vs cv mv kv tv) : lfoot bl sv rv k ∨ pown bp mv kv tv k := by
  obtain ⟨bd1, bl1, S1, R1, Q1, p1, l1, n1, sv1, rv1, vs1, cv1, mv1, kv1, tv1, h1, h2⟩ := hk
  have a1 : w.cell? ⟨bp, 1, none⟩ = some (.pointer (some ⟨bl, 0, none⟩)) := h.blk.cell 1
  have a2 : w.cell? ⟨bp, 1, none⟩ = some (.pointer (some ⟨bl1, 0, none⟩)) := h1.blk.cell 1
  have b1 : w.cell? ⟨bp, 5, none⟩ = some mv := h.blk.cell 5
  have b2 : w.cell? ⟨bp, 5, none⟩ = some mv1 := h1.blk.cell 5
  have c1 : w.cell? ⟨bp, 6, none⟩ = some kv := h.blk.cell 6
  have c2 : w.cell? ⟨bp, 6, none⟩ = some kv1 := h1.blk.cell 6
  have d1 : w.cell? ⟨bp, 7, none⟩ = some tv := h.blk.cell 7
  have d2 : w.cell? ⟨bp, 7, none⟩ = some tv1 := h1.blk.cell 7
  rw [a1] at a2
  rw [b1] at b2
  rw [c1] at c2
  rw [d1] at d2
  simp only [Option.some.injEq, Value.pointer.injEq, Addr.mk.injEq, and_true] at a2 b2 c2 d2
  subst a2 b2 c2 d2
  have e1 : w.cell? ⟨bl, 2, none⟩ = some sv := h.ld.lm.blk.cell 2
  have e2 : w.cell? ⟨bl, 2, none⟩ = some sv1 := h1.ld.lm.blk.cell 2
  have f1 : w.cell? ⟨bl, 4, none⟩ = some rv := h.ld.lm.blk.cell 4
  have f2 : w.cell? ⟨bl, 4, none⟩ = some rv1 := h1.ld.lm.blk.cell 4
  rw [e1] at e2
  rw [f1] at f2
  simp only [Option.some.injEq] at e2 f2
  subst e2 f2
  exact h2
/-- all of the play's blocks but the disk's -/
def pfoot (bp bl : Nat) (R Q : Nat → Prop) (sv rv mv kv tv : Value) (k : Nat) : Prop := lfoot bl sv rv k ∨ R k ∨ pown bp mv kv tv k ∨ Q k
/-- what a call may leave of a play -/
structure PX (w w' : World) (bp bd : Nat) (F S : Nat → Prop) (bl : Nat) (S' R' Q' : Nat → Prop) (p' : PS) (l' : Lg) (n : Nat) (sv' rv' : Value) (vs' : List Value) (cv' mv' kv' tv' : Value) : Prop where
  pm : PM w' bp bd bl S' R' Q' p' l' n sv' rv' vs' cv' mv' kv' tv'
  tch : Touch (fun k => F k ∨ S k) w w'
  sF : ∀ k, pfoot bp bl R' Q' sv' rv' mv' kv' tv' k → F k ∨ w.heap.size ≤ k
  sS : ∀ k, S' k → S k ∨ w.heap.size ≤ k
  tc : Touch (fun k => CoreAt w bp k ∨ S k) w w'
  sC : ∀ k, lfoot bl sv' rv' k ∨ pown bp mv' kv' tv' k → CoreAt w bp k ∨ w.heap.size ≤ k
/-- some such play -/
def PG (w w' : World) (bp bd : Nat) (F S : Nat → Prop) (p' : PS) (n : Nat) : Prop := ∃ bl S' R' Q' l' sv' rv' vs' cv' mv' kv' tv', PX w w' bp bd F S bl S' R' Q' p' l' n sv' rv' vs' cv' mv' kv' tv'
section
variable {w w' w'' : World} {bp bd bl n : Nat} {S R Q S' R' Q' F : Nat → Prop} {p p' : PS} {l l' : Lg} {sv rv cv mv kv tv sv' rv' cv' mv' kv' tv' : Value} {vs vs' : List Value}
theorem MbM.touch {S : Nat → Prop} {mv : Value} {l : List Ct} (h : MbM w Q mv l) (ht : Touch S w w') (h1 : ∀ k, mv.ownBlock = some k → ¬ S k) (h2 : ∀ k, Q k → ¬ S k) : MbM w' Q mv l := by
  obtain ⟨vl, e, ho, hc⟩ := h
  exact ⟨vl, e, ho.touch ht h1, fun i c hi => by
    obtain ⟨v, h3, h4⟩ := hc i c hi
    exact ⟨v, h3, h4.touch ht h2⟩⟩
theorem MbM.weak {mv : Value} {l : List Ct} (h : MbM w Q mv l) (h2 : ∀ k, Q k → Q' k) : MbM w Q' mv l := by
  obtain ⟨vl, e, ho, hc⟩ := h
  exact ⟨vl, e, ho, fun i c hi => by
    obtain ⟨v, h3, h4⟩ := hc i c hi
    exact ⟨v, h3, h4.weak h2⟩⟩
theorem PM.lt (h : PM w bp bd bl S R Q p l n sv rv vs cv mv kv tv) : ∀ k, pfoot bp bl R Q sv rv mv kv tv k → k < w.heap.size := by
  rintro k (hk | hk | hk | hk)
  · exact h.ld.lm.lt k hk
  · exact h.ld.Rlt k hk
  · rcases hk with rfl | hk | hk | hk
    · exact h.blk.lt
    · obtain ⟨_, _, ho, _⟩ := h.mb; exact ho.lt k hk
    · exact h.ks.lt k hk
    · exact h.ts.lt k hk
  · exact h.Qlt k hk
theorem PM.same (h : PM w bp bd bl S R Q p l n sv rv vs cv mv kv tv) : PX w w bp bd (pfoot bp bl R Q sv rv mv kv tv) S bl S R Q p l n sv rv vs cv mv kv tv :=
  ⟨h, Touch.refl _ _, fun _ => .inl, fun _ => .inl, Touch.refl _ _, fun _ hk => .inl ⟨_, _, _, _, _, _, _, _, _, _, _, _, _, _, _, h, hk⟩⟩
/-- its log and disk change -/
theorem PX.log {S2 R2 : Nat → Prop} {d2 : Dk} {l2 pl2 : Lg} {sv2 rv2 : Value} {vs2 : List Value} (h : PX w w' bp bd F S bl S' R' Q' p' l' n sv' rv' vs' cv' mv' kv' tv')
    (hx : LX w' w'' bl bd S' R' sv' rv' l2 d2 S2 R2 sv2 rv2 vs2) (ha : Alk pl2 l2) : PX w w'' bp bd F S bl S2 R2 Q' { p' with d := d2, l := pl2 } l2 n sv2 rv2 vs2 cv' mv' kv' tv' := by
  have hm := h.pm
  have hlt := hm.lt
  have hs := h.tch.size
  have hT := hx.tch
  have hs2 := hT.size
  have d1 : ∀ k, pown bp mv' kv' tv' k ∨ Q' k → ¬ (lfoot bl sv' rv' k ∨ S' k) := fun k hk hx => by
    obtain ⟨q1, q2, q3⟩ := hm.dis k hk
    exact hx.elim q1 q3
  have d2 : ∀ k, pown bp mv' kv' tv' k ∨ Q' k → k < w'.heap.size := fun k hk => hlt k (hk.elim (fun h => .inr (.inr (.inl h))) fun h => .inr (.inr (.inr h)))
  refine ⟨⟨hm.blk.touch hT (d1 bp (.inl (.inl rfl))), hx.ld, ha, hm.c.touch hT fun k hk => d1 k (.inr hk), hm.mb.touch hT (fun k hk => d1 k (.inl (.inr (.inl hk)))) fun k hk => d1 k (.inr hk),
    hm.ks.touch hT fun k hk => d1 k (.inl (.inr (.inr (.inl hk)))), hm.ts.touch hT fun k hk => d1 k (.inl (.inr (.inr (.inr hk)))), hm.ap, fun k hk => ?_, hm.nQ, fun k hk => by have := hm.Qlt k hk; omega⟩, ?_, fun k hk => ?_, fun k hk => ?_, h.tc.trans hT fun k hk hf => ?_, fun k hk => ?_⟩
  · obtain ⟨q1, q2, q3⟩ := hm.dis k hk
    have q4 := d2 k hk
    exact ⟨fun e => (hx.sF k e).elim q1 (by omega), fun e => (hx.sR k e).elim q2 (by omega), fun e => (hx.sS k e).elim q3 (by omega)⟩
  · refine h.tch.trans hT fun k hk hf => ?_
    rcases hf with hf | hf
    · exact (h.sF k (.inl hf)).elim .inl (by omega)
    · exact (h.sS k hf).elim .inr (by omega)
  · rcases hk with hk | hk | hk
    · exact (hx.sF k hk).elim (fun e => h.sF k (.inl e)) (by omega)
    · exact (hx.sR k hk).elim (fun e => h.sF k (.inr (.inl e))) (by omega)
    · exact h.sF k (.inr (.inr hk))
  · exact (hx.sS k hk).elim (h.sS k) (by omega)
  · rcases hf with hf | hf
    · exact (h.sC k (.inl hf)).elim .inl (by omega)
    · exact (h.sS k hf).elim .inr (by omega)
  · rcases hk with hk | hk
    · exact (hx.sF k hk).elim (fun e => h.sC k (.inl e)) (by omega)
    · exact h.sC k (.inr hk)
theorem PX.fresh (h : PX w w' bp bd F S bl S' R' Q' p' l' n sv' rv' vs' cv' mv' kv' tv') (hf : Fresh w' w'') : PX w w'' bp bd F S bl S' R' Q' p' l' n sv' rv' vs' cv' mv' kv' tv' := by
  have h1 := h.log (h.pm.ld.same.fresh hf) h.pm.alk
  exact h1
/-- only the disk changes -/
theorem PX.disk {d2 : Dk} (h : PX w w' bp bd F S bl S' R' Q' p' l' n sv' rv' vs' cv' mv' kv' tv') (ht : Touch S' w' w'') (hd : Disk w'' (more S' w' w'') bd d2) : PX w w'' bp bd F S bl (more S' w' w'') R' Q' { p' with d := d2 } l' n sv' rv' vs' cv' mv' kv' tv' :=
  h.log (h.pm.ld.same.disk ht hd) h.pm.alk
/-- stores into the play's own blocks; new rows of its own; more blocks that are only read -/
theorem PX.own {Q2 : Nat → Prop} {p2 : PS} {cv2 mv2 kv2 tv2 : Value} (h : PX w w' bp bd F S bl S' R' Q' p' l' n sv' rv' vs' cv' mv' kv' tv') (ht : Touch (pown bp mv' kv' tv') w' w'')
    (hd : p2.d = p'.d) (hl : p2.l = p'.l)
    (hb : Blk w'' bp 38 #[.pointer (some ⟨bd, 0, none⟩), .pointer (some ⟨bl, 0, none⟩), .int .i64 (n : Int), .int .i64 (p2.c.first : Int), cv2, mv2, kv2, tv2, .int .i64 p2.stop])
    (hc : CM w'' Q2 cv2 p2.c.rows) (hm : MbM w'' Q2 mv2 p2.maybe) (hk : Ow w'' 3 1 kv2 p2.cuts.length (intsV (natsV p2.cuts))) (hts : Ow w'' 3 1 tv2 p2.struck.length (intsV p2.struck)) (hap : ∀ k, kv2.ownBlock = some k → tv2.ownBlock ≠ some k)
    (h1 : ∀ k, mv2.ownBlock = some k ∨ kv2.ownBlock = some k ∨ tv2.ownBlock = some k → pown bp mv' kv' tv' k ∨ (w'.heap.size ≤ k ∧ ¬ Q2 k)) (h2 : ∀ k, Q2 k → Q' k ∨ (w.heap.size ≤ k ∧ k < w''.heap.size ∧ ¬ pfoot bp bl R' Q' sv' rv' mv' kv' tv' k ∧ ¬ S' k)) :
    PX w w'' bp bd F S bl S' R' Q2 p2 l' n sv' rv' vs' cv2 mv2 kv2 tv2 := by
  have hp := h.pm
  have hlt := hp.lt
  have hs := h.tch.size
  have hs2 := ht.size
  have hSlt := hp.ld.dk.below
  have hLlt := hp.ld.lt
  have own2 : ∀ k, pown bp mv2 kv2 tv2 k → pown bp mv' kv' tv' k ∨ (w'.heap.size ≤ k ∧ ¬ Q2 k) := fun k hk => by
    rcases hk with rfl | hk
    · exact .inl (.inl rfl)
    · exact h1 k hk
  refine ⟨⟨hb, ?_, by rw [hl]; exact hp.alk, hc, hm, hk, hts, hap, fun k hk => ?_, fun k hk hp2 => ?_, fun k hk => ?_⟩, ?_, fun k hk => ?_, h.sS, h.tc.trans ht fun k hk hf => (h.sC k (.inr hf)).elim .inl (by omega), fun k hk => ?_⟩
  · have h3 := hp.ld.lm.touch ht fun k hk hf => by
      have h4 := hp.dis k (.inl hf)
      rcases hk with hk | hk
      · exact h4.1 hk
      · exact h4.2.1 hk
    rw [hd]
    exact ⟨h3, hp.ld.dk.touch ht fun k hk hf => (hp.dis k (.inl hf)).2.2 hk, hp.ld.dis, hp.ld.nR, fun k hk => by have := hp.ld.Rlt k hk; omega⟩
  · rcases hk with hk | hk
    · rcases own2 k hk with h3 | h3
      · exact hp.dis k (.inl h3)
      · exact ⟨fun e => by have := hLlt k (.inl e); omega, fun e => by have := hLlt k (.inr e); omega, fun e => by have := hSlt k e; omega⟩
    · rcases h2 k hk with h3 | ⟨_, _, h4, h5⟩
      · exact hp.dis k (.inr h3)
      · exact ⟨fun e => h4 (.inl e), fun e => h4 (.inr (.inl e)), h5⟩
  · rcases own2 k hp2 with h3 | h3
    · rcases h2 k hk with h4 | ⟨_, _, h5, _⟩
      · exact hp.nQ k h4 h3
      · exact h5 (.inr (.inr (.inl h3)))
    · exact h3.2 hk
  · rcases h2 k hk with h3 | h3
    · have := hp.Qlt k h3; omega
    · exact h3.2.1
  · refine h.tch.trans ht fun k hk hf => ?_
    exact (h.sF k (.inr (.inr (.inl hf)))).elim .inl (by omega)
  · rcases hk with hk | hk | hk | hk
    · exact h.sF k (.inl hk)
    · exact h.sF k (.inr (.inl hk))
    · rcases own2 k hk with h3 | h3
      · exact h.sF k (.inr (.inr (.inl h3)))
      · exact .inr (by omega)
    · rcases h2 k hk with h3 | h3
      · exact h.sF k (.inr (.inr (.inr h3)))
      · exact .inr h3.1
  · rcases hk with hk | hk
    · exact h.sC k (.inl hk)
    · rcases own2 k hk with h3 | h3
      · exact h.sC k (.inr h3)
      · exact .inr (by omega)
theorem PX.trans {F2 S2 : Nat → Prop} {bl2 : Nat} {S3 R3 Q3 : Nat → Prop} {p3 : PS} {l3 : Lg} {sv3 rv3 cv3 mv3 kv3 tv3 : Value} {vs3 : List Value} (h : PX w w' bp bd F S bl S' R' Q' p' l' n sv' rv' vs' cv' mv' kv' tv')
    (h2 : PX w' w'' bp bd F2 S2 bl2 S3 R3 Q3 p3 l3 n sv3 rv3 vs3 cv3 mv3 kv3 tv3) (hF : ∀ k, F2 k → pfoot bp bl R' Q' sv' rv' mv' kv' tv' k) (hS : ∀ k, S2 k → S' k) : PX w w'' bp bd F S bl2 S3 R3 Q3 p3 l3 n sv3 rv3 vs3 cv3 mv3 kv3 tv3 := by
  have hs := h.tch.size
  refine ⟨h2.pm, h.tch.trans h2.tch fun k hk hf => ?_, fun k hk => ?_, fun k hk => ?_, h.tc.trans h2.tc fun k hk hf => ?_, fun k hk => ?_⟩
  · rcases hf with hf | hf
    · exact (h.sF k (hF k hf)).elim .inl (by omega)
    · exact (h.sS k (hS k hf)).elim .inr (by omega)
  · exact (h2.sF k hk).elim (fun e => h.sF k (hF k e)) (by omega)
  · exact (h2.sS k hk).elim (fun e => h.sS k (hS k e)) (by omega)
  · rcases hf with hf | hf
    · exact (h.sC k (hf.of h.pm)).elim .inl (by omega)
    · exact (h.sS k (hS k hf)).elim .inr (by omega)
  · exact (h2.sC k hk).elim (fun e => h.sC k (e.of h.pm)) (by omega)
/-- another log in the place of the first one -/
theorem PX.swap {bl2 : Nat} {R2 : Nat → Prop} {l2 pl2 : Lg} {sv2 rv2 : Value} {vs2 : List Value} (h : PX w w' bp bd F S bl S' R' Q' p' l' n sv' rv' vs' cv' mv' kv' tv') (ht : Touch (· = bp) w' w'') (hn : LD w' bl2 bd S' R2 l2 p'.d sv2 rv2 vs2)
    (hfr : ∀ k, lfoot bl2 sv2 rv2 k ∨ R2 k → w.heap.size ≤ k ∧ ¬ pown bp mv' kv' tv' k ∧ ¬ Q' k) (ha : Alk pl2 l2)
    (hb : Blk w'' bp 38 #[.pointer (some ⟨bd, 0, none⟩), .pointer (some ⟨bl2, 0, none⟩), .int .i64 (n : Int), .int .i64 (p'.c.first : Int), cv', .slice none 0 0, .slice none 0 0, tv', .int .i64 p'.stop]) :
    PX w w'' bp bd F S bl2 S' R2 Q' { p' with l := pl2, maybe := [], cuts := [] } l2 n sv2 rv2 vs2 cv' (.slice none 0 0) (.slice none 0 0) tv' := by
  have hp := h.pm
  have hs := h.tch.size
  have hs2 := ht.size
  have hpo : ∀ k, pown bp (.slice none 0 0) (.slice none 0 0) tv' k → pown bp mv' kv' tv' k := fun k hk => by
    rcases hk with hk | hk | hk | hk
    · exact .inl hk
    · cases hk
    · cases hk
    · exact .inr (.inr (.inr hk))
  have hnb : ∀ k, lfoot bl2 sv2 rv2 k ∨ R2 k → k ≠ bp := fun k hk e => (hfr k hk).2.1 (.inl e)
  refine ⟨⟨hb, ⟨hn.lm.touch ht hnb, hn.dk.touch ht fun k hk e => (hp.dis bp (.inl (.inl rfl))).2.2 (e ▸ hk), hn.dis, hn.nR, fun k hk => by have := hn.Rlt k hk; omega⟩, ha, hp.c.touch ht fun k hk e => hp.nQ k hk (.inl e), ⟨[], rfl, Ow.nil_ _ _ _, fun i c hi => by simp at hi⟩, Ow.nil_ _ _ _,
    hp.ts.touch ht fun k hk e => ?_, fun k hk => (by cases hk), fun k hk => ⟨fun e => ?_, fun e => ?_, ?_⟩, fun k hk hq => hp.nQ k hk (hpo k hq), fun k hk => by have := hp.Qlt k hk; omega⟩, ?_, fun k hk => ?_, h.sS, h.tc.trans ht fun k hk hf => (h.sC k (.inr (.inl hf))).elim .inl (by omega), fun k hk => ?_⟩
  · exact hp.ts.ne_blk hp.blk (by decide) (by rw [hk, e])
  · obtain ⟨_, q1, q2⟩ := hfr k (.inl e)
    exact hk.elim (fun hk => q1 (hpo k hk)) q2
  · obtain ⟨_, q1, q2⟩ := hfr k (.inr e)
    exact hk.elim (fun hk => q1 (hpo k hk)) q2
  · exact (hp.dis k (hk.imp (hpo k) id)).2.2
  · refine h.tch.trans ht fun k hk hf => ?_
    exact (h.sF k (.inr (.inr (.inl (.inl hf))))).elim .inl (by omega)
  · rcases hk with hk | hk | hk | hk
    · exact .inr (hfr k (.inl hk)).1
    · exact .inr (hfr k (.inr hk)).1
    · exact h.sF k (.inr (.inr (.inl (hpo k hk))))
    · exact h.sF k (.inr (.inr (.inr hk)))
  · rcases hk with hk | hk
    · exact .inr (hfr k (.inl hk)).1
    · exact h.sC k (.inr (hpo k hk))
theorem PX.pg (h : PX w w' bp bd F S bl S' R' Q' p' l' n sv' rv' vs' cv' mv' kv' tv') : PG w w' bp bd F S p' n := ⟨_, _, _, _, _, _, _, _, _, _, _, _, h⟩
theorem PX.wide {F2 S2 : Nat → Prop} (h : PX w w' bp bd F S bl S' R' Q' p' l' n sv' rv' vs' cv' mv' kv' tv') (hF : ∀ k, F k → F2 k) (hS : ∀ k, S k → S2 k) : PX w w' bp bd F2 S2 bl S' R' Q' p' l' n sv' rv' vs' cv' mv' kv' tv' :=
  ⟨h.pm, h.tch.mono fun k _ hk => hk.imp (hF k) (hS k), fun k hk => (h.sF k hk).imp (hF k) id, fun k hk => (h.sS k hk).imp (hS k) id, h.tc.mono fun k _ hk => hk.imp id (hS k), h.sC⟩
/-- what the play only reads is not written -/
theorem PX.keep {bl1 : Nat} {R1 Q1 : Nat → Prop} {p1 : PS} {l1 : Lg} {n1 : Nat} {sv1 rv1 : Value} {vs1 : List Value} {cv1 mv1 kv1 tv1 v : Value} {rows : List (List UInt8)} (h : PX w w' bp bd F S bl S' R' Q' p' l' n sv' rv' vs' cv' mv' kv' tv') (h1 : PM w bp bd bl1 S R1 Q1 p1 l1 n1 sv1 rv1 vs1 cv1 mv1 kv1 tv1) (hc : CM w Q1 v rows) : CM w' Q1 v rows :=
  hc.touch h.tc fun k hk e => by
    rcases e with e | e
    · rcases e.of h1 with e | e
      · exact (h1.dis k (.inr hk)).1 e
      · exact h1.nQ k hk e
    · exact (h1.dis k (.inr hk)).2.2 e
end
end Go.Proofs.YtlcmnihpfpmajaaGreat

/- The law's hindered and calls. Conditions stand with each. -/
namespace Go.Proofs.YtlcmnihpfpmajaaGreat
open Go.RowKit
section
variable {w : World} {bp bd bl n : Nat} {S R Q : Nat → Prop} {p : PS} {l : Lg} {sv rv cv mv kv tv : Value} {vs : List Value}
def hitS (lo hi : Nat) (s : Int) : Bool := decide ((lo : Int) ≤ s) && decide (s < (hi : Int))
theorem hindered_eq (lo hi : Nat) : hindered p lo hi = (p.struck.any (hitS lo hi) || (decide (0 ≤ p.stop) && decide (p.stop < (hi : Int)))) := rfl
set_option maxRecDepth 20000 in
set_option maxHeartbeats 4000000 in
theorem hindered_any (h : PM w bp bd bl S R Q p l n sv rv vs cv mv kv tv) (hs : p.struck.length ≤ 1000000) (lo : Nat) :
    Calls Tryz.prog 57 #[.pointer (some ⟨bp, 0, none⟩), .int .i64 (lo : Int)] w fun e w' => e = .returned (.bool (hindered p lo p.d.ops)) ∧ w' = w := by
  have KO := Lib.hid (disk_ops h.ld.dk)
  obtain ⟨hi, hhi⟩ : ∃ hi, hi = p.d.ops := ⟨_, rfl⟩
  rw [← hhi] at KO ⊢
  obtain ⟨m, hm⟩ : ∃ m, m = p.struck.length := ⟨_, rfl⟩
  obtain ⟨tA, tc, htv, _, _, htA⟩ := h.ts.form
  have hts := h.ts
  rw [htv] at hts
  rw [← hm] at hts htv htA
  have b0 : w.cell? ⟨bp, 0, none⟩ = some (.pointer (some ⟨bd, 0, none⟩)) := h.blk.cell 0
  have b7 : w.cell? ⟨bp, 7, none⟩ = some (.slice tA m tc) := by rw [← htv]; exact h.blk.cell 7
  have b8 : w.cell? ⟨bp, 8, none⟩ = some (.int .i64 p.stop) := h.blk.cell 8
  obtain ⟨ts, hts0⟩ : ∃ ts, ts = p.struck := ⟨_, rfl⟩
  have HE := Lib.hid (show hindered p lo hi = (ts.any (hitS lo hi) || (decide (0 ≤ p.stop) && decide (p.stop < (hi : Int)))) by rw [hts0]; rfl)
  rw [← hts0] at hm hts
  rw [← hts0, ← hm] at hs
  obtain ⟨stp, hstp⟩ : ∃ stp, stp = p.stop := ⟨_, rfl⟩
  rw [← hstp] at b8 HE
  have HTS := Lib.hid hts; have HM := Lib.hid hm
  clear h hm htv hts hts0 hhi hstp
  go_enter Tryz.func57, Tryz.ntmps57
  go_wp2_with fail
  refine KO.out.mono ?_
  rintro e w' ⟨rfl, rfl⟩
  go_wp2_with fail
  go_loopw [6] (fun i wr => ∃ k : Nat, k ≤ m ∧ i = .int .i64 k ∧ wr = w ∧ (ts.take k).any (hitS lo hi) = false) (fun i _ => m - (intOf i).toNat)
  case atStart => exact ⟨0, Nat.zero_le _, rfl, rfl, rfl⟩
  case round =>
    obtain ⟨k, hk, rfl, rfl, ha⟩ := hrel
    have HA := Lib.hid ha
    clear ha
    by_cases hlt : k < m
    · obtain ⟨g, o, rfl⟩ : ∃ g o, tA = some ⟨g, o, none⟩ := by
        rcases htA with ⟨_, h2, _⟩ | ⟨g, o, e⟩
        · omega
        · exact ⟨g, _, e⟩
      obtain ⟨s, hsk⟩ : ∃ s, ts[k]? = some s := ⟨_, List.getElem?_eq_getElem (by rw [← HM.out]; exact hlt)⟩
      have ck : wr.cell? ⟨g, o + k, none⟩ = some (.int .i64 s) := by
        rw [HTS.out.cell (j := k) (by omega), intsV_get, hsk]
        rfl
      have HSUC := Lib.hid (show (ts.take (k + 1)).any (hitS lo hi) = ((ts.take k).any (hitS lo hi) || hitS lo hi s) by
        rw [List.take_add_one, hsk, List.any_append]
        simp)
      have HSK := Lib.hid (List.mem_of_getElem? hsk)
      have hwk : IntKind.i64.wrap ((k : Int) + 1) = (k : Int) + 1 := IntWalk.i64_in _ (by omega)
      clear hsk htA
      by_cases h1 : (lo : Int) ≤ s
      · have h1d : decide ((lo : Int) ≤ s) = true := decide_eq_true h1
        by_cases h2 : s < (hi : Int)
        · have h2d : decide (s < (hi : Int)) = true := decide_eq_true h2
          go_wp2_with fail
          go_ret
          refine ⟨?_, rfl⟩
          rw [HE.out, show ts.any (hitS lo hi) = true from List.any_eq_true.2 ⟨s, HSK.out, by unfold hitS; rw [h1d, h2d]; rfl⟩]
          rfl
        · have h2d : decide (s < (hi : Int)) = false := decide_eq_false h2
          go_wp2_with fail
          go_roundw
          case rel => exact ⟨k + 1, by omega, by go_num, by first | rfl | trivial, by rw [HSUC.out, HA.out]; unfold hitS; rw [h2d, Bool.and_false]; rfl⟩
          case measure => simp [intOf] <;> omega
      · have h1d : decide ((lo : Int) ≤ s) = false := decide_eq_false h1
        go_wp2_with fail
        go_roundw
        case rel => exact ⟨k + 1, by omega, by go_num, by first | rfl | trivial, by rw [HSUC.out, HA.out]; unfold hitS; rw [h1d]; rfl⟩
        case measure => simp [intOf] <;> omega
    · obtain rfl : k = m := by omega
      have hany : ts.any (hitS lo hi) = false := by
        have := HA.out
        rwa [HM.out, List.take_length] at this
      have HANY := Lib.hid hany
      clear hany htA
      by_cases h1 : 0 ≤ stp
      · have h1d : decide (0 ≤ stp) = true := decide_eq_true h1
        by_cases h2 : stp < (hi : Int)
        · have h2d : decide (stp < (hi : Int)) = true := decide_eq_true h2
          go_wp2_with fail
          go_ret
          exact ⟨by rw [HE.out, HANY.out, h1d, h2d]; rfl, rfl⟩
        · have h2d : decide (stp < (hi : Int)) = false := decide_eq_false h2
          go_wp2_with fail
          go_ret
          exact ⟨by rw [HE.out, HANY.out, h1d, h2d]; rfl, rfl⟩
      · have h1d : decide (0 ≤ stp) = false := decide_eq_false h1
        go_wp2_with fail
        go_ret
        exact ⟨by rw [HE.out, HANY.out, h1d]; rfl, rfl⟩
end
end Go.Proofs.YtlcmnihpfpmajaaGreat

/- The law's calls: what a call that would change the content leaves of the play. Conditions stand with it. -/
namespace Go.Proofs.YtlcmnihpfpmajaaGreat
open Go.RowKit
def PS.called (p : PS) (next : Ct) (e : Int) : PS := if e = 0 then { p with c := next, maybe := [], cuts := [] } else if p.c.first < next.first then { p with cuts := p.cuts ++ [next.first] } else { p with maybe := p.maybe ++ [next] }
def PS.calledB (p : PS) (e : Int) (lo : Nat) : Bool := if e = 0 then !p.l.failed else (decide (e = 3) || decide (e = 4)) && hindered p lo p.d.ops && p.l.failed
section
variable {w : World} {bp bd bl n : Nat} {S R Q : Nat → Prop} {p : PS} {l : Lg} {sv rv cv mv kv tv : Value} {vs : List Value}
theorem src_one {P : Program} {t e' : TypeId} (ht : P.underlying t = some (.slice e')) {W : World} {k : Nat} {u : Value} (h : W.cell? ⟨k, 0, none⟩ = some u) (hu : u.oneCell' = true) : Src P 1 t (.slice (some ⟨k, 0, none⟩) 1 1) 1 [u] W := by
  refine Src.ofSlice W ht _ 1 1 [u] rfl (fun j x hj => ?_) (by simpa using hu)
  have h0 : j = 0 := by have := (List.getElem?_eq_some_iff.1 hj).1; simp at this; omega
  subst h0
  injection hj with hj
  rw [← hj, add_flat]
  exact h
theorem src_two {P : Program} {t e' : TypeId} (ht : P.underlying t = some (.slice e')) {W : World} {k : Nat} {u v : Value} (h : W.cell? ⟨k, 0, none⟩ = some u) (h' : W.cell? ⟨k, 1, none⟩ = some v) (hu : u.oneCell' = true) (hv : v.oneCell' = true) : Src P 2 t (.slice (some ⟨k, 0, none⟩) 1 1) 1 [u, v] W := by
  refine Src.ofSlice W ht _ 1 1 [u, v] rfl (fun j x hj => ?_) (by intro y hy; rcases List.mem_cons.1 hy with rfl | hy; exact hu; rw [List.mem_singleton] at hy; rw [hy]; exact hv)
  rw [add_flat, Nat.zero_add]
  have h0 : j < 2 := (List.getElem?_eq_some_iff.1 hj).1
  have : j = 0 ∨ j = 1 := by omega
  rcases this with rfl | rfl
  · injection hj with hj; rw [← hj]; exact h
  · injection hj with hj; rw [← hj]; exact h'
def CalEnd (w : World) (bp bd bl : Nat) (S R Q : Nat → Prop) (p : PS) (l : Lg) (n : Nat) (sv rv : Value) (vs : List Value) (mv kv tv : Value) (next : Ct) (e : Int) (lo : Nat) (x : Ending) (w' : World) : Prop :=
  x = .returned (.bool (p.calledB e lo)) ∧ ∃ cv' mv' kv', PX w w' bp bd (pfoot bp bl R Q sv rv mv kv tv) S bl S R Q (p.called next e) l n sv rv vs cv' mv' kv' tv
/-- a cut that was refused is noted -/
theorem note_cut (h : PM w bp bd bl S R Q p l n sv rv vs cv mv kv tv) {w1 w3 : World} {o : Obj} {m : Nat} {B : Option Addr} {c : Nat} (hf : Fresh w w1) (hg : (w1.alloc o).grownBy w3 kv.ownBlock) (ho : Ow w3 3 1 (.slice B (p.cuts.length + 1) c) (p.cuts.length + 1) (intsV (natsV p.cuts) ++ [.int .i64 (m : Int)]))
    (hb : (Value.slice B (p.cuts.length + 1) c).ownBlock = kv.ownBlock ∨ (Value.slice B (p.cuts.length + 1) c).ownBlock = some (w1.alloc o).heap.size) :
    PX w (w3.setCell ⟨bp, 6, none⟩ (.slice B (p.cuts.length + 1) c)) bp bd (pfoot bp bl R Q sv rv mv kv tv) S bl S R Q { p with cuts := p.cuts ++ [m] } l n sv rv vs cv mv (.slice B (p.cuts.length + 1) c) tv := by
  have hx := h.same.fresh hf
  have hp := hx.pm
  have hlt := hp.lt
  have hsz : w1.heap.size ≤ (w1.alloc o).heap.size := by rw [alloc_size]; omega
  have hkv := hp.ks
  have hbA := hp.blk.alloc o
  have hb3 := hbA.grown hg fun e => hp.ks.ne_blk hp.blk (by decide) e.symm
  have hT3 : Touch (fun k => kv.ownBlock = some k) w1 w3 := ((Touch.refl (fun k => kv.ownBlock = some k) w1).alloc o).grown hg fun k hk => .inr hk
  obtain ⟨w4, hw4⟩ : ∃ w4, w4 = w3.setCell ⟨bp, 6, none⟩ (.slice B (p.cuts.length + 1) c) := ⟨_, rfl⟩
  have hT4 : Touch (fun k => k = bp) w3 w4 := by rw [hw4]; exact (Touch.refl (fun k => k = bp) w3).setCell (p := ⟨bp, 6, none⟩) (.inr rfl) _
  rw [← hw4]
  have hT : Touch (fun k => kv.ownBlock = some k ∨ k = bp) w1 w4 := (hT3.mono fun k _ hk => .inl hk).trans hT4 fun k _ hk => .inr hk
  have hkb : ∀ k, kv.ownBlock = some k ∨ k = bp → pown bp mv kv tv k := fun k hk => hk.elim (fun e => .inr (.inr (.inl e))) .inl
  refine hx.own (hT.mono fun k _ hk => hkb k hk) rfl rfl ?_ (hp.c.touch hT fun k hk e => hp.nQ k hk (hkb k e)) (hp.mb.touch hT (fun k hk e => ?_) fun k hk e => hp.nQ k hk (hkb k e)) ?_ (hp.ts.touch hT fun k hk e => ?_) (fun k hk e => ?_) (fun k hk => ?_) fun k hk => .inl hk
  · rw [hw4]
    have := hb3.set_ 6 (.slice B (p.cuts.length + 1) c)
    simpa using this
  · obtain ⟨vl, _, hmo, _⟩ := hp.mb
    rcases e with e | e
    · exact hmo.ne_ow hkv (by decide) k hk e
    · exact hmo.ne_blk hp.blk (by decide) (by rw [hk, e])
  · have h9 := ho.touch hT4 fun k hk e => ho.ne_blk hb3 (by decide) (by rw [hk, e])
    have h8 : (natsV (p.cuts ++ [m])) = natsV p.cuts ++ [(m : Int)] := by simp [natsV]
    dsimp only
    rw [h8, List.length_append, List.length_singleton]
    have h7 : intsV (natsV p.cuts ++ [(m : Int)]) = intsV (natsV p.cuts) ++ [.int .i64 (m : Int)] := by simp [intsV]
    rw [h7]
    exact h9
  · rcases e with e | e
    · exact hp.ap k e hk
    · exact hp.ts.ne_blk hp.blk (by decide) (by rw [hk, e])
  · rcases hb with hb | hb
    · exact hp.ap k (hb.symm.trans hk) e
    · rw [hk] at hb
      injection hb with hb
      have := hp.ts.lt k e
      rw [alloc_size] at hb
      omega
  · rcases hk with hk | hk | hk
    · exact .inl (.inr (.inl hk))
    · rcases hb with hb | hb
      · exact .inl (.inr (.inr (.inl (hb.symm.trans hk))))
      · rw [hk] at hb
        injection hb with hb
        rw [alloc_size] at hb
        exact .inr ⟨by omega, fun hq => by have := hp.Qlt k hq; omega⟩
    · exact .inl (.inr (.inr (.inr hk)))
/-- a content that might be is noted -/
theorem note_may (h : PM w bp bd bl S R Q p l n sv rv vs cv mv kv tv) {w1 w3 : World} {o : Obj} {next : Ct} {nv : Value} {vl : List Value} (hvl : vl.length = p.maybe.length) (hvc : ∀ (i : Nat) (c : Ct), p.maybe[i]? = some c → ∃ v, vl[i]? = some v ∧ CM w Q v c.rows) (hnv : CM w Q nv next.rows) {B : Option Addr} {c : Nat} (hf : Fresh w w1) (hg : (w1.alloc o).grownBy w3 mv.ownBlock)
    (ho : Ow w3 35 2 (.slice B (p.maybe.length + 1) c) (p.maybe.length + 1) (ctsC p.maybe vl ++ [.int .i64 (next.first : Int), nv]))
    (hb : (Value.slice B (p.maybe.length + 1) c).ownBlock = mv.ownBlock ∨ (Value.slice B (p.maybe.length + 1) c).ownBlock = some (w1.alloc o).heap.size) :
    PX w (w3.setCell ⟨bp, 5, none⟩ (.slice B (p.maybe.length + 1) c)) bp bd (pfoot bp bl R Q sv rv mv kv tv) S bl S R Q { p with maybe := p.maybe ++ [next] } l n sv rv vs cv (.slice B (p.maybe.length + 1) c) kv tv := by
  have hx := h.same.fresh hf
  have hp := hx.pm
  have hlt := hp.lt
  obtain ⟨vl0, _, hmo, _⟩ := hp.mb
  have hbA := hp.blk.alloc o
  have hb3 := hbA.grown hg fun e => hmo.ne_blk hp.blk (by decide) e.symm
  have hT3 : Touch (fun k => mv.ownBlock = some k) w1 w3 := ((Touch.refl (fun k => mv.ownBlock = some k) w1).alloc o).grown hg fun k hk => .inr hk
  obtain ⟨w4, hw4⟩ : ∃ w4, w4 = w3.setCell ⟨bp, 5, none⟩ (.slice B (p.maybe.length + 1) c) := ⟨_, rfl⟩
  have hT4 : Touch (fun k => k = bp) w3 w4 := by rw [hw4]; exact (Touch.refl (fun k => k = bp) w3).setCell (p := ⟨bp, 5, none⟩) (.inr rfl) _
  rw [← hw4]
  have hT : Touch (fun k => mv.ownBlock = some k ∨ k = bp) w1 w4 := (hT3.mono fun k _ hk => .inl hk).trans hT4 fun k _ hk => .inr hk
  have hkb : ∀ k, mv.ownBlock = some k ∨ k = bp → pown bp mv kv tv k := fun k hk => hk.elim (fun e => .inr (.inl e)) .inl
  have hQ4 : ∀ k, Q k → ¬ (mv.ownBlock = some k ∨ k = bp) := fun k hk e => hp.nQ k hk (hkb k e)
  refine hx.own (hT.mono fun k _ hk => hkb k hk) rfl rfl ?_ (hp.c.touch hT hQ4) ⟨vl ++ [nv], by dsimp only; rw [List.length_append, List.length_append, hvl]; rfl, ?_, fun i c hi => ?_⟩ (hp.ks.touch hT fun k hk e => ?_) (hp.ts.touch hT fun k hk e => ?_) hp.ap (fun k hk => ?_) fun k hk => .inl hk
  · rw [hw4]
    have := hb3.set_ 5 (.slice B (p.maybe.length + 1) c)
    simpa using this
  · have h9 := ho.touch hT4 fun k hk e => ho.ne_blk hb3 (by decide) (by rw [hk, e])
    dsimp only
    rw [ctsC_snoc _ _ _ _ hvl, List.length_append, List.length_singleton]
    exact h9
  · have hcm : ∀ {v : Value} {rows : List (List UInt8)}, CM w Q v rows → CM w4 Q v rows := fun hv => (hv.fresh hf).touch hT hQ4
    by_cases hl : i < p.maybe.length
    · dsimp only at hi
      rw [List.getElem?_append_left hl] at hi
      obtain ⟨v, h3, h4⟩ := hvc i c hi
      exact ⟨v, by rw [List.getElem?_append_left (by rw [hvl]; exact hl)]; exact h3, hcm h4⟩
    · dsimp only at hi
      rw [List.getElem?_append_right (by omega)] at hi
      have h0 : i - p.maybe.length = 0 := by have := (List.getElem?_eq_some_iff.1 hi).1; simp at this; omega
      rw [h0] at hi
      injection hi with hi
      subst hi
      exact ⟨nv, by rw [List.getElem?_append_right (by rw [hvl]; omega), hvl, h0]; rfl, hcm hnv⟩
  · rcases e with e | e
    · exact hmo.ne_ow hp.ks (by decide) k e hk
    · exact hp.ks.ne_blk hp.blk (by decide) (by rw [hk, e])
  · rcases e with e | e
    · exact hmo.ne_ow hp.ts (by decide) k e hk
    · exact hp.ts.ne_blk hp.blk (by decide) (by rw [hk, e])
  · rcases hk with hk | hk | hk
    · rcases hb with hb | hb
      · exact .inl (.inr (.inl (hb.symm.trans hk)))
      · rw [hk] at hb
        injection hb with hb
        rw [alloc_size] at hb
        exact .inr ⟨by omega, fun hq => by have := hp.Qlt k hq; omega⟩
    · exact .inl (.inr (.inr (.inl hk)))
    · exact .inl (.inr (.inr (.inr hk)))
/-- what was taken is noted -/
theorem note_good (h : PM w bp bd bl S R Q p l n sv rv vs cv mv kv tv) {w1 : World} {next : Ct} {nv : Value} (hnv : CM w Q nv next.rows) (hf : Fresh w w1) :
    PX w ((((w1.setCell ⟨bp, 3, none⟩ (.int .i64 (next.first : Int))).setCell ⟨bp, 4, none⟩ nv).setCell ⟨bp, 5, none⟩ (.slice none 0 0)).setCell ⟨bp, 6, none⟩ (.slice none 0 0)) bp bd (pfoot bp bl R Q sv rv mv kv tv) S bl S R Q { p with c := next, maybe := [], cuts := [] } l n sv rv vs nv (.slice none 0 0) (.slice none 0 0) tv := by
  have hx := h.same.fresh hf
  have hp := hx.pm
  obtain ⟨w4, hw4⟩ : ∃ w4, w4 = (((w1.setCell ⟨bp, 3, none⟩ (.int .i64 (next.first : Int))).setCell ⟨bp, 4, none⟩ nv).setCell ⟨bp, 5, none⟩ (.slice none 0 0)).setCell ⟨bp, 6, none⟩ (.slice none 0 0) := ⟨_, rfl⟩
  have hT : Touch (fun k => k = bp) w1 w4 := by
    rw [hw4]
    exact ((((Touch.refl (fun k => k = bp) w1).setCell (p := ⟨bp, 3, none⟩) (.inr rfl) _).setCell (p := ⟨bp, 4, none⟩) (.inr rfl) _).setCell (p := ⟨bp, 5, none⟩) (.inr rfl) _).setCell (p := ⟨bp, 6, none⟩) (.inr rfl) _
  rw [← hw4]
  refine hx.own (hT.mono fun k _ hk => .inl hk) rfl rfl ?_ ((hnv.fresh hf).touch hT fun k hk e => hp.nQ k hk (.inl e)) ⟨[], rfl, Ow.nil_ _ _ _, fun i c hi => by simp at hi⟩ (Ow.nil_ _ _ _) (hp.ts.touch hT fun k hk e => hp.ts.ne_blk hp.blk (by decide) (by rw [hk, e])) (fun k hk => (by cases hk)) (fun k hk => ?_) fun k hk => .inl hk
  · rw [hw4]
    have := (((hp.blk.set_ 3 (.int .i64 (next.first : Int))).set_ 4 nv).set_ 5 (.slice none 0 0)).set_ 6 (.slice none 0 0)
    simpa using this
  · rcases hk with hk | hk | hk
    · cases hk
    · cases hk
    · exact .inl (.inr (.inr (.inr hk)))
theorem Tryz.infoCt : (Tryz.prog.info? 35).map (fun i => (i.zero, i.size, i.bytes)) = some (some (.agg #[.int .i64 0, .slice none 0 0]), 2, 32) := by kernel_rfl
theorem blk_ow_grow {W W' : World} {e t : TypeId} {sz n g : Nat} {u : Value} {xs : List Value} {cs : Array Value} (hb : Blk W g t cs) (hg : W.grownBy W' u.ownBlock) (ho : Ow W e sz u n xs) (hne : e ≠ t) : Blk W' g t cs := hb.grown hg fun e' => ho.ne_blk hb hne e'.symm
/-- how calls ends behind its noting of a refusal -/
theorem cal_bool {p p2 : PS} {e : Int} {lo : Nat} (he : ¬ e = 0) (h1 : p2.d = p.d) (h2 : p2.struck = p.struck) (h3 : p2.stop = p.stop) : p.calledB e lo = ((decide (e = 3) || decide (e = 4)) && hindered p2 lo p2.d.ops && p.l.failed) := by
  unfold PS.calledB
  rw [if_neg he]
  unfold hindered
  rw [h1, h2, h3]
set_option maxRecDepth 100000 in
set_option maxHeartbeats 8000000 in
theorem calls_any (h : PM w bp bd bl S R Q p l n sv rv vs cv mv kv tv) (hs : p.struck.length ≤ 1000000) (hkl : p.cuts.length ≤ 1000000) (hml : p.maybe.length ≤ 1000000) {next : Ct} {nv : Value} (hnv : CM w Q nv next.rows) (e : Int) (lo : Nat) :
    Calls Tryz.prog 30 #[.pointer (some ⟨bp, 0, none⟩), .agg #[.int .i64 (next.first : Int), nv], .int .i64 e, .int .i64 (lo : Int)] w (CalEnd w bp bd bl S R Q p l n sv rv vs mv kv tv next e lo) := by
  obtain ⟨nA, nc, rfl, _⟩ := hnv.form
  obtain ⟨nl, hnl⟩ : ∃ nl, nl = next.rows.length := ⟨_, rfl⟩
  rw [← hnl] at hnv ⊢
  obtain ⟨nv, hnvv⟩ : ∃ nv, nv = Value.slice nA nl nc := ⟨_, rfl⟩
  rw [← hnvv] at hnv
  obtain ⟨w1, hw1⟩ : ∃ w1, w1 = w.alloc (.cells #[.int .i64 (next.first : Int), .slice nA nl nc] 35) := ⟨_, rfl⟩
  have hf1 : Fresh w w1 := by rw [hw1]; exact (Touch.refl (fun _ => False) w).alloc _
  have hb0 : Blk w1 w.heap.size 35 #[.int .i64 (next.first : Int), .slice nA nl nc] := by rw [hw1]; exact Blk.new _ _ _
  have HNVV := Lib.hid hnvv
  have HW1 := Lib.hid hw1; have H := Lib.hid h; have HF1 := Lib.hid hf1; have HB0 := Lib.hid hb0; have HNV := Lib.hid hnv
  have hx1 := h.same.fresh hf1
  have z0 : w1.cell? ⟨w.heap.size, 0, none⟩ = some (.int .i64 (next.first : Int)) := hb0.cell 0
  have z1 : w1.cell? ⟨w.heap.size, 1, none⟩ = some (.slice nA nl nc) := hb0.cell 1
  have hne : ¬ bp = w.heap.size := by have := h.blk.lt; omega
  have c3 : w1.cell? ⟨bp, 3, none⟩ = some (.int .i64 (p.c.first : Int)) := hx1.pm.blk.cell 3
  by_cases he : e = 0
  · subst he
    have c1 : w1.cell? ⟨bp, 1, none⟩ = some (.pointer (some ⟨bl, 0, none⟩)) := hx1.pm.blk.cell 1
    have c4 : w1.cell? ⟨bp, 4, none⟩ = some cv := hx1.pm.blk.cell 4
    have c5 : w1.cell? ⟨bp, 5, none⟩ = some mv := hx1.pm.blk.cell 5
    have c6 : w1.cell? ⟨bp, 6, none⟩ = some kv := hx1.pm.blk.cell 6
    have f3 : w1.frozen? ⟨bp, 3, none⟩ = false := hx1.pm.blk.frozen 3
    have f4 : w1.frozen? ⟨bp, 4, none⟩ = false := hx1.pm.blk.frozen 4
    have f5 : w1.frozen? ⟨bp, 5, none⟩ = false := hx1.pm.blk.frozen 5
    have f6 : w1.frozen? ⟨bp, 6, none⟩ = false := hx1.pm.blk.frozen 6
    have hg := note_good h hnv hf1
    rw [hnvv] at hg
    obtain ⟨w2, hw2⟩ : ∃ w2, w2 = (((w1.setCell ⟨bp, 3, none⟩ (.int .i64 (next.first : Int))).setCell ⟨bp, 4, none⟩ (.slice nA nl nc)).setCell ⟨bp, 5, none⟩ (.slice none 0 0)).setCell ⟨bp, 6, none⟩ (.slice none 0 0) := ⟨_, rfl⟩
    rw [← hw2] at hg
    have d1 : w2.cell? ⟨bp, 1, none⟩ = some (.pointer (some ⟨bl, 0, none⟩)) := hg.pm.blk.cell 1
    have KF := Lib.hid (failed_any hg.pm.ld.lm)
    have HG := Lib.hid hg; have HW2 := Lib.hid hw2
    clear h hf1 hb0 hw1 hnv hx1 hg hw2 hs hkl hml hnvv hnl
    go_enter Tryz.func30, Tryz.ntmps30
    go_upto_region 1 with fail
    rw [← HW1.out]
    go_upto_region 4 with fail
    rw [← HW2.out]
    go_wp2_with fail
    refine KF.out.mono ?_
    rintro e w' ⟨rfl, rfl⟩
    go_wp2_with fail
    go_ret
    refine ⟨?_, _, _, _, HG.out⟩
    unfold PS.calledB
    rw [if_pos rfl, ← H.out.alk.failed]
    first | rfl | (cases l.failed <;> rfl)
  · have hed : decide (e = 0) = false := decide_eq_false he
    have heb : (e == 0) = false := by simpa using he
    by_cases hgt : p.c.first < next.first
    · have hgd : decide ((p.c.first : Int) < (next.first : Int)) = true := decide_eq_true (by omega)
      have hgi : (p.c.first : Int) < (next.first : Int) := by omega
      obtain ⟨kA, kc, rfl, _⟩ := h.ks.form
      have HKS := Lib.hid hx1.pm.ks
      have HBP := Lib.hid hx1.pm.blk
      clear h hf1 hb0 hw1 hnv hx1 hml hnvv hnl
      go_enter Tryz.func30, Tryz.ntmps30
      go_upto_region 1 with fail
      rw [← HW1.out]
      go_upto_region 5 with fail
      go_quiet (fail)
      go_upto_region 6 with fail
      generalize hw2 : World.drewN w1 _ = w2
      have hf2 : Fresh w1 w2 := by rw [← hw2]; exact (Touch.refl (fun _ => False) w1).drewN _
      have k6 : w2.cell? ⟨bp, 6, none⟩ = some (.slice kA p.cuts.length kc) := (HBP.out.touch hf2 id).cell 6
      have y0 : w2.cell? ⟨w.heap.size, 0, none⟩ = some (.int .i64 (next.first : Int)) := (HB0.out.touch hf2 id).cell 0
      have k6a : ∀ o, (w2.alloc o).cell? ⟨bp, 6, none⟩ = some (.slice kA p.cuts.length kc) := fun o => ((HBP.out.touch hf2 id).alloc o).cell 6
      have HF2 := Lib.hid hf2
      clear hf2 hw2
      go_region_law (first
        | (refine step_ow_src _ rfl _ _ 27 27 rfl 3 (.int .i64 0) 1 8 Tryz.info3 Tryz.underlying27 rfl (.slice kA p.cuts.length kc) p.cuts.length (intsV (natsV p.cuts)) rfl (by exact (HKS.out.fresh HF2.out).drew.alloc (.cells #[.int .i64 (next.first : Int)] 3)) (intsV_one _) (.slice (some ⟨w2.heap.size, 0, none⟩) 1 1) 1 [.int .i64 (next.first : Int)] rfl (src_one Tryz.underlying27 (by exact box_new w2.drew (.int .i64 (next.first : Int)) 3) rfl) (by unfold maxLen; omega) (by omega) ?_; intro B6 c6 w6 o6 g6 b6; have hb6 := blk_ow_grow (W := w2.drew.alloc (.cells #[.int .i64 (next.first : Int)] 3)) ((HBP.out.touch HF2.out id).drew.alloc _) g6 ((HKS.out.fresh HF2.out).drew.alloc _) (by decide); have e6 : w6.cell? ⟨bp, 6, none⟩ = some (.slice kA p.cuts.length kc) := hb6.cell 6; have f6 : w6.frozen? ⟨bp, 6, none⟩ = false := hb6.frozen 6; have HO6 := Lib.hid o6; have HG6 := Lib.hid g6; have HB6 := Lib.hid b6; clear o6 g6 b6 hb6))
      all_goals
        have hx9 := note_cut (m := next.first) (w1 := w2.drew) (o := .cells #[.int .i64 (next.first : Int)] 3) H.out ((HF1.out.trans HF2.out fun _ _ => id).drew) HG6.out HO6.out HB6.out
        obtain ⟨w9, hw9⟩ : ∃ w9, w9 = w6.setCell ⟨bp, 6, none⟩ (.slice B6 (p.cuts.length + 1) c6) := ⟨_, rfl⟩
        obtain ⟨p2, hp2⟩ : ∃ p2, p2 = ({ p with cuts := p.cuts ++ [next.first] } : PS) := ⟨_, rfl⟩
        rw [← hw9] at hx9 ⊢
        rw [← hp2] at hx9
        clear hw9
        have HX9 := Lib.hid hx9
        have KH := Lib.hid (hindered_any hx9.pm (by rw [hp2]; exact hs) lo)
        have KF := Lib.hid (failed_any hx9.pm.ld.lm)
        have b1 : w9.cell? ⟨bp, 1, none⟩ = some (.pointer (some ⟨bl, 0, none⟩)) := hx9.pm.blk.cell 1
        have HBO := Lib.hid (cal_bool (p := p) (p2 := p2) (lo := lo) he (by rw [hp2]) (by rw [hp2]) (by rw [hp2]))
        obtain ⟨hd, hhd⟩ : ∃ hd, hd = hindered p2 lo p2.d.ops := ⟨_, rfl⟩
        rw [← hhd] at KH HBO
        have HCALL := Lib.hid (show p.called next e = p2 by rw [hp2]; unfold PS.called; rw [if_neg he, if_pos hgt])
        have HAF := Lib.hid H.out.alk.failed
        clear hx9 hhd hp2
        by_cases h3 : e = 3
        · subst h3
          cases hd with
          | true =>
            go_wp2_with fail
            refine KH.out.mono ?_
            rintro x w' ⟨rfl, rfl⟩
            go_wp2_with fail
            refine KF.out.mono ?_
            rintro x w' ⟨rfl, rfl⟩
            go_wp2_with fail
            go_ret
            refine ⟨?_, _, _, _, by rw [HCALL.out]; exact HX9.out⟩
            rw [HBO.out, ← HAF.out]
            first | rfl | (cases l.failed <;> rfl)
          | false =>
            go_wp2_with fail
            refine KH.out.mono ?_
            rintro x w' ⟨rfl, rfl⟩
            go_wp2_with fail
            go_ret
            refine ⟨?_, _, _, _, by rw [HCALL.out]; exact HX9.out⟩
            rw [HBO.out, ← HAF.out]
            first | rfl | (cases l.failed <;> rfl)
        · by_cases h4 : e = 4
          · subst h4
            cases hd with
            | true =>
              go_wp2_with fail
              refine KH.out.mono ?_
              rintro x w' ⟨rfl, rfl⟩
              go_wp2_with fail
              refine KF.out.mono ?_
              rintro x w' ⟨rfl, rfl⟩
              go_wp2_with fail
              go_ret
              refine ⟨?_, _, _, _, by rw [HCALL.out]; exact HX9.out⟩
              rw [HBO.out, ← HAF.out]
              first | rfl | (cases l.failed <;> rfl)
            | false =>
              go_wp2_with fail
              refine KH.out.mono ?_
              rintro x w' ⟨rfl, rfl⟩
              go_wp2_with fail
              go_ret
              refine ⟨?_, _, _, _, by rw [HCALL.out]; exact HX9.out⟩
              rw [HBO.out, ← HAF.out]
              first | rfl | (cases l.failed <;> rfl)
          · have h3b : (e == 3) = false := by simpa using h3
            have h4b : (e == 4) = false := by simpa using h4
            go_wp2_with fail
            go_ret
            refine ⟨?_, _, _, _, by rw [HCALL.out]; exact HX9.out⟩
            rw [HBO.out, decide_eq_false h3, decide_eq_false h4]
            rfl
    · have hgd : decide ((p.c.first : Int) < (next.first : Int)) = false := decide_eq_false (by omega)
      have hgi : ¬ (p.c.first : Int) < (next.first : Int) := by omega
      obtain ⟨vl, hvl, hmo, hvc⟩ := h.mb
      obtain ⟨mA, mc, rfl, _⟩ := hmo.form
      have hone : ∀ u ∈ ctsC p.maybe vl, u.oneCell' = true := ctsC_one _ _ fun v hv => by
        obtain ⟨i, hi⟩ := List.getElem?_of_mem hv
        have hil := (List.getElem?_eq_some_iff.1 hi).1
        obtain ⟨c, hc⟩ : ∃ c, p.maybe[i]? = some c := ⟨_, List.getElem?_eq_getElem (by omega)⟩
        obtain ⟨v', h1, h2⟩ := hvc i c hc
        rw [hi] at h1
        injection h1 with h1
        rw [h1]
        exact h2.one
      have HKS := Lib.hid (hmo.fresh hf1)
      have HBP := Lib.hid hx1.pm.blk
      have HVL := Lib.hid hvl; have HVC := Lib.hid hvc; have HONE := Lib.hid hone
      clear h hf1 hb0 hw1 hnv hx1 hkl hnl hvl hmo hvc hone
      go_enter Tryz.func30, Tryz.ntmps30
      go_upto_region 1 with fail
      rw [← HW1.out]
      go_upto_region 5 with fail
      go_quiet (fail)
      go_upto_region 7 with fail
      generalize hw2 : World.drewN w1 _ = w2
      have hf2 : Fresh w1 w2 := by rw [← hw2]; exact (Touch.refl (fun _ => False) w1).drewN _
      have k5 : w2.cell? ⟨bp, 5, none⟩ = some (.slice mA p.maybe.length mc) := (HBP.out.touch hf2 id).cell 5
      have y0 : w2.cell? ⟨w.heap.size, 0, none⟩ = some (.int .i64 (next.first : Int)) := (HB0.out.touch hf2 id).cell 0
      have y1 : w2.cell? ⟨w.heap.size, 1, none⟩ = some (.slice nA nl nc) := (HB0.out.touch hf2 id).cell 1
      have k5a : ∀ o, (w2.alloc o).cell? ⟨bp, 5, none⟩ = some (.slice mA p.maybe.length mc) := fun o => ((HBP.out.touch hf2 id).alloc o).cell 5
      have HF2 := Lib.hid hf2
      clear hf2 hw2
      go_region_law (first
        | (refine step_ow_src _ rfl _ _ 36 36 rfl 35 (.agg #[.int .i64 0, .slice none 0 0]) 2 32 Tryz.infoCt Tryz.underlying36 rfl (.slice mA p.maybe.length mc) p.maybe.length (ctsC p.maybe vl) rfl (by exact (HKS.out.fresh HF2.out).drew.alloc (.cells #[.int .i64 (next.first : Int), .slice nA nl nc] 35)) HONE.out (.slice (some ⟨w2.heap.size, 0, none⟩) 1 1) 1 [.int .i64 (next.first : Int), .slice nA nl nc] rfl (src_two Tryz.underlying36 (by exact (Blk.new w2.drew 35 #[.int .i64 (next.first : Int), .slice nA nl nc]).cell 0) (by exact (Blk.new w2.drew 35 #[.int .i64 (next.first : Int), .slice nA nl nc]).cell 1) rfl rfl) (by unfold maxLen; omega) (by omega) ?_; intro B6 c6 w6 o6 g6 b6; have hb6 := blk_ow_grow (W := w2.drew.alloc (.cells #[.int .i64 (next.first : Int), .slice nA nl nc] 35)) ((HBP.out.touch HF2.out id).drew.alloc _) g6 ((HKS.out.fresh HF2.out).drew.alloc _) (by decide); have e5 : w6.cell? ⟨bp, 5, none⟩ = some (.slice mA p.maybe.length mc) := hb6.cell 5; have f5 : w6.frozen? ⟨bp, 5, none⟩ = false := hb6.frozen 5; have HO6 := Lib.hid o6; have HG6 := Lib.hid g6; have HB6 := Lib.hid b6; clear o6 g6 b6 hb6))
      all_goals
        have hx9 := note_may (next := next) (nv := .slice nA nl nc) (w1 := w2.drew) (o := .cells #[.int .i64 (next.first : Int), .slice nA nl nc] 35) H.out HVL.out HVC.out (by rw [← hnvv]; exact HNV.out) ((HF1.out.trans HF2.out fun _ _ => id).drew) HG6.out HO6.out HB6.out
        obtain ⟨w9, hw9⟩ : ∃ w9, w9 = w6.setCell ⟨bp, 5, none⟩ (.slice B6 (p.maybe.length + 1) c6) := ⟨_, rfl⟩
        obtain ⟨p2, hp2⟩ : ∃ p2, p2 = ({ p with maybe := p.maybe ++ [next] } : PS) := ⟨_, rfl⟩
        rw [← hw9] at hx9 ⊢
        rw [← hp2] at hx9
        clear hw9 hnvv
        have HX9 := Lib.hid hx9
        have KH := Lib.hid (hindered_any hx9.pm (by rw [hp2]; exact hs) lo)
        have KF := Lib.hid (failed_any hx9.pm.ld.lm)
        have b1 : w9.cell? ⟨bp, 1, none⟩ = some (.pointer (some ⟨bl, 0, none⟩)) := hx9.pm.blk.cell 1
        have HBO := Lib.hid (cal_bool (p := p) (p2 := p2) (lo := lo) he (by rw [hp2]) (by rw [hp2]) (by rw [hp2]))
        obtain ⟨hd, hhd⟩ : ∃ hd, hd = hindered p2 lo p2.d.ops := ⟨_, rfl⟩
        rw [← hhd] at KH HBO
        have HCALL := Lib.hid (show p.called next e = p2 by rw [hp2]; unfold PS.called; rw [if_neg he, if_neg hgt])
        have HAF := Lib.hid H.out.alk.failed
        clear hx9 hhd hp2
        by_cases h3 : e = 3
        · subst h3
          cases hd with
          | true =>
            go_wp2_with fail
            refine KH.out.mono ?_
            rintro x w' ⟨rfl, rfl⟩
            go_wp2_with fail
            refine KF.out.mono ?_
            rintro x w' ⟨rfl, rfl⟩
            go_wp2_with fail
            go_ret
            refine ⟨?_, _, _, _, by rw [HCALL.out]; exact HX9.out⟩
            rw [HBO.out, ← HAF.out]
            first | rfl | (cases l.failed <;> rfl)
          | false =>
            go_wp2_with fail
            refine KH.out.mono ?_
            rintro x w' ⟨rfl, rfl⟩
            go_wp2_with fail
            go_ret
            refine ⟨?_, _, _, _, by rw [HCALL.out]; exact HX9.out⟩
            rw [HBO.out, ← HAF.out]
            first | rfl | (cases l.failed <;> rfl)
        · by_cases h4 : e = 4
          · subst h4
            cases hd with
            | true =>
              go_wp2_with fail
              refine KH.out.mono ?_
              rintro x w' ⟨rfl, rfl⟩
              go_wp2_with fail
              refine KF.out.mono ?_
              rintro x w' ⟨rfl, rfl⟩
              go_wp2_with fail
              go_ret
              refine ⟨?_, _, _, _, by rw [HCALL.out]; exact HX9.out⟩
              rw [HBO.out, ← HAF.out]
              first | rfl | (cases l.failed <;> rfl)
            | false =>
              go_wp2_with fail
              refine KH.out.mono ?_
              rintro x w' ⟨rfl, rfl⟩
              go_wp2_with fail
              go_ret
              refine ⟨?_, _, _, _, by rw [HCALL.out]; exact HX9.out⟩
              rw [HBO.out, ← HAF.out]
              first | rfl | (cases l.failed <;> rfl)
          · have h3b : (e == 3) = false := by simpa using h3
            have h4b : (e == 4) = false := by simpa using h4
            go_wp2_with fail
            go_ret
            refine ⟨?_, _, _, _, by rw [HCALL.out]; exact HX9.out⟩
            rw [HBO.out, decide_eq_false h3, decide_eq_false h4]
            rfl
end
end Go.Proofs.YtlcmnihpfpmajaaGreat

/- The law's play: bounds of what calls meet; a call as one step. No program is in sight here. -/
namespace Go.Proofs.YtlcmnihpfpmajaaGreat
open Go.RowKit
theorem segsOf_mem : ∀ {ss : List AS} {segs : List Seg}, SegsOf ss segs → ∀ s ∈ segs, ∃ a ∈ ss, ∃ n, s = a.seg n
  | [], [], _, s, hs => by cases hs
  | [], _ :: _, h, _, _ => h.elim
  | _ :: _, [], h, _, _ => h.elim
  | a :: r, t :: u, h, s, hs => by
    obtain ⟨⟨n, e, _⟩, h2⟩ := h
    rcases List.mem_cons.1 hs with rfl | hs
    · exact ⟨a, List.mem_cons_self .., n, e⟩
    · obtain ⟨b, hb, n, e⟩ := segsOf_mem h2 s hs
      exact ⟨b, List.mem_cons_of_mem _ hb, n, e⟩
theorem num_last {ss : List AS} (h : Chain ss) : ∀ a ∈ ss, a.number ≤ lastNum ss := by
  intro a ha
  rcases nil_or_snoc ss with rfl | ⟨s0, z, rfl⟩
  · cases ha
  · rw [lastNum_snoc]
    rcases List.mem_append.1 ha with ha | ha
    · exact Nat.le_of_lt ((List.pairwise_append.1 h.rise).2.2 a ha z (by simp))
    · rw [List.mem_singleton] at ha; rw [ha]; exact Nat.le_refl _
section
variable {p : PS} {i T : Nat} {l : Lg}
theorem PInv.small (h : PInv p i T) (hi : i ≤ 200) : p.d.small 200000000 :=
  ⟨fun f hf => by have := h.raws f hf; omega, by have := h.files; omega, by have := h.flt; omega, by have := h.ops; omega⟩
theorem PInv.begB (h : PInv p i T) (hi : i ≤ 200) (hb : p.l.base ≤ 16777216) (ha : Alk p.l l) {f nx m : Nat} (hf : f ≤ 1000000000) (hnx : nx ≤ 1000000000) (hm : m ≤ 300000000) : BegB l p.d 200000000 f nx m := by
  obtain ⟨ss, hl, hnum⟩ := h.live
  unfold Live at hl
  have hfs := h.files
  have hsg := h.segs
  have hlen := dim_len ha.segs
  refine ⟨h.small hi, by omega, by omega, by rw [ha.base]; omega, fun s hs => ?_, hf, hnx, by rw [ha.c, h.c]; have := h.next; omega, hm⟩
  have h1 : dimS s ∈ l.segs.map dimS := List.mem_map_of_mem hs
  rw [ha.segs] at h1
  obtain ⟨s', hs', e⟩ := List.mem_map.1 h1
  obtain ⟨a, haa, n, rfl⟩ := segsOf_mem hl.segs s' hs'
  have q1 : s.file = a.file := (congrArg Seg.file e).symm
  have q2 : s.number = a.number := (congrArg Seg.number e).symm
  have q3 : s.size = a.bytes.length := (congrArg Seg.size e).symm
  have r1 := hl.shape.range a haa
  have r2 := num_last hl.shape.chain a haa
  have r3 := hl.shape.small (K := 200000000) (fun f hf => by have := h.raws f hf; omega) a haa
  exact ⟨by omega, by omega, by omega⟩
theorem PInv.cn (h : PInv p i T) (hi : i ≤ 200) (ha : Alk p.l l) : l.c = p.c ∧ l.c.next ≤ 200 ∧ l.segs.length ≤ 200 ∧ (∀ b ∈ l.c.rows, b.length ≤ 50000) ∧ l.c.size ≤ T := by
  have e : l.c = p.c := ha.c.trans h.c
  refine ⟨e, by rw [e]; have := h.next; omega, by rw [dim_len ha.segs]; have := h.segs; omega, by rw [e]; exact h.rows, by rw [e]; exact h.size⟩
/-- a record is appended -/
def PS.app (p : PS) (b : List UInt8) : PS := ({ p with d := (appendP p.d p.l b).1, l := (appendP p.d p.l b).2.1 } : PS).called (p.c.add b) (appendP p.d p.l b).2.2.2
theorem PInv.app (h : PInv p i T) (hi : i ≤ 200) (hT : T ≤ 900000) {b : List UInt8} (hb : b.length ≤ 50000) :
    PInv (p.app b) (i + 1) (T + b.length + 25) ∧ ({ p with d := (appendP p.d p.l b).1, l := (appendP p.d p.l b).2.1 } : PS).calledB (appendP p.d p.l b).2.2.2 p.d.ops = true ∧ (p.app b).l.base = p.l.base ∧
      ((appendP p.d p.l b).2.2.2 = 0 → (appendP p.d p.l b).2.2.1 = p.c.next) ∧ ((appendP p.d p.l b).2.2.2 ≠ 0 → (appendP p.d p.l b).2.2.1 = 0) ∧ p.d.ops ≤ (p.app b).d.ops := by
  obtain ⟨h1, h2, h3, h4⟩ := h.append (by omega) hT hb
  have hnf : ¬ p.c.first < (p.c.add b).first := Nat.lt_irrefl _
  by_cases he : (appendP p.d p.l b).2.2.2 = 0
  · obtain ⟨q1, q2, q3⟩ := h1 he
    unfold PS.app PS.called PS.calledB
    rw [if_pos he, if_pos he]
    exact ⟨q1, by dsimp only; rw [q2]; rfl, h4, fun _ => q3, fun hn => absurd he hn, h3⟩
  · obtain ⟨q1, q2, q3, q4, q5⟩ := h2 he
    unfold PS.app PS.called PS.calledB
    rw [if_neg he, if_neg he]
    dsimp only
    rw [if_neg hnf]
    refine ⟨q1, ?_, h4, fun hn => absurd hn he, fun _ => q3, h3⟩
    have q6 : hindered ({ p with d := (appendP p.d p.l b).1, l := (appendP p.d p.l b).2.1 } : PS) p.d.ops (appendP p.d p.l b).1.ops = true := q5
    rw [q6, q2]
    rcases q4 with q4 | q4 <;> rw [q4] <;> rfl
/-- a cut -/
def PS.cutS (p : PS) (before : Int) : PS :=
  if min before p.c.next ≤ p.c.first then { p with l := { p.l with failed := false } }
  else ({ p with d := (cutP p.d p.l before).1, l := (cutP p.d p.l before).2.1 } : PS).called (p.c.cut (min before p.c.next).toNat) (cutP p.d p.l before).2.2
theorem PInv.cutS (h : PInv p i T) (hi : i ≤ 200) (hT : T ≤ 900000) (before : Int) :
    PInv (p.cutS before) (i + 1) T ∧ (p.cutS before).l.base = p.l.base ∧ (min before p.c.next ≤ p.c.first → (cutP p.d p.l before).2.2 = 0 ∧ (cutP p.d p.l before).1 = p.d ∧ (cutP p.d p.l before).2.1 = { p.l with failed := false }) ∧
      (¬ min before p.c.next ≤ p.c.first → ({ p with d := (cutP p.d p.l before).1, l := (cutP p.d p.l before).2.1 } : PS).calledB (cutP p.d p.l before).2.2 p.d.ops = true) ∧ p.d.ops ≤ (p.cutS before).d.ops := by
  obtain ⟨h1, h2⟩ := h.cut (by omega) hT (before := before)
  unfold PS.cutS
  by_cases hle : min before p.c.next ≤ p.c.first
  · rw [if_pos hle]
    exact ⟨h.idle, rfl, h1, fun hn => absurd hle hn, Nat.le_refl _⟩
  · rw [if_neg hle]
    obtain ⟨g1, g2, g3, g4⟩ := h2 (by omega)
    have hcf : p.c.first < (p.c.cut (min before p.c.next).toNat).first := by
      unfold Ct.cut
      rw [if_pos (by omega)]
      dsimp only
      omega
    by_cases he : (cutP p.d p.l before).2.2 = 0
    · obtain ⟨q1, q2⟩ := g1 he
      unfold PS.called PS.calledB
      rw [if_pos he, if_pos he]
      exact ⟨q1, g4, fun hn => absurd hn hle, fun _ => by dsimp only; rw [q2]; rfl, g3⟩
    · obtain ⟨q1, q2, q3, q4⟩ := g2 he
      unfold PS.called PS.calledB
      rw [if_neg he, if_neg he]
      dsimp only
      rw [if_pos hcf]
      have hfe : (p.c.cut (min before p.c.next).toNat).first = (min before p.c.next).toNat := by unfold Ct.cut; rw [if_pos (by omega)]
      rw [hfe]
      refine ⟨q1, g4, fun hn => absurd hn hle, fun _ => ?_, g3⟩
      have q6 : hindered ({ p with d := (cutP p.d p.l before).1, l := (cutP p.d p.l before).2.1 } : PS) p.d.ops (cutP p.d p.l before).1.ops = true := q4
      rw [q6, q2]
      rcases q3 with q3 | q3 <;> rw [q3] <;> rfl
/-- a fault is laid; the disk is to stop -/
def PS.fault (p : PS) (n : Nat) (k : Int) : PS := { p with d := p.d.fail n k, struck := p.struck ++ [(p.d.ops : Int) + n] }
def PS.haltS (p : PS) (n : Nat) : PS := { p with d := p.d.halt n, stop := (p.d.ops : Int) + n }
/-- a crash, an opening -/
def PS.crashS (p : PS) (cuts : List Int) : PS := { d := p.d.crash cuts, l := openP (p.d.crash cuts).fs p.l.base, c := (openP (p.d.crash cuts).fs p.l.base).c, maybe := [], cuts := [], struck := [], stop := -1 }
def PS.openS (p : PS) : PS := { p with l := openP p.d.fs p.l.base, c := (openP p.d.fs p.l.base).c, maybe := [], cuts := [] }
theorem PInv.openS (h : PInv p i T) (hi : i ≤ 200) (h1 : p.maybe = []) (h2 : p.cuts = []) : PInv p.openS (i + 1) T ∧ (openP p.d.fs p.l.base).c = p.c ∧ (openP p.d.fs p.l.base).failed = false := by
  obtain ⟨q1, q2, q3⟩ := h.reopen (by omega) h1 h2
  unfold PS.openS
  rw [q2]
  exact ⟨q1, rfl, q3⟩
end
end Go.Proofs.YtlcmnihpfpmajaaGreat
