/- The wal claims' texts, several in one: SeqO, Told, Fra, Fto. Conditions stand with each theorem. -/
import Derived.Test.YtlcmnihpfpmajaaGreatZa27
/- A range over a function whose rounds hand on a fact of the world beside the value: the contract SeqO and its law.
   It stands on the library's own steps of a loop over a function (enterLoop, yield, beginRound, endRound, endLoop); the library's laws of this kind tell a round nothing of the memory behind its value. -/
namespace Go.Proofs.YtlcmnihpfpmajaaGreat
open Go.RowKit

theorem Fresh.grown_ {w w' : World} (h : Fresh w w') : w.grownBy w' none := ⟨h.os, h.tape, h.output, h.size, fun k hk _ => h.block k hk id⟩
/-- the contract: each round that comes finds Ok of its value and of its world -/
def SeqO {α : Type} (F : Fence) (n : Nat) (P : Program) (g : Nat) (lb : Array Value) (encs : α → Array Value) (Ok : List α → α → World → Prop) (Kp : World → World → Prop) (S Sp : List α → Prop) (N : Nat) (w : World) : Prop :=
  ∀ (l : Nat) (J Jx : List α → World → Prop) (W : World), Below w.heap.size w W → AbidesFrom W.heap.size J → AbidesFrom W.heap.size Jx →
    (∀ pre x W1, J pre W1 → Ok pre x W1 → pre.length < N → YieldAt F (n - 1) P l (encs x) W1 fun e W' =>
      (e = .returned (.bool true) ∧ J (pre ++ [x]) W' ∧ Kp W1 W') ∨ (e = .returned (.bool false) ∧ Jx (pre ++ [x]) W')) →
    J [] W → CallsIn F n P g (#[.func (.yield l) #[] #[]] ++ lb) W fun e W' => (∃ v, e = .returned v) ∧ ((∃ xs, S xs ∧ J xs W') ∨ (∃ pre, Sp pre ∧ Jx pre W'))

section
variable {F : Fence} {n : Nat} {P : Program}
/-- the loop's two blocks: that of its deferred calls, and behind it its record -/
def Rec (k : Nat) (r : Loop) (W : World) : Prop := W.heap[k + 1]? = some (.loop r) ∧ W.heap[k]? = some (.deferred (some []))
theorem Rec.lt {k : Nat} {r : Loop} {W : World} (h : Rec k r W) : k + 1 < W.heap.size := (Array.getElem?_eq_some_iff.1 h.1).1
theorem Rec.put {k : Nat} {r : Loop} {W : World} (h : Rec k r W) (r' : Loop) : Rec k r' (W.putObj (k + 1) (.loop r')) := ⟨World.putObj_heap_same h.lt, (World.putObj_heap_other (by omega)).trans h.2⟩
theorem Rec.others {k : Nat} {r : Loop} {W W' : World} (h : Rec k r W) (hk : KeepsOthers W W') : Rec k r W' := ⟨hk.same _ _ h.1 rfl, hk.same _ _ h.2 rfl⟩
theorem Rec.kept {k : Nat} {r : Loop} {A B : World} {row : Option Nat} (h : Rec k r A) (hg : A.grownBy B row) (hr : ∀ q, row = some q → ∃ o : Obj, A.heap[q]? = some o ∧ o.isWalk = true) : Rec k r B :=
  ⟨(grownBy_keeps hg hr h.1 rfl).trans h.1, (grownBy_keeps hg hr h.2 rfl).trans h.2⟩

theorem range_ok {α : Type} {g : Operand} {ps : Array Tmp} {assign body : Code} {Q : Exit → Act → World → Prop} {a : Act} {w : World}
    (hro : F.round = none) (h1 : 1 ≤ n) {gf : Nat} {lb : Array Value} (hg : a.eval g = .func (.func gf) #[] lb) (hFg : F.fn gf) (eg : ∀ args w, (callFunc gf args).run P w = .ok (.enter gf args) w)
    {encs : α → Array Value} {Ok : List α → α → World → Prop} {Kp : World → World → Prop} {S Sp : List α → Prop} {N : Nat} (hseq : SeqO F (n - 1) P gf lb encs Ok Kp S Sp N w)
    (hOk : ∀ (pre : List α) (x : α) (W : World) (l : Nat) (o o' : Obj), Ok pre x W → W.heap[l]? = some o → o.isCells = false → Ok pre x (W.putObj l o'))
    (hOkF : ∀ (pre : List α) (x : α) (W W1 : World), Ok pre x W → Fresh W W1 → Ok pre x W1)
    (R : α → Act → World → Prop) (hRp : ∀ (x : α) (b : Act) (W : World) (l : Nat) (o o' : Obj), R x b W → W.heap[l]? = some o → o.isCells = false → R x b (W.putObj l o')) (hKf : ∀ {A B : World}, Fresh A B → Kp A B)
    (hKt : ∀ {A B C : World}, Kp A B → Kp B C → Kp A C) (hKb : ∀ (W : World) (l : Nat) (o o' : Obj), w.heap.size ≤ l → W.heap[l]? = some o → o.isCells = false → o.isWalk = false → Kp W (W.putObj l o')) (hps : ∀ x, (encs x).size = ps.size)
    (I : List α → World → Prop) (Ix : List α → World → Prop) (hI : OwnFrom w.heap.size I) (hIx : OwnFrom w.heap.size Ix) (h0 : I [] w)
    (hassign : ∀ (l : Nat) (pre : List α) (x : α) (W : World) (K : Act → World → Prop), Ok pre x W → (∀ a₁ W₁, Fresh W W₁ → R x a₁ W₁ → K a₁ W₁) →
      assign.wpIn (F.inRound l) (n - 1 - 1) P (Exit.then K (fun _ _ _ => False)) { tmps := (ps.zip (encs x)).foldl (fun t (p, v) => t.setIfInBounds p v) a.tmps, defers := [] } W)
    (hbody : ∀ (l : Nat) (pre : List α) (x : α) (a₁ : Act) (W : World), I pre W → Ok pre x W → R x a₁ W → pre.length < N → body.wpIn (F.inRound l) (n - 1 - 1) P
      (ownPostK Kp I (fun c xs W' => c = .ret ∧ Ix xs W') (pre ++ [x]) W) a₁ W)
    (hdone : ∀ (D : Nat) (xs : List α) (W : World), w.heap.size ≤ D → S xs → I xs W → W.heap[D]? = some (.deferred (some [])) → Q .normal { a with defers := { target := .collected D, args := #[] } :: a.defers } W)
    (hstop : ∀ (D : Nat) (pre : List α) (W : World), w.heap.size ≤ D → Sp pre → Ix pre W → W.heap[D]? = some (.deferred (some [])) → Code.ret.wpIn F n P Q { a with defers := { target := .collected D, args := #[] } :: a.defers } W) :
    (Code.rangeFunc g ps assign body).wpIn F n P Q a w := by
  refine wpIn_rangeFunc fun fn hfn => ?_
  rw [hro]
  obtain ⟨rec, hrec⟩ : ∃ rec : LoopState → Option Code → Loop, rec = fun st pe => { state := st, pending := pe, fn, tmps := a.tmps, params := ps, assign, body, defers := w.heap.size } := ⟨_, rfl⟩
  have hst : ∀ st pe st', ({ rec st pe with state := st' } : Loop) = rec st' pe := by subst hrec; intros; rfl
  have hsp : ∀ st pe st' pe', ({ rec st pe with state := st', pending := pe' } : Loop) = rec st' pe' := by subst hrec; intros; rfl
  obtain ⟨W1, hW1⟩ : ∃ W1, (w.alloc (.deferred (some []))).alloc (.loop (rec .ready none)) = W1 := ⟨_, rfl⟩
  have hR1 : Rec w.heap.size (rec .ready none) W1 := by
    rw [← hW1]
    refine ⟨?_, (Below.heap_alloc _ _ _ (by simp)).trans (World.alloc_heap_new w _)⟩
    have := World.alloc_heap_new (w.alloc (.deferred (some []))) (.loop (rec .ready none))
    rwa [World.size_alloc] at this
  have hsz : w.heap.size + 2 = W1.heap.size := by rw [← hW1]; simp
  have hw1 : Below w.heap.size w W1 := by rw [← hW1]; exact ((Below.refl _ w).alloc (Nat.le_refl _) _).alloc (by simp) _
  have hI1 : I [] W1 := by rw [← hW1]; exact hI.alloc _ (hI.alloc _ h0)
  have hwalk : ∀ {A : World} {row : Option Nat}, (∀ r, row = some r → W1.heap.size ≤ r ∧ ∃ o : Obj, A.heap[r]? = some o ∧ o.isWalk = true) → ∀ r, row = some r → w.heap.size ≤ r ∧ ∃ o : Obj, A.heap[r]? = some o ∧ o.isCells = false := by
    intro A row hr r e
    obtain ⟨hb, o, ho, hw⟩ := hr r e
    exact ⟨by omega, o, ho, Obj.not_cells_of_walk hw⟩
  refine ⟨w.heap.size + 1, [{ target := .collected w.heap.size, args := #[] }], W1, { target := .fn (.func gf) lb, args := #[.func (.yield (w.heap.size + 1)) #[] #[]] }, W1, gf,
    #[.func (.yield (w.heap.size + 1)) #[] #[]] ++ lb, W1, by rw [← hW1, hrec]; exact run_enterLoop_outer _ _ _ _ _, by simp only [resolve, hg]; simp [go_sem], ?_, by simp [invoke, go_sem, eg], fun _ => h1, ?_⟩
  · intro f' hf'
    simp [Target.leads] at hf'
    subst hf'
    exact hFg
  refine (hseq (w.heap.size + 1) (fun pre W => I pre W ∧ Rec w.heap.size (rec .ready none) W) (fun pre W => Ix pre W ∧ Rec w.heap.size (rec .done (some .ret)) W) W1 hw1
    (fun s A B row hs hg' hr => ⟨hI s A B row hs.1 hg' (hwalk hr), hs.2.kept hg' fun q e => (hr q e).2⟩) (fun s A B row hs hg' hr => ⟨hIx s A B row hs.1 hg' (hwalk hr), hs.2.kept hg' fun q e => (hr q e).2⟩) ?_ ⟨hI1, hR1⟩).mono ?_
  · -- one round
    rintro pre x W ⟨hi, hl⟩ hok hlen
    have hy := run_yield (P := P) (args := encs x) hl.1 (by rw [hrec]; exact hps x)
    rw [hrec] at hy
    refine ⟨fn, _, assign, body, hy, roundIn_of_wpIn hfn (hassign _ pre x W _ hok fun b0 W0 hf0 hr0 => ?_)⟩
    have hl0 : Rec w.heap.size (rec .ready none) W0 := ⟨hf0.heap hl.1 id, hf0.heap hl.2 id⟩
    have hi0 : I pre W0 := hI pre W W0 none hi hf0.grown_ (fun r e => by cases e)
    refine ⟨_, run_beginRound hl0.1 (by rw [hrec]), ?_⟩
    rw [hst]
    have hb := hl0.put (rec .busy none)
    have hq := hKt (hKf hf0) (hKb W0 _ _ (.loop (rec .busy none)) (by omega) hl0.1 rfl rfl)
    refine wpIn_mono (hbody _ pre x b0 _ (hI.putObj _ hi0 (by omega) hl0.1 rfl) (hOk _ _ _ _ _ _ (hOkF _ _ _ _ hok hf0) hl0.1 rfl) (hRp _ _ _ _ _ _ hr0 hl0.1 rfl) hlen) ?_
    rintro e a3 W3 hp
    cases e with
    | normal =>
      obtain ⟨hk3, hkp3, hi3⟩ := hp
      have hr3 := hb.others hk3
      have hend := run_endRound (P := P) none hr3.1
      rw [hsp] at hend
      exact ⟨_, _, hend, .inl ⟨rfl, ⟨hI.putObj _ hi3 (by omega) hr3.1 rfl, hr3.put _⟩, hKt (hKt hq hkp3) (hKb _ _ _ _ (by omega) hr3.1 rfl rfl)⟩⟩
    | ret =>
      obtain ⟨hk3, _, hi3⟩ := hp
      have hr3 := hb.others hk3
      have hend := run_endRound (P := P) (some .ret) hr3.1
      rw [hsp] at hend
      exact ⟨_, _, hend, .inr ⟨rfl, hIx.putObj _ hi3 (by omega) hr3.1 rfl, hr3.put _⟩⟩
    | exit id => exact absurd hp.2.1 (by simp)
    | goto t => exact absurd hp.2.1 (by simp)
    | panic ch => exact hp.elim
    | outgrown => exact hp.elim
  · -- behind the iterator
    rintro e W2 ⟨⟨v, rfl⟩, (⟨xs, hS, hi, hl⟩ | ⟨pre, hSp, hi, hl⟩)⟩
    · have hend := run_endLoop (P := P) hl.1 (by rw [hrec]; simp)
      rw [hst] at hend
      rw [show (rec .ready none).pending = none by rw [hrec]] at hend
      exact ⟨none, _, hend, hdone _ xs _ (Nat.le_refl _) hS (hI.putObj _ hi (by omega) hl.1 rfl) (hl.put _).2⟩
    · have hend := run_endLoop (P := P) hl.1 (by rw [hrec]; simp)
      rw [hst] at hend
      rw [show (rec .done (some .ret)).pending = some .ret by rw [hrec]] at hend
      exact ⟨some .ret, _, hend, hstop _ pre _ (Nat.le_refl _) hSp (hIx.putObj _ hi (by omega) hl.1 rfl) (hl.put _).2⟩
end
end Go.Proofs.YtlcmnihpfpmajaaGreat

/- The contract of what a log's All returns, each round told with the record's bytes in a row of its own. Conditions stand with it. -/
namespace Go.Proofs.YtlcmnihpfpmajaaGreat
open Go.RowKit
attribute [local go_sem] Oper.semAt_some

theorem Blk.own_ {A B : World} {row : Option Nat} {g : Nat} {t : TypeId} {cs : Array Value} (h : Blk A g t cs) (hg : A.grownBy B row) (hr : ∀ r, row = some r → ∃ o : Obj, A.heap[r]? = some o ∧ o.isCells = false) : Blk B g t cs := by
  refine h.grown hg fun e => ?_
  obtain ⟨o, ho, hc⟩ := hr g e.symm
  have := h.symm.trans ho
  injection this with this
  subst this
  simp [Obj.isCells] at hc
theorem own_own_ {A B : World} {row : Option Nat} {b : Nat} {e : TypeId} {sz n : Nat} {v : Value} {us : List Value} (h : A.ownsRow b e sz v n us) (hg : A.grownBy B row) (hr : ∀ r, row = some r → ∃ o : Obj, A.heap[r]? = some o ∧ o.isCells = false) : B.ownsRow b e sz v n us := by
  refine ⟨h.1, ?_⟩
  rcases h.2 with hnil | ⟨g, cap, cur, rfl, hb', hh, rest⟩
  · exact .inl hnil
  · exact .inr ⟨g, cap, cur, rfl, hb', Blk.own_ (t := e) hh hg hr, rest⟩
theorem putHr {W : World} {l : Nat} {o : Obj} (hl : W.heap[l]? = some o) (hc : o.isCells = false) : ∀ r, some l = some r → ∃ o : Obj, W.heap[r]? = some o ∧ o.isCells = false := fun r e => by cases e; exact ⟨o, hl, hc⟩
/-- what a round of a loop over All keeps, but for S: every row (of bytes: those below B), and every cell below B -/
def LKp (S : Nat → Prop) (B : Nat) (W W' : World) : Prop := (∀ k t cs, ¬ S k → (k < B ∨ t ≠ 5) → Blk W k t cs → Blk W' k t cs) ∧ ∀ (p : Addr) (v : Value), ¬ S p.block → p.block < B → W.cell? p = some v → W'.cell? p = some v
theorem LKp.trans_ {S : Nat → Prop} {Z : Nat} {A B C : World} (h : LKp S Z A B) (h' : LKp S Z B C) : LKp S Z A C := ⟨fun k t cs hk hz hb => h'.1 k t cs hk hz (h.1 k t cs hk hz hb), fun p v hk hz hb => h'.2 p v hk hz (h.2 p v hk hz hb)⟩
theorem LKp.touch {S : Nat → Prop} {Z : Nat} {A B : World} (h : Touch S A B) : LKp S Z A B := ⟨fun _ _ _ hk _ hb => hb.touch h hk, fun _ _ hk _ hb => h.cell hb hk⟩
theorem LKp.fresh {S : Nat → Prop} {Z : Nat} {A B : World} (h : Fresh A B) : LKp S Z A B := .touch (h.mono fun _ _ => False.elim)
theorem LKp.own {S : Nat → Prop} {Z : Nat} {W W' : World} {e : TypeId} {sz n : Nat} {v : Value} {us : List Value} (h : LKp S Z W W') (ho : Own W e sz v n us) (he : e ≠ 5) (hn : ∀ k, v.ownBlock = some k → ¬ S k) : Own W' e sz v n us := by
  rcases ho.2 with hnil | ⟨g, cap, cur, rfl, hh, rest⟩
  · exact ⟨ho.1, .inl hnil⟩
  · exact ⟨ho.1, .inr ⟨g, cap, cur, rfl, h.1 g e cur (hn g rfl) (.inr he) hh, rest⟩⟩
theorem LKp.bs {S : Nat → Prop} {Z : Nat} {W W' : World} {A : Option Addr} {n c : Nat} {xs : List UInt8} (h : LKp S Z W W') (hb : Bs W A n c xs) (hn : ∀ a, A = some a → 0 < n → ¬ S a.block ∧ a.block < Z) : Bs W' A n c xs :=
  hb.keep fun h0 p v hp ⟨a, ha, e⟩ => h.2 p v (by rw [e]; exact (hn a ha h0).1) (by rw [e]; exact (hn a ha h0).2) hp
theorem LKp.recs {S R : Nat → Prop} {Z : Nat} {W W' : World} {vs : List Value} {rows : List (List UInt8)} (h : LKp S Z W W') (hr : RecsOf W R vs rows) (hn : ∀ k, R k → ¬ S k ∧ k < Z) : RecsOf W' R vs rows :=
  ⟨hr.len, fun i b hb => by
    obtain ⟨A, c, h1, h2, h3⟩ := hr.at_ i b hb
    have h4 := h.bs h2 fun a ha h0 => hn _ (h3 a ha h0).1
    refine ⟨A, c, h1, h4, fun a ha h0 => ⟨(h3 a ha h0).1, ?_⟩⟩
    obtain ⟨b', o', e, hc⟩ := h4.2.2.2 h0
    have h5 := World.block_lt_of_cell? W' _ (hc 0 (b[0]'(by have := h4.1; omega)) (List.getElem?_eq_getElem _))
    rw [ha] at e
    injection e with e
    rw [e]
    exact h5, hr.one⟩
/-- a record told: its index, its bytes, its slice -/
abbrev RcY := Nat × List UInt8 × Value
def rcEnc (x : RcY) : Array Value := #[.int .i64 (x.1 : Int), x.2.2]
def RcOk (base first : Nat) (rows : List (List UInt8)) (pre : List RcY) (x : RcY) (W : World) : Prop := x.1 = first + pre.length ∧ rows[pre.length]? = some x.2.1 ∧ Row W x.2.2 x.2.1 ∧ (∀ k, x.2.2.ownBlock = some k → base ≤ k)
theorem RcOk.put {base first : Nat} {rows : List (List UInt8)} {pre : List RcY} {x : RcY} {W : World} {l : Nat} {o o' : Obj} (h : RcOk base first rows pre x W) (hl : W.heap[l]? = some o) (hc : o.isCells = false) : RcOk base first rows pre x (W.putObj l o') :=
  ⟨h.1, h.2.1, own_own_ h.2.2.1 (grownBy_putObj' W l o') (putHr hl hc), h.2.2.2⟩
theorem RcOk.fresh {base first : Nat} {rows : List (List UInt8)} {pre : List RcY} {x : RcY} {W W1 : World} (h : RcOk base first rows pre x W) (hf : Fresh W W1) : RcOk base first rows pre x W1 :=
  ⟨h.1, h.2.1, h.2.2.1.touch hf fun _ _ => id, h.2.2.2⟩

set_option maxRecDepth 100000 in
set_option maxHeartbeats 4000000 in
theorem log_told (m fb bl bd : Nat) (R : Nat → Prop) (l0 : Lg) (sv rv : Value) (vs : List Value) (S : Nat → Prop) (w : World) (hm : 1 ≤ m) (hb : Blk w fb 32 #[.pointer (some ⟨bl, 0, none⟩)]) (hL : LM w bl bd R l0 sv rv vs) (hnx : l0.c.next ≤ 1000000000) (hrl : ∀ b ∈ l0.c.rows, b.length ≤ 100000000)
    (hS : ∀ k, S k → k < w.heap.size) (hp : ∀ k, R k → ¬ S k ∧ k < w.heap.size) :
    SeqO Fence.wide m Tryz.prog 55 #[.pointer (some ⟨fb, 0, none⟩)] rcEnc (RcOk w.heap.size l0.c.first l0.c.rows) (LKp S w.heap.size) (fun ys => ys.length = l0.c.rows.length) (fun pre => pre.length ≤ l0.c.rows.length) l0.c.rows.length w := fun l J Jx W hW hJ hJx hY h0 => by
  have hBW : Blk W fb 32 #[.pointer (some ⟨bl, 0, none⟩)] := (hW.block fb hb.lt).trans hb
  have hwW : Touch (fun _ => False) w W := Touch.ofBelow hW _
  have hLW : LM W bl bd R l0 sv rv vs := hL.fresh hwW
  have hsz := hW.size
  have hlen : l0.c.first + l0.c.rows.length ≤ 1000000000 := hnx
  refine callsIn_of_wp Tryz.func55 rfl trivial ?_ rfl
  simp only [Tryz.ntmps55, List.size_toArray, List.length_cons, List.length_nil, Nat.reduceAdd, Nat.reduceSub, Array.replicate_succ, Array.replicate_zero, List.push_toArray, List.append_toArray, List.nil_append, List.cons_append]
  refine wpIn_wide.2 ?_
  have hform := hLW.rows.form
  have HJ := Lib.hid hJ; have HY := Lib.hid hY; have HJ0 := Lib.hid h0; have HP := Lib.hid hp; have HS := Lib.hid hS; have HRL := Lib.hid hrl
  have HREC := Lib.hid hLW.recs
  have c0 : W.cell? ⟨fb, 0, none⟩ = some (.pointer (some ⟨bl, 0, none⟩)) := hBW.cell 0
  have c3 : W.cell? ⟨bl, 3, none⟩ = some (.int .i64 (l0.c.first : Int)) := hLW.blk.cell 3
  have c4 : W.cell? ⟨bl, 4, none⟩ = some rv := hLW.blk.cell 4
  have HST := Lib.hid (show ∀ V, Fresh W V → Fresh W V ∧ V.cell? ⟨fb, 0, none⟩ = some (.pointer (some ⟨bl, 0, none⟩)) ∧ V.cell? ⟨bl, 3, none⟩ = some (.int .i64 (l0.c.first : Int)) ∧ V.cell? ⟨bl, 4, none⟩ = some rv from fun V hV => ⟨hV, hV.cell c0 id, hV.cell c3 id, hV.cell c4 id⟩)
  have KC := Lib.hid (show ∀ V, Fresh W V → Calls Tryz.prog 56 #[rv] V fun e w' => Fresh V w' ∧ ∃ B c', e = .returned (.slice B l0.c.rows.length c') ∧ Own w' 26 1 (.slice B l0.c.rows.length c') l0.c.rows.length vs ∧ ∀ k, (Value.slice B l0.c.rows.length c').ownBlock = some k → V.heap.size ≤ k from fun V hV => cloneR_any rv l0.c.rows.length vs V (hLW.rows.fresh hV) hLW.recs.one (by omega))
  clear hb hL hBW hLW hJ hY h0 hp hW hwW hS hrl hform
  go_upto_region 0 with fail
  go_region_held (fun V => Fresh W V ∧ V.cell? ⟨fb, 0, none⟩ = some (.pointer (some ⟨bl, 0, none⟩)) ∧ V.cell? ⟨bl, 3, none⟩ = some (.int .i64 (l0.c.first : Int)) ∧ V.cell? ⟨bl, 4, none⟩ = some rv)
    (first | exact HST.out _ ((Touch.refl _ W).drew) | exact HST.out _ (Touch.refl _ W) | assumption)
    (first
      | (go_at_call 56; refine (KC.out _ (And.left (by assumption))).mono ?_; rintro e w3 ⟨t3, B, c, rfl, ho3, hn3⟩; have k2 := HST.out w3 ((And.left (by assumption : Fresh W _ ∧ _)).trans t3 fun _ _ => id); have HO1 := Lib.hid ho3; have HNEW := Lib.hid (show ∀ k, (Value.slice B l0.c.rows.length c).ownBlock = some k → W.heap.size ≤ k from fun k hk => Nat.le_trans (Touch.size (And.left (by assumption : Fresh W _ ∧ _))) (hn3 k hk)); clear ho3 hn3))
  have HF1 := Lib.hid k2.1
  have HJ1 := Lib.hid (HJ.out [] _ _ none HJ0.out HF1.out.grown_ (fun r e => by cases e))
  have HV1 := Lib.hid (HREC.out.touch HF1.out fun _ _ => id)
  clear k2 c0 c3 c4
  go_wp2_with fail
  go_loopw [18] (fun i wr => ∃ pre : List RcY, pre.length ≤ l0.c.rows.length ∧ i = .int .i64 pre.length ∧ J pre wr ∧ Own wr 26 1 (.slice B l0.c.rows.length c) l0.c.rows.length vs ∧ RecsOf wr R vs l0.c.rows ∧ True) (fun i _ => l0.c.rows.length - (intOf i).toNat)
  case atStart =>
    exact ⟨[], Nat.zero_le _, rfl, HJ1.out, HO1.out, HV1.out, trivial⟩
  case round =>
    obtain ⟨pre, hpl, rfl, hj, ho, hv, hsz1⟩ := hrel
    have HJR := Lib.hid hj; have HOR := Lib.hid ho; have HVR := Lib.hid hv
    obtain ⟨k, hk⟩ : ∃ k, k = pre.length := ⟨_, rfl⟩
    rw [← hk] at hpl ⊢
    have HK := Lib.hid hk
    clear hj ho hv hk
    by_cases hlt : k < l0.c.rows.length
    · obtain ⟨b, hbk⟩ : ∃ b, l0.c.rows[k]? = some b := ⟨_, List.getElem?_eq_getElem hlt⟩
      obtain ⟨A, cb, hvk, hbs, hRk⟩ := HVR.out.at_ k b hbk
      obtain ⟨g, rfl⟩ : ∃ g, B = some ⟨g, 0, none⟩ := by
        obtain ⟨A', c', hv, _, _, hA'⟩ := HOR.out.form
        injection hv with e1 _ _
        rcases hA' with ⟨_, h0, _⟩ | ⟨g, hg⟩
        · omega
        · exact ⟨g, e1.trans hg⟩
      have hck : wr.cell? ⟨g, k, none⟩ = some (.slice A b.length cb) := by
        have := HOR.out.cell (j := k) (by omega)
        rw [hvk] at this
        simpa using this
      have KB := Lib.hid (clone_any A b.length cb b wr hbs (by have := HRL.out b (List.mem_of_getElem? hbk); omega))
      have HBK := Lib.hid hbk
      have hwi : IntKind.i64.wrap ((l0.c.first : Int) + (k : Int)) = (l0.c.first : Int) + (k : Int) := IntWalk.i64_in _ (by omega)
      clear hbs hRk hvk hbk
      refine wpIn_wide (n := m).1 ?_
      gi_wp2
      refine ⟨trivial, (callsIn_wide (n := m - 1).2 KB.out).mono ?_⟩
      rintro e w3 ⟨hf3, B3, c3, rfl, hr3, hn3⟩
      have HF3 := Lib.hid hf3
      have HX := Lib.hid (show RcOk w.heap.size l0.c.first l0.c.rows pre (l0.c.first + k, b, .slice B3 b.length c3) w3 from ⟨by rw [HK.out], by rw [← HK.out]; exact HBK.out, hr3, fun q hq => by
        cases B3 with
        | none => cases hq
        | some a =>
          have h1 := hn3 a rfl
          have h3 := HNEW.out g rfl
          have h4 := HOR.out.lt g rfl
          have hak : a.block = q := by simpa [Value.ownBlock] using hq
          omega⟩)
      have HJ3 := Lib.hid (HJ.out pre _ _ none HJR.out hf3.grown_ (fun r e => by cases e))
      have hy0 := HY.out pre (l0.c.first + k, b, .slice B3 b.length c3) w3 HJ3.out HX.out (by have := HK.out; omega)
      have HSUM := Lib.hid (show ((l0.c.first + k : Nat) : Int) = (l0.c.first : Int) + (k : Int) by omega)
      clear hf3 hr3 hn3
      obtain ⟨fn, tmps, assign, body, hy, hR⟩ := hy0
      dsimp only [rcEnc] at hy
      rw [HSUM.out] at hy
      gi_wp2
      refine hR.mono ?_
      rintro e W3 (⟨rfl, hJ3, hk3⟩ | ⟨rfl, hJx3⟩)
      · have HOW := Lib.hid (hk3.own ((HOR.out.touch HF3.out fun _ _ => id)) (by decide) fun q hq e => by
          have h1 := HNEW.out q hq
          have h2 := HS.out q e
          omega)
        have HVW := Lib.hid (show RecsOf W3 R vs l0.c.rows from hk3.recs (HVR.out.touch HF3.out fun _ _ => id) HP.out)
        have HJW := Lib.hid hJ3
        clear hk3 hJ3 hR
        gi_wp2
        go_roundw
        case rel =>
          exact ⟨_, by simp; have := HK.out; omega, by have := HK.out; go_num, HJW.out, HOW.out, HVW.out, trivial⟩
        case measure => simp [intOf] <;> omega
      · have HJW := Lib.hid hJx3
        clear hJx3 hR
        gi_wp2
        refine bodyPost_ret (results_none rfl _ _ _) rfl ?_
        exact ⟨⟨_, rfl⟩, .inr ⟨_, by have := HK.out; simp; omega, HJW.out⟩⟩
    · obtain rfl : k = l0.c.rows.length := by omega
      go_wp2_with fail
      go_end0
      exact ⟨⟨_, rfl⟩, .inl ⟨pre, HK.out.symm, HJR.out⟩⟩
end Go.Proofs.YtlcmnihpfpmajaaGreat

/- wal.Log.All, and frames by it. Conditions stand with each. -/
namespace Go.Proofs.YtlcmnihpfpmajaaGreat
open Go.RowKit
attribute [local go_sem] Oper.semAt_some
theorem LKp.put {S : Nat → Prop} {Z : Nat} (W : World) (l : Nat) (o o' : Obj) (hl : W.heap[l]? = some o) (hc : o.isCells = false) : LKp S Z W (W.putObj l o') := by
  refine ⟨fun _ _ _ _ _ hb => hb.own_ (grownBy_putObj' W l o') (putHr hl hc), fun p v _ _ hp => ?_⟩
  by_cases hpl : p.block = l
  · subst hpl
    unfold World.cell? at hp
    rw [hl] at hp
    cases o <;> simp_all [Obj.isCells]
  · rw [World.cell?_of_block (World.putObj_heap_other hpl)]
    exact hp
set_option maxRecDepth 20000 in
theorem lall_any (bl : Nat) (w : World) : Calls Tryz.prog 29 #[.pointer (some ⟨bl, 0, none⟩)] w fun e w' => e = .returned (.func (.func 55) #[] #[.pointer (some ⟨w.heap.size, 0, none⟩)]) ∧ w' = w.alloc (.cells #[.pointer (some ⟨bl, 0, none⟩)] 32) := by
  go_enter Tryz.func29, Tryz.ntmps29
  go_wp2_with fail
  go_ret
  exact ⟨rfl, rfl⟩
end Go.Proofs.YtlcmnihpfpmajaaGreat

/- The frames of the records from an index on: what a loop over the first k records has appended. No program is in sight here. -/
namespace Go.Proofs.YtlcmnihpfpmajaaGreat
def framesTo (first from_ : Nat) (rows : List (List UInt8)) (k : Nat) : List UInt8 := encs (putsOf (max first from_) ((rows.take k).drop (from_ - first)))
theorem framesTo_zero (first from_ : Nat) (rows : List (List UInt8)) : framesTo first from_ rows 0 = [] := by simp [framesTo, putsOf, encs]
theorem putsOf_snoc : ∀ (l : List (List UInt8)) (n : Nat) (b : List UInt8), putsOf n (l ++ [b]) = putsOf n l ++ [It.put (n + l.length) b]
  | [], n, b => by simp [putsOf]
  | a :: l, n, b => by
    show It.put n a :: putsOf (n + 1) (l ++ [b]) = It.put n a :: (putsOf (n + 1) l ++ [It.put (n + (l.length + 1)) b])
    rw [putsOf_snoc l (n + 1) b, show n + 1 + l.length = n + (l.length + 1) by omega]
theorem framesTo_succ {first from_ : Nat} {rows : List (List UInt8)} {k : Nat} {b : List UInt8} (h : rows[k]? = some b) :
    framesTo first from_ rows (k + 1) = if from_ ≤ first + k then framesTo first from_ rows k ++ (It.put (first + k) b).enc else framesTo first from_ rows k := by
  have hk := (List.getElem?_eq_some_iff.1 h).1
  have ht : rows.take (k + 1) = rows.take k ++ [b] := by rw [List.take_add_one, h]; rfl
  have hl : (rows.take k).length = k := by rw [List.length_take]; omega
  unfold framesTo
  rw [ht]
  split
  · rename_i hle
    rw [List.drop_append_of_le_length (by omega), putsOf_snoc, List.length_drop, hl, show max first from_ + (k - (from_ - first)) = first + k by omega]
    simp [encs]
  · rename_i hle
    rw [List.drop_of_length_le (by rw [List.length_append, hl]; simp; omega), List.drop_of_length_le (by omega)]
theorem framesTo_all (first : Nat) (rows : List (List UInt8)) : framesTo first first rows rows.length = encs (putsOf first rows) := by
  unfold framesTo
  rw [List.take_length, Nat.sub_self, List.drop_zero, Nat.max_self]
end Go.Proofs.YtlcmnihpfpmajaaGreat
