/- The wal claims' texts, several in one: Apd, Scp. Conditions stand with each theorem. -/
import Derived.Test.YtlcmnihpfpmajaaGreatZa31
import Derived.ScopeJumps
/- wal.Log.Append. Conditions stand with it. -/
namespace Go.Proofs.YtlcmnihpfpmajaaGreat
open Go.RowKit
attribute [local go_sem] Oper.semAt_some
theorem slice_new (w : World) (x : Value) (hx : x.oneCell' = true) : Src Tryz.prog 1 33 (.slice (some ⟨w.heap.size, 0, none⟩) 1 1) 1 [x] (w.alloc (.cells #[x] 26)) := by
  refine Src.ofSlice _ Tryz.underlying33 _ _ _ _ rfl (fun j u hu => ?_) (by simpa using hx)
  have hb := Blk.new w 26 #[x]
  rw [add_flat, Nat.zero_add, hb.cell j, List.getElem?_toArray]
  exact hu
theorem use_small {d d' : Dk} {k r m K : Nat} (h : Use d d' k r m) (hs : d.small K) : d'.small (K + k + r + m) :=
  ⟨fun f hf => by have := h.raws K hs.raw f hf; omega, by have := h.files; have := hs.many; omega, by have := h.len; have := hs.faults; omega, by have := h.hi; have := hs.ops; omega⟩
theorem write_c (d : Dk) (l : Lg) (xs : List UInt8) : (writeP d l xs).2.1.c = l.c := by
  unfold writeP
  split
  · split
    · split <;> rfl
    · exact begin_c _ _ _ _ _ _
  · exact begin_c _ _ _ _ _ _
theorem begin_segs {d : Dk} {l : Lg} {whole : Bool} {first next : Nat} {xs : List UInt8} (h : (beginP d l whole first next xs).2.2 = 0) :
    ∃ s0 s, (begL d l whole first next xs).segs = s0 ++ [s] ∧ s0 = (if whole = true then l.segs.map (fun s => { s with last := first }) else l.segs) ∧ s.file = freeP (usedN d.fs l.base l.segs) l.base := by
  unfold begL
  rw [if_pos h]
  exact ⟨_, _, rfl, rfl, rfl⟩
theorem write_segs {d : Dk} {l : Lg} {xs : List UInt8} (h : (writeP d l xs).2.2 = 0) : ∃ s0 s, (writeP d l xs).2.1.segs = s0 ++ [s] ∧ (s0 ++ [s]).length ≤ l.segs.length + 1 ∧ ∀ t ∈ s0 ++ [s], (∃ s' ∈ l.segs, t.file = s'.file) ∨ t.file = freeP (usedN d.fs l.base l.segs) l.base := by
  have hbeg : (beginP d l false l.c.first l.c.next xs).2.2 = 0 → ∃ s0 s, (beginP d l false l.c.first l.c.next xs).2.1.segs = s0 ++ [s] ∧ (s0 ++ [s]).length ≤ l.segs.length + 1 ∧ ∀ t ∈ s0 ++ [s], (∃ s' ∈ l.segs, t.file = s'.file) ∨ t.file = freeP (usedN d.fs l.base l.segs) l.base := fun h => by
    obtain ⟨s0, s, h1, h2, h3⟩ := begin_segs h
    rw [begL_false] at h1
    rw [if_neg (by simp)] at h2
    refine ⟨s0, s, h1, by rw [h2]; simp, fun t ht => ?_⟩
    rcases List.mem_append.1 ht with ht | ht
    · exact .inl ⟨t, by rw [← h2]; exact ht, rfl⟩
    · rw [List.mem_singleton] at ht
      exact .inr (by rw [ht]; exact h3)
  unfold writeP at h ⊢
  rcases nil_or_snoc l.segs with hnil | ⟨s0, s, hs⟩
  · rw [hnil] at h ⊢
    rw [hnil] at hbeg
    exact hbeg h
  · have hg : l.segs.getLast? = some s := by rw [hs, List.getLast?_append]; rfl
    rw [hg] at h ⊢
    dsimp only at h ⊢
    by_cases hd : l.dirty = false
    · rw [if_pos hd] at h ⊢
      by_cases hl : (layP d (s.file : Int) xs).2 = 0
      · rw [if_pos hl]
        refine ⟨s0, { s with size := s.size + xs.length }, by rw [hs]; exact growLast_snoc _ _ _, by rw [hs]; simp, fun t ht => ?_⟩
        rcases List.mem_append.1 ht with ht | ht
        · exact .inl ⟨t, by rw [hs]; exact List.mem_append_left _ ht, rfl⟩
        · rw [List.mem_singleton] at ht
          exact .inl ⟨s, by rw [hs]; simp, by rw [ht]⟩
      · rw [if_neg hl] at h
        exact absurd h hl
    · rw [if_neg hd] at h ⊢
      exact hbeg h
section
variable {w w' : World} {bl bd : Nat} {R S R' S' : Nat → Prop} {l l' l2 : Lg} {sv rv sv' rv' : Value} {vs vs' : List Value} {d d' : Dk} {K : Nat}
/-- a record is appended in memory: the row is stored back -/
theorem LX.push {w1 w2 : World} {BC B : Option Addr} {cc c n : Nat} {b : List UInt8} {o : Obj} (h : LX w w' bl bd S R sv rv l' d' S' R' sv' rv' vs') (hn : n = l'.c.rows.length) (hf : Fresh w' w1) (hbs : Bs w1 BC b.length cc b) (hbn : ∀ a, BC = some a → w'.heap.size ≤ a.block)
    (ho : Ow w2 26 1 (.slice B (n + 1) c) (n + 1) (vs' ++ [.slice BC b.length cc])) (hg : (w1.alloc o).grownBy w2 rv'.ownBlock) (hb : (Value.slice B (n + 1) c).ownBlock = rv'.ownBlock ∨ (Value.slice B (n + 1) c).ownBlock = some (w1.alloc o).heap.size) (hl : l2 = { l' with c := l'.c.add b }) :
    ∃ R2, LX w (w2.setCell ⟨bl, 4, none⟩ (.slice B (n + 1) c)) bl bd S R sv rv l2 d' S' R2 sv' (.slice B (n + 1) c) (vs' ++ [.slice BC b.length cc]) := by
  subst hl hn
  have hm := h.ld.lm
  have hfo : Fresh w' (w1.alloc o) := hf.alloc o
  have hm1 := hm.fresh hfo
  obtain ⟨x, hx⟩ : ∃ x, x = Value.slice B (l'.c.rows.length + 1) c := ⟨_, rfl⟩
  rw [← hx] at ho hb ⊢
  have hsz : (w1.alloc o).heap.size = w1.heap.size + 1 := World.size_alloc _ _
  have hs1 := hf.size
  have hs2 := hg.size
  have hclt : ∀ a, BC = some a → 0 < b.length → a.block < w1.heap.size := fun a ha h0 => by
    obtain ⟨b', o', e, hc⟩ := hbs.2.2.2 h0
    have hc0 := World.block_lt_of_cell? _ _ (hc 0 _ (List.getElem?_eq_getElem h0))
    rw [ha] at e
    injection e with e
    rw [e]
    exact hc0
  have hT1 : Touch (lfoot bl sv' rv') w' w2 := (hfo.mono fun _ _ => False.elim).grown hg fun q hq => .inr (.inr (.inr hq))
  have hb2 : Blk w2 bl 85 _ := hm1.blk.grown hg fun e => hm1.rows.ne_blk hm1.blk (by decide) e.symm
  have hT : Touch (lfoot bl sv' rv') w' (w2.setCell ⟨bl, 4, none⟩ x) := hT1.setCell (p := ⟨bl, 4, none⟩) (.inr (.inl rfl)) _
  have hT2 : Touch (· = bl) w2 (w2.setCell ⟨bl, 4, none⟩ x) := (Touch.refl (· = bl) w2).setCell (p := ⟨bl, 4, none⟩) (.inr rfl) _
  have hbl := hm.blk.lt
  have hbs3 : Bs (w2.setCell ⟨bl, 4, none⟩ x) BC b.length cc b := by
    refine ((hbs.alloc o).keep fun h0 p v hp ⟨a, ha, e⟩ => ?_ : Bs w2 BC b.length cc b).touch hT2 fun a ha h0 e => by have := hbn a ha; omega
    have h1 := hbn a ha
    rw [World.cell?_of_block (hg.block p.block (World.block_lt_of_cell? _ p hp) fun e2 => by
      have := hm.rows.lt p.block e2.symm
      omega)]
    exact hp
  refine ⟨fun k => R' k ∨ ∃ a, BC = some a ∧ 0 < b.length ∧ k = a.block, h.own hT ⟨?_, ?_, ?_, ?_⟩ (fun k hk => ?_) fun k hk => ?_⟩
  · simpa [Ct.add] using hb2.set_ 4 x
  · refine (hm1.segs.grown hg fun k hk e => ?_).touch hT2 fun k hk e => ?_
    · exact hm1.segs.ne_ow hm1.rows (by decide) k hk e.symm
    · exact hm.segs.ne_blk hm.blk (by decide) (by rw [hk, e])
  · show Ow _ _ 1 x (l'.c.rows ++ [b]).length _
    rw [List.length_append, List.length_singleton]
    exact ho.touch hT2 fun k hk e => ho.ne_blk hb2 (by decide) (by rw [hk, e])
  · have hold : RecsOf (w2.setCell ⟨bl, 4, none⟩ x) R' vs' l'.c.rows := (hm.recs.touch ((hfo.mono fun _ _ => False.elim : Touch (fun k => rv'.ownBlock = some k) w' (w1.alloc o)).grown hg fun q hq => .inr hq) fun k hk e => h.ld.nR k (.inr (.inr e)) hk).touch hT2 fun k hk e => h.ld.nR k (.inl e) hk
    refine ⟨?_, fun i b' hi => ?_, ?_⟩
    · show _ = (l'.c.rows ++ [b]).length
      rw [List.length_append, List.length_append, hold.len]
      rfl
    · have hi : (l'.c.rows ++ [b])[i]? = some b' := hi
      by_cases hlt : i < l'.c.rows.length
      · rw [List.getElem?_append_left hlt] at hi
        obtain ⟨A, c', h1, h2, h3⟩ := hold.at_ i b' hi
        refine ⟨A, c', ?_, h2, fun a ha h0 => ⟨.inl (h3 a ha h0).1, (h3 a ha h0).2⟩⟩
        rw [List.getElem?_append_left (by rw [hold.len]; exact hlt)]
        exact h1
      · rw [List.getElem?_append_right (by omega)] at hi
        have hil : i - l'.c.rows.length = 0 := by
          have := (List.getElem?_eq_some_iff.1 hi).1
          simp at this
          omega
        rw [hil] at hi
        simp only [List.getElem?_cons_zero, Option.some.injEq] at hi
        subst hi
        refine ⟨BC, cc, ?_, hbs3, fun a ha h0 => ⟨.inr ⟨a, ha, h0, rfl⟩, ?_⟩⟩
        · rw [List.getElem?_append_right (by rw [hold.len]; omega), hold.len, hil]
          rfl
        · have h1 := hclt a ha h0
          have h2 := hT2.size
          omega
    · intro u hu
      rcases List.mem_append.1 hu with hu | hu
      · exact hold.one u hu
      · rw [List.mem_singleton] at hu
        rw [hu]
        rfl
  · rcases hk with hk | hk | hk
    · exact .inl (.inl hk)
    · exact .inl (.inr (.inl hk))
    · rcases hb with e | e
      · exact .inl (.inr (.inr (e.symm.trans hk)))
      · refine .inr ?_
        rw [hk] at e
        injection e with e
        refine ⟨by omega, ?_⟩
        rintro (hr | ⟨a, ha, h0, hk2⟩)
        · have := h.ld.Rlt k hr; omega
        · have := hclt a ha h0; omega
  · rcases hk with hk | ⟨a, ha, h0, hk2⟩
    · exact .inl hk
    · have h1 := hbn a ha
      have h2 := hclt a ha h0
      have h3 := hT2.size
      refine .inr ⟨?_, by omega, fun hs => ?_, fun hf' => ?_⟩
      · have := h.tch.size; omega
      · have := h.ld.dk.below k hs; omega
      · have := hm.lt k hf'; omega
end
end Go.Proofs.YtlcmnihpfpmajaaGreat

/- A scope with two labels: to the first the run jumps back, to the second it jumps out. -/
namespace Go.Proofs.YtlcmnihpfpmajaaGreat
open Go.RowKit
/-- by a goto to label 0: J; to label 1: D; else Q -/
def twoWays (J D : Act → World → Prop) (Q : Exit → Act → World → Prop) : Exit → Act → World → Prop
  | .goto l, a, w => (l = 0 ∧ J a w) ∨ (l = 1 ∧ D a w)
  | e, a, w => Q e a w
section
variable {P : Program} {Q : Exit → Act → World → Prop}
theorem scope_two {c r0 r1 : Code} {a : Act} {w : World} (J D : Act → World → Prop) (μ : Act → World → Nat) (h0 : findLabel c 0 = some r0) (h1 : findLabel c 1 = some r1) (first : c.wp P (twoWays J D Q) a w)
    (pass : ∀ a w, J a w → r0.wp P (twoWays (fun a' w' => J a' w' ∧ μ a' w' < μ a w) D Q) a w) (done : ∀ a w, D a w → r1.wp P (twoWays (fun _ _ => False) (fun _ _ => False) Q) a w) : (Code.scope c).wp P Q a w := by
  intro b k cs
  have g0 : gotoIn 0 (.inScope c :: k) = some (.code r0 :: .inScope c :: k) := by simp [gotoIn, h0]
  have g1 : gotoIn 1 (.inScope c :: k) = some (.code r1 :: .inScope c :: k) := by simp [gotoIn, h1]
  have hD : ∀ a w, D a w → ∃ e a' w', Q e a' w' ∧ Arrives P (lone (b.at a (.code r1 :: .inScope c :: k)) cs w) b k cs e a' w' := by
    intro a w hd
    obtain ⟨e, a', w', hq, hr⟩ := done a w hd b (.inScope c :: k) cs
    cases e with
    | normal => exact ⟨.normal, a', w', hq, Steps.trans hr (.one step_inScope)⟩
    | exit id => exact ⟨.exit id, a', w', hq, fun k' hk => hr k' (by simp [exitTo, hk])⟩
    | goto l' => exact (hq.elim (fun h => h.2.elim) fun h => h.2.elim)
    | ret => exact ⟨_, a', w', hq, hr⟩
    | panic ch => exact ⟨_, a', w', hq, hr⟩
    | outgrown => exact ⟨_, a', w', hq, hr⟩
  have hJ : ∀ n a w, μ a w = n → J a w → ∃ e a' w', Q e a' w' ∧ Arrives P (lone (b.at a (.code r0 :: .inScope c :: k)) cs w) b k cs e a' w' := by
    intro n
    induction n using Nat.strongRecOn with
    | _ n ih =>
      intro a w hn hj
      obtain ⟨e, a', w', hq, hr⟩ := pass a w hj b (.inScope c :: k) cs
      cases e with
      | normal => exact ⟨.normal, a', w', hq, Steps.trans hr (.one step_inScope)⟩
      | exit id => exact ⟨.exit id, a', w', hq, fun k' hk => hr k' (by simp [exitTo, hk])⟩
      | goto l' =>
        rcases hq with ⟨rfl, hj', hlt⟩ | ⟨rfl, hd⟩
        · obtain ⟨e2, a2, w2, hq2, hr2⟩ := ih _ (by omega) a' w' rfl hj'
          exact ⟨e2, a2, w2, hq2, .of_steps (hr _ g0) hr2⟩
        · obtain ⟨e2, a2, w2, hq2, hr2⟩ := hD a' w' hd
          exact ⟨e2, a2, w2, hq2, .of_steps (hr _ g1) hr2⟩
      | ret => exact ⟨_, a', w', hq, hr⟩
      | panic ch => exact ⟨_, a', w', hq, hr⟩
      | outgrown => exact ⟨_, a', w', hq, hr⟩
  obtain ⟨e, a', w', hq, hr⟩ := first b (.inScope c :: k) cs
  cases e with
  | normal => exact ⟨.normal, a', w', hq, .head step_scope (Steps.trans hr (.one step_inScope))⟩
  | exit id => exact ⟨.exit id, a', w', hq, fun k' hk => .head step_scope (hr k' (by simp [exitTo, hk]))⟩
  | goto l' =>
    rcases hq with ⟨rfl, hj⟩ | ⟨rfl, hd⟩
    · obtain ⟨e2, a2, w2, hq2, hr2⟩ := hJ _ a' w' rfl hj
      exact ⟨e2, a2, w2, hq2, .of_steps (.head step_scope (hr _ g0)) hr2⟩
    · obtain ⟨e2, a2, w2, hq2, hr2⟩ := hD a' w' hd
      exact ⟨e2, a2, w2, hq2, .of_steps (.head step_scope (hr _ g1)) hr2⟩
  | ret => exact ⟨_, a', w', hq, .of_steps (.one step_scope) hr⟩
  | panic ch => exact ⟨_, a', w', hq, .of_steps (.one step_scope) hr⟩
  | outgrown => exact ⟨_, a', w', hq, .of_steps (.one step_scope) hr⟩
theorem scope_again {c R r1 : Code} {a : Act} {w : World} (J D : Act → World → Prop) (μ : Act → World → Nat) (h0 : findLabel c 0 = some (Code.skip.seq R)) (h1 : findLabel c 1 = some r1)
    (pass : ∀ a w, J a w → R.wp P (twoWays (fun a' w' => J a' w' ∧ μ a' w' < μ a w) D Q) a w) (done : ∀ a w, D a w → r1.wp P (twoWays (fun _ _ => False) (fun _ _ => False) Q) a w)
    (first : (∀ a w, J a w → R.wp P (twoWays J D Q) a w) → c.wp P (twoWays J D Q) a w) : (Code.scope c).wp P Q a w :=
  scope_two J D μ h0 h1 (first fun a w hj => Code.wp_mono (fun e a' w' q => by
    cases e with
    | goto l => exact q.imp (fun h => ⟨h.1, h.2.1⟩) id
    | _ => exact q) (pass a w hj)) (fun a w hj => wp_seq (wp_skip (pass a w hj))) done
/-- the label is come to from ahead -/
theorem label_two {R : Code} {a : Act} {w : World} {J J2 D : Act → World → Prop} (hJ : ∀ a w, J2 a w → J a w) (h : R.wp P (twoWays J2 D Q) a w) : ((Code.label 0).seq R).wp P (twoWays J D Q) a w :=
  wp_seq (wp_label (Code.wp_mono (fun e a' w' q => by
    cases e with
    | goto l => exact q.imp (fun h => ⟨h.1, hJ _ _ h.2⟩) id
    | _ => exact q) h))
end
end Go.Proofs.YtlcmnihpfpmajaaGreat
