/- The wal claims' texts, several in one: Psh. Conditions stand with each theorem. -/
import Derived.Test.YtlcmnihpfpmajaaGreatZa32
/- A record that lies there already is appended in memory. Conditions stand with it. -/
namespace Go.Proofs.YtlcmnihpfpmajaaGreat
open Go.RowKit
attribute [local go_sem] Oper.semAt_some
section
variable {w w' : World} {bl bd : Nat} {R S R' S' : Nat → Prop} {l l' l2 : Lg} {sv rv sv' rv' : Value} {vs vs' : List Value} {d d' : Dk} {K : Nat}
/-- the same of a record that lies there already -/
theorem LX.push2 {w1 w2 : World} {BC B : Option Addr} {cc c n : Nat} {b : List UInt8} {o : Obj} (h : LX w w' bl bd S R sv rv l' d' S' R' sv' rv' vs') (hn : n = l'.c.rows.length) (hf : Fresh w' w1) (hbs : Bs w1 BC b.length cc b) (hbn : ∀ a, BC = some a → 0 < b.length → w.heap.size ≤ a.block ∧ ¬ S' a.block ∧ ¬ lfoot bl sv' rv' a.block)
    (ho : Ow w2 26 1 (.slice B (n + 1) c) (n + 1) (vs' ++ [.slice BC b.length cc])) (hg : (w1.alloc o).grownBy w2 rv'.ownBlock) (hb : (Value.slice B (n + 1) c).ownBlock = rv'.ownBlock ∨ (Value.slice B (n + 1) c).ownBlock = some (w1.alloc o).heap.size) (hl : l2 = { l' with c := l'.c.add b }) :
    LX w (w2.setCell ⟨bl, 4, none⟩ (.slice B (n + 1) c)) bl bd S R sv rv l2 d' S' (fun k => R' k ∨ ∃ a, BC = some a ∧ 0 < b.length ∧ k = a.block) sv' (.slice B (n + 1) c) (vs' ++ [.slice BC b.length cc]) := by
  subst hl hn
  have hm := h.ld.lm
  have hfo : Fresh w' (w1.alloc o) := hf.alloc o
  have hm1 := hm.fresh hfo
  obtain ⟨x, hx⟩ : ∃ x, x = Value.slice B (l'.c.rows.length + 1) c := ⟨_, rfl⟩
  rw [← hx] at ho hb ⊢
  have hsz : (w1.alloc o).heap.size = w1.heap.size + 1 := World.size_alloc _ _
  have hs1 := hf.size
  have hs2 := hg.size
  have hclt : ∀ a, BC = some a → 0 < b.length → a.block < w1.heap.size := fun a ha h0 => by
    obtain ⟨b', o', e, hc⟩ := hbs.2.2.2 h0
    have hc0 := World.block_lt_of_cell? _ _ (hc 0 _ (List.getElem?_eq_getElem h0))
    rw [ha] at e
    injection e with e
    rw [e]
    exact hc0
  have hT1 : Touch (lfoot bl sv' rv') w' w2 := (hfo.mono fun _ _ => False.elim).grown hg fun q hq => .inr (.inr (.inr hq))
  have hb2 : Blk w2 bl 85 _ := hm1.blk.grown hg fun e => hm1.rows.ne_blk hm1.blk (by decide) e.symm
  have hT : Touch (lfoot bl sv' rv') w' (w2.setCell ⟨bl, 4, none⟩ x) := hT1.setCell (p := ⟨bl, 4, none⟩) (.inr (.inl rfl)) _
  have hT2 : Touch (· = bl) w2 (w2.setCell ⟨bl, 4, none⟩ x) := (Touch.refl (· = bl) w2).setCell (p := ⟨bl, 4, none⟩) (.inr rfl) _
  have hbl := hm.blk.lt
  have hbs3 : Bs (w2.setCell ⟨bl, 4, none⟩ x) BC b.length cc b := by
    refine ((hbs.alloc o).keep fun h0 p v hp ⟨a, ha, e⟩ => ?_ : Bs w2 BC b.length cc b).touch hT2 fun a ha h0 e => (hbn a ha h0).2.2 (.inl e)
    have h1 := hbn a ha h0
    rw [World.cell?_of_block (hg.block p.block (World.block_lt_of_cell? _ p hp) fun e2 => h1.2.2 (.inr (.inr (by rw [← e]; exact e2.symm))))]
    exact hp
  refine h.own hT ⟨?_, ?_, ?_, ?_⟩ (fun k hk => ?_) fun k hk => ?_
  · simpa [Ct.add] using hb2.set_ 4 x
  · refine (hm1.segs.grown hg fun k hk e => ?_).touch hT2 fun k hk e => ?_
    · exact hm1.segs.ne_ow hm1.rows (by decide) k hk e.symm
    · exact hm.segs.ne_blk hm.blk (by decide) (by rw [hk, e])
  · show Ow _ _ 1 x (l'.c.rows ++ [b]).length _
    rw [List.length_append, List.length_singleton]
    exact ho.touch hT2 fun k hk e => ho.ne_blk hb2 (by decide) (by rw [hk, e])
  · have hold : RecsOf (w2.setCell ⟨bl, 4, none⟩ x) R' vs' l'.c.rows := (hm.recs.touch ((hfo.mono fun _ _ => False.elim : Touch (fun k => rv'.ownBlock = some k) w' (w1.alloc o)).grown hg fun q hq => .inr hq) fun k hk e => h.ld.nR k (.inr (.inr e)) hk).touch hT2 fun k hk e => h.ld.nR k (.inl e) hk
    refine ⟨?_, fun i b' hi => ?_, ?_⟩
    · show _ = (l'.c.rows ++ [b]).length
      rw [List.length_append, List.length_append, hold.len]
      rfl
    · have hi : (l'.c.rows ++ [b])[i]? = some b' := hi
      by_cases hlt : i < l'.c.rows.length
      · rw [List.getElem?_append_left hlt] at hi
        obtain ⟨A, c', h1, h2, h3⟩ := hold.at_ i b' hi
        refine ⟨A, c', ?_, h2, fun a ha h0 => ⟨.inl (h3 a ha h0).1, (h3 a ha h0).2⟩⟩
        rw [List.getElem?_append_left (by rw [hold.len]; exact hlt)]
        exact h1
      · rw [List.getElem?_append_right (by omega)] at hi
        have hil : i - l'.c.rows.length = 0 := by
          have := (List.getElem?_eq_some_iff.1 hi).1
          simp at this
          omega
        rw [hil] at hi
        simp only [List.getElem?_cons_zero, Option.some.injEq] at hi
        subst hi
        refine ⟨BC, cc, ?_, hbs3, fun a ha h0 => ⟨.inr ⟨a, ha, h0, rfl⟩, ?_⟩⟩
        · rw [List.getElem?_append_right (by rw [hold.len]; omega), hold.len, hil]
          rfl
        · have h1 := hclt a ha h0
          have h2 := hT2.size
          omega
    · intro u hu
      rcases List.mem_append.1 hu with hu | hu
      · exact hold.one u hu
      · rw [List.mem_singleton] at hu
        rw [hu]
        rfl
  · rcases hk with hk | hk | hk
    · exact .inl (.inl hk)
    · exact .inl (.inr (.inl hk))
    · rcases hb with e | e
      · exact .inl (.inr (.inr (e.symm.trans hk)))
      · refine .inr ?_
        rw [hk] at e
        injection e with e
        refine ⟨by omega, ?_⟩
        rintro (hr | ⟨a, ha, h0, hk2⟩)
        · have := h.ld.Rlt k hr; omega
        · have := hclt a ha h0; omega
  · rcases hk with hk | ⟨a, ha, h0, hk2⟩
    · exact .inl hk
    · have h1 := hbn a ha h0
      have h2 := hclt a ha h0
      have h3 := hT2.size
      subst hk2
      exact .inr ⟨h1.1, by omega, h1.2.1, h1.2.2⟩
end
end Go.Proofs.YtlcmnihpfpmajaaGreat
