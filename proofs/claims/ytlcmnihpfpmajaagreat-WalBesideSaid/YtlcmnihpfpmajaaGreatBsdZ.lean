/- Two logs on one disk: what one of them does leaves the files of the other. No program is in sight here. -/
import Derived.Test.YtlcmnihpfpmajaaGreatPgkZ
namespace Go.Proofs.YtlcmnihpfpmajaaGreat
/-- a file's number is within a log's range -/
def InR (base : Nat) (n : Int) : Prop := (base : Int) ≤ n ∧ n < base + 1048576
/-- no file beyond the range has changed -/
structure Away (base : Nat) (fs fs' : List Fl) : Prop where
  ok : Fl.ok fs'
  at_ : ∀ m : Int, ¬ InR base m → Fl.at_ fs' m = Fl.at_ fs m
section
variable {base : Nat} {d : Dk} {l : Lg} {fs fs' fs'' : List Fl}
theorem Away.refl (h : Fl.ok fs) : Away base fs fs := ⟨h, fun _ _ => rfl⟩
theorem Away.trans (h : Away base fs fs') (k : Away base fs' fs'') : Away base fs fs'' := ⟨k.ok, fun m hm => (k.at_ m hm).trans (h.at_ m hm)⟩
theorem Away.one {n : Int} (h : Alike n fs fs') (hn : InR base n) : Away base fs fs' := ⟨h.ok, fun m hm => h.at_ m fun e => hm (e ▸ hn)⟩
theorem away_del {n : Int} (hok : Fl.ok d.fs) (hn : InR base n) : Away base d.fs (d.delete n).fs := by
  rw [delete_fs]
  split
  · exact .one (gone_alike hok) hn
  · exact .refl hok
theorem away_delAll : ∀ (l : List Int) (d : Dk), Fl.ok d.fs → (∀ n ∈ l, InR base n) → Away base d.fs (delAll d l).1.fs
  | [], d, hok, _ => .refl hok
  | n :: r, d, hok, h => by
    have h1 := away_del (d := d) hok (h n (List.mem_cons_self ..))
    unfold delAll
    split
    · exact h1.trans (away_delAll r _ h1.ok fun m hm => h m (List.mem_cons_of_mem _ hm))
    · exact h1
theorem away_lay {n : Int} {b : List UInt8} (hok : Fl.ok d.fs) (hn : InR base n) : Away base d.fs (layP d n b).1.fs := .one (lay_alike hok (by have := hn.1; omega)) hn
def SegsIn (base : Nat) (segs : List Seg) : Prop := ∀ s ∈ segs, InR base s.file
theorem SegsIn.modify {segs : List Seg} (h : SegsIn base segs) (i : Nat) (f : Seg → Seg) (hf : ∀ s, (f s).file = s.file) : SegsIn base (segs.modify i f) := by
  intro s hs
  obtain ⟨j, hj⟩ := List.mem_iff_getElem?.1 hs
  rw [List.getElem?_modify] at hj
  obtain ⟨s0, h0, h1⟩ := Option.map_eq_some_iff.1 hj
  have h2 := h s0 (List.mem_of_getElem? h0)
  rw [← h1]
  split
  · rw [hf]; exact h2
  · exact h2
theorem used_len (fs : List Fl) (base : Nat) (segs : List Seg) : (usedN fs base segs).length ≤ fs.length + segs.length := by
  unfold usedN
  rw [List.length_append, List.length_map, List.length_map]
  have := List.length_filter_le (inR base) fs
  omega
theorem away_begin (hok : Fl.ok d.fs) (hu : d.fs.length + l.segs.length < 1048576) (whole : Bool) (first next : Nat) (xs : List UInt8) :
    Away l.base d.fs (beginP d l whole first next xs).1.fs ∧ (SegsIn l.base l.segs → SegsIn l.base (beginP d l whole first next xs).2.1.segs) := by
  have h1 := away_delAll (base := l.base) (strangeN d.fs l.base l.segs) d hok (by
    intro n hn
    unfold strangeN at hn
    obtain ⟨f, hf, rfl⟩ := List.mem_map.1 hn
    obtain ⟨_, hb⟩ := List.mem_filter.1 hf
    rw [Bool.and_eq_true] at hb
    exact inR_iff.1 hb.1)
  have hfr : InR l.base (freeP (usedN d.fs l.base l.segs) l.base : Nat) := by
    obtain ⟨a, b, _, _⟩ := freeP_spec (usedN d.fs l.base l.segs) l.base
    have := used_len d.fs l.base l.segs
    exact ⟨by omega, by omega⟩
  unfold beginP
  split
  · exact ⟨h1, fun h => h⟩
  · split
    · exact ⟨h1.trans (away_lay h1.ok hfr), fun h => h⟩
    · refine ⟨h1.trans (away_lay h1.ok hfr), fun h s hs => ?_⟩
      rcases List.mem_append.1 hs with hs | hs
      · split at hs
        · obtain ⟨s0, h0, rfl⟩ := List.mem_map.1 hs
          exact h s0 h0
        · exact h s hs
      · rw [List.mem_singleton] at hs
        rw [hs]
        exact hfr
theorem away_write (hok : Fl.ok d.fs) (hu : d.fs.length + l.segs.length < 1048576) (hs : SegsIn l.base l.segs) (xs : List UInt8) : Away l.base d.fs (writeP d l xs).1.fs ∧ SegsIn l.base (writeP d l xs).2.1.segs := by
  have hb := away_begin hok hu false l.c.first l.c.next xs
  unfold writeP
  split
  · rename_i s hsl
    have hsm := hs s (List.mem_of_getLast? hsl)
    split
    · split
      · exact ⟨away_lay hok hsm, hs.modify _ _ fun _ => rfl⟩
      · exact ⟨away_lay hok hsm, hs⟩
    · exact ⟨hb.1, hb.2 hs⟩
  · exact ⟨hb.1, hb.2 hs⟩
theorem away_tidy (first : Nat) : ∀ (segs : List Seg) (d : Dk), Fl.ok d.fs → SegsIn base segs → Away base d.fs (tidyP first d segs).1.fs
  | [], d, hok, _ => .refl hok
  | [s], d, hok, _ => .refl hok
  | s :: t :: r, d, hok, h => by
    have h1 := away_del (d := d) hok (h s (List.mem_cons_self ..))
    unfold tidyP
    split
    · split
      · exact h1.trans (away_tidy first (t :: r) _ h1.ok fun x hx => h x (List.mem_cons_of_mem _ hx))
      · exact h1
    · exact .refl hok
theorem away_append (hok : Fl.ok d.fs) (hu : d.fs.length + l.segs.length < 1048576) (hs : SegsIn l.base l.segs) (b : List UInt8) : Away l.base d.fs (appendP d l b).1.fs := by
  obtain ⟨h1, h2⟩ := away_write hok hu hs (It.put l.c.next b).enc
  unfold appendP
  split
  · exact .refl hok
  · split
    · exact h1
    · exact h1.trans (away_tidy _ _ _ h1.ok (h2.modify _ _ fun _ => rfl))
theorem away_cut (hok : Fl.ok d.fs) (hu : d.fs.length + l.segs.length < 1048576) (hs : SegsIn l.base l.segs) (N : Int) : Away l.base d.fs (cutP d l N).1.fs := by
  have hw : ∀ b, Away l.base d.fs (cutW d l b).1.fs ∧ SegsIn l.base (cutW d l b).2.1.segs := fun b => by
    unfold cutW
    split
    · have := away_begin hok hu true b b (encs (l.c.cut b).puts)
      exact ⟨this.1, this.2 hs⟩
    · exact away_write hok hu hs _
  unfold cutP
  split
  · exact .refl hok
  · split
    · exact (hw _).1
    · exact (hw _).1.trans (away_tidy _ _ _ (hw _).1.ok (hw _).2)
end
section
variable {p q p' : PS} {i T i' T' : Nat}
theorem PInv.segsIn (h : PInv p i T) : SegsIn p.l.base p.l.segs ∧ Fl.ok p.d.fs := by
  obtain ⟨ss, hl, _⟩ := h.live
  unfold Live at hl
  refine ⟨fun s hs => ?_, hl.shape.ok⟩
  obtain ⟨a, ha, n, rfl⟩ := segsOf_mem hl.segs s hs
  have := hl.shape.range a ha
  show InR _ ((a.file : Nat) : Int)
  exact ⟨by omega, by omega⟩
theorem Clean.apart {fs fs' : List Fl} {base : Nat} {ss : List AS} (h : Clean fs base ss) (hok : Fl.ok fs') (hr : ∀ a ∈ ss, base ≤ a.file ∧ a.file < base + 1048576) (hat : ∀ m : Int, (base : Int) ≤ m → m < base + 1048576 → Fl.at_ fs' m = Fl.at_ fs m) : Clean fs' base ss := by
  refine ⟨fun f hf hs => ?_, fun ss0 a e => ?_⟩
  · have h1 := Fl.at_of hok.rise hf
    rw [hat _ hs.1 hs.2.1] at h1
    exact h.strange f (Fl.at_mem h1).1 hs
  · have ha := hr a (by rw [e]; simp)
    rw [hat _ (by omega) (by omega)]
    exact h.last ss0 a e
theorem doS_away (h : PInv p i T) (hi : i ≤ 150) (hT : T ≤ 900000) (hc : Calm p) {o : OpD} (ho : o.Do % 7 = 0 ∨ o.Do % 7 = 1 ∨ o.Do % 7 = 2) : Calm (p.doS o) ∧ Away p.l.base p.d.fs (p.doS o).d.fs := by
  obtain ⟨hs, hok⟩ := h.segsIn
  have hu : p.d.fs.length + p.l.segs.length < 1048576 := by have := h.files; have := h.segs; omega
  unfold PS.doS
  by_cases h1 : o.Do % 7 = 0 ∨ o.Do % 7 = 1
  · rw [if_pos h1]
    have hl : (o.xs.take (min o.m 200)).length ≤ 50000 := by rw [List.length_take]; omega
    obtain ⟨_, _, _, q4, q5, _⟩ := h.app_calm (by omega) hT hl hc
    refine ⟨q4, ?_⟩
    rw [q5]
    exact away_append hok hu hs _
  · rw [if_neg h1, if_pos (by omega)]
    obtain ⟨_, _, q3, q4, _⟩ := h.cut_calm (by omega) hT o.N hc
    refine ⟨q3, ?_⟩
    rw [q4]
    exact away_cut hok hu hs _
/-- the other log's play, behind what this one has done -/
theorem PInv.beside (hq : PInv q i T) (hp : PInv p' i' T') (hi : i ≤ i') (hT : T ≤ T') {base : Nat} (haw : Away base q.d.fs p'.d.fs) (hb : ∀ m, InR q.l.base m → ¬ InR base m) (cq : Calm q) (cp : Calm p') : PInv { q with d := p'.d } i' T' := by
  have hl := hq.lens
  have hfl : p'.d.faults = [] := by
    cases hf : p'.d.faults with
    | nil => rfl
    | cons f r =>
      have := hp.struck f (by rw [hf]; exact List.mem_cons_self ..)
      rw [cp.1] at this
      cases this
  refine ⟨?_, hq.c, hp.files, Nat.le_trans hq.segs hi, hp.raws, hp.ops, hp.flt, Nat.le_trans hq.next hi, Nat.le_trans hq.size hT, hq.rows, fun x hx => ?_, fun n hn => ?_, fun f hf => ?_, fun s hs => ?_, fun hst => ?_, ?_⟩
  · obtain ⟨ss, h1, h2⟩ := hq.live
    unfold Live at h1 ⊢
    refine ⟨ss, ⟨h1.shape.apart haw.ok fun m m1 m2 => haw.at_ m (hb m ⟨m1, m2⟩), h1.segs, fun hd => (h1.clean hd).apart haw.ok h1.shape.range fun m m1 m2 => haw.at_ m (hb m ⟨m1, m2⟩)⟩, Nat.le_trans h2 hi⟩
  · rw [show ({ q with d := p'.d } : PS).maybe = q.maybe from rfl, cq.2.2.1] at hx
    cases hx
  · rw [show ({ q with d := p'.d } : PS).cuts = q.cuts from rfl, cq.2.2.2] at hn
    cases hn
  · rw [show ({ q with d := p'.d } : PS).d = p'.d from rfl, hfl] at hf
    cases hf
  · rw [show ({ q with d := p'.d } : PS).struck = q.struck from rfl, cq.1] at hs
    cases hs
  · have h3 := (hp.stop hst).2
    rw [cp.2.1] at h3
    omega
  · have h4 : ({ q with d := p'.d } : PS).maybe = [] ∧ ({ q with d := p'.d } : PS).cuts = [] ∧ ({ q with d := p'.d } : PS).struck = [] ∧ ({ q with d := p'.d } : PS).stop = -1 := ⟨cq.2.2.1, cq.2.2.2, cq.1, cq.2.1⟩
    rw [h4.1, h4.2.1, h4.2.2.1, h4.2.2.2]
    exact ⟨Nat.zero_le _, Nat.zero_le _, Nat.zero_le _, by omega⟩
end
end Go.Proofs.YtlcmnihpfpmajaaGreat
