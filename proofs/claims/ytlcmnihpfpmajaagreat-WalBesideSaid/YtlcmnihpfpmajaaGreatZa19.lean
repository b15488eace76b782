/- The wal claims' texts, several in one: Rspec, Shp, Cra, Ops, Log, Wrt. Conditions stand with each theorem. -/
import Derived.Test.YtlcmnihpfpmajaaGreatZa03
import Derived.Test.YtlcmnihpfpmajaaGreatZa17
/- The plain law of the document's disk: what its calls do, on lists; it and the program's disk tell the same. No program is in sight here. -/
namespace Go.Proofs.YtlcmnihpfpmajaaGreat

/-- The document's disk: its files, the faults (after, kind), the stop (negative: none), how many operations there were. -/
structure Rk where
  fs : List Fl
  faults : List (Int × Int)
  stop : Int
  count : Nat
namespace Rk
def new : Rk := ⟨[], [], -1, 0⟩
def hit (r : Rk) : Option (Int × Int) := r.faults.find? fun f => decide (¬ 0 < f.1)
def left (l : List (Int × Int)) : List (Int × Int) := l.filterMap fun f => if 0 < f.1 then some (f.1 - 1, f.2) else none
def next (r : Rk) : Rk := { r with faults := left r.faults, stop := if 0 < r.stop then r.stop - 1 else r.stop, count := r.count + 1 }
def why (r : Rk) (file : Int) : Int := if r.stop = 0 then 4 else if r.hit.isSome then 3 else if file < 0 then 1 else 0
def half (r : Rk) : Bool := match r.hit with | some f => decide (r.stop ≠ 0) && decide (f.2 = 2) | none => false
def append (r : Rk) (file : Int) (b : List UInt8) : Rk :=
  if r.why file = 0 then { r.next with fs := Fl.add file b r.fs }
  else if r.half = true ∧ 0 ≤ file then { r.next with fs := Fl.add file (b.take (b.length / 2)) r.fs }
  else r.next
def sync (r : Rk) (file : Int) : Rk := if r.why file = 0 then { r.next with fs := Fl.sync file r.fs } else r.next
def delete (r : Rk) (file : Int) : Rk := if r.why file = 0 then { r.next with fs := r.fs.filter fun f => decide (f.n ≠ file) } else r.next
def crash (r : Rk) (cuts : List Int) : Rk := { r with fs := Fl.crash r.fs cuts, faults := [], stop := -1 }
def fail (r : Rk) (after kind : Int) : Rk := { r with faults := r.faults ++ [(max after 0, kind)] }
def halt (r : Rk) (after : Int) : Rk := { r with stop := max after 0 }
def read (r : Rk) (file : Int) : List UInt8 := match Fl.at_ r.fs file with | some f => f.raw | none => []
def kept (r : Rk) (file : Int) : Nat := match Fl.at_ r.fs file with | some f => f.kept | none => 0
end Rk

/-- how a fault that waits for 'after' operations more is told by the program's disk -/
def conv (c : Nat) (f : Int × Int) : Int × Int := (if 9223372036854775807 < f.1 + c then -1 else c + f.1, f.2)
/-- The two disks tell the same. -/
structure Sim (d : Dk) (r : Rk) : Prop where
  fs : d.fs = r.fs
  ops : d.ops = r.count
  flt : d.faults = r.faults.map (conv r.count)
  pos : ∀ f ∈ r.faults, 0 ≤ f.1
  run : r.stop < 0 ∨ 9223372036854775807 < r.stop + r.count → d.stopped = false
  halt : 0 ≤ r.stop → r.stop + r.count ≤ 9223372036854775807 → d.stopped = true ∧ (d.stop = r.count + r.stop ∨ (r.stop = 0 ∧ d.stop ≤ r.count))
theorem Sim.new : Sim Dk.new Rk.new :=
  ⟨rfl, rfl, rfl, (by intro f hf; cases hf), fun _ => rfl, fun h => absurd h (by decide)⟩
theorem conv_hit (c : Nat) (hc : c ≤ 9223372036854775807) : ∀ l : List (Int × Int), (∀ f ∈ l, 0 ≤ f.1) →
    ((l.map (conv c)).find? fun f => decide (f.1 = (c : Int))).map Prod.snd = (l.find? fun f => decide (¬ 0 < f.1)).map Prod.snd
  | [], _ => rfl
  | f :: l, h => by
    have h0 := h f (by simp)
    have ih := conv_hit c hc l fun g hg => h g (List.mem_cons_of_mem _ hg)
    rw [List.map_cons]
    by_cases hz : 0 < f.1
    · have h1 : ¬ ((conv c f).1 = (c : Int)) := by unfold conv; dsimp only; split <;> omega
      rw [List.find?_cons_of_neg (by simpa using h1), List.find?_cons_of_neg (by simp; omega)]
      exact ih
    · have h1 : (conv c f).1 = (c : Int) := by unfold conv; dsimp only; split <;> omega
      rw [List.find?_cons_of_pos (by simpa using h1), List.find?_cons_of_pos (by simp; omega)]
      rfl
theorem conv_left (c : Nat) : ∀ l : List (Int × Int), (∀ f ∈ l, 0 ≤ f.1) → c ≤ 9223372036854775807 →
    (l.map (conv c)).filter (fun f => decide (f.1 ≠ (c : Int))) = (Rk.left l).map (conv (c + 1))
  | [], _, _ => rfl
  | f :: l, h, hc => by
    have h0 := h f (by simp)
    have ih := conv_left c l (fun g hg => h g (List.mem_cons_of_mem _ hg)) hc
    rw [List.map_cons]
    unfold Rk.left
    by_cases hz : 0 < f.1
    · have h1 : (conv c f).1 ≠ (c : Int) := by unfold conv; dsimp only; split <;> omega
      rw [List.filter_cons_of_pos (by simpa using h1), List.filterMap_cons_some (b := (f.1 - 1, f.2)) (by simp [hz]), List.map_cons]
      refine congr (congrArg List.cons ?_) ih
      unfold conv
      dsimp only
      refine Prod.ext ?_ rfl
      dsimp only
      push_cast
      split <;> split <;> omega
    · have h1 : (conv c f).1 = (c : Int) := by unfold conv; dsimp only; split <;> omega
      rw [List.filter_cons_of_neg (by simpa using h1), List.filterMap_cons_none (by simp [hz])]
      exact ih
theorem left_pos {l : List (Int × Int)} : ∀ f ∈ Rk.left l, 0 ≤ f.1 := by
  intro f hf
  obtain ⟨g, _, hg⟩ := List.mem_filterMap.1 hf
  split at hg
  · injection hg with hg; subst hg; dsimp only; omega
  · cases hg
section
variable {d : Dk} {r : Rk}
theorem Sim.hit (h : Sim d r) (hc : r.count ≤ 9223372036854775807) : d.hit.map Prod.snd = r.hit.map Prod.snd := by
  unfold Dk.hit Rk.hit
  rw [h.flt, h.ops]
  exact conv_hit _ hc _ h.pos
theorem Sim.next (h : Sim d r) (hc : r.count < 9223372036854775807) : Sim d.next r.next := by
  refine ⟨h.fs, congrArg (· + 1) h.ops, ?_, left_pos, fun hs => ?_, fun h1 h2 => ?_⟩
  · show d.faults.filter (fun f => decide (f.1 ≠ (d.ops : Int))) = _
    rw [h.flt, h.ops]
    exact conv_left _ _ h.pos (by omega)
  · refine h.run ?_
    change (if 0 < r.stop then r.stop - 1 else r.stop) < 0 ∨ 9223372036854775807 < (if 0 < r.stop then r.stop - 1 else r.stop) + ((r.count + 1 : Nat) : Int) at hs
    push_cast at hs
    split at hs <;> omega
  · change 0 ≤ (if 0 < r.stop then r.stop - 1 else r.stop) at h1
    change (if 0 < r.stop then r.stop - 1 else r.stop) + ((r.count + 1 : Nat) : Int) ≤ 9223372036854775807 at h2
    have h3 := h.halt (by split at h1 <;> omega) (by push_cast at h2; split at h2 <;> omega)
    refine ⟨h3.1, ?_⟩
    show d.stop = ((r.count + 1 : Nat) : Int) + (if 0 < r.stop then r.stop - 1 else r.stop) ∨ ((if 0 < r.stop then r.stop - 1 else r.stop) = 0 ∧ d.stop ≤ ((r.count + 1 : Nat) : Int))
    push_cast
    have h4 := h3.2
    split <;> omega
theorem Sim.dead (h : Sim d r) (hc : r.count < 9223372036854775807) : d.dead = decide (r.stop = 0) := by
  unfold Dk.dead
  by_cases h1 : r.stop < 0 ∨ 9223372036854775807 < r.stop + r.count
  · rw [h.run h1, show decide (r.stop = 0) = false by simp; omega]
    rfl
  · obtain ⟨h2, h3⟩ := h.halt (by omega) (by omega)
    rw [h2, h.ops, Bool.true_and]
    by_cases h4 : r.stop = 0
    · rw [decide_eq_true (by omega), decide_eq_true h4]
    · rw [decide_eq_false (by omega), decide_eq_false h4]
theorem Sim.why (h : Sim d r) (hc : r.count < 9223372036854775807) (n : Int) : d.why n = r.why n := by
  have h1 := congrArg Option.isSome (h.hit (by omega))
  rw [Option.isSome_map, Option.isSome_map] at h1
  unfold Dk.why Rk.why
  rw [h.dead hc, h1]
  by_cases h4 : r.stop = 0
  · simp [h4]
  · simp [h4]
theorem Sim.half (h : Sim d r) (hc : r.count < 9223372036854775807) (n : Int) : (d.why n = 3 ∧ d.kind = 2) ↔ r.half = true := by
  have h1 := h.hit (by omega)
  unfold Dk.why Dk.kind Rk.half
  rw [h.dead hc]
  by_cases h4 : r.stop = 0
  · simp only [h4, decide_true, if_true]
    constructor
    · intro h; exact absurd h.1 (by decide)
    · intro h; split at h <;> simp at h
  · simp only [h4, decide_false]
    cases hd : d.hit with
    | none =>
      rw [hd] at h1
      cases hr : r.hit with
      | none =>
        constructor
        · intro h; exact absurd h.2 (by simp)
        · intro h; exact absurd h (by simp)
      | some g => rw [hr] at h1; cases h1
    | some f =>
      rw [hd] at h1
      cases hr : r.hit with
      | none => rw [hr] at h1; cases h1
      | some g =>
        rw [hr] at h1
        simp only [Option.map_some, Option.some.injEq] at h1
        simp [h1, h4]
theorem Sim.files (h : Sim d r) {fs : List Fl} : Sim { d with fs := fs } { r with fs := fs } := ⟨rfl, h.ops, h.flt, h.pos, h.run, h.halt⟩
theorem Sim.append (h : Sim d r) (hc : r.count < 9223372036854775807) (n : Int) (b : List UInt8) : Sim (d.append n b) (r.append n b) := by
  have hw := h.why hc n
  have hh := h.half hc n
  have hn := h.next hc
  unfold Dk.append Rk.append
  rw [hw] at hh ⊢
  by_cases h1 : r.why n = 0
  · rw [if_pos h1, if_pos h1, h.fs]
    exact hn.files
  · rw [if_neg h1, if_neg h1]
    by_cases h2 : r.half = true ∧ 0 ≤ n
    · have h3 := hh.2 h2.1
      rw [if_pos ⟨h3.1, h3.2, h2.2⟩, if_pos h2, h.fs]
      exact hn.files
    · rw [if_neg (fun h => h2 ⟨hh.1 ⟨h.1, h.2.1⟩, h.2.2⟩), if_neg h2]
      exact hn
theorem Sim.sync (h : Sim d r) (hc : r.count < 9223372036854775807) (n : Int) : Sim (d.sync n) (r.sync n) := by
  have hn := h.next hc
  unfold Dk.sync Rk.sync
  rw [h.why hc n]
  split
  · rw [h.fs]; exact hn.files
  · exact hn
theorem Sim.delete (h : Sim d r) (hc : r.count < 9223372036854775807) (n : Int) : Sim (d.delete n) (r.delete n) := by
  have hn := h.next hc
  unfold Dk.delete Rk.delete
  rw [h.why hc n]
  split
  · rw [h.fs]; exact hn.files
  · exact hn
theorem Sim.crash (h : Sim d r) (cuts : List Int) : Sim (d.crash cuts) (r.crash cuts) :=
  ⟨by show Fl.crash d.fs cuts = Fl.crash r.fs cuts; rw [h.fs], h.ops, rfl, (by intro f hf; cases hf), fun _ => rfl, fun h => absurd (show (0 : Int) ≤ -1 from h) (by decide)⟩
theorem Sim.fail (h : Sim d r) (after kind : Int) : Sim (d.fail after kind) (r.fail after kind) := by
  refine ⟨h.fs, h.ops, ?_, ?_, h.run, h.halt⟩
  · show d.faults ++ [(d.later after, kind)] = (r.faults ++ [(max after 0, kind)]).map (conv r.count)
    rw [List.map_append, ← h.flt]
    refine congrArg (d.faults ++ ·) (congrArg (· :: []) ?_)
    unfold conv Dk.later
    rw [h.ops]
    refine Prod.ext ?_ rfl
    dsimp only
    split <;> split <;> omega
  · intro f hf
    rcases List.mem_append.1 hf with hf | hf
    · exact h.pos f hf
    · obtain rfl := List.mem_singleton.1 hf
      dsimp only; omega
theorem Sim.stop (h : Sim d r) (after : Int) : Sim (d.halt after) (r.halt after) := by
  refine ⟨h.fs, h.ops, h.flt, h.pos, fun hs => ?_, fun h1 h2 => ?_⟩
  · change max after 0 < 0 ∨ 9223372036854775807 < max after 0 + r.count at hs
    show decide (d.later after ≠ -1) = false
    have : d.later after = -1 := by unfold Dk.later; rw [h.ops, if_pos (by omega)]
    rw [this]; rfl
  · change max after 0 + r.count ≤ 9223372036854775807 at h2
    have : d.later after = r.count + max after 0 := by unfold Dk.later; rw [h.ops, if_neg (by omega)]
    refine ⟨?_, .inl ?_⟩
    · show decide (d.later after ≠ -1) = true
      rw [this, decide_eq_true]; omega
    · exact this
theorem Sim.read (h : Sim d r) (n : Int) : d.read n = r.read n := by unfold Dk.read Rk.read; rw [h.fs]; rfl
theorem Sim.kept (h : Sim d r) (n : Int) : d.kept n = r.kept n := by unfold Dk.kept Rk.kept; rw [h.fs]; rfl
end

/-- The files in their order: where one stands, or would stand. -/
def Fl.pos (n : Int) (fs : List Fl) : Nat := fs.findIdx fun f => decide (n ≤ f.n)
def Fl.hit (n : Int) (fs : List Fl) : Bool := match fs[Fl.pos n fs]? with | some f => decide (f.n = n) | none => false
theorem Fl.pos_le (n : Int) (fs : List Fl) : Fl.pos n fs ≤ fs.length := List.findIdx_le_length
theorem Fl.pos_cons (n : Int) (f : Fl) (fs : List Fl) : Fl.pos n (f :: fs) = if n ≤ f.n then 0 else Fl.pos n fs + 1 := by
  unfold Fl.pos
  rw [List.findIdx_cons]
  by_cases h : n ≤ f.n <;> simp [h]
theorem Fl.hit_cons (n : Int) (f : Fl) (fs : List Fl) : Fl.hit n (f :: fs) = if n ≤ f.n then decide (f.n = n) else Fl.hit n fs := by
  unfold Fl.hit
  rw [Fl.pos_cons]
  by_cases h : n ≤ f.n
  · simp [h]
  · simp [h]
theorem Fl.hit_lt {n : Int} {fs : List Fl} (h : Fl.hit n fs = true) : ∃ f, fs[Fl.pos n fs]? = some f ∧ f.n = n := by
  unfold Fl.hit at h
  cases hf : fs[Fl.pos n fs]? with
  | none => rw [hf] at h; cases h
  | some f => rw [hf] at h; exact ⟨f, rfl, by simpa using h⟩
theorem Fl.ins_hit (n : Int) (b : List UInt8) : ∀ {fs : List Fl}, Fl.hit n fs = true → ∀ f, fs[Fl.pos n fs]? = some f → Fl.ins n b fs = fs.set (Fl.pos n fs) ⟨n, f.raw ++ b, f.kept⟩
  | [], h, _, _ => by cases h
  | g :: fs, h, f, hf => by
    rw [Fl.hit_cons] at h
    rw [Fl.pos_cons] at hf ⊢
    unfold Fl.ins
    by_cases h1 : n ≤ g.n
    · rw [if_pos h1] at h hf ⊢
      have h2 : g.n = n := by simpa using h
      rw [if_neg (by omega), if_pos h2]
      simp only [List.getElem?_cons_zero, Option.some.injEq] at hf
      subst hf
      rfl
    · rw [if_neg h1] at h hf ⊢
      rw [if_neg (by omega), if_neg (by omega), List.set_cons_succ]
      rw [List.getElem?_cons_succ] at hf
      rw [Fl.ins_hit n b h f hf]
theorem Fl.ins_new (n : Int) (b : List UInt8) : ∀ {fs : List Fl}, Fl.hit n fs = false → Fl.ins n b fs = fs.take (Fl.pos n fs) ++ ⟨n, b, 0⟩ :: fs.drop (Fl.pos n fs)
  | [], _ => rfl
  | g :: fs, h => by
    rw [Fl.hit_cons] at h
    rw [Fl.pos_cons]
    unfold Fl.ins
    by_cases h1 : n ≤ g.n
    · rw [if_pos h1] at h ⊢
      have h2 : g.n ≠ n := by simpa using h
      rw [if_pos (by omega)]
      rfl
    · rw [if_neg h1] at h ⊢
      rw [if_neg (by omega), if_neg (by omega), List.take_succ_cons, List.drop_succ_cons, List.cons_append, Fl.ins_new n b h]
/-- a disk's files: rising, none empty, no more kept than there is -/
structure Fl.ok (fs : List Fl) : Prop where
  rise : fs.Pairwise fun a b => a.n < b.n
  le : ∀ f ∈ fs, f.kept ≤ f.raw.length
theorem Fl.filter_none {n : Int} {fs : List Fl} (h : ∀ f ∈ fs, n < f.n) : fs.filter (fun f => decide (f.n ≠ n)) = fs :=
  List.filter_eq_self.2 fun f hf => by have := h f hf; simp; omega
theorem Fl.find_none {n : Int} {fs : List Fl} (h : ∀ f ∈ fs, n < f.n) : Fl.at_ fs n = none :=
  List.find?_eq_none.2 fun f hf => by have := h f hf; simp; omega
theorem Fl.sync_none {n : Int} {fs : List Fl} (h : ∀ f ∈ fs, n < f.n) : Fl.sync n fs = fs := by
  unfold Fl.sync
  have : ∀ f ∈ fs, (if f.n = n then ⟨f.n, f.raw, f.raw.length⟩ else f) = f := fun f hf => if_neg (by have := h f hf; omega)
  exact (List.map_congr_left this).trans (List.map_id' fs)
theorem Fl.at_pos {n : Int} : ∀ {fs : List Fl}, fs.Pairwise (fun a b => a.n < b.n) → Fl.at_ fs n = if Fl.hit n fs = true then fs[Fl.pos n fs]? else none
  | [], _ => rfl
  | g :: fs, h => by
    obtain ⟨hg, hr⟩ := List.pairwise_cons.1 h
    rw [Fl.hit_cons, Fl.pos_cons]
    by_cases h1 : n ≤ g.n
    · rw [if_pos h1, if_pos h1]
      by_cases h2 : g.n = n
      · rw [if_pos (by simpa using h2)]
        unfold Fl.at_
        rw [List.find?_cons_of_pos (by simpa using h2)]
        rfl
      · rw [if_neg (by simpa using h2)]
        refine Fl.find_none fun f hf => ?_
        rcases List.mem_cons.1 hf with rfl | hf
        · omega
        · have := hg f hf; omega
    · rw [if_neg h1, if_neg h1]
      unfold Fl.at_
      rw [List.find?_cons_of_neg (by simp; omega), List.getElem?_cons_succ]
      exact Fl.at_pos hr
theorem Fl.gone_pos {n : Int} : ∀ {fs : List Fl}, fs.Pairwise (fun a b => a.n < b.n) → fs.filter (fun f => decide (f.n ≠ n)) = if Fl.hit n fs = true then fs.take (Fl.pos n fs) ++ fs.drop (Fl.pos n fs + 1) else fs
  | [], _ => rfl
  | g :: fs, h => by
    obtain ⟨hg, hr⟩ := List.pairwise_cons.1 h
    rw [Fl.hit_cons, Fl.pos_cons]
    by_cases h1 : n ≤ g.n
    · rw [if_pos h1, if_pos h1]
      have hN : ∀ f ∈ fs, n < f.n := fun f hf => by have := hg f hf; omega
      by_cases h2 : g.n = n
      · rw [if_pos (by simpa using h2), List.filter_cons_of_neg (by simpa using h2), Fl.filter_none hN]
        rfl
      · rw [if_neg (by simpa using h2), List.filter_cons_of_pos (by simpa using h2), Fl.filter_none hN]
    · rw [if_neg h1, if_neg h1, List.filter_cons_of_pos (by simp; omega), Fl.gone_pos hr]
      split
      · rfl
      · rfl
theorem Fl.sync_pos {n : Int} : ∀ {fs : List Fl}, fs.Pairwise (fun a b => a.n < b.n) → Fl.sync n fs = match Fl.at_ fs n with | some f => fs.set (Fl.pos n fs) ⟨f.n, f.raw, f.raw.length⟩ | none => fs
  | [], _ => rfl
  | g :: fs, h => by
    obtain ⟨hg, hr⟩ := List.pairwise_cons.1 h
    rw [Fl.pos_cons]
    by_cases h1 : n ≤ g.n
    · have hN : ∀ f ∈ fs, n < f.n := fun f hf => by have := hg f hf; omega
      have h3 : Fl.sync n (g :: fs) = (if g.n = n then ⟨g.n, g.raw, g.raw.length⟩ else g) :: Fl.sync n fs := rfl
      rw [h3, Fl.sync_none hN, if_pos h1]
      by_cases h2 : g.n = n
      · rw [if_pos h2]
        unfold Fl.at_
        rw [List.find?_cons_of_pos (by simpa using h2)]
        rfl
      · rw [if_neg h2, Fl.find_none (fs := g :: fs) (fun f hf => by
          rcases List.mem_cons.1 hf with rfl | hf
          · omega
          · exact hN f hf)]
    · have h3 : Fl.sync n (g :: fs) = (if g.n = n then ⟨g.n, g.raw, g.raw.length⟩ else g) :: Fl.sync n fs := rfl
      have h4 : Fl.at_ (g :: fs) n = Fl.at_ fs n := by unfold Fl.at_; rw [List.find?_cons_of_neg (by simp; omega)]
      rw [h3, h4, if_neg (show ¬ g.n = n by omega), if_neg h1, Fl.sync_pos hr]
      cases Fl.at_ fs n <;> rfl
end Go.Proofs.YtlcmnihpfpmajaaGreat

/- The plain law of a log's files: segments on a disk, and what a crash leaves of them. No program is in sight here. -/
namespace Go.Proofs.YtlcmnihpfpmajaaGreat

/-- a segment of a log -/
structure AS where
  number : Nat
  ahead : Nat
  first : Nat
  next : Nat
  whole : Bool
  file : Nat
  flen : Nat
  fsum : Nat
  items : List It
namespace AS
def kind (a : AS) : UInt8 := if a.whole = true then 119 else 104
def nums (a : AS) : List Nat := [a.number, a.ahead, a.first, a.next, a.flen, a.fsum]
def head (a : AS) : List UInt8 := metaF a.kind a.nums
def bytes (a : AS) : List UInt8 := a.head ++ encs a.items
def stop (a : AS) : Nat := endOf a.next a.items
def start (a : AS) (c : Ct) : Ct := if a.whole = true ∨ (c.cut a.first).next < a.next then ⟨a.next, []⟩ else c.cut a.first
def play (c : Ct) (a : AS) : Ct := (a.start c).items a.items
structure fine (a : AS) : Prop where
  nums : ∀ n ∈ a.nums, n < 9223372036854775808
  sum : a.fsum < 4294967296
  its : ∀ i ∈ a.items, i.fine
  good : GoodIts a.next a.items
  le : a.first ≤ a.next
  front : a.whole = true → a.flen ≤ (encs a.items).length ∧ a.fsum = Enc.sum ((encs a.items).take a.flen)
theorem head_len (a : AS) : a.head.length = 57 := by unfold head; rw [metaF_len]; rfl
end AS
/-- a segment's head, as it is read -/
structure Hd where
  number : Nat
  ahead : Nat
  first : Nat
  next : Nat
  whole : Bool
  size : Nat
def AS.hd (a : AS) : Hd := ⟨a.number, a.ahead, a.first, a.next, a.whole, 57⟩
/-- a number is none of an int's (no file of the log's is so) -/
def big6 (p : List UInt8) : Bool := (List.range 6).any fun i => decide (9223372036854775808 ≤ num p i)
theorem big6_not {p : List UInt8} (h : big6 p = false) : ∀ i, i < 6 → num p i < 9223372036854775808 := fun i hi => by
  have h1 := List.any_eq_false.1 h i (List.mem_range.2 hi)
  simp only [decide_eq_true_eq, Nat.not_le] at h1
  exact h1
def begunP (raw : List UInt8) : Option Hd :=
  match Enc.unframe raw with
  | none => none
  | some (p, k) =>
    if ¬ (p.length = 49 ∧ (p.headD 0 = 104 ∨ p.headD 0 = 119)) then none
    else if big6 p then some ⟨0, 0, 0, 0, false, 0⟩
    else if p.headD 0 = 119 ∧ (raw.length - k < num p 4 ∨ Enc.sum ((raw.drop k).take (num p 4)) ≠ num p 5 % 4294967296) then none
    else some ⟨num p 0, num p 1, num p 2, num p 3, decide (p.headD 0 = 119), k⟩
theorem begun_none {raw : List UInt8} (h : Enc.unframe raw = none) : begunP raw = none := by unfold begunP; rw [h]
theorem begun_head {a : AS} (h : ∀ n ∈ a.nums, n < 9223372036854775808) (hs : a.fsum < 4294967296) (X : List UInt8) :
    begunP (a.head ++ X) = if a.whole = true ∧ (X.length < a.flen ∨ Enc.sum (X.take a.flen) ≠ a.fsum) then none else some a.hd := by
  have hl : (metaP a.kind a.nums).length = 49 := by rw [metaP_len]; rfl
  have h0 : ∀ i n, a.nums[i]? = some n → num (metaP a.kind a.nums) i = n := fun i n hi => num_meta _ _ _ _ hi (by have := h n (List.mem_of_getElem? hi); omega)
  have hh : (metaP a.kind a.nums).headD 0 = a.kind := rfl
  have hd : (Enc.frame (metaP a.kind a.nums) ++ X).drop 57 = X := List.drop_left' (by rw [Enc.frame_len, hl])
  have hln : (Enc.frame (metaP a.kind a.nums) ++ X).length - 57 = X.length := by rw [List.length_append, Enc.frame_len, hl]; omega
  have hb : big6 (metaP a.kind a.nums) = false := List.any_eq_false.2 fun i hi => by
    have hi := List.mem_range.1 hi
    have hg : a.nums[i]? = some (a.nums[i]'(by show i < 6; exact hi)) := List.getElem?_eq_getElem _
    have h2 := h _ (List.mem_of_getElem? hg)
    rw [h0 i _ hg]
    simp only [decide_eq_true_eq, Nat.not_le]
    exact h2
  unfold begunP AS.head metaF
  rw [Enc.unframe_of (by omega)]
  dsimp only
  rw [hb, hl, hh, h0 0 _ rfl, h0 1 _ rfl, h0 2 _ rfl, h0 3 _ rfl, h0 4 _ rfl, h0 5 _ rfl, hd, hln, Nat.mod_eq_of_lt hs]
  cases hw : a.whole with
  | true =>
    have hk : a.kind = 119 := by simp [AS.kind, hw]
    rw [hk, if_neg (by simp), if_neg (by simp)]
    simp [AS.hd, hw]
  | false =>
    have hk : a.kind = 104 := by simp [AS.kind, hw]
    rw [hk, if_neg (by simp), if_neg (by simp), if_neg (by simp), if_neg (by simp)]
    simp [AS.hd, hw]
theorem begun_of {a : AS} (h : a.fine) (X : List UInt8) : begunP (a.bytes ++ X) = some a.hd := by
  unfold AS.bytes
  rw [List.append_assoc, begun_head h.nums h.sum, if_neg]
  rintro ⟨hw, hx⟩
  obtain ⟨h1, h2⟩ := h.front hw
  rcases hx with hx | hx
  · rw [List.length_append] at hx; omega
  · exact hx (by rw [List.take_append_of_le_length h1, h2])

/-- how segments lie behind each other -/
structure Link (a b : AS) : Prop where
  number : a.number < b.number
  ahead : b.ahead = a.bytes.length
  next : b.whole = true ∨ a.stop = b.next
def Chain : List AS → Prop
  | [] => True
  | [_] => True
  | a :: b :: r => Link a b ∧ Chain (b :: r)
theorem chain_snoc (n : AS) : ∀ ss : List AS, Chain (ss ++ [n]) ↔ Chain ss ∧ ∀ as0 a, ss = as0 ++ [a] → Link a n
  | [] => by simp [Chain]
  | [a] => by
    show Link a n ∧ True ↔ True ∧ _
    constructor
    · rintro ⟨h, _⟩
      refine ⟨trivial, fun as0 b hb => ?_⟩
      cases as0 with
      | nil => injection hb with hb; rw [← hb]; exact h
      | cons x l => simp at hb
    · rintro ⟨_, h⟩
      exact ⟨h [] a rfl, trivial⟩
  | a :: b :: r => by
    have ih := chain_snoc n (b :: r)
    show Link a b ∧ Chain (b :: r ++ [n]) ↔ (Link a b ∧ Chain (b :: r)) ∧ _
    rw [ih]
    constructor
    · rintro ⟨h1, h2, h3⟩
      refine ⟨⟨h1, h2⟩, fun as0 x hx => ?_⟩
      cases as0 with
      | nil => simp at hx
      | cons y l =>
        rw [List.cons_append] at hx
        injection hx with _ hx
        exact h3 l x hx
    · rintro ⟨⟨h1, h2⟩, h3⟩
      exact ⟨h1, h2, fun as0 x hx => h3 (a :: as0) x (by rw [hx]; rfl)⟩
theorem Chain.tail {a : AS} : ∀ {r : List AS}, Chain (a :: r) → Chain r
  | [], _ => trivial
  | _ :: _, h => h.2
theorem Chain.rise : ∀ {ss : List AS}, Chain ss → ss.Pairwise fun a b => a.number < b.number
  | [], _ => List.Pairwise.nil
  | [a], _ => List.pairwise_singleton _ _
  | a :: b :: r, h => by
    have ih := Chain.rise h.2
    refine List.pairwise_cons.2 ⟨fun x hx => ?_, ih⟩
    rcases List.mem_cons.1 hx with rfl | hx
    · exact h.1.number
    · exact Nat.lt_trans h.1.number ((List.pairwise_cons.1 ih).1 x hx)
def playAll (c : Ct) (ss : List AS) : Ct := ss.foldl AS.play c
theorem playAll_snoc (c : Ct) (ss : List AS) (a : AS) : playAll c (ss ++ [a]) = AS.play (playAll c ss) a := by simp [playAll]
theorem start_next {a : AS} {c : Ct} (hle : a.first ≤ a.next) (h : a.whole = true ∨ c.next ≤ a.next) : (a.start c).next = a.next := by
  unfold AS.start
  by_cases hc : a.whole = true ∨ (c.cut a.first).next < a.next
  · rw [if_pos hc]; simp [Ct.next]
  · rw [if_neg hc]
    have h1 : ¬ a.whole = true := fun h => hc (.inl h)
    have h2 : ¬ (c.cut a.first).next < a.next := fun h => hc (.inr h)
    have h3 := h.resolve_left h1
    unfold Ct.cut Ct.next at *
    split at h2 <;> rename_i h4
    · rw [if_pos h4]
      simp only [List.length_drop] at h2 ⊢
      omega
    · rw [if_neg h4]
      omega
theorem play_next {a : AS} {c : Ct} (hf : a.fine) (h : a.whole = true ∨ c.next ≤ a.next) : (AS.play c a).next = a.stop := by
  have h1 := start_next hf.le h
  unfold AS.play AS.stop
  rw [items_next _ _ (by rw [h1]; exact hf.good), h1]
/-- where the records end behind the segments -/
theorem playAll_next : ∀ {ss : List AS}, Chain ss → (∀ a ∈ ss, a.fine) → ∀ (c : Ct), (∀ a, ss.head? = some a → a.whole = true ∨ c.next ≤ a.next) → ∀ as0 z, ss = as0 ++ [z] → (playAll c ss).next = z.stop
  | [], _, _, _, _, as0, z, h => by simp at h
  | [a], _, hf, c, hc, as0, z, h => by
    have : a = z := by
      cases as0 with
      | nil => injection h
      | cons x l => simp at h
    subst this
    exact play_next (hf a (by simp)) (hc a rfl)
  | a :: b :: r, hch, hf, c, hc, as0, z, h => by
    cases as0 with
    | nil => simp at h
    | cons x l =>
      rw [List.cons_append] at h
      injection h with _ h
      refine playAll_next (ss := b :: r) hch.2 (fun y hy => hf y (List.mem_cons_of_mem _ hy)) (AS.play c a) (fun y hy => ?_) l z h
      injection hy with hy
      subst hy
      rcases hch.1.next with h1 | h1
      · exact .inl h1
      · exact .inr (by rw [play_next (hf a (by simp)) (hc a rfl), h1]; exact Nat.le_refl _)
/-- a segment is read -/
theorem replay_of {a : AS} {c : Ct} {junk : List UInt8} {counts : Nat} (hf : a.fine) (h : a.whole = true ∨ c.next ≤ a.next) (h1 : a.bytes.length ≤ counts) (h2 : Dead junk ∨ counts < a.bytes.length + 8) :
    playB (a.bytes ++ junk) counts ((a.bytes ++ junk).length + 1) ⟨a.start c, a.next, 57⟩ = ⟨AS.play c a, a.stop, a.bytes.length⟩ := by
  have hn := start_next hf.le h
  have hil : ∀ l : List It, l.length ≤ (encs l).length := by
    intro l
    induction l with
    | nil => simp
    | cons x l ih => rw [encs_cons, List.length_append, List.length_cons]; have := x.enc_len; omega
  have := play_items (T := junk) (counts := counts) a.items a.head (a.start c) a.next ((a.bytes ++ junk).length + 1) hf.its (by rw [hn]; exact hf.good) hn.symm h1 h2 (by
    have h3 := hil a.items
    have h4 : a.bytes.length = a.head.length + (encs a.items).length := by unfold AS.bytes; rw [List.length_append]
    rw [List.length_append]; omega)
  rw [AS.head_len] at this
  have e : a.bytes ++ junk = a.head ++ (encs a.items ++ junk) := by unfold AS.bytes; rw [List.append_assoc]
  rw [← e] at this
  have hp := play_next hf h
  unfold AS.play at hp
  rw [hp] at this
  exact this

theorem Fl.at_mem {fs : List Fl} {n : Int} {f : Fl} (h : Fl.at_ fs n = some f) : f ∈ fs ∧ f.n = n := ⟨List.mem_of_find?_eq_some h, by have := List.find?_some h; simpa using this⟩
theorem Fl.at_of {fs : List Fl} (hr : fs.Pairwise fun a b => a.n < b.n) {f : Fl} (h : f ∈ fs) : Fl.at_ fs f.n = some f := by
  induction fs with
  | nil => cases h
  | cons g r ih =>
    obtain ⟨hg, hr⟩ := List.pairwise_cons.1 hr
    unfold Fl.at_
    rcases List.mem_cons.1 h with rfl | h
    · rw [List.find?_cons_of_pos (by simp)]
    · rw [List.find?_cons_of_neg (by have := hg f h; simp; omega)]
      exact ih hr h
/-- what a crash makes of files -/
structure Cr (fs fs' : List Fl) : Prop where
  ok : Fl.ok fs'
  back : ∀ f' ∈ fs', ∃ f ∈ fs, f'.n = f.n
  on : ∀ f ∈ fs, ∃ T, Torn (f.raw.drop f.kept) T ∧ ((f.kept + T.length = 0 ∧ Fl.at_ fs' f.n = none) ∨ (0 < f.kept + T.length ∧ Fl.at_ fs' f.n = some ⟨f.n, f.raw.take f.kept ++ T, f.kept + T.length⟩))
theorem torn_len {U T : List UInt8} (h : Torn U T) : T.length ≤ U.length := by
  obtain ⟨j, hj, rfl | ⟨_, rfl⟩⟩ := h
  · rw [List.length_take]; omega
  · rw [List.length_set, List.length_take]; omega
theorem crash_cr : ∀ {fs : List Fl} (cuts : List Int), Fl.ok fs → Cr fs (Fl.crash fs cuts)
  | [], _, _ => ⟨⟨List.Pairwise.nil, by simp [Fl.crash]⟩, by simp [Fl.crash], by simp⟩
  | f :: r, cuts, h => by
    obtain ⟨hg, hr⟩ := List.pairwise_cons.1 h.rise
    have ih := crash_cr cuts.tail (fs := r) ⟨hr, fun x hx => h.le x (List.mem_cons_of_mem _ hx)⟩
    have hk := h.le f (List.mem_cons_self ..)
    obtain ⟨T, hT, hl⟩ := lose_torn f hk (cuts.headD 0)
    have hgr : ∀ f' ∈ Fl.crash r cuts.tail, f.n < f'.n := fun f' hf' => by
      obtain ⟨x, hx, e⟩ := ih.back f' hf'
      rw [e]; exact hg x hx
    have hno : ∀ x ∈ r, x.n ≠ f.n := fun x hx => by have := hg x hx; omega
    unfold Fl.crash
    rw [hl]
    dsimp only
    by_cases h0 : f.kept + T.length = 0
    · rw [if_pos h0]
      refine ⟨ih.ok, fun f' hf' => ?_, fun x hx => ?_⟩
      · obtain ⟨x, hx, e⟩ := ih.back f' hf'
        exact ⟨x, List.mem_cons_of_mem _ hx, e⟩
      · rcases List.mem_cons.1 hx with rfl | hx
        · exact ⟨T, hT, .inl ⟨h0, Fl.find_none hgr⟩⟩
        · exact ih.on x hx
    · rw [if_neg h0]
      refine ⟨⟨List.pairwise_cons.2 ⟨hgr, ih.ok.rise⟩, fun x hx => ?_⟩, fun f' hf' => ?_, fun x hx => ?_⟩
      · rcases List.mem_cons.1 hx with rfl | hx
        · dsimp only
          rw [List.length_append, List.length_take]; omega
        · exact ih.ok.le x hx
      · rcases List.mem_cons.1 hf' with rfl | hf'
        · exact ⟨f, List.mem_cons_self .., rfl⟩
        · obtain ⟨x, hx, e⟩ := ih.back f' hf'
          exact ⟨x, List.mem_cons_of_mem _ hx, e⟩
      · rcases List.mem_cons.1 hx with rfl | hx
        · refine ⟨T, hT, .inr ⟨by omega, ?_⟩⟩
          unfold Fl.at_
          rw [List.find?_cons_of_pos (by simp)]
        · obtain ⟨T', h1, h2⟩ := ih.on x hx
          refine ⟨T', h1, ?_⟩
          have e : Fl.at_ (⟨f.n, f.raw.take f.kept ++ T, f.kept + T.length⟩ :: Fl.crash r cuts.tail) x.n = Fl.at_ (Fl.crash r cuts.tail) x.n := by
            unfold Fl.at_
            rw [List.find?_cons_of_neg (by have := hno x hx; simp; omega)]
          rw [e]
          exact h2

/-- a file of the log's that is no segment -/
def Strange (base : Nat) (ss : List AS) (f : Fl) : Prop := (base : Int) ≤ f.n ∧ f.n < base + 1048576 ∧ ∀ a ∈ ss, (a.file : Int) ≠ f.n
def lastNum (ss : List AS) : Nat := match ss.getLast? with | some a => a.number | none => 0
theorem lastNum_snoc (l : List AS) (a : AS) : lastNum (l ++ [a]) = a.number := by simp [lastNum]
/-- a new segment that was refused: what may be in its file -/
def Pend (ss : List AS) (c : Ct) (A : Ct → Prop) (f : Fl) : Prop :=
  ∃ N : AS, N.fine ∧ N.number = lastNum ss + 1 ∧ (∀ as0 a, ss = as0 ++ [a] → Link a N) ∧ (N.file : Int) = f.n ∧ f.raw <+: N.bytes ∧ A (AS.play c N) ∧ (N.whole = true → N.flen = (encs N.items).length) ∧ (N.whole = false → N.start c = c ∧ ∃ it, N.items = [it])
/-- what may be behind the last segment's frames -/
def Tail (a : AS) (c : Ct) (A : Ct → Prop) (f : Fl) : Prop :=
  ∃ junk, f.raw.take f.kept = a.bytes ++ junk ∧ Dead junk ∧ (f.raw.length = f.kept ∨ (junk = [] ∧ ∃ it, it.fine ∧ GoodIts a.stop [it] ∧ A (c.item it) ∧ f.raw.drop f.kept <+: it.enc))
/-- files that are a log of segments, told as c; refused calls may have left what would make it one of A -/
structure Shape (fs : List Fl) (base : Nat) (ss : List AS) (c : Ct) (A : Ct → Prop) : Prop where
  ok : Fl.ok fs
  fine : ∀ a ∈ ss, a.fine
  chain : Chain ss
  play : playAll ⟨0, []⟩ ss = c
  nodup : (ss.map AS.file).Nodup
  range : ∀ a ∈ ss, base ≤ a.file ∧ a.file < base + 1048576
  held : ∀ a ∈ ss, ∃ f junk, Fl.at_ fs a.file = some f ∧ f.raw.take f.kept = a.bytes ++ junk
  tail : ∀ as0 a, ss = as0 ++ [a] → ∀ f, Fl.at_ fs a.file = some f → Tail a c A f
  strange : ∀ f ∈ fs, Strange base ss f → begunP (f.raw.take f.kept) = none ∧ (f.raw.length = f.kept ∨ (f.kept = 0 ∧ Pend ss c A f))
  one : ∀ f ∈ fs, ∀ g ∈ fs, Strange base ss f → Strange base ss g → f.raw.length ≠ f.kept → g.raw.length ≠ g.kept → f = g
theorem Shape.next {fs : List Fl} {base : Nat} {ss : List AS} {c : Ct} {A : Ct → Prop} (h : Shape fs base ss c A) {as0 : List AS} {z : AS} (hz : ss = as0 ++ [z]) : c.next = z.stop := by
  rw [← h.play]
  exact playAll_next h.chain h.fine ⟨0, []⟩ (fun a _ => .inr (Nat.zero_le _)) as0 z hz
theorem Shape.weak {fs : List Fl} {base : Nat} {ss : List AS} {c : Ct} {A B : Ct → Prop} (h : Shape fs base ss c A) (hab : ∀ x, A x → B x) : Shape fs base ss c B :=
  ⟨h.ok, h.fine, h.chain, h.play, h.nodup, h.range, h.held, fun as0 a e f hf => by
    obtain ⟨junk, h1, h2, h3⟩ := h.tail as0 a e f hf
    refine ⟨junk, h1, h2, h3.imp id ?_⟩
    rintro ⟨h4, it, h5, h6, h7, h8⟩
    exact ⟨h4, it, h5, h6, hab _ h7, h8⟩, fun f hf hs => by
    obtain ⟨h1, h2⟩ := h.strange f hf hs
    refine ⟨h1, h2.imp id ?_⟩
    rintro ⟨h3, N, n1, n0, n2, n3, n4, n5, n6⟩
    exact ⟨h3, N, n1, n0, n2, n3, n4, hab _ n5, n6⟩, h.one⟩
/-- the same segments with the last one's file as a crash left it -/
theorem fine_more {a : AS} {it : It} (h : a.fine) (h1 : it.fine) (h2 : GoodIts a.stop [it]) : ({ a with items := a.items ++ [it] } : AS).fine := by
  refine ⟨h.nums, h.sum, ?_, ?_, h.le, fun hw => ?_⟩
  · intro i hi
    rcases List.mem_append.1 hi with hi | hi
    · exact h.its i hi
    · rw [List.mem_singleton] at hi; rw [hi]; exact h1
  · exact (goodIts_append _ _ _).2 ⟨h.good, h2⟩
  · obtain ⟨h3, h4⟩ := h.front hw
    dsimp only
    rw [encs_append, List.length_append]
    exact ⟨by omega, by rw [List.take_append_of_le_length h3]; exact h4⟩
theorem bytes_more (a : AS) (it : It) : ({ a with items := a.items ++ [it] } : AS).bytes = a.bytes ++ it.enc := by
  show a.head ++ encs (a.items ++ [it]) = _
  rw [encs_append, encs_one, ← List.append_assoc]
  rfl
theorem play_more (c : Ct) (a : AS) (it : It) : AS.play c { a with items := a.items ++ [it] } = (AS.play c a).item it := by
  show (a.start c).items (a.items ++ [it]) = _
  unfold Ct.items
  rw [List.foldl_append]
  rfl
theorem link_more {x a : AS} {it : It} (h : Link x a) : Link x { a with items := a.items ++ [it] } := ⟨h.number, h.ahead, h.next⟩
end Go.Proofs.YtlcmnihpfpmajaaGreat

/- The plain law of a log's files behind a crash. No program is in sight here. -/
namespace Go.Proofs.YtlcmnihpfpmajaaGreat

theorem nil_or_snoc {α : Type} (l : List α) : l = [] ∨ ∃ L b, l = L ++ [b] := by
  rcases List.eq_nil_or_concat l with h | ⟨L, b, h⟩
  · exact .inl h
  · exact .inr ⟨L, b, by rw [h, List.concat_eq_append]⟩
theorem take_all {l : List UInt8} {k : Nat} (h : l.length ≤ k) : l.take k = l := List.take_of_length_le h
section
variable {fs fs' : List Fl} {base : Nat} {ss as0 : List AS} {a : AS} {c : Ct} {A : Ct → Prop}
theorem Cr.all (h : Cr fs fs') (hok : Fl.ok fs) : ∀ f' ∈ fs', f'.raw.length = f'.kept := by
  intro f' hf'
  obtain ⟨f, hf, e⟩ := h.back f' hf'
  have h1 := Fl.at_of h.ok.rise hf'
  rw [e] at h1
  obtain ⟨T, _, ⟨_, h2⟩ | ⟨_, h2⟩⟩ := h.on f hf
  · rw [h2] at h1; cases h1
  · rw [h2] at h1
    injection h1 with h1
    rw [← h1]
    have := hok.le f hf
    simp only [List.length_append, List.length_take]
    omega
theorem Cr.held (h : Cr fs fs') (hok : Fl.ok fs) {f : Fl} {n : Int} {junk : List UInt8} (hf : Fl.at_ fs n = some f) (hb : f.raw.take f.kept = a.bytes ++ junk) :
    ∃ f' T, Fl.at_ fs' n = some f' ∧ Torn (f.raw.drop f.kept) T ∧ f'.raw.take f'.kept = a.bytes ++ (junk ++ T) := by
  obtain ⟨hm, rfl⟩ := Fl.at_mem hf
  have hk := hok.le f hm
  have hl : 0 < f.kept := by
    have := congrArg List.length hb
    simp only [List.length_take, List.length_append, AS.bytes, AS.head_len] at this
    omega
  obtain ⟨T, hT, ⟨h1, _⟩ | ⟨_, h2⟩⟩ := h.on f hm
  · omega
  · refine ⟨_, T, h2, hT, ?_⟩
    dsimp only
    rw [take_all (by rw [List.length_append, List.length_take]; omega), hb, List.append_assoc]
theorem file_mem {a : AS} {ss : List AS} (h : a ∈ ss) : a.file ∈ ss.map AS.file := List.mem_map_of_mem h
theorem strange_iff {ss ss' : List AS} (h : ss.map AS.file = ss'.map AS.file) (f : Fl) : Strange base ss f → Strange base ss' f := by
  rintro ⟨h1, h2, h3⟩
  refine ⟨h1, h2, fun a ha => ?_⟩
  have := file_mem ha
  rw [← h] at this
  obtain ⟨b, hb, e⟩ := List.mem_map.1 this
  rw [← e]
  exact h3 b hb
/-- the last segment as it is left -/
theorem Shape.last (h : Shape fs base (as0 ++ [a]) c A) (hc : Cr fs fs') (hst : ∀ f' ∈ fs', Strange base (as0 ++ [a]) f' → begunP (f'.raw.take f'.kept) = none) {a' : AS} (e1 : a'.file = a.file) (e2 : a'.fine) (e3 : ∀ x, Link x a → Link x a')
    {f' : Fl} {junk : List UInt8} (h1 : Fl.at_ fs' a.file = some f') (h2 : f'.raw.take f'.kept = a'.bytes ++ junk) (h3 : Dead junk) : Shape fs' base (as0 ++ [a']) (AS.play (playAll ⟨0, []⟩ as0) a') (fun _ => False) := by
  have hm : (as0 ++ [a']).map AS.file = (as0 ++ [a]).map AS.file := by simp [e1]
  have hall := hc.all h.ok
  have hch := (chain_snoc a as0).1 h.chain
  refine ⟨hc.ok, fun x hx => ?_, (chain_snoc a' as0).2 ⟨hch.1, fun l x hx => e3 x (hch.2 l x hx)⟩, playAll_snoc _ _ _, by rw [hm]; exact h.nodup, fun x hx => ?_, fun x hx => ?_, fun l x hx f hf => ?_, fun f hf hs => ?_, fun f hf g hg _ _ h1 _ => absurd (hall f hf) h1⟩
  · rcases List.mem_append.1 hx with hx | hx
    · exact h.fine x (List.mem_append_left _ hx)
    · rw [List.mem_singleton] at hx; rw [hx]; exact e2
  · rcases List.mem_append.1 hx with hx | hx
    · exact h.range x (List.mem_append_left _ hx)
    · rw [List.mem_singleton] at hx; rw [hx, e1]; exact h.range a (by simp)
  · rcases List.mem_append.1 hx with hx | hx
    · obtain ⟨f, jk, hf, hb⟩ := h.held x (List.mem_append_left _ hx)
      obtain ⟨f', T, h1, _, h2⟩ := hc.held h.ok hf hb
      exact ⟨f', _, h1, h2⟩
    · rw [List.mem_singleton] at hx; rw [hx, e1]; exact ⟨f', junk, h1, h2⟩
  · obtain ⟨_, hx⟩ := List.append_inj' hx rfl
    injection hx with hx
    subst hx
    rw [e1, h1] at hf
    injection hf with hf
    subst hf
    exact ⟨junk, h2, h3, .inl (hall f' (Fl.at_mem h1).1)⟩
  · exact ⟨hst f hf (strange_iff hm f hs), .inl (hall f hf)⟩
/-- behind a crash, where no new segment came to be -/
theorem crash_keep (h : Shape fs base ss c A) (hc : Cr fs fs') (hst : ∀ f' ∈ fs', Strange base ss f' → begunP (f'.raw.take f'.kept) = none) :
    ∃ ss' c', Shape fs' base ss' c' (fun _ => False) ∧ (c' = c ∨ A c') ∧ lastNum ss' ≤ lastNum ss + 1 := by
  have hall := hc.all h.ok
  rcases nil_or_snoc ss with rfl | ⟨as0, a, rfl⟩
  · refine ⟨[], c, ⟨hc.ok, by simp, trivial, h.play, by simp, by simp, by simp, by simp, fun f hf hs => ⟨hst f hf hs, .inl (hall f hf)⟩, fun f hf g hg _ _ h1 _ => absurd (hall f hf) h1⟩, .inl rfl, Nat.le_succ _⟩
  · obtain ⟨f, jk, hf, _⟩ := h.held a (by simp)
    obtain ⟨junk, hb, hd, ht⟩ := h.tail as0 a rfl f hf
    obtain ⟨f', T, h1, hT, h2⟩ := hc.held h.ok hf hb
    have hpl : AS.play (playAll ⟨0, []⟩ as0) a = c := by rw [← h.play, playAll_snoc]
    have hfa := h.fine a (by simp)
    rcases ht with ht | ⟨rfl, it, i1, i2, i3, i4⟩
    · rw [List.drop_eq_nil_of_le (by omega)] at hT
      have := torn_nil hT
      subst this
      rw [List.append_nil] at h2
      have := h.last hc hst (a' := a) rfl hfa (fun _ h => h) h1 h2 hd
      rw [hpl] at this
      exact ⟨_, _, this, .inl rfl, by simp only [lastNum_snoc]; exact Nat.le_succ _⟩
    · have hT' : Torn it.enc T := by
        rw [List.prefix_iff_eq_take.1 i4] at hT
        exact torn_take hT
      rw [List.nil_append] at h2
      rcases item_torn i1 hT' with rfl | hD
      · have h2' : f'.raw.take f'.kept = ({ a with items := a.items ++ [it] } : AS).bytes ++ [] := by rw [bytes_more, List.append_nil, h2]
        have := h.last hc hst (a' := { a with items := a.items ++ [it] }) rfl (fine_more hfa i1 i2) (fun _ h => link_more h) h1 h2' dead_nil
        rw [play_more, hpl] at this
        exact ⟨_, _, this, .inr i3, by simp only [lastNum_snoc]; exact Nat.le_succ _⟩
      · have := h.last hc hst (a' := a) rfl hfa (fun _ h => h) h1 h2 hD
        rw [hpl] at this
        exact ⟨_, _, this, .inl rfl, by simp only [lastNum_snoc]; exact Nat.le_succ _⟩
/-- behind a crash that left a new segment -/
theorem crash_new (h : Shape fs base ss c A) (hc : Cr fs fs') {N : AS} {f0 : Fl} {junk : List UInt8} (h0 : Strange base ss f0) (n1 : N.fine) (n2 : ∀ as0 a, ss = as0 ++ [a] → Link a N) (n3 : (N.file : Int) = f0.n) (n4 : Fl.at_ fs' f0.n = some ⟨f0.n, N.bytes ++ junk, (N.bytes ++ junk).length⟩) (n5 : Dead junk)
    (hst : ∀ f' ∈ fs', Strange base ss f' → f'.n ≠ f0.n → begunP (f'.raw.take f'.kept) = none) : Shape fs' base (ss ++ [N]) (AS.play c N) (fun _ => False) := by
  have hall := hc.all h.ok
  refine ⟨hc.ok, fun x hx => ?_, (chain_snoc N ss).2 ⟨h.chain, n2⟩, by rw [playAll_snoc, h.play], ?_, fun x hx => ?_, fun x hx => ?_, fun l x hx f hf => ?_, fun f hf hs => ?_, fun f hf g hg _ _ h1 _ => absurd (hall f hf) h1⟩
  · rcases List.mem_append.1 hx with hx | hx
    · exact h.fine x hx
    · rw [List.mem_singleton] at hx; rw [hx]; exact n1
  · rw [List.map_append, List.nodup_append]
    refine ⟨h.nodup, by simp, fun x hx y hy e => ?_⟩
    simp only [List.map_cons, List.map_nil, List.mem_singleton] at hy
    obtain ⟨z, hz, rfl⟩ := List.mem_map.1 hx
    refine h0.2.2 z hz ?_
    rw [e, hy, n3]
  · rcases List.mem_append.1 hx with hx | hx
    · exact h.range x hx
    · rw [List.mem_singleton] at hx
      rw [hx]
      have h1 := h0.1; have h2 := h0.2.1
      omega
  · rcases List.mem_append.1 hx with hx | hx
    · obtain ⟨f, jk, hf, hb⟩ := h.held x hx
      obtain ⟨f', T, h1, _, h2⟩ := hc.held h.ok hf hb
      exact ⟨f', _, h1, h2⟩
    · rw [List.mem_singleton] at hx
      rw [hx, n3]
      exact ⟨_, junk, n4, List.take_length⟩
  · obtain ⟨_, hx⟩ := List.append_inj' hx rfl
    injection hx with hx
    subst hx
    rw [n3, n4] at hf
    injection hf with hf
    subst hf
    exact ⟨junk, List.take_length, n5, .inl rfl⟩
  · refine ⟨hst f hf ⟨hs.1, hs.2.1, fun x hx => hs.2.2 x (List.mem_append_left _ hx)⟩ fun e => ?_, .inl (hall f hf)⟩
    exact hs.2.2 N (by simp) (by rw [n3, e])
theorem sum_torn {U T : List UInt8} (h : Torn U T) (hl : T.length = U.length) (hs : Enc.sum T = Enc.sum U) : T = U := by
  obtain ⟨j, hj, rfl | ⟨h0, rfl⟩⟩ := h
  · rw [List.length_take] at hl
    exact take_all (by omega)
  · rw [List.length_set, List.length_take] at hl
    have he : j = U.length := by omega
    subst he
    rw [List.take_length] at hs ⊢
    have h1 : U.length - 1 < U.length := by omega
    have h2 := Enc.sum_set h1 hs
    rw [List.getD_eq_getElem?_getD, List.getElem?_eq_getElem h1] at h2
    exact absurd h2 (flip_ne _)
theorem begun_short (raw : List UInt8) (h : raw.length < 57) (N : AS) : Torn N.head raw → begunP raw = none := fun ht => by
  rcases frame_torn (p := metaP N.kind N.nums) (by rw [metaP_len]; simp [AS.nums]) ht with e | e
  · exfalso
    have := N.head_len
    unfold AS.head metaF at this
    rw [e] at h
    omega
  · exact begun_none e
/-- Behind a crash a log is told as before, or as a refused call would have made it. -/
theorem crash_shape (h : Shape fs base ss c A) (hc : Cr fs fs') : ∃ ss' c', Shape fs' base ss' c' (fun _ => False) ∧ (c' = c ∨ A c') ∧ lastNum ss' ≤ lastNum ss + 1 := by
  have keep : ∀ f ∈ fs, Strange base ss f → f.raw.length = f.kept → ∀ f' ∈ fs', f'.n = f.n → begunP (f'.raw.take f'.kept) = none := by
    intro f hf hs hk f' hf' e
    have h1 := Fl.at_of hc.ok.rise hf'
    rw [e] at h1
    obtain ⟨T, hT, ⟨_, h2⟩ | ⟨_, h2⟩⟩ := hc.on f hf
    · rw [h2] at h1; cases h1
    · rw [List.drop_eq_nil_of_le (by omega)] at hT
      have := torn_nil hT
      subst this
      rw [h2] at h1
      injection h1 with h1
      rw [← h1]
      dsimp only
      rw [List.append_nil, List.length_nil, Nat.add_zero, List.take_take, Nat.min_self]
      exact (h.strange f hf hs).1
  by_cases hx : ∃ f ∈ fs, Strange base ss f ∧ f.raw.length ≠ f.kept
  · obtain ⟨f0, hf0, hs0, hk0⟩ := hx
    have rest : ∀ f' ∈ fs', Strange base ss f' → f'.n ≠ f0.n → begunP (f'.raw.take f'.kept) = none := by
      intro f' hf' hs' hne
      obtain ⟨f, hf, e⟩ := hc.back f' hf'
      have hs : Strange base ss f := ⟨by rw [← e]; exact hs'.1, by rw [← e]; exact hs'.2.1, fun a ha => by rw [← e]; exact hs'.2.2 a ha⟩
      refine keep f hf hs ?_ f' hf' e
      by_cases hk : f.raw.length = f.kept
      · exact hk
      · exact absurd (congrArg Fl.n (h.one f hf f0 hf0 hs hs0 hk hk0)) (by rw [← e]; exact hne)
    have none_case : (∀ f' ∈ fs', f'.n = f0.n → begunP (f'.raw.take f'.kept) = none) → ∃ ss' c', Shape fs' base ss' c' (fun _ => False) ∧ (c' = c ∨ A c') ∧ lastNum ss' ≤ lastNum ss + 1 := fun hn =>
      crash_keep h hc fun f' hf' hs' => by
        by_cases e : f'.n = f0.n
        · exact hn f' hf' e
        · exact rest f' hf' hs' e
    obtain ⟨_, hk | ⟨hk, N, n1, n0, n2, n3, n4, n5, n6, n7⟩⟩ := h.strange f0 hf0 hs0
    · exact absurd hk hk0
    obtain ⟨T, hT, ⟨_, hat⟩ | ⟨_, hat⟩⟩ := hc.on f0 hf0
    · refine none_case fun f' hf' e => ?_
      have h1 := Fl.at_of hc.ok.rise hf'
      rw [e, hat] at h1
      cases h1
    · rw [hk, List.take_zero, List.nil_append, Nat.zero_add] at hat
      rw [hk, List.drop_zero, List.prefix_iff_eq_take.1 n4] at hT
      have hT := torn_take hT
      have none2 : begunP T = none → ∃ ss' c', Shape fs' base ss' c' (fun _ => False) ∧ (c' = c ∨ A c') ∧ lastNum ss' ≤ lastNum ss + 1 := fun hb => by
        refine none_case fun f' hf' e => ?_
        have h1 := Fl.at_of hc.ok.rise hf'
        rw [e, hat] at h1
        injection h1 with h1
        rw [← h1, List.take_length]
        exact hb
      have tail : ∀ T', T = N.head ++ T' → Torn (encs N.items) T' → ∃ ss' c', Shape fs' base ss' c' (fun _ => False) ∧ (c' = c ∨ A c') ∧ lastNum ss' ≤ lastNum ss + 1 := by
        intro T' e hT'
        have hbg := begun_head n1.nums n1.sum T'
        rw [← e] at hbg
        cases hw : N.whole with
        | true =>
          have hfl := n6 hw
          have hfs := (n1.front hw).2
          rw [hfl, List.take_length] at hfs
          by_cases hq : T'.length < N.flen ∨ Enc.sum (T'.take N.flen) ≠ N.fsum
          · rw [if_pos ⟨hw, hq⟩] at hbg
            exact none2 hbg
          · have hl : ¬ T'.length < N.flen := fun h => hq (.inl h)
            have hs : Enc.sum (T'.take N.flen) = N.fsum := Classical.byContradiction fun h => hq (.inr h)
            have hle := torn_len hT'
            rw [take_all (by omega), hfs] at hs
            have hTT := sum_torn hT' (by omega) hs
            have hat2 : Fl.at_ fs' f0.n = some ⟨f0.n, N.bytes ++ [], (N.bytes ++ []).length⟩ := by
              rw [hat, List.append_nil, e, hTT]
              rfl
            exact ⟨_, _, crash_new h hc hs0 n1 n2 n3 hat2 dead_nil rest, .inr n5, by rw [lastNum_snoc]; exact Nat.le_of_eq n0⟩
        | false =>
          obtain ⟨hst, it, hit⟩ := n7 hw
          have hif : it.fine := n1.its it (by rw [hit]; simp)
          rw [hit, encs_one] at hT'
          rcases item_torn hif hT' with hT' | hT'
          · have hat2 : Fl.at_ fs' f0.n = some ⟨f0.n, N.bytes ++ [], (N.bytes ++ []).length⟩ := by
              rw [hat, List.append_nil, e, hT', ← encs_one, ← hit]
              rfl
            exact ⟨_, _, crash_new h hc hs0 n1 n2 n3 hat2 dead_nil rest, .inr n5, by rw [lastNum_snoc]; exact Nat.le_of_eq n0⟩
          · have n1' : ({ N with items := [] } : AS).fine := ⟨n1.nums, n1.sum, by simp, (by have := goodIts_le _ _ n1.good; show N.next ≤ 900000000; omega), n1.le, fun h => absurd (hw.symm.trans h) (by decide)⟩
            have hat2 : Fl.at_ fs' f0.n = some ⟨f0.n, ({ N with items := [] } : AS).bytes ++ T', (({ N with items := [] } : AS).bytes ++ T').length⟩ := by
              rw [hat, e]
              have : ({ N with items := [] } : AS).bytes = N.head := by
                show N.head ++ encs [] = N.head
                simp [encs]
              rw [this]
            refine ⟨_, _, crash_new (N := { N with items := [] }) h hc hs0 n1' (fun as0 a e => ⟨(n2 as0 a e).number, (n2 as0 a e).ahead, (n2 as0 a e).next⟩) n3 hat2 hT' rest, .inl ?_, by rw [lastNum_snoc]; exact Nat.le_of_eq n0⟩
            exact hst
      rcases torn_append hT with hh | ⟨T', e, hT'⟩
      · by_cases hl : T.length < 57
        · exact none2 (begun_short T hl N hh)
        · rcases frame_torn (p := metaP N.kind N.nums) (by rw [metaP_len]; simp [AS.nums]) hh with e | e
          · exact tail [] (by rw [List.append_nil]; exact e) ⟨0, by omega, .inl (by simp)⟩
          · exact none2 (begun_none e)
      · exact tail T' e hT'
  · refine crash_keep h hc fun f' hf' hs' => ?_
    obtain ⟨f, hf, e⟩ := hc.back f' hf'
    have hs : Strange base ss f := ⟨by rw [← e]; exact hs'.1, by rw [← e]; exact hs'.2.1, fun a ha => by rw [← e]; exact hs'.2.2 a ha⟩
    exact keep f hf hs (Classical.byContradiction fun hk => hx ⟨f, hf, hs, hk⟩) f' hf' e
end
end Go.Proofs.YtlcmnihpfpmajaaGreat

/- The plain law of a log's files under the disk's operations. No program is in sight here. -/
namespace Go.Proofs.YtlcmnihpfpmajaaGreat

section
variable {fs : List Fl}
theorem Fl.at_cons (f : Fl) (r : List Fl) (n : Int) : Fl.at_ (f :: r) n = if f.n = n then some f else Fl.at_ r n := by
  unfold Fl.at_
  by_cases h : f.n = n
  · rw [List.find?_cons_of_pos (by simpa using h), if_pos h]
  · rw [List.find?_cons_of_neg (by simpa using h), if_neg h]
theorem Fl.mem_ins {n : Int} {b : List UInt8} {f : Fl} : ∀ {fs : List Fl}, f ∈ Fl.ins n b fs → f.n = n ∨ f ∈ fs
  | [], h => by simp [Fl.ins] at h; subst h; exact .inl rfl
  | g :: r, h => by
    unfold Fl.ins at h
    split at h
    · rcases List.mem_cons.1 h with rfl | h
      · exact .inl rfl
      · exact .inr h
    · split at h
      · rcases List.mem_cons.1 h with rfl | h
        · exact .inl rfl
        · exact .inr (List.mem_cons_of_mem _ h)
      · rcases List.mem_cons.1 h with rfl | h
        · exact .inr (List.mem_cons_self ..)
        · rcases Fl.mem_ins h with h | h
          · exact .inl h
          · exact .inr (List.mem_cons_of_mem _ h)
theorem Fl.ins_ok {n : Int} {b : List UInt8} : ∀ {fs : List Fl}, Fl.ok fs → Fl.ok (Fl.ins n b fs)
  | [], _ => ⟨List.pairwise_singleton _ _, fun f hf => by simp [Fl.ins] at hf; subst hf; exact Nat.zero_le _⟩
  | g :: r, h => by
    obtain ⟨hg, hr⟩ := List.pairwise_cons.1 h.rise
    have ih := Fl.ins_ok (n := n) (b := b) (fs := r) ⟨hr, fun x hx => h.le x (List.mem_cons_of_mem _ hx)⟩
    unfold Fl.ins
    by_cases h1 : n < g.n
    · rw [if_pos h1]
      refine ⟨List.pairwise_cons.2 ⟨fun x hx => ?_, h.rise⟩, fun x hx => ?_⟩
      · rcases List.mem_cons.1 hx with rfl | hx
        · exact h1
        · have := hg x hx; dsimp only; omega
      · rcases List.mem_cons.1 hx with rfl | hx
        · exact Nat.zero_le _
        · exact h.le x hx
    · rw [if_neg h1]
      by_cases h2 : g.n = n
      · rw [if_pos h2]
        refine ⟨List.pairwise_cons.2 ⟨fun x hx => by have := hg x hx; dsimp only; omega, hr⟩, fun x hx => ?_⟩
        rcases List.mem_cons.1 hx with rfl | hx
        · have := h.le g (List.mem_cons_self ..)
          dsimp only
          rw [List.length_append]; omega
        · exact h.le x (List.mem_cons_of_mem _ hx)
      · rw [if_neg h2]
        refine ⟨List.pairwise_cons.2 ⟨fun x hx => ?_, ih.rise⟩, fun x hx => ?_⟩
        · rcases Fl.mem_ins hx with e | hx
          · omega
          · exact hg x hx
        · rcases List.mem_cons.1 hx with rfl | hx
          · exact h.le x (List.mem_cons_self ..)
          · exact ih.le x hx
theorem Fl.at_ins {n : Int} {b : List UInt8} (m : Int) : ∀ {fs : List Fl}, Fl.ok fs → Fl.at_ (Fl.ins n b fs) m = if n = m then some (match Fl.at_ fs n with | some f => ⟨n, f.raw ++ b, f.kept⟩ | none => ⟨n, b, 0⟩) else Fl.at_ fs m
  | [], _ => by
    show Fl.at_ [⟨n, b, 0⟩] m = _
    rw [Fl.at_cons]
    rfl
  | g :: r, h => by
    obtain ⟨hg, hr⟩ := List.pairwise_cons.1 h.rise
    have ih := Fl.at_ins (n := n) (b := b) m (fs := r) ⟨hr, fun x hx => h.le x (List.mem_cons_of_mem _ hx)⟩
    unfold Fl.ins
    by_cases h1 : n < g.n
    · have h0 : Fl.at_ (g :: r) n = none := Fl.find_none fun f hf => by
        rcases List.mem_cons.1 hf with rfl | hf
        · exact h1
        · have := hg f hf; omega
      rw [if_pos h1, Fl.at_cons, h0]
    · rw [if_neg h1]
      by_cases h2 : g.n = n
      · rw [if_pos h2, Fl.at_cons, Fl.at_cons, if_pos h2, Fl.at_cons]
        dsimp only
        by_cases h3 : n = m
        · rw [if_pos h3, if_pos h3]
        · rw [if_neg h3, if_neg h3, if_neg (by omega)]
      · rw [if_neg h2, Fl.at_cons, ih, Fl.at_cons, Fl.at_cons, if_neg h2]
        by_cases h3 : n = m
        · rw [if_pos h3, if_neg (by omega), if_pos h3]
        · rw [if_neg h3, if_neg h3]
theorem Fl.add_ok {n : Int} {b : List UInt8} (h : Fl.ok fs) : Fl.ok (Fl.add n b fs) := by
  unfold Fl.add
  split
  · exact h
  · exact Fl.ins_ok h
theorem Fl.sync_ok {n : Int} (h : Fl.ok fs) : Fl.ok (Fl.sync n fs) := by
  unfold Fl.sync
  refine ⟨?_, fun f hf => ?_⟩
  · rw [List.pairwise_map]
    refine h.rise.imp fun {a b} hab => ?_
    have ea : (if a.n = n then (⟨a.n, a.raw, a.raw.length⟩ : Fl) else a).n = a.n := by split <;> rfl
    have eb : (if b.n = n then (⟨b.n, b.raw, b.raw.length⟩ : Fl) else b).n = b.n := by split <;> rfl
    rw [ea, eb]
    exact hab
  · obtain ⟨g, hg, rfl⟩ := List.mem_map.1 hf
    split
    · exact Nat.le_refl _
    · exact h.le g hg
theorem Fl.at_sync {n : Int} (m : Int) : ∀ fs : List Fl, Fl.at_ (Fl.sync n fs) m = (Fl.at_ fs m).map fun f => if f.n = n then ⟨f.n, f.raw, f.raw.length⟩ else f
  | [] => rfl
  | g :: r => by
    have ih := Fl.at_sync (n := n) m r
    have e : Fl.sync n (g :: r) = (if g.n = n then (⟨g.n, g.raw, g.raw.length⟩ : Fl) else g) :: Fl.sync n r := rfl
    have ea : (if g.n = n then (⟨g.n, g.raw, g.raw.length⟩ : Fl) else g).n = g.n := by split <;> rfl
    rw [e, Fl.at_cons, Fl.at_cons, ea, ih]
    by_cases h : g.n = m
    · rw [if_pos h, if_pos h]; rfl
    · rw [if_neg h, if_neg h]
theorem Fl.gone_ok {n : Int} (h : Fl.ok fs) : Fl.ok (fs.filter fun f => decide (f.n ≠ n)) :=
  ⟨h.rise.sublist List.filter_sublist, fun f hf => h.le f (List.mem_filter.1 hf).1⟩
theorem Fl.at_gone {n : Int} (m : Int) : ∀ fs : List Fl, Fl.at_ (fs.filter fun f => decide (f.n ≠ n)) m = if n = m then none else Fl.at_ fs m
  | [] => by simp [Fl.at_]
  | g :: r => by
    have ih := Fl.at_gone (n := n) m r
    by_cases h : g.n = n
    · rw [List.filter_cons_of_neg (by simpa using h), ih, Fl.at_cons]
      by_cases h2 : n = m
      · rw [if_pos h2, if_pos h2]
      · rw [if_neg h2, if_neg h2, if_neg (by omega)]
    · rw [List.filter_cons_of_pos (by simpa using h), Fl.at_cons, ih, Fl.at_cons]
      by_cases h2 : n = m
      · rw [if_pos h2, if_pos h2, if_neg (by omega)]
      · rw [if_neg h2, if_neg h2]
end

/-- files that part at one number at most -/
structure Alike (n : Int) (fs fs' : List Fl) : Prop where
  ok : Fl.ok fs'
  at_ : ∀ m, m ≠ n → Fl.at_ fs' m = Fl.at_ fs m
theorem Alike.refl {n : Int} {fs : List Fl} (h : Fl.ok fs) : Alike n fs fs := ⟨h, fun _ _ => rfl⟩
theorem Alike.trans {n : Int} {a b c : List Fl} (h : Alike n a b) (k : Alike n b c) : Alike n a c := ⟨k.ok, fun m hm => (k.at_ m hm).trans (h.at_ m hm)⟩
theorem add_alike {n : Int} {b : List UInt8} {fs : List Fl} (h : Fl.ok fs) : Alike n fs (Fl.add n b fs) := by
  refine ⟨Fl.add_ok h, fun m hm => ?_⟩
  unfold Fl.add
  split
  · rfl
  · rw [Fl.at_ins m h, if_neg (by omega)]
theorem sync_alike {n : Int} {fs : List Fl} (h : Fl.ok fs) : Alike n fs (Fl.sync n fs) := by
  refine ⟨Fl.sync_ok h, fun m hm => ?_⟩
  rw [Fl.at_sync]
  cases hf : Fl.at_ fs m with
  | none => rfl
  | some f =>
    have := (Fl.at_mem hf).2
    rw [Option.map_some, if_neg (by omega)]
theorem gone_alike {n : Int} {fs : List Fl} (h : Fl.ok fs) : Alike n fs (fs.filter fun f => decide (f.n ≠ n)) :=
  ⟨Fl.gone_ok h, fun m hm => by rw [Fl.at_gone, if_neg (by omega)]⟩

/-- why: 3 or 4 where the disk refuses; on a file's number of 0 or more -/
theorem whyN_cases {d : Dk} {n : Int} (hn : 0 ≤ n) : d.why n = 0 ∨ d.why n = 3 ∨ d.why n = 4 := by
  unfold Dk.why
  split
  · exact .inr (.inr rfl)
  · split
    · exact .inr (.inl rfl)
    · exact .inl (if_neg (by omega))
theorem append_fs (d : Dk) (n : Int) (b : List UInt8) (_hn : 0 ≤ n) : ∃ k, (d.append n b).fs = Fl.add n (b.take k) d.fs ∧ (d.why n = 0 → b.take k = b) := by
  unfold Dk.append
  by_cases h : d.why n = 0
  · rw [if_pos h]
    exact ⟨b.length, by rw [List.take_length], fun _ => List.take_length⟩
  · rw [if_neg h]
    by_cases h2 : d.why n = 3 ∧ d.kind = 2 ∧ 0 ≤ n
    · rw [if_pos h2]
      exact ⟨b.length / 2, rfl, fun h' => absurd h' h⟩
    · rw [if_neg h2]
      exact ⟨0, by simp [Fl.add]; rfl, fun h' => absurd h' h⟩
theorem sync_fs (d : Dk) (n : Int) : (d.sync n).fs = if d.why n = 0 then Fl.sync n d.fs else d.fs := by unfold Dk.sync; split <;> rfl
theorem delete_fs (d : Dk) (n : Int) : (d.delete n).fs = if d.why n = 0 then d.fs.filter fun f => decide (f.n ≠ n) else d.fs := by unfold Dk.delete; split <;> rfl

/-- bytes at a file's end, durably: the disk behind it, why it was refused -/
def layP (d : Dk) (n : Int) (b : List UInt8) : Dk × Int :=
  if d.why n = 0 then ((d.append n b).sync n, (d.append n b).why n) else (d.append n b, d.why n)
theorem lay_alike {d : Dk} {n : Int} {b : List UInt8} (h : Fl.ok d.fs) (hn : 0 ≤ n) : Alike n d.fs (layP d n b).1.fs := by
  obtain ⟨k, h1, _⟩ := append_fs d n b hn
  have h2 : Alike n d.fs (d.append n b).fs := by rw [h1]; exact add_alike h
  unfold layP
  split
  · dsimp only
    rw [sync_fs]
    split
    · exact h2.trans (sync_alike h2.ok)
    · exact h2
  · exact h2
theorem lay_at {d : Dk} {n : Int} {b : List UInt8} (h : Fl.ok d.fs) (hn : 0 ≤ n) (hb : b ≠ []) {raw : List UInt8} {kept : Nat} (hat : Fl.at_ d.fs n = some ⟨n, raw, kept⟩ ∨ (Fl.at_ d.fs n = none ∧ raw = [] ∧ kept = 0)) :
    ((layP d n b).2 = 0 → Fl.at_ (layP d n b).1.fs n = some ⟨n, raw ++ b, (raw ++ b).length⟩) ∧
    ((layP d n b).2 ≠ 0 → ∃ k, Fl.at_ (layP d n b).1.fs n = some ⟨n, raw ++ b.take k, kept⟩ ∨ Fl.at_ (layP d n b).1.fs n = Fl.at_ d.fs n) := by
  obtain ⟨k, h1, h0⟩ := append_fs d n b hn
  have hadd : ∀ x : List UInt8, x ≠ [] → Fl.at_ (Fl.add n x d.fs) n = some ⟨n, raw ++ x, kept⟩ := by
    intro x hx
    unfold Fl.add
    rw [if_neg hx, Fl.at_ins n h, if_pos rfl]
    rcases hat with hat | ⟨hat, rfl, rfl⟩
    · rw [hat]
    · rw [hat]; rfl
  unfold layP
  by_cases hw : d.why n = 0
  · rw [if_pos hw]
    dsimp only
    have hf : Fl.at_ (d.append n b).fs n = some ⟨n, raw ++ b, kept⟩ := by rw [h1, h0 hw]; exact hadd b hb
    refine ⟨fun he => ?_, fun he => ⟨b.length, .inl ?_⟩⟩
    · rw [sync_fs, if_pos he, Fl.at_sync, hf, Option.map_some, if_pos rfl]
    · rw [sync_fs, if_neg he, hf, List.take_length]
  · rw [if_neg hw]
    dsimp only
    refine ⟨fun he => absurd he hw, fun _ => ⟨k, ?_⟩⟩
    rw [h1]
    by_cases hx : b.take k = []
    · right
      unfold Fl.add
      rw [if_pos hx]
    · exact .inl (hadd _ hx)
theorem lay_why {d : Dk} {n : Int} {b : List UInt8} (hn : 0 ≤ n) : (layP d n b).2 = 0 ∨ (layP d n b).2 = 3 ∨ (layP d n b).2 = 4 := by
  unfold layP
  split
  · exact whyN_cases hn
  · exact whyN_cases hn

/-! shapes under what is done to one file -/
section
variable {fs fs' : List Fl} {base : Nat} {ss ss0 : List AS} {a : AS} {c : Ct} {A B : Ct → Prop}
theorem Shape.at_strange (_h : Shape fs base ss c A) {n : Int} {f : Fl} (hf : Fl.at_ fs n = some f) : f ∈ fs ∧ f.n = n := Fl.at_mem hf
/-- every file of a log's range stays as it was -/
theorem Shape.apart (h : Shape fs base ss c A) (hok : Fl.ok fs') (hat : ∀ m : Int, (base : Int) ≤ m → m < base + 1048576 → Fl.at_ fs' m = Fl.at_ fs m) : Shape fs' base ss c A := by
  have hr : ∀ a ∈ ss, Fl.at_ fs' a.file = Fl.at_ fs a.file := fun a ha => hat _ (by have := (h.range a ha).1; omega) (by have := (h.range a ha).2; omega)
  have hm : ∀ f ∈ fs', Strange base ss f → f ∈ fs := fun f hf hs => by
    have h1 := Fl.at_of hok.rise hf
    rw [hat _ hs.1 hs.2.1] at h1
    exact (Fl.at_mem h1).1
  refine ⟨hok, h.fine, h.chain, h.play, h.nodup, h.range, fun a ha => ?_, fun ss0 a e f hf => ?_, fun f hf hs => h.strange f (hm f hf hs) hs, fun f hf g hg hs hs' => h.one f (hm f hf hs) g (hm g hg hs') hs hs'⟩
  · rw [hr a ha]; exact h.held a ha
  · rw [hr a (by rw [e]; simp)] at hf
    exact h.tail ss0 a e f hf
theorem file_ne {ss : List AS} (hn : (ss.map AS.file).Nodup) {ss0 : List AS} {a x : AS} (e : ss = ss0 ++ [a]) (hx : x ∈ ss0) : x.file ≠ a.file := by
  subst e
  rw [List.map_append, List.nodup_append] at hn
  exact hn.2.2 _ (List.mem_map_of_mem hx) _ (by simp)
/-- something behind the last segment's frames -/
theorem Shape.on_last (h : Shape fs base (ss0 ++ [a]) c A) (hal : Alike a.file fs fs') (hab : ∀ x, A x → B x) {f : Fl} (hf : Fl.at_ fs' a.file = some f) (ht : Tail a c B f) : Shape fs' base (ss0 ++ [a]) c B := by
  have h := h.weak hab
  have hm : ∀ f ∈ fs', Strange base (ss0 ++ [a]) f → f ∈ fs := fun f hf hs => by
    have h1 := Fl.at_of hal.ok.rise hf
    rw [hal.at_ _ (fun e => hs.2.2 a (by simp) e.symm)] at h1
    exact (Fl.at_mem h1).1
  refine ⟨hal.ok, h.fine, h.chain, h.play, h.nodup, h.range, fun x hx => ?_, fun l x e g hg => ?_, fun f hf hs => h.strange f (hm f hf hs) hs, fun f hf g hg hs hs' => h.one f (hm f hf hs) g (hm g hg hs') hs hs'⟩
  · rcases List.mem_append.1 hx with hx | hx
    · rw [hal.at_ _ (by have := file_ne h.nodup rfl hx; omega)]
      exact h.held x (List.mem_append_left _ hx)
    · rw [List.mem_singleton] at hx
      subst hx
      obtain ⟨junk, h1, _⟩ := ht
      exact ⟨f, junk, hf, h1⟩
  · obtain ⟨_, e⟩ := List.append_inj' e rfl
    injection e with e
    subst e
    rw [hf] at hg
    injection hg with hg
    subst hg
    exact ht
/-- nothing is left that was refused, no bytes too many -/
structure Clean (fs : List Fl) (base : Nat) (ss : List AS) : Prop where
  strange : ∀ f ∈ fs, Strange base ss f → f.raw.length = f.kept
  last : ∀ ss0 a, ss = ss0 ++ [a] → Fl.at_ fs a.file = some ⟨a.file, a.bytes, a.bytes.length⟩
theorem strange_more {f : Fl} {it : It} : Strange base (ss0 ++ [{ a with items := a.items ++ [it] }]) f ↔ Strange base (ss0 ++ [a]) f :=
  ⟨strange_iff (by simp) f, strange_iff (by simp) f⟩
theorem tail_all {a : AS} {f : Fl} (h1 : f.raw = a.bytes) (h2 : f.kept = a.bytes.length) : Tail a c B f := ⟨[], by rw [h1, h2, List.take_length, List.append_nil], dead_nil, .inl (by rw [h1, h2])⟩
/-- an item more -/
theorem Shape.more (h : Shape fs base (ss0 ++ [a]) c A) (hcl : Clean fs base (ss0 ++ [a])) {it : It} (hi : it.fine) (hg : GoodIts a.stop [it]) (hal : Alike a.file fs fs') (hf : Fl.at_ fs' a.file = some ⟨a.file, a.bytes ++ it.enc, (a.bytes ++ it.enc).length⟩) :
    Shape fs' base (ss0 ++ [{ a with items := a.items ++ [it] }]) (c.item it) (fun _ => False) ∧ Clean fs' base (ss0 ++ [{ a with items := a.items ++ [it] }]) := by
  have hm : ∀ f ∈ fs', Strange base (ss0 ++ [a]) f → f ∈ fs := fun f hf hs => by
    have h1 := Fl.at_of hal.ok.rise hf
    rw [hal.at_ _ (fun e => hs.2.2 a (by simp) e.symm)] at h1
    exact (Fl.at_mem h1).1
  have hch := (chain_snoc a ss0).1 h.chain
  refine ⟨⟨hal.ok, fun x hx => ?_, (chain_snoc _ ss0).2 ⟨hch.1, fun l x hx => link_more (hch.2 l x hx)⟩, ?_, by simpa using h.nodup, fun x hx => ?_, fun x hx => ?_, fun l x e g hg => ?_, fun f hf hs => ?_, fun f hf g hg hs hs' h1 _ => ?_⟩, ⟨fun f hf hs => ?_, fun l x e => ?_⟩⟩
  · rcases List.mem_append.1 hx with hx | hx
    · exact h.fine x (List.mem_append_left _ hx)
    · rw [List.mem_singleton] at hx
      rw [hx]
      exact fine_more (h.fine a (by simp)) hi hg
  · rw [playAll_snoc, play_more, ← playAll_snoc, h.play]
  · rcases List.mem_append.1 hx with hx | hx
    · exact h.range x (List.mem_append_left _ hx)
    · rw [List.mem_singleton] at hx; rw [hx]; exact h.range a (by simp)
  · rcases List.mem_append.1 hx with hx | hx
    · rw [hal.at_ _ (by have := file_ne h.nodup rfl hx; omega)]
      exact h.held x (List.mem_append_left _ hx)
    · rw [List.mem_singleton] at hx
      subst hx
      exact ⟨_, [], hf, by rw [bytes_more, List.take_length, List.append_nil]⟩
  · obtain ⟨_, e⟩ := List.append_inj' e rfl
    injection e with e
    subst e
    have hg : Fl.at_ fs' a.file = some g := hg
    rw [hf] at hg
    injection hg with hg
    subst hg
    exact tail_all (by rw [bytes_more]) (by rw [bytes_more])
  · rw [strange_more] at hs
    exact ⟨(h.strange f (hm f hf hs) hs).1, .inl (hcl.strange f (hm f hf hs) hs)⟩
  · rw [strange_more] at hs
    exact absurd (hcl.strange f (hm f hf hs) hs) h1
  · rw [strange_more] at hs
    exact hcl.strange f (hm f hf hs) hs
  · obtain ⟨_, e⟩ := List.append_inj' e rfl
    injection e with e
    subst e
    rw [bytes_more]
    exact hf
/-- a strange file goes -/
theorem Shape.less (h : Shape fs base ss c A) {n : Int} (hn : ∀ a ∈ ss, (a.file : Int) ≠ n) (hal : Alike n fs fs') (hf : Fl.at_ fs' n = none) : Shape fs' base ss c A := by
  have hm : ∀ f ∈ fs', f ∈ fs := fun f hf' => by
    have h1 := Fl.at_of hal.ok.rise hf'
    by_cases e : f.n = n
    · rw [e, hf] at h1; cases h1
    · rw [hal.at_ _ e] at h1
      exact (Fl.at_mem h1).1
  refine ⟨hal.ok, h.fine, h.chain, h.play, h.nodup, h.range, fun x hx => ?_, fun l x e g hg => ?_, fun f hf hs => h.strange f (hm f hf) hs, fun f hf g hg hs hs' => h.one f (hm f hf) g (hm g hg) hs hs'⟩
  · rw [hal.at_ _ (hn x hx)]; exact h.held x hx
  · rw [hal.at_ _ (hn x (by rw [e]; simp))] at hg
    exact h.tail l x e g hg
/-- what a refused new segment leaves, where nothing else is strange -/
theorem Shape.pend (h : Shape fs base ss c A) (hno : ∀ f ∈ fs, ¬ Strange base ss f) (hab : ∀ x, A x → B x) {n : Int} (hn : ∀ a ∈ ss, (a.file : Int) ≠ n) (hal : Alike n fs fs') (hf : ∀ f, Fl.at_ fs' n = some f → f.kept = 0 ∧ Pend ss c B f) : Shape fs' base ss c B := by
  have h := h.weak hab
  have hm : ∀ f ∈ fs', Strange base ss f → Fl.at_ fs' n = some f := fun f hf' hs => by
    have h1 := Fl.at_of hal.ok.rise hf'
    by_cases e : f.n = n
    · rw [← e]; exact h1
    · rw [hal.at_ _ e] at h1
      exact absurd hs (hno f (Fl.at_mem h1).1)
  refine ⟨hal.ok, h.fine, h.chain, h.play, h.nodup, h.range, fun x hx => ?_, fun l x e g hg => ?_, fun f hf' hs => ?_, fun f hf' g hg hs hs' _ _ => ?_⟩
  · rw [hal.at_ _ (hn x hx)]; exact h.held x hx
  · rw [hal.at_ _ (hn x (by rw [e]; simp))] at hg
    exact h.tail l x e g hg
  · obtain ⟨h1, h2⟩ := hf f (hm f hf' hs)
    refine ⟨?_, .inr ⟨h1, h2⟩⟩
    rw [h1, List.take_zero]
    exact begun_none (Enc.unframe_short (by simp))
  · have h1 := hm f hf' hs
    rw [hm g hg hs'] at h1
    injection h1 with h1
    exact h1.symm
/-- a new segment -/
theorem Shape.new (h : Shape fs base ss c A) (hno : ∀ f ∈ fs, ¬ Strange base ss f) {N : AS} (n1 : N.fine) (n2 : ∀ ss0 a, ss = ss0 ++ [a] → Link a N) (n3 : ∀ a ∈ ss, a.file ≠ N.file) (n4 : base ≤ N.file ∧ N.file < base + 1048576) (hal : Alike N.file fs fs')
    (hf : Fl.at_ fs' N.file = some ⟨N.file, N.bytes, N.bytes.length⟩) : Shape fs' base (ss ++ [N]) (AS.play c N) (fun _ => False) ∧ Clean fs' base (ss ++ [N]) := by
  have hm : ∀ f ∈ fs', ¬ Strange base (ss ++ [N]) f := fun f hf' hs => by
    have h1 := Fl.at_of hal.ok.rise hf'
    rw [hal.at_ _ (fun e => hs.2.2 N (by simp) e.symm)] at h1
    exact hno f (Fl.at_mem h1).1 ⟨hs.1, hs.2.1, fun x hx => hs.2.2 x (List.mem_append_left _ hx)⟩
  refine ⟨⟨hal.ok, fun x hx => ?_, (chain_snoc N ss).2 ⟨h.chain, n2⟩, by rw [playAll_snoc, h.play], ?_, fun x hx => ?_, fun x hx => ?_, fun l x e g hg => ?_, fun f hf hs => absurd hs (hm f hf), fun f hf g hg hs => absurd hs (hm f hf)⟩, ⟨fun f hf hs => absurd hs (hm f hf), fun l x e => ?_⟩⟩
  · rcases List.mem_append.1 hx with hx | hx
    · exact h.fine x hx
    · rw [List.mem_singleton] at hx; rw [hx]; exact n1
  · rw [List.map_append, List.nodup_append]
    refine ⟨h.nodup, by simp, fun x hx y hy e => ?_⟩
    simp only [List.map_cons, List.map_nil, List.mem_singleton] at hy
    obtain ⟨z, hz, rfl⟩ := List.mem_map.1 hx
    exact n3 z hz (by rw [e, hy])
  · rcases List.mem_append.1 hx with hx | hx
    · exact h.range x hx
    · rw [List.mem_singleton] at hx; rw [hx]; exact n4
  · rcases List.mem_append.1 hx with hx | hx
    · rw [hal.at_ _ (by have := n3 x hx; omega)]
      exact h.held x hx
    · rw [List.mem_singleton] at hx
      rw [hx]
      exact ⟨_, [], hf, by rw [List.take_length, List.append_nil]⟩
  · obtain ⟨_, e⟩ := List.append_inj' e rfl
    injection e with e
    subst e
    rw [hf] at hg
    injection hg with hg
    subst hg
    exact tail_all rfl rfl
  · obtain ⟨_, e⟩ := List.append_inj' e rfl
    injection e with e
    subst e
    exact hf
end
end Go.Proofs.YtlcmnihpfpmajaaGreat

/- The plain law of a log: opening it. No program is in sight here. -/
namespace Go.Proofs.YtlcmnihpfpmajaaGreat

/-- a segment as the log knows it -/
structure Seg where
  number : Nat
  ahead : Nat
  first : Nat
  next : Nat
  whole : Bool
  file : Nat
  size : Nat
  last : Nat
def Hd.seg (h : Hd) (file : Nat) : Seg := ⟨h.number, h.ahead, h.first, h.next, h.whole, file, h.size, h.next⟩
def AS.seg (a : AS) (last : Nat) : Seg := ⟨a.number, a.ahead, a.first, a.next, a.whole, a.file, a.bytes.length, last⟩
/-- a log -/
structure Lg where
  base : Nat
  segs : List Seg
  c : Ct
  failed : Bool
  dirty : Bool
def inR (base : Nat) (f : Fl) : Bool := decide ((base : Int) ≤ f.n) && decide (f.n < base + 1048576)
theorem inR_iff {base : Nat} {f : Fl} : inR base f = true ↔ (base : Int) ≤ f.n ∧ f.n < base + 1048576 := by simp [inR]
def Fl.good (f : Fl) : List UInt8 := f.raw.take f.kept
def found (fs : List Fl) (base : Nat) : List Seg := (fs.filter (inR base)).filterMap fun f => (begunP f.good).map fun h => h.seg f.n.toNat
def lost (fs : List Fl) (base : Nat) : Bool := (fs.filter (inR base)).any fun f => (begunP f.good).isNone
def keptB (fs : List Fl) (n : Int) : List UInt8 := match Fl.at_ fs n with | some f => f.good | none => []
def rawB (fs : List Fl) (n : Int) : List UInt8 := match Fl.at_ fs n with | some f => f.raw | none => []
def startS (s : Seg) (c : Ct) : Ct := if s.whole = true ∨ (c.cut s.first).next < s.next then ⟨s.next, []⟩ else c.cut s.first
def replayP (fs : List Fl) (c : Ct) (s : Seg) (counts : Nat) : Ct × Seg :=
  ((playB (keptB fs s.file) counts ((keptB fs s.file).length + 1) ⟨startS s c, s.last, s.size⟩).c, { s with last := (playB (keptB fs s.file) counts ((keptB fs s.file).length + 1) ⟨startS s c, s.last, s.size⟩).last, size := (playB (keptB fs s.file) counts ((keptB fs s.file).length + 1) ⟨startS s c, s.last, s.size⟩).size })
/-- how many bytes of a segment count -/
def countsOf : List Seg → Nat
  | [] => 1099511627776
  | t :: _ => t.ahead
def replayAll (fs : List Fl) : Ct → List Seg → Ct × List Seg
  | c, [] => (c, [])
  | c, s :: r => ((replayAll fs (replayP fs c s (countsOf r)).1 r).1, (replayP fs c s (countsOf r)).2 :: (replayAll fs (replayP fs c s (countsOf r)).1 r).2)
def sortS (l : List Seg) : List Seg := l.mergeSort fun a b => decide (a.number ≤ b.number)
def tooMany (fs : List Fl) (segs : List Seg) : Bool := match segs.getLast? with
  | some s => decide (s.size ≠ (rawB fs s.file).length)
  | none => false
def openP (fs : List Fl) (base : Nat) : Lg :=
  ⟨base, (replayAll fs ⟨0, []⟩ (sortS (found fs base))).2, (replayAll fs ⟨0, []⟩ (sortS (found fs base))).1, false, lost fs base || tooMany fs (replayAll fs ⟨0, []⟩ (sortS (found fs base))).2⟩

theorem perm_of_mem {α : Type} : ∀ {l m : List α}, l.Nodup → m.Nodup → (∀ x, x ∈ l ↔ x ∈ m) → l.Perm m
  | [], m, _, _, h => by
    cases m with
    | nil => exact List.Perm.refl _
    | cons y m => exact absurd ((h y).2 (List.mem_cons_self ..)) (by simp)
  | x :: l, m, hl, hm, h => by
    obtain ⟨m1, m2, rfl⟩ := List.append_of_mem ((h x).1 (List.mem_cons_self ..))
    have hx := (List.nodup_cons.1 hl).1
    have hp : (m1 ++ x :: m2).Perm (x :: (m1 ++ m2)) := List.perm_middle
    have hm2 := hp.nodup_iff.1 hm
    refine List.Perm.trans (List.Perm.cons x (perm_of_mem (List.nodup_cons.1 hl).2 (List.nodup_cons.1 hm2).2 fun y => ?_)) hp.symm
    have h1 := h y
    constructor
    · intro hy
      have h2 := hp.mem_iff.1 (h1.1 (List.mem_cons_of_mem _ hy))
      rcases List.mem_cons.1 h2 with rfl | h2
      · exact absurd hy hx
      · exact h2
    · intro hy
      have h2 := h1.2 (hp.mem_iff.2 (List.mem_cons_of_mem _ hy))
      rcases List.mem_cons.1 h2 with rfl | h2
      · exact absurd hy (List.nodup_cons.1 hm2).1
      · exact h2
theorem sort_seg {l m : List Seg} (h : l.Perm m) (hm : m.Pairwise fun a b => a.number < b.number) : sortS l = m := by
  have hp : (sortS l).Perm m := (List.mergeSort_perm _ _).trans h
  have tr : ∀ a b c : Seg, decide (a.number ≤ b.number) = true → decide (b.number ≤ c.number) = true → decide (a.number ≤ c.number) = true := fun a b c h1 h2 => by
    simp only [decide_eq_true_eq] at *; omega
  have tot : ∀ a b : Seg, (decide (a.number ≤ b.number) || decide (b.number ≤ a.number)) = true := fun a b => by
    simp only [Bool.or_eq_true, decide_eq_true_eq]; omega
  have s1 : (sortS l).Pairwise fun a b => decide (a.number ≤ b.number) = true := List.pairwise_mergeSort tr tot l
  have s2 : m.Pairwise fun a b => decide (a.number ≤ b.number) = true := hm.imp fun h => by simp; omega
  have inj : ∀ {m : List Seg}, m.Pairwise (fun a b => a.number < b.number) → ∀ a ∈ m, ∀ b ∈ m, a.number = b.number → a = b := by
    intro m
    induction m with
    | nil => intro _ a ha; cases ha
    | cons x m ih =>
      intro hp a ha b hb e
      obtain ⟨h1, h2⟩ := List.pairwise_cons.1 hp
      rcases List.mem_cons.1 ha with e1 | ha2
      · rcases List.mem_cons.1 hb with e2 | hb2
        · rw [e1, e2]
        · have := h1 b hb2; rw [e1] at e; omega
      · rcases List.mem_cons.1 hb with e2 | hb2
        · have := h1 a ha2; rw [e2] at e; omega
        · exact ih h2 a ha2 b hb2 e
  refine List.Perm.eq_of_pairwise (le := fun a b => decide (a.number ≤ b.number) = true) (fun a b ha hb h1 h2 => ?_) s1 s2 hp
  simp only [decide_eq_true_eq] at h1 h2
  exact inj hm a (hp.mem_iff.1 ha) b hb (by omega)
section
variable {fs : List Fl} {base : Nat} {ss : List AS} {c : Ct} {A : Ct → Prop}
theorem Shape.seen (h : Shape fs base ss c A) {f : Fl} (hf : f ∈ fs) (hr : inR base f = true) : (begunP f.good = none ∧ Strange base ss f) ∨ ∃ a ∈ ss, (a.file : Int) = f.n ∧ Fl.at_ fs a.file = some f ∧ begunP f.good = some a.hd := by
  by_cases hs : ∃ a ∈ ss, (a.file : Int) = f.n
  · obtain ⟨a, ha, e⟩ := hs
    obtain ⟨g, junk, h1, h2⟩ := h.held a ha
    have hg : g = f := by
      have h3 := Fl.at_of h.ok.rise hf
      rw [← e, h1] at h3
      injection h3
    subst hg
    exact .inr ⟨a, ha, e, h1, by unfold Fl.good; rw [h2]; exact begun_of (h.fine a ha) junk⟩
  · have hst : Strange base ss f := ⟨(inR_iff.1 hr).1, (inR_iff.1 hr).2, fun a ha e => hs ⟨a, ha, e⟩⟩
    exact .inl ⟨(h.strange f hf hst).1, hst⟩
theorem Shape.founds (h : Shape fs base ss c A) : (found fs base).Perm (ss.map fun a => a.hd.seg a.file) := by
  refine perm_of_mem ?_ ?_ fun s => ?_
  · have hp : (found fs base).Pairwise fun s t => s.file ≠ t.file := by
      unfold found
      rw [List.pairwise_filterMap]
      have h2 : (fs.filter (inR base)).Pairwise fun a b => (base : Int) ≤ a.n ∧ a.n < b.n := by
        rw [List.pairwise_filter]
        exact h.ok.rise.imp fun {a b} hab ha _ => ⟨(inR_iff.1 ha).1, hab⟩
      refine h2.imp fun {a b} hab s hs t ht => ?_
      rw [Option.map_eq_some_iff] at hs ht
      obtain ⟨x, _, rfl⟩ := hs
      obtain ⟨y, _, rfl⟩ := ht
      show a.n.toNat ≠ b.n.toNat
      omega
    exact hp.imp fun hab e => hab (by rw [e])
  · have hn := h.nodup
    unfold List.Nodup at hn ⊢
    rw [List.pairwise_map] at hn ⊢
    exact hn.imp fun hab e => hab (congrArg Seg.file e)
  · unfold found
    rw [List.mem_filterMap, List.mem_map]
    constructor
    · rintro ⟨f, hf, hs⟩
      obtain ⟨hf, hr⟩ := List.mem_filter.1 hf
      rcases h.seen hf hr with ⟨h1, _⟩ | ⟨a, ha, e, _, h1⟩
      · rw [h1] at hs; cases hs
      · rw [h1, Option.map_some] at hs
        injection hs with hs
        refine ⟨a, ha, ?_⟩
        rw [← hs, ← e]
        rfl
    · rintro ⟨a, ha, rfl⟩
      obtain ⟨f, junk, h1, h2⟩ := h.held a ha
      obtain ⟨hf, e⟩ := Fl.at_mem h1
      refine ⟨f, List.mem_filter.2 ⟨hf, inR_iff.2 (by have := h.range a ha; omega)⟩, ?_⟩
      unfold Fl.good
      rw [h2, begun_of (h.fine a ha), e]
      rfl
/-- segments are read, one behind the other -/
theorem replay_all : ∀ {ss : List AS} {c : Ct}, Chain ss → (∀ a ∈ ss, a.fine) → (∀ a ∈ ss, a.bytes.length ≤ 1099511627776) → (∀ a ∈ ss, ∃ junk, keptB fs a.file = a.bytes ++ junk) →
    (∀ ss0 a, ss = ss0 ++ [a] → ∃ junk, keptB fs a.file = a.bytes ++ junk ∧ Dead junk) → (∀ a, ss.head? = some a → a.whole = true ∨ c.next ≤ a.next) →
    replayAll fs c (ss.map fun a => a.hd.seg a.file) = (playAll c ss, ss.map fun a => a.seg a.stop)
  | [], _, _, _, _, _, _, _ => rfl
  | a :: r, c, hch, hfi, hsz, hk, hl, hc => by
    have hst : startS (a.hd.seg a.file) c = a.start c := rfl
    have hfa := hfi a (List.mem_cons_self ..)
    have hca := hc a rfl
    have hone : replayP fs c (a.hd.seg a.file) (countsOf (r.map fun a => a.hd.seg a.file)) = (AS.play c a, a.seg a.stop) := by
      unfold replayP
      rw [hst]
      have e : ∀ {junk : List UInt8} {counts : Nat}, keptB fs ((a.hd.seg a.file).file : Nat) = a.bytes ++ junk → a.bytes.length ≤ counts → (Dead junk ∨ counts < a.bytes.length + 8) →
          playB (keptB fs ((a.hd.seg a.file).file : Nat)) counts ((keptB fs ((a.hd.seg a.file).file : Nat)).length + 1) ⟨a.start c, (a.hd.seg a.file).last, (a.hd.seg a.file).size⟩ = ⟨AS.play c a, a.stop, a.bytes.length⟩ := by
        intro junk counts h1 h2 h3
        rw [h1]
        exact replay_of hfa hca h2 h3
      cases r with
      | nil =>
        obtain ⟨junk, h1, h2⟩ := hl [] a rfl
        have hcn : countsOf (([] : List AS).map fun a => a.hd.seg a.file) = 1099511627776 := rfl
        rw [hcn, e h1 (hsz a (by simp)) (.inl h2)]
        rfl
      | cons b r =>
        obtain ⟨junk, h1⟩ := hk a (by simp)
        have hcn : countsOf ((b :: r).map fun a => a.hd.seg a.file) = a.bytes.length := hch.1.ahead
        rw [hcn, e h1 (Nat.le_refl _) (.inr (by omega))]
        rfl
    have ih := replay_all (ss := r) (c := AS.play c a) hch.tail (fun x hx => hfi x (List.mem_cons_of_mem _ hx)) (fun x hx => hsz x (List.mem_cons_of_mem _ hx)) (fun x hx => hk x (List.mem_cons_of_mem _ hx))
      (fun l x e => hl (a :: l) x (by rw [e]; rfl)) (fun x hx => by
        cases r with
        | nil => cases hx
        | cons b r =>
          injection hx with hx
          subst hx
          rcases hch.1.next with h1 | h1
          · exact .inl h1
          · exact .inr (by rw [play_next hfa hca, h1]; exact Nat.le_refl _))
    rw [List.map_cons]
    unfold replayAll
    rw [hone, ih]
    rfl
theorem keptB_of {n : Int} {f : Fl} (h : Fl.at_ fs n = some f) : keptB fs n = f.raw.take f.kept := by unfold keptB; rw [h]; rfl
/-- a log's segments as it knows them -/
def SegsOf : List AS → List Seg → Prop
  | [], [] => True
  | a :: r, s :: t => (∃ n, s = a.seg n ∧ (n = a.stop ∨ ∃ b ∈ r, b.whole = true)) ∧ SegsOf r t
  | _, _ => False
theorem segsOf_stop : ∀ ss : List AS, SegsOf ss (ss.map fun a => a.seg a.stop)
  | [] => trivial
  | a :: r => ⟨⟨a.stop, rfl, .inl rfl⟩, segsOf_stop r⟩
/-- a log and its disk -/
structure Disked (fs : List Fl) (base : Nat) (ss : List AS) (c : Ct) (A : Ct → Prop) (segs : List Seg) (dirty : Bool) : Prop where
  shape : Shape fs base ss c A
  segs : SegsOf ss segs
  clean : dirty = false → Clean fs base ss
theorem Shape.small (h : Shape fs base ss c A) {K : Nat} (hr : ∀ f ∈ fs, f.raw.length ≤ K) : ∀ a ∈ ss, a.bytes.length ≤ K := by
  intro a ha
  obtain ⟨f, junk, h1, h2⟩ := h.held a ha
  have h3 := hr f (Fl.at_mem h1).1
  have h4 := congrArg List.length h2
  rw [List.length_take, List.length_append] at h4
  omega
/-- a log is opened -/
theorem open_law (h : Shape fs base ss c A) (hr : ∀ f ∈ fs, f.raw.length ≤ 1099511627776) :
    (openP fs base).base = base ∧ (openP fs base).c = c ∧ (openP fs base).failed = false ∧ (openP fs base).segs = (ss.map fun a => a.seg a.stop) ∧ Disked fs base ss c A (openP fs base).segs (openP fs base).dirty := by
  have hs : sortS (found fs base) = ss.map fun a => a.hd.seg a.file := by
    refine sort_seg h.founds ?_
    rw [List.pairwise_map]
    exact h.chain.rise
  have hk : ∀ a ∈ ss, ∃ junk, keptB fs a.file = a.bytes ++ junk := fun a ha => by
    obtain ⟨f, junk, h1, h2⟩ := h.held a ha
    exact ⟨junk, by rw [keptB_of h1]; exact h2⟩
  have hl : ∀ ss0 a, ss = ss0 ++ [a] → ∃ junk, keptB fs a.file = a.bytes ++ junk ∧ Dead junk := fun ss0 a e => by
    obtain ⟨f, _, h1, _⟩ := h.held a (by rw [e]; simp)
    obtain ⟨junk, h2, h3, _⟩ := h.tail ss0 a e f h1
    exact ⟨junk, by rw [keptB_of h1]; exact h2, h3⟩
  have hp := replay_all (fs := fs) h.chain h.fine (h.small hr) hk hl (c := ⟨0, []⟩) (fun a _ => .inr (Nat.zero_le _))
  unfold openP
  rw [hs, hp]
  refine ⟨rfl, h.play, rfl, rfl, h, segsOf_stop ss, fun hd => ?_⟩
  dsimp only at hd
  obtain ⟨hd1, hd2⟩ := Bool.or_eq_false_iff.1 hd
  refine ⟨fun f hf hst => ?_, fun ss0 a e => ?_⟩
  · have h1 : lost fs base = true := by
      unfold lost
      rw [List.any_eq_true]
      exact ⟨f, List.mem_filter.2 ⟨hf, inR_iff.2 ⟨hst.1, hst.2.1⟩⟩, by unfold Fl.good; rw [(h.strange f hf hst).1]; rfl⟩
    rw [hd1] at h1
    cases h1
  · obtain ⟨f, junk, h1, h2⟩ := h.held a (by rw [e]; simp)
    obtain ⟨hf, hn⟩ := Fl.at_mem h1
    have hle := h.ok.le f hf
    unfold tooMany at hd2
    rw [e, List.map_append, List.map_cons, List.map_nil, List.getLast?_append] at hd2
    simp only [List.getLast?_singleton, Option.some_or, decide_eq_false_iff_not, ne_eq, Decidable.not_not] at hd2
    have h3 : rawB fs ((a.seg a.stop).file : Nat) = f.raw := by unfold rawB; rw [show (((a.seg a.stop).file : Nat) : Int) = (a.file : Int) from rfl, h1]
    rw [h3] at hd2
    have hd2 : a.bytes.length = f.raw.length := hd2
    have h4 := congrArg List.length h2
    rw [List.length_take, List.length_append] at h4
    have hj : junk = [] := List.eq_nil_of_length_eq_zero (by omega)
    have hkk : f.kept = f.raw.length := by omega
    rw [hj, List.append_nil, hkk, List.take_length] at h2
    rw [h1]
    obtain ⟨fn, fr, fk⟩ := f
    dsimp only at hn h2 hkk
    rw [hn, hkk, h2]
end
end Go.Proofs.YtlcmnihpfpmajaaGreat

/- The plain law of a log: a new segment, writing, what is taken away. No program is in sight here. -/
namespace Go.Proofs.YtlcmnihpfpmajaaGreat

/-! free numbers -/
def freeN (used : List Int) : Nat → Nat → Nat
  | 0, n => n
  | k + 1, n => if (n : Int) ∈ used then freeN used k (n + 1) else n
theorem pigeon : ∀ (k n : Nat) (used : List Int), (∀ i, i < k → ((n + i : Nat) : Int) ∈ used) → k ≤ used.length
  | 0, _, _, _ => Nat.zero_le _
  | k + 1, n, used, h => by
    have h0 := h 0 (Nat.succ_pos k)
    rw [Nat.add_zero] at h0
    have := pigeon k (n + 1) (used.erase (n : Int)) fun i hi => by
      have h1 := h (i + 1) (by omega)
      rw [show n + (i + 1) = n + 1 + i by omega] at h1
      exact (List.mem_erase_of_ne (by omega)).2 h1
    rw [List.length_erase_of_mem h0] at this
    have h2 : 0 < used.length := List.length_pos_of_mem h0
    omega
theorem freeN_spec (used : List Int) : ∀ (k n : Nat), n ≤ freeN used k n ∧ freeN used k n ≤ n + k ∧ (∀ i, n ≤ i → i < freeN used k n → (i : Int) ∈ used) ∧ (freeN used k n < n + k → ((freeN used k n : Nat) : Int) ∉ used)
  | 0, n => ⟨Nat.le_refl _, Nat.le_refl _, fun i h1 h2 => by unfold freeN at h2; omega, fun h => by unfold freeN at h; omega⟩
  | k + 1, n => by
    unfold freeN
    split
    · rename_i hm
      obtain ⟨h1, h2, h3, h4⟩ := freeN_spec used k (n + 1)
      refine ⟨by omega, by omega, fun i hi hlt => ?_, fun h => h4 (by omega)⟩
      by_cases e : i = n
      · rw [e]; exact hm
      · exact h3 i (by omega) hlt
    · rename_i hm
      exact ⟨Nat.le_refl _, by omega, fun i h1 h2 => by omega, fun _ => hm⟩
def freeP (used : List Int) (base : Nat) : Nat := freeN used (used.length + 1) base
theorem freeP_spec (used : List Int) (base : Nat) : base ≤ freeP used base ∧ freeP used base ≤ base + used.length ∧ (∀ i, base ≤ i → i < freeP used base → (i : Int) ∈ used) ∧ ((freeP used base : Nat) : Int) ∉ used := by
  obtain ⟨h1, h2, h3, h4⟩ := freeN_spec used (used.length + 1) base
  have h5 : freeN used (used.length + 1) base < base + (used.length + 1) := by
    refine Nat.lt_of_le_of_ne h2 fun e => ?_
    have := pigeon (used.length + 1) base used fun i hi => h3 (base + i) (by omega) (by omega)
    omega
  exact ⟨h1, by unfold freeP; omega, h3, h4 h5⟩

/-! what is taken away -/
def isSeg (segs : List Seg) (f : Fl) : Bool := segs.any fun s => decide ((s.file : Int) = f.n)
def strangeN (fs : List Fl) (base : Nat) (segs : List Seg) : List Int := (fs.filter fun f => inR base f && !isSeg segs f).map Fl.n
def usedN (fs : List Fl) (base : Nat) (segs : List Seg) : List Int := (segs.map fun s => (s.file : Int)) ++ (fs.filter (inR base)).map Fl.n
def delAll (d : Dk) : List Int → Dk × Int
  | [] => (d, 0)
  | n :: r => if d.why n = 0 then delAll (d.delete n) r else (d.delete n, d.why n)
section
variable {d : Dk} {fs : List Fl} {base : Nat} {ss : List AS} {c : Ct} {A : Ct → Prop}
theorem del_shape : ∀ (l : List Int) {d : Dk}, Shape d.fs base ss c A → (∀ n ∈ l, 0 ≤ n ∧ ∀ a ∈ ss, (a.file : Int) ≠ n) →
    Shape (delAll d l).1.fs base ss c A ∧ ((delAll d l).2 = 0 ∨ (delAll d l).2 = 3 ∨ (delAll d l).2 = 4) ∧ (∀ m, m ∉ l → Fl.at_ (delAll d l).1.fs m = Fl.at_ d.fs m) ∧ ((delAll d l).2 = 0 → ∀ n ∈ l, Fl.at_ (delAll d l).1.fs n = none)
  | [], d, h, _ => ⟨h, .inl rfl, fun _ _ => rfl, fun _ n hn => by cases hn⟩
  | n :: r, d, h, hl => by
    obtain ⟨h0, hn⟩ := hl n (List.mem_cons_self ..)
    have hd := delete_fs d n
    unfold delAll
    by_cases hw : d.why n = 0
    · rw [if_pos hw] at hd ⊢
      have hal : Alike n d.fs (d.delete n).fs := by rw [hd]; exact gone_alike h.ok
      have hno : Fl.at_ (d.delete n).fs n = none := by rw [hd, Fl.at_gone, if_pos rfl]
      obtain ⟨k1, k2, k3, k4⟩ := del_shape r (h.less hn hal hno) fun m hm => hl m (List.mem_cons_of_mem _ hm)
      refine ⟨k1, k2, fun m hm => ?_, fun he m hm => ?_⟩
      · rw [k3 m fun h => hm (List.mem_cons_of_mem _ h), hal.at_ m fun e => hm (by rw [e]; exact List.mem_cons_self ..)]
      · by_cases hmr : m ∈ r
        · exact k4 he m hmr
        · rcases List.mem_cons.1 hm with rfl | hm
          · rw [k3 _ hmr]; exact hno
          · exact absurd hm hmr
    · rw [if_neg hw] at hd ⊢
      dsimp only
      rw [hd]
      exact ⟨h, (whyN_cases h0).elim (fun e => absurd e hw) .inr, fun _ _ => rfl, fun e => absurd e hw⟩
theorem segsOf_files : ∀ {ss : List AS} {segs : List Seg}, SegsOf ss segs → segs.map Seg.file = ss.map AS.file
  | [], [], _ => rfl
  | a :: r, s :: t, h => by
    obtain ⟨⟨n, rfl, _⟩, h2⟩ := h
    rw [List.map_cons, List.map_cons, segsOf_files h2]
    rfl
  | [], _ :: _, h => h.elim
  | _ :: _, [], h => h.elim
theorem segsOf_snoc : ∀ {ss : List AS} {segs : List Seg} {a : AS}, SegsOf (ss ++ [a]) segs → ∃ s0, segs = s0 ++ [a.seg a.stop] ∧ s0.length = ss.length
  | [], [s], a, h => by
    obtain ⟨⟨n, rfl, h1⟩, _⟩ := h
    rcases h1 with rfl | ⟨b, hb, _⟩
    · exact ⟨[], rfl, rfl⟩
    · cases hb
  | [], [], _, h => h.elim
  | [], _ :: _ :: _, _, h => h.2.elim
  | x :: r, s :: t, a, h => by
    obtain ⟨s0, rfl, hl⟩ := segsOf_snoc (ss := r) h.2
    exact ⟨s :: s0, rfl, by simp [hl]⟩
  | _ :: _, [], _, h => h.elim
/-- segments with one more behind them -/
theorem segsOf_add {N : AS} : ∀ {ss : List AS} {segs : List Seg}, SegsOf ss segs → SegsOf (ss ++ [N]) (segs ++ [N.seg N.stop])
  | [], [], _ => ⟨⟨N.stop, rfl, .inl rfl⟩, trivial⟩
  | a :: r, s :: t, h => by
    obtain ⟨⟨n, e, h1⟩, h2⟩ := h
    refine ⟨⟨n, e, h1.imp id ?_⟩, segsOf_add h2⟩
    rintro ⟨b, hb, hw⟩
    exact ⟨b, List.mem_append_left _ hb, hw⟩
  | [], _ :: _, h => h.elim
  | _ :: _, [], h => h.elim
theorem segsOf_whole {N : AS} {k : Nat} (hN : N.whole = true) : ∀ {ss : List AS} {segs : List Seg}, SegsOf ss segs → SegsOf (ss ++ [N]) ((segs.map fun s => { s with last := k }) ++ [N.seg N.stop])
  | [], [], _ => ⟨⟨N.stop, rfl, .inl rfl⟩, trivial⟩
  | a :: r, s :: t, h => by
    obtain ⟨⟨n, e, _⟩, h2⟩ := h
    subst e
    exact ⟨⟨k, rfl, .inr ⟨N, by simp, hN⟩⟩, segsOf_whole hN h2⟩
  | [], _ :: _, h => h.elim
  | _ :: _, [], h => h.elim
theorem segsOf_more {a : AS} {it : It} : ∀ {ss : List AS} {segs : List Seg}, SegsOf (ss ++ [a]) segs → ∃ s0, segs = s0 ++ [a.seg a.stop] ∧ SegsOf (ss ++ [{ a with items := a.items ++ [it] }]) (s0 ++ [({ a with items := a.items ++ [it] } : AS).seg ({ a with items := a.items ++ [it] } : AS).stop])
  | [], [s], h => by
    obtain ⟨⟨n, rfl, h1⟩, _⟩ := h
    rcases h1 with rfl | ⟨b, hb, _⟩
    · exact ⟨[], rfl, ⟨_, rfl, .inl rfl⟩, trivial⟩
    · cases hb
  | [], [], h => h.elim
  | [], _ :: _ :: _, h => h.2.elim
  | x :: r, s :: t, h => by
    obtain ⟨⟨n, e, h1⟩, h2⟩ := h
    obtain ⟨s0, rfl, hl⟩ := segsOf_more (ss := r) (it := it) h2
    refine ⟨s :: s0, rfl, ⟨n, e, h1.imp id ?_⟩, hl⟩
    rintro ⟨b, hb, hw⟩
    rcases List.mem_append.1 hb with hb | hb
    · exact ⟨b, List.mem_append_left _ hb, hw⟩
    · rw [List.mem_singleton] at hb
      subst hb
      exact ⟨_, List.mem_append_right _ (List.mem_singleton.2 rfl), hw⟩
  | _ :: _, [], h => h.elim
theorem isSeg_iff {ss : List AS} {segs : List Seg} (h : SegsOf ss segs) (f : Fl) : isSeg segs f = true ↔ ∃ a ∈ ss, (a.file : Int) = f.n := by
  have e := segsOf_files h
  unfold isSeg
  rw [List.any_eq_true]
  constructor
  · rintro ⟨s, hs, h1⟩
    have : s.file ∈ ss.map AS.file := by rw [← e]; exact List.mem_map_of_mem hs
    obtain ⟨a, ha, h2⟩ := List.mem_map.1 this
    exact ⟨a, ha, by rw [h2]; exact of_decide_eq_true h1⟩
  · rintro ⟨a, ha, h1⟩
    have : a.file ∈ segs.map Seg.file := by rw [e]; exact List.mem_map_of_mem ha
    obtain ⟨s, hs, h2⟩ := List.mem_map.1 this
    exact ⟨s, hs, decide_eq_true (by rw [h2]; exact h1)⟩
end

/-! a new segment -/
def numOf (segs : List Seg) : Nat := match segs.getLast? with | some s => s.number + 1 | none => 1
def aheadOf (segs : List Seg) : Nat := match segs.getLast? with | some s => s.size | none => 0
def headB (whole : Bool) (number ahead first next : Nat) (frames : List UInt8) : List UInt8 := metaF (if whole = true then 119 else 104) [number, ahead, first, next, frames.length, Enc.sum frames]
def beginP (d : Dk) (l : Lg) (whole : Bool) (first next : Nat) (frames : List UInt8) : Dk × Lg × Int :=
  if (delAll d (strangeN d.fs l.base l.segs)).2 ≠ 0 then ((delAll d (strangeN d.fs l.base l.segs)).1, { l with failed := true, dirty := true }, (delAll d (strangeN d.fs l.base l.segs)).2)
  else if (layP (delAll d (strangeN d.fs l.base l.segs)).1 (freeP (usedN d.fs l.base l.segs) l.base) (headB whole (numOf l.segs) (aheadOf l.segs) first next frames ++ frames)).2 ≠ 0 then
    ((layP (delAll d (strangeN d.fs l.base l.segs)).1 (freeP (usedN d.fs l.base l.segs) l.base) (headB whole (numOf l.segs) (aheadOf l.segs) first next frames ++ frames)).1, { l with failed := true, dirty := true },
      (layP (delAll d (strangeN d.fs l.base l.segs)).1 (freeP (usedN d.fs l.base l.segs) l.base) (headB whole (numOf l.segs) (aheadOf l.segs) first next frames ++ frames)).2)
  else ((layP (delAll d (strangeN d.fs l.base l.segs)).1 (freeP (usedN d.fs l.base l.segs) l.base) (headB whole (numOf l.segs) (aheadOf l.segs) first next frames ++ frames)).1,
    { l with segs := (if whole = true then l.segs.map fun s => { s with last := first } else l.segs) ++ [⟨numOf l.segs, aheadOf l.segs, first, next, whole, freeP (usedN d.fs l.base l.segs) l.base, (headB whole (numOf l.segs) (aheadOf l.segs) first next frames ++ frames).length, l.c.next⟩], failed := false, dirty := false }, 0)
section
variable {d : Dk} {l : Lg} {ss : List AS} {c : Ct} {A : Ct → Prop}
theorem lastNum_of {segs : List Seg} (h : SegsOf ss segs) : numOf segs = lastNum ss + 1 ∧ (∀ ss0 a, ss = ss0 ++ [a] → aheadOf segs = a.bytes.length) := by
  rcases nil_or_snoc ss with rfl | ⟨l, a, rfl⟩
  · cases segs with
    | nil => exact ⟨rfl, by simp⟩
    | cons s t => exact h.elim
  · obtain ⟨s0, rfl, _⟩ := segsOf_snoc h
    refine ⟨by simp [numOf, lastNum_snoc]; rfl, fun ss0 b e => ?_⟩
    obtain ⟨_, e⟩ := List.append_inj' e rfl
    injection e with e
    subst e
    simp [aheadOf]
    rfl
theorem begin_law (h : Disked d.fs l.base ss c A l.segs l.dirty) (hu : d.fs.length + l.segs.length < 1048576) {whole : Bool} {first next : Nat} {its : List It} {n : Nat} (hn : n = freeP (usedN d.fs l.base l.segs) l.base)
    {N : AS} (hN : N = ⟨numOf l.segs, aheadOf l.segs, first, next, whole, n, (encs its).length, Enc.sum (encs its), its⟩) (hf : N.fine) (hnx : whole = true ∨ c.next = next) (hst : whole = false → N.start c = c ∧ ∃ it, its = [it]) :
    ((beginP d l whole first next (encs its)).2.2 = 0 → Shape (beginP d l whole first next (encs its)).1.fs l.base (ss ++ [N]) (AS.play c N) (fun _ => False) ∧ Clean (beginP d l whole first next (encs its)).1.fs l.base (ss ++ [N]) ∧
      (beginP d l whole first next (encs its)).2.1 = { l with segs := (if whole = true then l.segs.map fun s => { s with last := first } else l.segs) ++ [N.seg l.c.next], failed := false, dirty := false }) ∧
    ((beginP d l whole first next (encs its)).2.2 ≠ 0 → ((beginP d l whole first next (encs its)).2.2 = 3 ∨ (beginP d l whole first next (encs its)).2.2 = 4) ∧ Shape (beginP d l whole first next (encs its)).1.fs l.base ss c (fun x => A x ∨ x = AS.play c N) ∧
      (beginP d l whole first next (encs its)).2.1 = { l with failed := true, dirty := true }) := by
  have hs := h.shape
  obtain ⟨hnum, hah⟩ := lastNum_of h.segs
  have hstr : ∀ n ∈ strangeN d.fs l.base l.segs, 0 ≤ n ∧ ∀ a ∈ ss, (a.file : Int) ≠ n := by
    intro n hn
    unfold strangeN at hn
    obtain ⟨f, hf, rfl⟩ := List.mem_map.1 hn
    obtain ⟨hf, hb⟩ := List.mem_filter.1 hf
    rw [Bool.and_eq_true, Bool.not_eq_true'] at hb
    have h1 := (inR_iff.1 hb.1).1
    refine ⟨by omega, fun a ha e => ?_⟩
    have := (isSeg_iff h.segs f).2 ⟨a, ha, e⟩
    rw [hb.2] at this
    cases this
  obtain ⟨k1, k2, k3, k4⟩ := del_shape (strangeN d.fs l.base l.segs) hs hstr
  obtain ⟨u1, u2, _, u4⟩ := freeP_spec (usedN d.fs l.base l.segs) l.base
  have hul : (usedN d.fs l.base l.segs).length ≤ d.fs.length + l.segs.length := by
    unfold usedN
    rw [List.length_append, List.length_map, List.length_map]
    have := List.length_filter_le (inR l.base) d.fs
    omega
  rw [← hn] at u1 u2 u4
  have hall : headB whole (numOf l.segs) (aheadOf l.segs) first next (encs its) ++ encs its = N.bytes := by rw [hN]; rfl
  unfold beginP
  rw [← hn, hall]
  by_cases hd0 : (delAll d (strangeN d.fs l.base l.segs)).2 = 0
  · rw [if_neg (by rw [hd0]; simp)]
    have hnf : ∀ a ∈ ss, a.file ≠ n := fun a ha e => by
      refine u4 ?_
      unfold usedN
      refine List.mem_append_left _ ?_
      have : a.file ∈ l.segs.map Seg.file := by rw [segsOf_files h.segs]; exact List.mem_map_of_mem ha
      obtain ⟨s, hs, e2⟩ := List.mem_map.1 this
      exact List.mem_map.2 ⟨s, hs, by rw [e2, e]⟩
    have hfree : Fl.at_ d.fs n = none := by
      cases hx : Fl.at_ d.fs n with
      | none => rfl
      | some f =>
        obtain ⟨hm, e⟩ := Fl.at_mem hx
        refine absurd ?_ u4
        unfold usedN
        refine List.mem_append_right _ (List.mem_map.2 ⟨f, List.mem_filter.2 ⟨hm, inR_iff.2 (by omega)⟩, e⟩)
    have hq : (n : Int) ∉ strangeN d.fs l.base l.segs := fun hm => by
      unfold strangeN at hm
      obtain ⟨f, hf, e⟩ := List.mem_map.1 hm
      have := Fl.at_of hs.ok.rise (List.mem_filter.1 hf).1
      rw [e, hfree] at this
      cases this
    have hfree2 : Fl.at_ (delAll d (strangeN d.fs l.base l.segs)).1.fs n = none := by rw [k3 _ hq, hfree]
    have hno : ∀ f ∈ (delAll d (strangeN d.fs l.base l.segs)).1.fs, ¬ Strange l.base ss f := fun f hf hst => by
      have h1 := Fl.at_of k1.ok.rise hf
      by_cases hm : f.n ∈ strangeN d.fs l.base l.segs
      · rw [k4 hd0 _ hm] at h1; cases h1
      · rw [k3 _ hm] at h1
        refine hm (List.mem_map.2 ⟨f, List.mem_filter.2 ⟨(Fl.at_mem h1).1, ?_⟩, rfl⟩)
        rw [Bool.and_eq_true, Bool.not_eq_true']
        refine ⟨inR_iff.2 ⟨hst.1, hst.2.1⟩, ?_⟩
        cases hi : isSeg l.segs f with
        | false => rfl
        | true =>
          obtain ⟨a, ha, e⟩ := (isSeg_iff h.segs f).1 hi
          exact absurd e (hst.2.2 a ha)
    have hlink : ∀ ss0 a, ss = ss0 ++ [a] → Link a N := fun ss0 a e => by
      have h1 := hah ss0 a e
      have h2 : lastNum ss = a.number := by rw [e, lastNum_snoc]
      rw [hN]
      refine ⟨by dsimp only; omega, h1, hnx.imp id fun h => ?_⟩
      dsimp only
      rw [← h, hs.next e]
    have hbne : N.bytes ≠ [] := by
      intro e
      have := congrArg List.length e
      simp only [AS.bytes, List.length_append, AS.head_len, List.length_nil] at this
      omega
    have hnN : N.file = n := by rw [hN]
    have hal := lay_alike (n := n) (b := N.bytes) k1.ok (by omega)
    obtain ⟨l1, l2⟩ := lay_at (n := n) (b := N.bytes) (raw := []) (kept := 0) k1.ok (by omega) hbne (.inr ⟨hfree2, rfl, rfl⟩)
    have hsg : (⟨numOf l.segs, aheadOf l.segs, first, next, whole, n, N.bytes.length, l.c.next⟩ : Seg) = N.seg l.c.next := by rw [hN]; rfl
    by_cases he : (layP (delAll d (strangeN d.fs l.base l.segs)).1 n N.bytes).2 = 0
    · rw [if_neg (by rw [he]; simp)]
      refine ⟨fun _ => ?_, fun h => absurd rfl h⟩
      have h1 := l1 he
      rw [List.nil_append] at h1
      obtain ⟨m1, m2⟩ := k1.new hno hf hlink (fun a ha => by rw [hnN]; exact hnf a ha) (by rw [hnN]; omega) (by rw [hnN]; exact hal) (by rw [hnN]; exact h1)
      refine ⟨m1, m2, ?_⟩
      rw [hsg]
    · rw [if_pos he]
      refine ⟨fun h => absurd h he, fun _ => ⟨(lay_why (by omega)).elim (fun e => absurd e he) id, ?_, rfl⟩⟩
      refine k1.pend hno (fun _ => .inl) (n := n) (fun a ha e => hnf a ha (by omega)) hal fun f hf' => ?_
      obtain ⟨k, h1 | h1⟩ := l2 he
      · rw [hf'] at h1
        injection h1 with h1
        subst h1
        refine ⟨rfl, N, hf, by rw [hN]; exact hnum, hlink, by rw [hnN], List.take_prefix _ _, .inr rfl, fun _ => by rw [hN], fun hw => ?_⟩
        have h2 := hst (by rw [hN] at hw; exact hw)
        exact ⟨h2.1, by obtain ⟨it, e⟩ := h2.2; exact ⟨it, by rw [hN]; exact e⟩⟩
      · rw [hf', hfree2] at h1
        cases h1
  · rw [if_pos hd0]
    exact ⟨fun h => absurd h hd0, fun _ => ⟨k2.elim (fun e => absurd e hd0) id, k1.weak fun _ => .inl, rfl⟩⟩
end
end Go.Proofs.YtlcmnihpfpmajaaGreat
