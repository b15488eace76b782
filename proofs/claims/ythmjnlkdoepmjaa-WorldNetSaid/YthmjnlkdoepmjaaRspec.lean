/- The plain law of the document's disk: what its calls do, on lists; it and the program's disk tell the same. No program is in sight here. -/
import Derived.Test.YthmjnlkdoepmjaaSpec
namespace Go.Proofs.Ythmjnlkdoepmjaa

/-- The document's disk: its files, the faults (after, kind), the stop (negative: none), how many operations there were. -/
structure Rk where
  fs : List Fl
  faults : List (Int × Int)
  stop : Int
  count : Nat
namespace Rk
def new : Rk := ⟨[], [], -1, 0⟩
def hit (r : Rk) : Option (Int × Int) := r.faults.find? fun f => decide (¬ 0 < f.1)
def left (l : List (Int × Int)) : List (Int × Int) := l.filterMap fun f => if 0 < f.1 then some (f.1 - 1, f.2) else none
def next (r : Rk) : Rk := { r with faults := left r.faults, stop := if 0 < r.stop then r.stop - 1 else r.stop, count := r.count + 1 }
def why (r : Rk) (file : Int) : Int := if r.stop = 0 then 4 else if r.hit.isSome then 3 else if file < 0 then 1 else 0
def half (r : Rk) : Bool := match r.hit with | some f => decide (r.stop ≠ 0) && decide (f.2 = 2) | none => false
def append (r : Rk) (file : Int) (b : List UInt8) : Rk :=
  if r.why file = 0 then { r.next with fs := Fl.add file b r.fs }
  else if r.half = true ∧ 0 ≤ file then { r.next with fs := Fl.add file (b.take (b.length / 2)) r.fs }
  else r.next
def sync (r : Rk) (file : Int) : Rk := if r.why file = 0 then { r.next with fs := Fl.sync file r.fs } else r.next
def delete (r : Rk) (file : Int) : Rk := if r.why file = 0 then { r.next with fs := r.fs.filter fun f => decide (f.n ≠ file) } else r.next
def crash (r : Rk) (cuts : List Int) : Rk := { r with fs := Fl.crash r.fs cuts, faults := [], stop := -1 }
def fail (r : Rk) (after kind : Int) : Rk := { r with faults := r.faults ++ [(max after 0, kind)] }
def halt (r : Rk) (after : Int) : Rk := { r with stop := max after 0 }
def read (r : Rk) (file : Int) : List UInt8 := match Fl.at_ r.fs file with | some f => f.raw | none => []
def kept (r : Rk) (file : Int) : Nat := match Fl.at_ r.fs file with | some f => f.kept | none => 0
end Rk

/-- how a fault that waits for 'after' operations more is told by the program's disk -/
def conv (c : Nat) (f : Int × Int) : Int × Int := (if 9223372036854775807 < f.1 + c then -1 else c + f.1, f.2)
/-- The two disks tell the same. -/
structure Sim (d : Dk) (r : Rk) : Prop where
  fs : d.fs = r.fs
  ops : d.ops = r.count
  flt : d.faults = r.faults.map (conv r.count)
  pos : ∀ f ∈ r.faults, 0 ≤ f.1
  run : r.stop < 0 ∨ 9223372036854775807 < r.stop + r.count → d.stopped = false
  halt : 0 ≤ r.stop → r.stop + r.count ≤ 9223372036854775807 → d.stopped = true ∧ (d.stop = r.count + r.stop ∨ (r.stop = 0 ∧ d.stop ≤ r.count))
theorem Sim.new : Sim Dk.new Rk.new :=
  ⟨rfl, rfl, rfl, (by intro f hf; cases hf), fun _ => rfl, fun h => absurd h (by decide)⟩
theorem conv_hit (c : Nat) (hc : c ≤ 9223372036854775807) : ∀ l : List (Int × Int), (∀ f ∈ l, 0 ≤ f.1) →
    ((l.map (conv c)).find? fun f => decide (f.1 = (c : Int))).map Prod.snd = (l.find? fun f => decide (¬ 0 < f.1)).map Prod.snd
  | [], _ => rfl
  | f :: l, h => by
    have h0 := h f (by simp)
    have ih := conv_hit c hc l fun g hg => h g (List.mem_cons_of_mem _ hg)
    rw [List.map_cons]
    by_cases hz : 0 < f.1
    · have h1 : ¬ ((conv c f).1 = (c : Int)) := by unfold conv; dsimp only; split <;> omega
      rw [List.find?_cons_of_neg (by simpa using h1), List.find?_cons_of_neg (by simp; omega)]
      exact ih
    · have h1 : (conv c f).1 = (c : Int) := by unfold conv; dsimp only; split <;> omega
      rw [List.find?_cons_of_pos (by simpa using h1), List.find?_cons_of_pos (by simp; omega)]
      rfl
theorem conv_left (c : Nat) : ∀ l : List (Int × Int), (∀ f ∈ l, 0 ≤ f.1) → c ≤ 9223372036854775807 →
    (l.map (conv c)).filter (fun f => decide (f.1 ≠ (c : Int))) = (Rk.left l).map (conv (c + 1))
  | [], _, _ => rfl
  | f :: l, h, hc => by
    have h0 := h f (by simp)
    have ih := conv_left c l (fun g hg => h g (List.mem_cons_of_mem _ hg)) hc
    rw [List.map_cons]
    unfold Rk.left
    by_cases hz : 0 < f.1
    · have h1 : (conv c f).1 ≠ (c : Int) := by unfold conv; dsimp only; split <;> omega
      rw [List.filter_cons_of_pos (by simpa using h1), List.filterMap_cons_some (b := (f.1 - 1, f.2)) (by simp [hz]), List.map_cons]
      refine congr (congrArg List.cons ?_) ih
      unfold conv
      dsimp only
      refine Prod.ext ?_ rfl
      dsimp only
      push_cast
      split <;> split <;> omega
    · have h1 : (conv c f).1 = (c : Int) := by unfold conv; dsimp only; split <;> omega
      rw [List.filter_cons_of_neg (by simpa using h1), List.filterMap_cons_none (by simp [hz])]
      exact ih
theorem left_pos {l : List (Int × Int)} : ∀ f ∈ Rk.left l, 0 ≤ f.1 := by
  intro f hf
  obtain ⟨g, _, hg⟩ := List.mem_filterMap.1 hf
  split at hg
  · injection hg with hg; subst hg; dsimp only; omega
  · cases hg
section
variable {d : Dk} {r : Rk}
theorem Sim.hit (h : Sim d r) (hc : r.count ≤ 9223372036854775807) : d.hit.map Prod.snd = r.hit.map Prod.snd := by
  unfold Dk.hit Rk.hit
  rw [h.flt, h.ops]
  exact conv_hit _ hc _ h.pos
theorem Sim.next (h : Sim d r) (hc : r.count < 9223372036854775807) : Sim d.next r.next := by
  refine ⟨h.fs, congrArg (· + 1) h.ops, ?_, left_pos, fun hs => ?_, fun h1 h2 => ?_⟩
  · show d.faults.filter (fun f => decide (f.1 ≠ (d.ops : Int))) = _
    rw [h.flt, h.ops]
    exact conv_left _ _ h.pos (by omega)
  · refine h.run ?_
    change (if 0 < r.stop then r.stop - 1 else r.stop) < 0 ∨ 9223372036854775807 < (if 0 < r.stop then r.stop - 1 else r.stop) + ((r.count + 1 : Nat) : Int) at hs
    push_cast at hs
    split at hs <;> omega
  · change 0 ≤ (if 0 < r.stop then r.stop - 1 else r.stop) at h1
    change (if 0 < r.stop then r.stop - 1 else r.stop) + ((r.count + 1 : Nat) : Int) ≤ 9223372036854775807 at h2
    have h3 := h.halt (by split at h1 <;> omega) (by push_cast at h2; split at h2 <;> omega)
    refine ⟨h3.1, ?_⟩
    show d.stop = ((r.count + 1 : Nat) : Int) + (if 0 < r.stop then r.stop - 1 else r.stop) ∨ ((if 0 < r.stop then r.stop - 1 else r.stop) = 0 ∧ d.stop ≤ ((r.count + 1 : Nat) : Int))
    push_cast
    have h4 := h3.2
    split <;> omega
theorem Sim.dead (h : Sim d r) (hc : r.count < 9223372036854775807) : d.dead = decide (r.stop = 0) := by
  unfold Dk.dead
  by_cases h1 : r.stop < 0 ∨ 9223372036854775807 < r.stop + r.count
  · rw [h.run h1, show decide (r.stop = 0) = false by simp; omega]
    rfl
  · obtain ⟨h2, h3⟩ := h.halt (by omega) (by omega)
    rw [h2, h.ops, Bool.true_and]
    by_cases h4 : r.stop = 0
    · rw [decide_eq_true (by omega), decide_eq_true h4]
    · rw [decide_eq_false (by omega), decide_eq_false h4]
theorem Sim.why (h : Sim d r) (hc : r.count < 9223372036854775807) (n : Int) : d.why n = r.why n := by
  have h1 := congrArg Option.isSome (h.hit (by omega))
  rw [Option.isSome_map, Option.isSome_map] at h1
  unfold Dk.why Rk.why
  rw [h.dead hc, h1]
  by_cases h4 : r.stop = 0
  · simp [h4]
  · simp [h4]
theorem Sim.half (h : Sim d r) (hc : r.count < 9223372036854775807) (n : Int) : (d.why n = 3 ∧ d.kind = 2) ↔ r.half = true := by
  have h1 := h.hit (by omega)
  unfold Dk.why Dk.kind Rk.half
  rw [h.dead hc]
  by_cases h4 : r.stop = 0
  · simp only [h4, decide_true, if_true]
    constructor
    · intro h; exact absurd h.1 (by decide)
    · intro h; split at h <;> simp at h
  · simp only [h4, decide_false]
    cases hd : d.hit with
    | none =>
      rw [hd] at h1
      cases hr : r.hit with
      | none =>
        constructor
        · intro h; exact absurd h.2 (by simp)
        · intro h; exact absurd h (by simp)
      | some g => rw [hr] at h1; cases h1
    | some f =>
      rw [hd] at h1
      cases hr : r.hit with
      | none => rw [hr] at h1; cases h1
      | some g =>
        rw [hr] at h1
        simp only [Option.map_some, Option.some.injEq] at h1
        simp [h1, h4]
theorem Sim.files (h : Sim d r) {fs : List Fl} : Sim { d with fs := fs } { r with fs := fs } := ⟨rfl, h.ops, h.flt, h.pos, h.run, h.halt⟩
theorem Sim.append (h : Sim d r) (hc : r.count < 9223372036854775807) (n : Int) (b : List UInt8) : Sim (d.append n b) (r.append n b) := by
  have hw := h.why hc n
  have hh := h.half hc n
  have hn := h.next hc
  unfold Dk.append Rk.append
  rw [hw] at hh ⊢
  by_cases h1 : r.why n = 0
  · rw [if_pos h1, if_pos h1, h.fs]
    exact hn.files
  · rw [if_neg h1, if_neg h1]
    by_cases h2 : r.half = true ∧ 0 ≤ n
    · have h3 := hh.2 h2.1
      rw [if_pos ⟨h3.1, h3.2, h2.2⟩, if_pos h2, h.fs]
      exact hn.files
    · rw [if_neg (fun h => h2 ⟨hh.1 ⟨h.1, h.2.1⟩, h.2.2⟩), if_neg h2]
      exact hn
theorem Sim.sync (h : Sim d r) (hc : r.count < 9223372036854775807) (n : Int) : Sim (d.sync n) (r.sync n) := by
  have hn := h.next hc
  unfold Dk.sync Rk.sync
  rw [h.why hc n]
  split
  · rw [h.fs]; exact hn.files
  · exact hn
theorem Sim.delete (h : Sim d r) (hc : r.count < 9223372036854775807) (n : Int) : Sim (d.delete n) (r.delete n) := by
  have hn := h.next hc
  unfold Dk.delete Rk.delete
  rw [h.why hc n]
  split
  · rw [h.fs]; exact hn.files
  · exact hn
theorem Sim.crash (h : Sim d r) (cuts : List Int) : Sim (d.crash cuts) (r.crash cuts) :=
  ⟨by show Fl.crash d.fs cuts = Fl.crash r.fs cuts; rw [h.fs], h.ops, rfl, (by intro f hf; cases hf), fun _ => rfl, fun h => absurd (show (0 : Int) ≤ -1 from h) (by decide)⟩
theorem Sim.fail (h : Sim d r) (after kind : Int) : Sim (d.fail after kind) (r.fail after kind) := by
  refine ⟨h.fs, h.ops, ?_, ?_, h.run, h.halt⟩
  · show d.faults ++ [(d.later after, kind)] = (r.faults ++ [(max after 0, kind)]).map (conv r.count)
    rw [List.map_append, ← h.flt]
    refine congrArg (d.faults ++ ·) (congrArg (· :: []) ?_)
    unfold conv Dk.later
    rw [h.ops]
    refine Prod.ext ?_ rfl
    dsimp only
    split <;> split <;> omega
  · intro f hf
    rcases List.mem_append.1 hf with hf | hf
    · exact h.pos f hf
    · obtain rfl := List.mem_singleton.1 hf
      dsimp only; omega
theorem Sim.stop (h : Sim d r) (after : Int) : Sim (d.halt after) (r.halt after) := by
  refine ⟨h.fs, h.ops, h.flt, h.pos, fun hs => ?_, fun h1 h2 => ?_⟩
  · change max after 0 < 0 ∨ 9223372036854775807 < max after 0 + r.count at hs
    show decide (d.later after ≠ -1) = false
    have : d.later after = -1 := by unfold Dk.later; rw [h.ops, if_pos (by omega)]
    rw [this]; rfl
  · change max after 0 + r.count ≤ 9223372036854775807 at h2
    have : d.later after = r.count + max after 0 := by unfold Dk.later; rw [h.ops, if_neg (by omega)]
    refine ⟨?_, .inl ?_⟩
    · show decide (d.later after ≠ -1) = true
      rw [this, decide_eq_true]; omega
    · exact this
theorem Sim.read (h : Sim d r) (n : Int) : d.read n = r.read n := by unfold Dk.read Rk.read; rw [h.fs]; rfl
theorem Sim.kept (h : Sim d r) (n : Int) : d.kept n = r.kept n := by unfold Dk.kept Rk.kept; rw [h.fs]; rfl
end

/-- The files in their order: where one stands, or would stand. -/
def Fl.pos (n : Int) (fs : List Fl) : Nat := fs.findIdx fun f => decide (n ≤ f.n)
def Fl.hit (n : Int) (fs : List Fl) : Bool := match fs[Fl.pos n fs]? with | some f => decide (f.n = n) | none => false
theorem Fl.pos_le (n : Int) (fs : List Fl) : Fl.pos n fs ≤ fs.length := List.findIdx_le_length
theorem Fl.pos_cons (n : Int) (f : Fl) (fs : List Fl) : Fl.pos n (f :: fs) = if n ≤ f.n then 0 else Fl.pos n fs + 1 := by
  unfold Fl.pos
  rw [List.findIdx_cons]
  by_cases h : n ≤ f.n <;> simp [h]
theorem Fl.hit_cons (n : Int) (f : Fl) (fs : List Fl) : Fl.hit n (f :: fs) = if n ≤ f.n then decide (f.n = n) else Fl.hit n fs := by
  unfold Fl.hit
  rw [Fl.pos_cons]
  by_cases h : n ≤ f.n
  · simp [h]
  · simp [h]
theorem Fl.hit_lt {n : Int} {fs : List Fl} (h : Fl.hit n fs = true) : ∃ f, fs[Fl.pos n fs]? = some f ∧ f.n = n := by
  unfold Fl.hit at h
  cases hf : fs[Fl.pos n fs]? with
  | none => rw [hf] at h; cases h
  | some f => rw [hf] at h; exact ⟨f, rfl, by simpa using h⟩
theorem Fl.ins_hit (n : Int) (b : List UInt8) : ∀ {fs : List Fl}, Fl.hit n fs = true → ∀ f, fs[Fl.pos n fs]? = some f → Fl.ins n b fs = fs.set (Fl.pos n fs) ⟨n, f.raw ++ b, f.kept⟩
  | [], h, _, _ => by cases h
  | g :: fs, h, f, hf => by
    rw [Fl.hit_cons] at h
    rw [Fl.pos_cons] at hf ⊢
    unfold Fl.ins
    by_cases h1 : n ≤ g.n
    · rw [if_pos h1] at h hf ⊢
      have h2 : g.n = n := by simpa using h
      rw [if_neg (by omega), if_pos h2]
      simp only [List.getElem?_cons_zero, Option.some.injEq] at hf
      subst hf
      rfl
    · rw [if_neg h1] at h hf ⊢
      rw [if_neg (by omega), if_neg (by omega), List.set_cons_succ]
      rw [List.getElem?_cons_succ] at hf
      rw [Fl.ins_hit n b h f hf]
theorem Fl.ins_new (n : Int) (b : List UInt8) : ∀ {fs : List Fl}, Fl.hit n fs = false → Fl.ins n b fs = fs.take (Fl.pos n fs) ++ ⟨n, b, 0⟩ :: fs.drop (Fl.pos n fs)
  | [], _ => rfl
  | g :: fs, h => by
    rw [Fl.hit_cons] at h
    rw [Fl.pos_cons]
    unfold Fl.ins
    by_cases h1 : n ≤ g.n
    · rw [if_pos h1] at h ⊢
      have h2 : g.n ≠ n := by simpa using h
      rw [if_pos (by omega)]
      rfl
    · rw [if_neg h1] at h ⊢
      rw [if_neg (by omega), if_neg (by omega), List.take_succ_cons, List.drop_succ_cons, List.cons_append, Fl.ins_new n b h]
/-- a disk's files: rising, none empty, no more kept than there is -/
structure Fl.ok (fs : List Fl) : Prop where
  rise : fs.Pairwise fun a b => a.n < b.n
  le : ∀ f ∈ fs, f.kept ≤ f.raw.length
theorem Fl.filter_none {n : Int} {fs : List Fl} (h : ∀ f ∈ fs, n < f.n) : fs.filter (fun f => decide (f.n ≠ n)) = fs :=
  List.filter_eq_self.2 fun f hf => by have := h f hf; simp; omega
theorem Fl.find_none {n : Int} {fs : List Fl} (h : ∀ f ∈ fs, n < f.n) : Fl.at_ fs n = none :=
  List.find?_eq_none.2 fun f hf => by have := h f hf; simp; omega
theorem Fl.sync_none {n : Int} {fs : List Fl} (h : ∀ f ∈ fs, n < f.n) : Fl.sync n fs = fs := by
  unfold Fl.sync
  have : ∀ f ∈ fs, (if f.n = n then ⟨f.n, f.raw, f.raw.length⟩ else f) = f := fun f hf => if_neg (by have := h f hf; omega)
  exact (List.map_congr_left this).trans (List.map_id' fs)
theorem Fl.at_pos {n : Int} : ∀ {fs : List Fl}, fs.Pairwise (fun a b => a.n < b.n) → Fl.at_ fs n = if Fl.hit n fs = true then fs[Fl.pos n fs]? else none
  | [], _ => rfl
  | g :: fs, h => by
    obtain ⟨hg, hr⟩ := List.pairwise_cons.1 h
    rw [Fl.hit_cons, Fl.pos_cons]
    by_cases h1 : n ≤ g.n
    · rw [if_pos h1, if_pos h1]
      by_cases h2 : g.n = n
      · rw [if_pos (by simpa using h2)]
        unfold Fl.at_
        rw [List.find?_cons_of_pos (by simpa using h2)]
        rfl
      · rw [if_neg (by simpa using h2)]
        refine Fl.find_none fun f hf => ?_
        rcases List.mem_cons.1 hf with rfl | hf
        · omega
        · have := hg f hf; omega
    · rw [if_neg h1, if_neg h1]
      unfold Fl.at_
      rw [List.find?_cons_of_neg (by simp; omega), List.getElem?_cons_succ]
      exact Fl.at_pos hr
theorem Fl.gone_pos {n : Int} : ∀ {fs : List Fl}, fs.Pairwise (fun a b => a.n < b.n) → fs.filter (fun f => decide (f.n ≠ n)) = if Fl.hit n fs = true then fs.take (Fl.pos n fs) ++ fs.drop (Fl.pos n fs + 1) else fs
  | [], _ => rfl
  | g :: fs, h => by
    obtain ⟨hg, hr⟩ := List.pairwise_cons.1 h
    rw [Fl.hit_cons, Fl.pos_cons]
    by_cases h1 : n ≤ g.n
    · rw [if_pos h1, if_pos h1]
      have hN : ∀ f ∈ fs, n < f.n := fun f hf => by have := hg f hf; omega
      by_cases h2 : g.n = n
      · rw [if_pos (by simpa using h2), List.filter_cons_of_neg (by simpa using h2), Fl.filter_none hN]
        rfl
      · rw [if_neg (by simpa using h2), List.filter_cons_of_pos (by simpa using h2), Fl.filter_none hN]
    · rw [if_neg h1, if_neg h1, List.filter_cons_of_pos (by simp; omega), Fl.gone_pos hr]
      split
      · rfl
      · rfl
theorem Fl.sync_pos {n : Int} : ∀ {fs : List Fl}, fs.Pairwise (fun a b => a.n < b.n) → Fl.sync n fs = match Fl.at_ fs n with | some f => fs.set (Fl.pos n fs) ⟨f.n, f.raw, f.raw.length⟩ | none => fs
  | [], _ => rfl
  | g :: fs, h => by
    obtain ⟨hg, hr⟩ := List.pairwise_cons.1 h
    rw [Fl.pos_cons]
    by_cases h1 : n ≤ g.n
    · have hN : ∀ f ∈ fs, n < f.n := fun f hf => by have := hg f hf; omega
      have h3 : Fl.sync n (g :: fs) = (if g.n = n then ⟨g.n, g.raw, g.raw.length⟩ else g) :: Fl.sync n fs := rfl
      rw [h3, Fl.sync_none hN, if_pos h1]
      by_cases h2 : g.n = n
      · rw [if_pos h2]
        unfold Fl.at_
        rw [List.find?_cons_of_pos (by simpa using h2)]
        rfl
      · rw [if_neg h2, Fl.find_none (fs := g :: fs) (fun f hf => by
          rcases List.mem_cons.1 hf with rfl | hf
          · omega
          · exact hN f hf)]
    · have h3 : Fl.sync n (g :: fs) = (if g.n = n then ⟨g.n, g.raw, g.raw.length⟩ else g) :: Fl.sync n fs := rfl
      have h4 : Fl.at_ (g :: fs) n = Fl.at_ fs n := by unfold Fl.at_; rw [List.find?_cons_of_neg (by simp; omega)]
      rw [h3, h4, if_neg (show ¬ g.n = n by omega), if_neg h1, Fl.sync_pos hr]
      cases Fl.at_ fs n <;> rfl
end Go.Proofs.Ythmjnlkdoepmjaa
