/- The contract of the disk's Fail. Conditions stand with it. -/
import Derived.Test.YthmjnlkdoepmjaaStop
import Derived.Deep.RegionWith
namespace Go.Proofs.Ythmjnlkdoepmjaa
open Go.RowKit

theorem Try.info94 : (Try.prog.info? 94).map (fun i => (i.zero, i.size, i.bytes)) = some (some (.agg #[.int .i64 0, .int .i64 0]), 2, 16) := by kernel_rfl
theorem fltCells_snoc (l : List (Int × Int)) (f : Int × Int) : fltCells (l ++ [f]) = fltCells l ++ [.int .i64 f.1, .int .i64 f.2] := by simp [fltCells]
theorem flt_new (w : World) (a k : Int) : Src Try.prog 2 84 (.slice (some ⟨w.heap.size, 0, none⟩) 1 1) 1 [.int .i64 a, .int .i64 k] (w.drew.alloc (.cells #[.int .i64 a, .int .i64 k] 94)) := by
  refine Src.ofSlice _ Try.underlying84 _ _ _ _ rfl (fun j u hu => ?_) (by intro u hu; simp at hu; rcases hu with rfl | rfl <;> rfl)
  have hb := Blk.new w.drew 94 #[.int .i64 a, .int .i64 k]
  rw [add_flat, Nat.zero_add]
  have := hb.cell j
  rw [show w.drew.heap.size = w.heap.size from rfl] at this
  rw [this, ← hu]
  simp
set_option maxRecDepth 20000 in
set_option maxHeartbeats 4000000 in
theorem fail_any (w : World) (bd bm : Nat) (fv : Value) (fs : List FR) (d : Dk) (after kind : Int) (h : DK w bd bm fv fs d) (ho : d.ops ≤ 4611686018427387904) (ha : after ≤ 9223372036854775807) (hl : d.faults.length ≤ 1000000000) :
    Calls Try.prog 20 #[.pointer (some ⟨bd, 0, none⟩), .int .i64 after, .int .i64 kind] w (StepEnd w bd bm fv fs (d.fail after kind) (.returned (.tuple #[]))) := by
  have HL := Lib.hid (later_any w.drew bd bm fv fs d after (h.touch ((Touch.refl (fun _ => False) w).drew) fun _ _ => id) (by omega) ha)
  obtain ⟨A, c, rfl, hle, hcm, hA⟩ := h.flt.form
  have k2 : w.cell? ⟨bd, 2, none⟩ = some (.slice A d.faults.length c) := h.blk.cell 2
  have k2a : ∀ o, (w.alloc o).cell? ⟨bd, 2, none⟩ = some (.slice A d.faults.length c) := fun o => (h.blk.alloc o).cell 2
  have H := Lib.hid h
  unfold maxLen at hcm
  have hafter : ∀ w1 : World, ((w.drew).alloc (.cells #[.int .i64 (d.later after), .int .i64 kind] 94)).grownBy w1 (Value.slice A d.faults.length c).ownBlock → w1.cell? ⟨bd, 2, none⟩ = some (.slice A d.faults.length c) ∧ w1.frozen? ⟨bd, 2, none⟩ = false := fun w1 hg => by
    have hd1 := (h.blk.drew.alloc (.cells #[.int .i64 (d.later after), .int .i64 kind] 94)).grown hg (fun e => h.flt.ne_blk h.blk (by decide) e.symm)
    exact ⟨hd1.cell 2, hd1.frozen 2⟩
  have HAFTER := Lib.hid hafter
  clear h hafter
  go_enter Try.func20, Try.ntmps20
  go_wp2_with fail
  go_region_law ((first
    | (refine step_own_src _ rfl _ _ 84 84 rfl 94 (.agg #[.int .i64 0, .int .i64 0]) 2 16 Try.info94 Try.underlying84 rfl (.slice A d.faults.length c) d.faults.length (fltCells d.faults) rfl (by exact (H.out.flt.drew).alloc _) (fltCells_one _) (.slice (some ⟨w.heap.size, 0, none⟩) 1 1) 1 [.int .i64 (d.later after), .int .i64 kind] rfl (by exact flt_new w (d.later after) kind) (by unfold maxLen; omega) (by omega) ?_; intro B1 c1 w1 o1 g1 b1; obtain ⟨r1, r2⟩ := HAFTER.out w1 g1)
    | (go_simp; go_at_call 54; refine HL.out.mono ?_; rintro e w' ⟨rfl, rfl⟩)))
  all_goals
    clear r1 r2
    have hne : (Value.slice A d.faults.length c).ownBlock ≠ some bd := H.out.flt.ne_blk H.out.blk (by decide)
    have hT1 : Touch (fun k => k = bd ∨ (Value.slice A d.faults.length c).ownBlock = some k) w w1 := (((Touch.refl _ w).drew).alloc _).grown g1 fun k hk => .inr (.inr hk)
    have hB1 := (H.out.blk.drew.alloc (.cells #[.int .i64 (d.later after), .int .i64 kind] 94)).grown g1 fun e => hne e.symm
    have hT2 := hT1.setCell (p := ⟨bd, 2, none⟩) (.inr (.inl rfl)) (.slice B1 (d.faults.length + 1) c1)
    obtain ⟨r1, r2⟩ := H.out.rest hT2
    have hfl : (d.fail after kind).faults.length = d.faults.length + 1 := by show (d.faults ++ [_]).length = _; rw [List.length_append]; rfl
    have hfc : fltCells (d.fail after kind).faults = fltCells d.faults ++ [.int .i64 (d.later after), .int .i64 kind] := fltCells_snoc _ _
    have hR : StepEnd w bd bm (.slice A d.faults.length c) fs (d.fail after kind) (.returned (.tuple #[])) (.returned (.tuple #[])) (w1.setCell ⟨bd, 2, none⟩ (.slice B1 (d.faults.length + 1) c1)) := by
      refine ⟨rfl, hT2.mono fun k _ hk => hk.elim .inl fun e => .inr (.inr (.inl e)), .slice B1 (d.faults.length + 1) c1, fs, ⟨H.out.fls, hB1.set_ 2 _, r1, ?_, r2, H.out.apart⟩, ?_⟩
      · rw [hfl, hfc]
        exact o1.far (p := ⟨bd, 2, none⟩) (o1.ne_blk hB1 (by decide)) _
      · rintro k (e | e | e | e)
        · exact .inl (.inl e)
        · exact .inl (.inr (.inl e))
        · rcases b1 with h | h
          · exact .inl (.inr (.inr (.inl (h.symm.trans e))))
          · rw [e] at h
            injection h with h
            refine .inr ?_
            rw [h]
            show w.heap.size ≤ (w.alloc (.cells #[.int .i64 (d.later after), .int .i64 kind] 94)).heap.size
            rw [alloc_size]
            exact Nat.le_succ _
        · exact .inl (.inr (.inr (.inr e)))
    have R := Lib.hid hR
    clear hT1 hB1 hT2 r1 r2 hfl hfc hR o1 g1 b1 hne
    go_wp2_with fail
    go_end0
    exact R.out
theorem disk_fail {w : World} {S : Nat → Prop} {bd : Nat} {d : Dk} {K : Nat} (h : Disk w S bd d) (hs : d.small K) (hK : K ≤ 1000000000) {after : Int} (kind : Int) (ha : after ≤ 9223372036854775807) :
    Calls Try.prog 20 #[.pointer (some ⟨bd, 0, none⟩), .int .i64 after, .int .i64 kind] w fun e w' => e = .returned (.tuple #[]) ∧ Touch S w w' ∧ Disk w' (more S w w') bd (d.fail after kind) := by
  obtain ⟨bm, fv, fs, hd, h1, h2⟩ := h
  exact (fail_any w bd bm fv fs d after kind hd (by have := hs.ops; omega) ha (by have := hs.faults; omega)).mono fun e w' q => q.disk h1 h2
theorem fail_small {after kind : Int} {d : Dk} {K : Nat} (h : d.small K) : (d.fail after kind).small (K + 1) :=
  ⟨fun f hf => Nat.le_succ_of_le (h.raw f hf), Nat.le_succ_of_le h.many, by show (d.faults ++ [_]).length ≤ _; rw [List.length_append]; exact Nat.succ_le_succ h.faults, Nat.le_succ_of_le h.ops⟩

/-- one fault waits for operation k; i operations are over; file 1 has 'size' bytes -/
structure Waits (d : Dk) (k : Nat) (kind : Int) (i size : Nat) : Prop where
  ops : d.ops = i
  stopped : d.stopped = false
  faults : d.faults = if i ≤ k then [((k : Int), kind)] else []
  fs : ∃ raw : List UInt8, raw.length = size ∧ d.fs = if raw = [] then [] else [⟨1, raw, 0⟩]
theorem waits_new (k : Nat) (hk : k ≤ 1000) (kind : Int) : Waits (Dk.new.fail k kind) k kind 0 0 := by
  have hl : Dk.new.later k = k := by
    unfold Dk.later
    rw [if_neg (by show ¬ 9223372036854775807 - ((0 : Nat) : Int) < max (k : Int) 0; omega)]
    show ((0 : Nat) : Int) + max (k : Int) 0 = k
    omega
  refine ⟨rfl, rfl, ?_, [], rfl, rfl⟩
  rw [if_pos (Nat.zero_le _)]
  show [] ++ [(Dk.new.later k, kind)] = _
  rw [hl]
  rfl
theorem Waits.hit {d : Dk} {k i size : Nat} {kind : Int} (h : Waits d k kind i size) : d.hit = if i = k then some ((k : Int), kind) else none := by
  unfold Dk.hit
  rw [h.faults, h.ops]
  by_cases h1 : i = k
  · subst h1; simp
  · rw [if_neg h1]
    split
    · simp; omega
    · rfl
theorem Waits.dead {d : Dk} {k i size : Nat} {kind : Int} (h : Waits d k kind i size) : d.dead = false := by
  unfold Dk.dead
  rw [h.stopped]
  rfl
theorem Waits.why {d : Dk} {k i size : Nat} {kind : Int} (h : Waits d k kind i size) : d.why 1 = if i = k then 3 else 0 := by
  unfold Dk.why
  rw [h.dead, h.hit]
  by_cases h1 : i = k
  · simp [h1]
  · simp [h1]
theorem Waits.kind_ {d : Dk} {k i size : Nat} {kind : Int} (h : Waits d k kind i size) (hk : i = k) : d.kind = kind := by
  unfold Dk.kind
  rw [h.dead, h.hit, if_pos hk]
  rfl
theorem Waits.read {d : Dk} {k i size : Nat} {kind : Int} (h : Waits d k kind i size) : (d.read 1).length = size := by
  obtain ⟨raw, h1, h2⟩ := h.fs
  unfold Dk.read Fl.at_
  rw [h2]
  by_cases e : raw = []
  · rw [if_pos e, ← h1, e]; rfl
  · rw [if_neg e]; exact h1
theorem Waits.next {d : Dk} {k i size : Nat} {kind : Int} (h : Waits d k kind i size) : Waits d.next k kind (i + 1) size := by
  refine ⟨congrArg (· + 1) h.ops, h.stopped, ?_, h.fs⟩
  show d.faults.filter (fun f => decide (f.1 ≠ (d.ops : Int))) = _
  rw [h.faults, h.ops]
  by_cases h1 : i ≤ k
  · rw [if_pos h1]
    by_cases h2 : i = k
    · subst h2
      rw [if_neg (by omega)]
      simp
    · rw [if_pos (by omega)]
      simp
      omega
  · rw [if_neg h1, if_neg (by omega)]
    rfl
theorem Waits.add {d : Dk} {k i size : Nat} {kind : Int} (h : Waits d k kind i size) (b : List UInt8) : Waits { d with fs := Fl.add 1 b d.fs } k kind i (size + b.length) := by
  obtain ⟨raw, h1, h2⟩ := h.fs
  refine ⟨h.ops, h.stopped, h.faults, raw ++ b, by rw [List.length_append, h1], ?_⟩
  show Fl.add 1 b d.fs = _
  unfold Fl.add
  rw [h2]
  by_cases hb : b = []
  · rw [if_pos hb, hb, List.append_nil]
  · rw [if_neg hb, if_neg (show ¬ raw ++ b = [] by simp [hb])]
    by_cases e : raw = []
    · rw [if_pos e, e]; rfl
    · rw [if_neg e]; rfl
theorem Waits.append {d : Dk} {k i size : Nat} {kind : Int} (h : Waits d k kind i size) (b : List UInt8) : Waits (d.append 1 b) k kind (i + 1) (if i = k then (if kind = 2 then size + b.length / 2 else size) else size + b.length) := by
  unfold Dk.append
  rw [h.why]
  by_cases h1 : i = k
  · rw [if_neg (by rw [if_pos h1]; decide), if_pos h1, if_pos h1, h.kind_ h1]
    by_cases h2 : kind = 2
    · rw [if_pos ⟨rfl, h2, by omega⟩, if_pos h2]
      have := h.next.add (b.take (b.length / 2))
      rw [List.length_take, Nat.min_eq_left (by omega)] at this
      exact this
    · rw [if_neg (fun h => h2 h.2.1), if_neg h2]
      exact h.next
  · rw [if_pos (by rw [if_neg h1]), if_neg h1]
    exact h.next.add b
end Go.Proofs.Ythmjnlkdoepmjaa
