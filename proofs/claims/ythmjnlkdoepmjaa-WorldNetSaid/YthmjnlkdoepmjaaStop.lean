/- The contracts of the disk's Stop, of Within and of clip; what a disk that stops does. Conditions stand with each. -/
import Derived.Test.YthmjnlkdoepmjaaWakes
namespace Go.Proofs.Ythmjnlkdoepmjaa
open Go.RowKit

theorem emod_tmod (i m : Int) (h0 : 0 < m) : i % m = if i.tmod m < 0 then i.tmod m + m else i.tmod m := by
  have h1 := Int.tmod_eq_emod (a := i) (b := m)
  have h2 := Int.emod_nonneg i (show m ≠ 0 by omega)
  have h3 := Int.emod_lt_of_pos i h0
  by_cases h : 0 ≤ i ∨ m ∣ i
  · rw [if_pos h] at h1
    rw [if_neg (by omega)]
    omega
  · rw [if_neg h] at h1
    rw [if_pos (by omega)]
    omega
set_option maxRecDepth 20000 in
set_option maxHeartbeats 1000000 in
theorem within_any (i m : Int) (w : World) (h0 : 0 < m) (h1 : m ≤ 1000) :
    Calls Try.prog 19 #[.int .i64 i, .int .i64 m] w fun e w' => w = w' ∧ e = .returned (.int .i64 (i % m)) := by
  have hz : m ≠ 0 := by omega
  have hlt : i.tmod m < m := Int.tmod_lt_of_pos i h0
  have hgt : -m < i.tmod m := by
    have := Int.tmod_lt_of_pos (-i) h0
    rw [Int.neg_tmod] at this
    omega
  have hwr : IntKind.i64.wrap (i.tmod m) = i.tmod m := IntWalk.i64_in _ (by omega)
  have hem := emod_tmod i m h0
  have HEM := Lib.hid hem
  clear hem
  by_cases hn : i.tmod m < 0
  · have hwa : IntKind.i64.wrap (i.tmod m + m) = i.tmod m + m := IntWalk.i64_in _ (by omega)
    go_enter Try.func19, Try.ntmps19
    go_wp2_with fail
    go_ret
    have h2 := HEM.out
    rw [if_pos hn] at h2
    rw [h2]
    exact ⟨rfl, rfl⟩
  · go_enter Try.func19, Try.ntmps19
    go_wp2_with fail
    go_ret
    have h2 := HEM.out
    rw [if_neg (by omega)] at h2
    rw [h2]
    exact ⟨rfl, rfl⟩

set_option maxRecDepth 20000 in
set_option maxHeartbeats 1000000 in
theorem stop_any (w : World) (bd bm : Nat) (fv : Value) (fs : List FR) (d : Dk) (after : Int) (h : DK w bd bm fv fs d) (ho : d.ops ≤ 4611686018427387904) (ha : after ≤ 9223372036854775807) :
    Calls Try.prog 25 #[.pointer (some ⟨bd, 0, none⟩), .int .i64 after] w (StepEnd w bd bm fv fs (d.halt after) (.returned (.tuple #[]))) := by
  have HL := Lib.hid (later_any w bd bm fv fs d after h (by omega) ha)
  have hd : d.halt after = { d with stopped := decide (d.later after ≠ -1), stop := d.later after } := rfl
  have HD := Lib.hid hd
  have k3 : w.cell? ⟨bd, 3, none⟩ = some (.bool d.stopped) := h.blk.cell 3
  have q3 := h.blk.frozen 3
  have q4 := h.blk.frozen 4
  have k4 : ∀ v, (w.setCell ⟨bd, 3, none⟩ v).cell? ⟨bd, 4, none⟩ = some (.int .i64 d.stop) := fun v => (h.blk.set_ 3 v).cell 4
  have H := Lib.hid h
  clear h hd
  go_enter Try.func25, Try.ntmps25
  go_wp2_with fail
  refine HL.out.mono ?_
  rintro e w1 ⟨rfl, rfl⟩
  clear HL
  have hfin : ∀ b : Bool, b = decide (d.later after ≠ -1) → StepEnd w bd bm fv fs (d.halt after) (.returned (.tuple #[])) (.returned (.tuple #[])) ((w.setCell ⟨bd, 3, none⟩ (.bool b)).setCell ⟨bd, 4, none⟩ (.int .i64 (d.later after))) := by
    rintro b rfl
    have hT : Touch (fun k => k = bd ∨ fv.ownBlock = some k) w ((w.setCell ⟨bd, 3, none⟩ (.bool (decide (d.later after ≠ -1)))).setCell ⟨bd, 4, none⟩ (.int .i64 (d.later after))) :=
      ((Touch.refl (fun k => k = bd ∨ fv.ownBlock = some k) w).setCell (p := ⟨bd, 3, none⟩) (.inr (.inl rfl)) _).setCell (p := ⟨bd, 4, none⟩) (.inr (.inl rfl)) _
    obtain ⟨r1, r2⟩ := H.out.rest hT
    have hne : fv.ownBlock ≠ some bd := H.out.flt.ne_blk H.out.blk (by decide)
    exact ⟨rfl, hT.mono fun k _ hk => hk.elim .inl fun e => .inr (.inr (.inl e)), fv, fs, ⟨H.out.fls, (H.out.blk.set_ 3 _).set_ 4 _, r1, (H.out.flt.far (p := ⟨bd, 3, none⟩) hne _).far (p := ⟨bd, 4, none⟩) hne _, r2, H.out.apart⟩, fun k hk => .inl hk⟩
  have FIN := Lib.hid hfin
  clear hfin
  generalize hl : d.later after = l at *
  by_cases hm : l = -1
  · have hb : (l != -1) = false := by simp [hm]
    have hm' := Lib.hid hm
    clear hm hl
    go_wp2_with fail
    go_end0
    exact FIN.out false (by simp [hm'.out])
  · have hb : (l != -1) = true := by simpa using hm
    have hm' := Lib.hid hm
    clear hm hl
    go_wp2_with fail
    go_end0
    exact FIN.out true (by simpa using hm'.out)
theorem disk_stop {w : World} {S : Nat → Prop} {bd : Nat} {d : Dk} {K : Nat} (h : Disk w S bd d) (hs : d.small K) (hK : K ≤ 1000000000) {after : Int} (ha : after ≤ 9223372036854775807) :
    Calls Try.prog 25 #[.pointer (some ⟨bd, 0, none⟩), .int .i64 after] w fun e w' => e = .returned (.tuple #[]) ∧ Touch S w w' ∧ Disk w' (more S w w') bd (d.halt after) := by
  obtain ⟨bm, fv, fs, hd, h1, h2⟩ := h
  exact (stop_any w bd bm fv fs d after hd (by have := hs.ops; omega) ha).mono fun e w' q => q.disk h1 h2
theorem halt_small {after : Int} {d : Dk} {K : Nat} (h : d.small K) : (d.halt after).small K := ⟨h.raw, h.many, h.faults, h.ops⟩

/-- a disk that stops at k, without faults -/
structure Stopping (d : Dk) (k : Nat) : Prop where
  stopped : d.stopped = true
  stop : d.stop = k
  faults : d.faults = []
theorem Stopping.why {d : Dk} {k : Nat} (h : Stopping d k) {n : Int} (hn : 0 ≤ n) : d.why n = if d.ops < k then 0 else 4 := by
  unfold Dk.why Dk.dead Dk.hit
  rw [h.stopped, h.stop, h.faults]
  by_cases e : d.ops < k
  · rw [if_pos e]
    have : decide ((k : Int) ≤ (d.ops : Int)) = false := by simpa using e
    rw [this]
    simp
    omega
  · rw [if_neg e]
    have : decide ((k : Int) ≤ (d.ops : Int)) = true := by simp; omega
    rw [this]
    rfl
theorem Stopping.next {d : Dk} {k : Nat} (h : Stopping d k) : Stopping d.next k := ⟨h.stopped, h.stop, by show d.faults.filter _ = []; rw [h.faults]; rfl⟩
theorem Stopping.append {d : Dk} {k : Nat} (h : Stopping d k) (n : Int) (b : List UInt8) : Stopping (d.append n b) k ∧ (d.append n b).ops = d.ops + 1 := by
  unfold Dk.append
  split
  · exact ⟨⟨h.next.stopped, h.next.stop, h.next.faults⟩, rfl⟩
  · split
    · exact ⟨⟨h.next.stopped, h.next.stop, h.next.faults⟩, rfl⟩
    · exact ⟨h.next, rfl⟩
theorem Stopping.sync {d : Dk} {k : Nat} (h : Stopping d k) (n : Int) : Stopping (d.sync n) k ∧ (d.sync n).ops = d.ops + 1 := by
  unfold Dk.sync
  split
  · exact ⟨⟨h.next.stopped, h.next.stop, h.next.faults⟩, rfl⟩
  · exact ⟨h.next, rfl⟩
theorem halt_new (k : Nat) (hk : k ≤ 1000) : Stopping (Dk.new.halt k) k ∧ (Dk.new.halt k).ops = 0 := by
  have hl : Dk.new.later k = k := by
    unfold Dk.later
    rw [if_neg (by show ¬ 9223372036854775807 - ((0 : Nat) : Int) < max (k : Int) 0; omega)]
    show ((0 : Nat) : Int) + max (k : Int) 0 = k
    omega
  refine ⟨⟨?_, hl, rfl⟩, rfl⟩
  show decide (Dk.new.later k ≠ -1) = true
  rw [hl]
  exact decide_eq_true (by omega)
theorem why_crashed {d : Dk} (cuts : List Int) {n : Int} (hn : 0 ≤ n) : (d.crash cuts).why n = 0 := by
  unfold Dk.why Dk.dead Dk.hit Dk.crash
  simp
  omega
end Go.Proofs.Ythmjnlkdoepmjaa
