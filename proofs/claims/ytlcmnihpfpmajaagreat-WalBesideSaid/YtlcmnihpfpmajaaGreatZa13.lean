/- The wal claims' texts, several in one: Calls, Dsk. Conditions stand with each theorem. -/
import Derived.Test.YtlcmnihpfpmajaaGreatZa12
import Derived.Lib.SlBytesConst
import Derived.Deep.RegionWith
/- The disk's calls as the laws use them: at a disk within some blocks. Conditions stand with each. -/
namespace Go.Proofs.YtlcmnihpfpmajaaGreat
open Go.RowKit

structure Dk.small (d : Dk) (K : Nat) : Prop where
  raw : ∀ f ∈ d.fs, f.raw.length ≤ K
  many : d.fs.length ≤ K
  faults : d.faults.length ≤ K
  ops : d.ops ≤ K
theorem Dk.small.mono {d : Dk} {K L : Nat} (h : d.small K) (hl : K ≤ L) : d.small L := ⟨fun f hf => Nat.le_trans (h.raw f hf) hl, Nat.le_trans h.many hl, Nat.le_trans h.faults hl, Nat.le_trans h.ops hl⟩
theorem new_small : Dk.new.small 0 := ⟨(by intro f hf; cases hf), Nat.le_refl _, Nat.le_refl _, Nat.le_refl _⟩
theorem next_small {d : Dk} {K : Nat} (h : d.small K) : d.next.small (K + 1) :=
  ⟨fun f hf => Nat.le_succ_of_le (h.raw f hf), Nat.le_succ_of_le h.many, Nat.le_trans (List.length_filter_le _ _) (Nat.le_succ_of_le h.faults), Nat.succ_le_succ h.ops⟩
theorem ins_small {n : Int} {b : List UInt8} {K : Nat} : ∀ {fs : List Fl}, (∀ f ∈ fs, f.raw.length ≤ K) → (∀ f ∈ Fl.ins n b fs, f.raw.length ≤ K + b.length) ∧ (Fl.ins n b fs).length ≤ fs.length + 1
  | [], _ => ⟨by intro f hf; simp [Fl.ins] at hf; subst hf; simp, by simp [Fl.ins]⟩
  | x :: r, h => by
    have ih := ins_small (n := n) (b := b) (K := K) (fs := r) fun f hf => h f (List.mem_cons_of_mem _ hf)
    have hx := h x (by simp)
    unfold Fl.ins
    split
    · refine ⟨fun f hf => ?_, by simp⟩
      rcases List.mem_cons.1 hf with rfl | hf
      · show b.length ≤ _; omega
      · have := h f hf; omega
    · split
      · refine ⟨fun f hf => ?_, by simp⟩
        rcases List.mem_cons.1 hf with rfl | hf
        · show (x.raw ++ b).length ≤ _; rw [List.length_append]; omega
        · have := h f (List.mem_cons_of_mem _ hf); omega
      · refine ⟨fun f hf => ?_, by simp only [List.length_cons]; have := ih.2; omega⟩
        rcases List.mem_cons.1 hf with rfl | hf
        · omega
        · exact ih.1 f hf
theorem add_small {n : Int} {b : List UInt8} {d : Dk} {K : Nat} (h : d.small K) : Dk.small { d with fs := Fl.add n b d.fs } (K + b.length + 1) := by
  unfold Fl.add
  split
  · exact h.mono (by omega)
  · have := ins_small (n := n) (b := b) h.raw
    exact ⟨fun f hf => by have := this.1 f hf; omega, by have h1 := this.2; have h2 := h.many; show (Fl.ins n b d.fs).length ≤ _; omega, by have := h.faults; show d.faults.length ≤ _; omega, by have := h.ops; show d.ops ≤ _; omega⟩
theorem append_small {n : Int} {b : List UInt8} {d : Dk} {K : Nat} (h : d.small K) : (d.append n b).small (K + b.length + 2) := by
  unfold Dk.append
  split
  · exact (add_small (next_small h)).mono (by omega)
  · split
    · exact (add_small (next_small h)).mono (by rw [List.length_take]; omega)
    · exact (next_small h).mono (by omega)
theorem sync_small {n : Int} {d : Dk} {K : Nat} (h : d.small K) : (d.sync n).small (K + 1) := by
  unfold Dk.sync
  split
  · have h1 := next_small h
    refine ⟨fun f hf => ?_, by show (Fl.sync n d.fs).length ≤ _; unfold Fl.sync; rw [List.length_map]; exact h1.many, h1.faults, h1.ops⟩
    obtain ⟨x, hx, rfl⟩ := List.mem_map.1 hf
    have := h1.raw x hx
    split <;> exact this
  · exact next_small h
theorem flose_len (f : Fl) (cut : Int) : (f.lose cut).raw.length ≤ f.raw.length := by
  show (if _ then (f.raw.take (f.kept + (f.ways cut + 1) / 2)).set _ _ else f.raw.take (f.kept + (f.ways cut + 1) / 2)).length ≤ _
  split
  · rw [List.length_set]; simp [List.length_take]; omega
  · simp [List.length_take]; omega
theorem fcrash_small {K : Nat} : ∀ {fs : List Fl} {cuts : List Int}, (∀ f ∈ fs, f.raw.length ≤ K) → (∀ f ∈ Fl.crash fs cuts, f.raw.length ≤ K) ∧ (Fl.crash fs cuts).length ≤ fs.length
  | [], _, _ => ⟨(by intro f hf; cases hf), Nat.le_refl _⟩
  | x :: r, cuts, h => by
    have ih := fcrash_small (K := K) (fs := r) (cuts := cuts.tail) fun f hf => h f (List.mem_cons_of_mem _ hf)
    unfold Fl.crash
    split
    · exact ⟨ih.1, by simp only [List.length_cons]; have := ih.2; omega⟩
    · refine ⟨fun f hf => ?_, by simp only [List.length_cons]; have := ih.2; omega⟩
      rcases List.mem_cons.1 hf with rfl | hf
      · exact Nat.le_trans (flose_len x _) (h x (by simp))
      · exact ih.1 f hf
theorem crash_small {cuts : List Int} {d : Dk} {K : Nat} (h : d.small K) : (d.crash cuts).small K :=
  ⟨(fcrash_small h.raw).1, Nat.le_trans (fcrash_small h.raw).2 h.many, Nat.zero_le _, h.ops⟩

theorem DK.raws {w : World} {bd bm : Nat} {fv : Value} {fs : List FR} {d : Dk} (h : DK w bd bm fv fs d) {K : Nat} (hs : d.small K) : (∀ f ∈ fs, f.raw.length ≤ K) ∧ fs.length ≤ K :=
  ⟨fun f hf => hs.raw f.fl (by rw [h.fls]; exact List.mem_map_of_mem hf), by have := hs.many; rwa [h.fls, List.length_map] at this⟩
theorem StepEnd.disk {w w' : World} {S : Nat → Prop} {bd bm : Nat} {fv : Value} {fs : List FR} {d' : Dk} {r e : Ending} (h : StepEnd w bd bm fv fs d' r e w') (h1 : ∀ k, foot bd bm fv fs k → S k) (h2 : ∀ k, S k → k < w.heap.size) : e = r ∧ Touch S w w' ∧ Disk w' (more S w w') bd d' := by
  obtain ⟨he, ht, fv', fs', hd, hf⟩ := h
  exact ⟨he, ht.mono fun k _ hk => h1 k hk, hd.disk (fun k hk => (hf k hk).imp (h1 k) id) h2 ht.size⟩

theorem disk_append {w : World} {S : Nat → Prop} {bd : Nat} {d : Dk} {K : Nat} (h : Disk w S bd d) (hs : d.small K) (hK : K ≤ 1000000000) {n : Int} (hn : (Lit.int .i64 n).wf = true) {A : Option Addr} {m c : Nat} {xs : List UInt8} (hx : Bs w A m c xs) (hxb : ∀ a, A = some a → 0 < m → ¬ S a.block ∧ a.block < w.heap.size) (hm : xs.length ≤ 1000000000) :
    Calls Tryz.prog 75 #[.pointer (some ⟨bd, 0, none⟩), .int .i64 n, .slice A m c] w fun e w' => e = .returned (.int .i64 (d.why n)) ∧ Touch S w w' ∧ Disk w' (more S w w') bd (d.append n xs) := by
  obtain ⟨bm, fv, fs, hd, h1, h2⟩ := h
  obtain ⟨r1, r2⟩ := hd.raws hs
  exact (append_any w bd bm fv fs d n A m c xs hd hn hx (fun a ha h0 => ⟨fun hk => (hxb a ha h0).1 (h1 _ hk), (hxb a ha h0).2⟩) (fun f hf => by have := r1 f hf; omega) (by omega) (by unfold maxLen; omega) (by have := hs.ops; omega) (by have := hs.faults; omega)).mono fun e w' q => q.disk h1 h2
theorem disk_sync {w : World} {S : Nat → Prop} {bd : Nat} {d : Dk} {K : Nat} (h : Disk w S bd d) (hs : d.small K) (hK : K ≤ 1000000000) {n : Int} (hn : (Lit.int .i64 n).wf = true) :
    Calls Tryz.prog 76 #[.pointer (some ⟨bd, 0, none⟩), .int .i64 n] w fun e w' => e = .returned (.int .i64 (d.why n)) ∧ Touch S w w' ∧ Disk w' (more S w w') bd (d.sync n) := by
  obtain ⟨bm, fv, fs, hd, h1, h2⟩ := h
  exact (sync_any w bd bm fv fs d n hd hn (by have := hs.ops; omega) (by have := hs.faults; omega)).mono fun e w' q => q.disk h1 h2
theorem disk_crash {w : World} {S : Nat → Prop} {bd : Nat} {d : Dk} {K : Nat} (h : Disk w S bd d) (hs : d.small K) (hK : K ≤ 1000000000) {A : Option Addr} {m c : Nat} {cuts : List Int} (hx : IsInts w A m c cuts) (hxw : ∀ x ∈ cuts, -9223372036854775808 ≤ x ∧ x ≤ 9223372036854775807) (hxb : ∀ a, A = some a → 0 < m → ¬ S a.block) :
    Calls Tryz.prog 14 #[.pointer (some ⟨bd, 0, none⟩), .slice A m c] w fun e w' => e = .returned (.tuple #[]) ∧ Touch S w w' ∧ Disk w' (more S w w') bd (d.crash cuts) := by
  obtain ⟨bm, fv, fs, hd, h1, h2⟩ := h
  obtain ⟨r1, r2⟩ := hd.raws hs
  exact (crash_any w bd bm fv fs d A m c cuts hd (by omega) (fun f hf => by have := r1 f hf; omega) hx hxw (fun a ha h0 hk => hxb a ha h0 (h1 _ hk))).mono fun e w' q => q.disk h1 h2
theorem disk_read {w : World} {S : Nat → Prop} {bd : Nat} {d : Dk} {K : Nat} (h : Disk w S bd d) (hs : d.small K) (hK : K ≤ 1000000000) {n : Int} (hn : (Lit.int .i64 n).wf = true) :
    Calls Tryz.prog 54 #[.pointer (some ⟨bd, 0, none⟩), .int .i64 n] w fun e w' => Fresh w w' ∧ ∃ B c, e = .returned (.slice B (d.read n).length c) ∧ Row w' (.slice B (d.read n).length c) (d.read n) ∧ ∀ a, B = some a → w.heap.size ≤ a.block := by
  obtain ⟨bm, fv, fs, hd, h1, h2⟩ := h
  obtain ⟨r1, r2⟩ := hd.raws hs
  exact read_any w bd bm fv fs d n hd hn fun f hf => by have := r1 f hf; omega
theorem disk_kept {w : World} {S : Nat → Prop} {bd : Nat} {d : Dk} (h : Disk w S bd d) {n : Int} (hn : (Lit.int .i64 n).wf = true) :
    Calls Tryz.prog 80 #[.pointer (some ⟨bd, 0, none⟩), .int .i64 n] w fun e w' => w = w' ∧ e = .returned (.int .i64 (d.kept n)) := by
  obtain ⟨bm, fv, fs, hd, h1, h2⟩ := h
  exact kept_any w bd bm fv fs d n hd hn
theorem disk_ops {w : World} {S : Nat → Prop} {bd : Nat} {d : Dk} (h : Disk w S bd d) : Calls Tryz.prog 17 #[.pointer (some ⟨bd, 0, none⟩)] w fun e w' => w = w' ∧ e = .returned (.int .i64 d.ops) := by
  obtain ⟨bm, fv, fs, hd, h1, h2⟩ := h
  exact ops_any w bd bm fv fs d hd
end Go.Proofs.YtlcmnihpfpmajaaGreat

/- The disk's calls that a log uses, laid together: NewDisk, Files, Delete, Fail, Stop; keep.Within. Conditions stand with each. -/
namespace Go.Proofs.YtlcmnihpfpmajaaGreat
open Go.RowKit


theorem bytes_new (w : World) (xs : List UInt8) (cs : Array Value) (hcs : cs.toList = u8s xs) (hl : xs.length ≤ 1000) : Bs (w.alloc (.cells cs 5)) (some ⟨w.heap.size, 0, none⟩) xs.length xs.length xs := Row.bs (Row.lit xs cs hcs hl)
theorem bytes_marked (w : World) (xs : List UInt8) (cs : Array Value) (fr : Nat × Nat) (hcs : cs = (u8s xs).toArray) (hl : xs.length ≤ 1000) : Bs (w.alloc (.cells cs 5 fr)) (some ⟨w.heap.size, 0, none⟩) xs.length xs.length xs := by
  refine ⟨rfl, Nat.le_refl _, by unfold maxLen; omega, fun _ => ⟨w.heap.size, 0, rfl, fun j x hx => ?_⟩⟩
  have hh : (w.alloc (.cells cs 5 fr)).heap[w.heap.size]? = some (.cells cs 5 fr) := heap_alloc_new w _
  rw [cell_of_row _ _ _ _ _ _ hh, hcs, List.getElem?_toArray, Nat.zero_add, u8s_get, hx]
  rfl
theorem ints_new (w : World) (x : Int) : IsInts (w.alloc (.cells #[.int .i64 x] 3)) (some ⟨w.heap.size, 0, none⟩) 1 1 [x] :=
  ⟨rfl, Nat.le_refl _, by simp [maxLen], fun _ => ⟨w.heap.size, 0, rfl, fun j y hy => by
    cases j with
    | zero => simp at hy; subst hy; exact (Blk.new w 3 #[.int .i64 x]).cell 0
    | succ j => simp at hy⟩⟩
/-- a disk that the call has made since w0 -/
structure Mine (w0 w : World) (bd : Nat) (d : Dk) (S : Nat → Prop) : Prop where
  disk : Disk w S bd d
  new : ∀ k, S k → w0.heap.size ≤ k
  fresh : Fresh w0 w
theorem Mine.lt {w0 w : World} {bd : Nat} {d : Dk} {S : Nat → Prop} (h : Mine w0 w bd d S) : ∀ k, S k → k < w.heap.size := by
  obtain ⟨bm, fv, fs, h1, h2, h3⟩ := h.disk
  exact h3
theorem Mine.next {w0 w w' : World} {bd : Nat} {d d' : Dk} {S : Nat → Prop} (h : Mine w0 w bd d S) (ht : Touch S w w') (hd : Disk w' (more S w w') bd d') : Mine w0 w' bd d' (more S w w') :=
  ⟨hd, fun k hk => hk.elim (h.new k) fun e => Nat.le_trans h.fresh.size e.1, h.fresh.trans ht fun i hi hs => by have := h.new i hs; omega⟩
theorem Mine.free {w0 w w' : World} {bd : Nat} {d : Dk} {S : Nat → Prop} (h : Mine w0 w bd d S) (hf : Fresh w w') : Mine w0 w' bd d S :=
  ⟨h.disk.fresh hf, h.new, h.fresh.trans hf fun _ _ h => h⟩
theorem newDisk_mine (w : World) : Calls Tryz.prog 33 #[] w fun e w' => ∃ bd S, e = .returned (.pointer (some ⟨bd, 0, none⟩)) ∧ Mine w w' bd Dk.new S :=
  (newDisk_any w).mono fun _ _ ⟨hf, bd, he, hd⟩ => ⟨bd, _, he, hd, fun _ hk => hk.1, hf⟩


theorem emod_tmod (i m : Int) (h0 : 0 < m) : i % m = if i.tmod m < 0 then i.tmod m + m else i.tmod m := by
  have h1 := Int.tmod_eq_emod (a := i) (b := m)
  have h2 := Int.emod_nonneg i (show m ≠ 0 by omega)
  have h3 := Int.emod_lt_of_pos i h0
  by_cases h : 0 ≤ i ∨ m ∣ i
  · rw [if_pos h] at h1
    rw [if_neg (by omega)]
    omega
  · rw [if_neg h] at h1
    rw [if_pos (by omega)]
    omega
set_option maxRecDepth 20000 in
set_option maxHeartbeats 1000000 in
theorem within_any (i m : Int) (w : World) (h0 : 0 < m) (h1 : m ≤ 1000) :
    Calls Tryz.prog 26 #[.int .i64 i, .int .i64 m] w fun e w' => w = w' ∧ e = .returned (.int .i64 (i % m)) := by
  have hz : m ≠ 0 := by omega
  have hlt : i.tmod m < m := Int.tmod_lt_of_pos i h0
  have hgt : -m < i.tmod m := by
    have := Int.tmod_lt_of_pos (-i) h0
    rw [Int.neg_tmod] at this
    omega
  have hwr : IntKind.i64.wrap (i.tmod m) = i.tmod m := IntWalk.i64_in _ (by omega)
  have hem := emod_tmod i m h0
  have HEM := Lib.hid hem
  clear hem
  by_cases hn : i.tmod m < 0
  · have hwa : IntKind.i64.wrap (i.tmod m + m) = i.tmod m + m := IntWalk.i64_in _ (by omega)
    go_enter Tryz.func26, Tryz.ntmps26
    go_wp2_with fail
    go_ret
    have h2 := HEM.out
    rw [if_pos hn] at h2
    rw [h2]
    exact ⟨rfl, rfl⟩
  · go_enter Tryz.func26, Tryz.ntmps26
    go_wp2_with fail
    go_ret
    have h2 := HEM.out
    rw [if_neg (by omega)] at h2
    rw [h2]
    exact ⟨rfl, rfl⟩

set_option maxRecDepth 20000 in
set_option maxHeartbeats 1000000 in
theorem stop_any (w : World) (bd bm : Nat) (fv : Value) (fs : List FR) (d : Dk) (after : Int) (h : DK w bd bm fv fs d) (ho : d.ops ≤ 4611686018427387904) (ha : after ≤ 9223372036854775807) :
    Calls Tryz.prog 37 #[.pointer (some ⟨bd, 0, none⟩), .int .i64 after] w (StepEnd w bd bm fv fs (d.halt after) (.returned (.tuple #[]))) := by
  have HL := Lib.hid (later_any w bd bm fv fs d after h (by omega) ha)
  have hd : d.halt after = { d with stopped := decide (d.later after ≠ -1), stop := d.later after } := rfl
  have HD := Lib.hid hd
  have k3 : w.cell? ⟨bd, 3, none⟩ = some (.bool d.stopped) := h.blk.cell 3
  have q3 := h.blk.frozen 3
  have q4 := h.blk.frozen 4
  have k4 : ∀ v, (w.setCell ⟨bd, 3, none⟩ v).cell? ⟨bd, 4, none⟩ = some (.int .i64 d.stop) := fun v => (h.blk.set_ 3 v).cell 4
  have H := Lib.hid h
  clear h hd
  go_enter Tryz.func37, Tryz.ntmps37
  go_wp2_with fail
  refine HL.out.mono ?_
  rintro e w1 ⟨rfl, rfl⟩
  clear HL
  have hfin : ∀ b : Bool, b = decide (d.later after ≠ -1) → StepEnd w bd bm fv fs (d.halt after) (.returned (.tuple #[])) (.returned (.tuple #[])) ((w.setCell ⟨bd, 3, none⟩ (.bool b)).setCell ⟨bd, 4, none⟩ (.int .i64 (d.later after))) := by
    rintro b rfl
    have hT : Touch (fun k => k = bd ∨ fv.ownBlock = some k) w ((w.setCell ⟨bd, 3, none⟩ (.bool (decide (d.later after ≠ -1)))).setCell ⟨bd, 4, none⟩ (.int .i64 (d.later after))) :=
      ((Touch.refl (fun k => k = bd ∨ fv.ownBlock = some k) w).setCell (p := ⟨bd, 3, none⟩) (.inr (.inl rfl)) _).setCell (p := ⟨bd, 4, none⟩) (.inr (.inl rfl)) _
    obtain ⟨r1, r2⟩ := H.out.rest hT
    have hne : fv.ownBlock ≠ some bd := H.out.flt.ne_blk H.out.blk (by decide)
    exact ⟨rfl, hT.mono fun k _ hk => hk.elim .inl fun e => .inr (.inr (.inl e)), fv, fs, ⟨H.out.fls, (H.out.blk.set_ 3 _).set_ 4 _, r1, (H.out.flt.far (p := ⟨bd, 3, none⟩) hne _).far (p := ⟨bd, 4, none⟩) hne _, r2, H.out.apart⟩, fun k hk => .inl hk⟩
  have FIN := Lib.hid hfin
  clear hfin
  generalize hl : d.later after = l at *
  by_cases hm : l = -1
  · have hb : (l != -1) = false := by simp [hm]
    have hm' := Lib.hid hm
    clear hm hl
    go_wp2_with fail
    go_end0
    exact FIN.out false (by simp [hm'.out])
  · have hb : (l != -1) = true := by simpa using hm
    have hm' := Lib.hid hm
    clear hm hl
    go_wp2_with fail
    go_end0
    exact FIN.out true (by simpa using hm'.out)
theorem disk_stop {w : World} {S : Nat → Prop} {bd : Nat} {d : Dk} {K : Nat} (h : Disk w S bd d) (hs : d.small K) (hK : K ≤ 1000000000) {after : Int} (ha : after ≤ 9223372036854775807) :
    Calls Tryz.prog 37 #[.pointer (some ⟨bd, 0, none⟩), .int .i64 after] w fun e w' => e = .returned (.tuple #[]) ∧ Touch S w w' ∧ Disk w' (more S w w') bd (d.halt after) := by
  obtain ⟨bm, fv, fs, hd, h1, h2⟩ := h
  exact (stop_any w bd bm fv fs d after hd (by have := hs.ops; omega) ha).mono fun e w' q => q.disk h1 h2
theorem halt_small {after : Int} {d : Dk} {K : Nat} (h : d.small K) : (d.halt after).small K := ⟨h.raw, h.many, h.faults, h.ops⟩

theorem Tryz.info105 : (Tryz.prog.info? 105).map (fun i => (i.zero, i.size, i.bytes)) = some (some (.agg #[.int .i64 0, .int .i64 0]), 2, 16) := by kernel_rfl
theorem fltCells_snoc (l : List (Int × Int)) (f : Int × Int) : fltCells (l ++ [f]) = fltCells l ++ [.int .i64 f.1, .int .i64 f.2] := by simp [fltCells]
theorem flt_new (w : World) (a k : Int) : Src Tryz.prog 2 79 (.slice (some ⟨w.heap.size, 0, none⟩) 1 1) 1 [.int .i64 a, .int .i64 k] (w.drew.alloc (.cells #[.int .i64 a, .int .i64 k] 105)) := by
  refine Src.ofSlice _ Tryz.underlying79 _ _ _ _ rfl (fun j u hu => ?_) (by intro u hu; simp at hu; rcases hu with rfl | rfl <;> rfl)
  have hb := Blk.new w.drew 105 #[.int .i64 a, .int .i64 k]
  rw [add_flat, Nat.zero_add]
  have := hb.cell j
  rw [show w.drew.heap.size = w.heap.size from rfl] at this
  rw [this, ← hu]
  simp
set_option maxRecDepth 20000 in
set_option maxHeartbeats 4000000 in
theorem fail_any (w : World) (bd bm : Nat) (fv : Value) (fs : List FR) (d : Dk) (after kind : Int) (h : DK w bd bm fv fs d) (ho : d.ops ≤ 4611686018427387904) (ha : after ≤ 9223372036854775807) (hl : d.faults.length ≤ 1000000000) :
    Calls Tryz.prog 36 #[.pointer (some ⟨bd, 0, none⟩), .int .i64 after, .int .i64 kind] w (StepEnd w bd bm fv fs (d.fail after kind) (.returned (.tuple #[]))) := by
  have HL := Lib.hid (later_any w.drew bd bm fv fs d after (h.touch ((Touch.refl (fun _ => False) w).drew) fun _ _ => id) (by omega) ha)
  obtain ⟨A, c, rfl, hle, hcm, hA⟩ := h.flt.form
  have k2 : w.cell? ⟨bd, 2, none⟩ = some (.slice A d.faults.length c) := h.blk.cell 2
  have k2a : ∀ o, (w.alloc o).cell? ⟨bd, 2, none⟩ = some (.slice A d.faults.length c) := fun o => (h.blk.alloc o).cell 2
  have H := Lib.hid h
  unfold maxLen at hcm
  have hafter : ∀ w1 : World, ((w.drew).alloc (.cells #[.int .i64 (d.later after), .int .i64 kind] 105)).grownBy w1 (Value.slice A d.faults.length c).ownBlock → w1.cell? ⟨bd, 2, none⟩ = some (.slice A d.faults.length c) ∧ w1.frozen? ⟨bd, 2, none⟩ = false := fun w1 hg => by
    have hd1 := (h.blk.drew.alloc (.cells #[.int .i64 (d.later after), .int .i64 kind] 105)).grown hg (fun e => h.flt.ne_blk h.blk (by decide) e.symm)
    exact ⟨hd1.cell 2, hd1.frozen 2⟩
  have HAFTER := Lib.hid hafter
  clear h hafter
  go_enter Tryz.func36, Tryz.ntmps36
  go_wp2_with fail
  go_region_law ((first
    | (refine step_own_src _ rfl _ _ 79 79 rfl 105 (.agg #[.int .i64 0, .int .i64 0]) 2 16 Tryz.info105 Tryz.underlying79 rfl (.slice A d.faults.length c) d.faults.length (fltCells d.faults) rfl (by exact (H.out.flt.drew).alloc _) (fltCells_one _) (.slice (some ⟨w.heap.size, 0, none⟩) 1 1) 1 [.int .i64 (d.later after), .int .i64 kind] rfl (by exact flt_new w (d.later after) kind) (by unfold maxLen; omega) (by omega) ?_; intro B1 c1 w1 o1 g1 b1; obtain ⟨r1, r2⟩ := HAFTER.out w1 g1)
    | (go_simp; go_at_call 58; refine HL.out.mono ?_; rintro e w' ⟨rfl, rfl⟩)))
  all_goals
    clear r1 r2
    have hne : (Value.slice A d.faults.length c).ownBlock ≠ some bd := H.out.flt.ne_blk H.out.blk (by decide)
    have hT1 : Touch (fun k => k = bd ∨ (Value.slice A d.faults.length c).ownBlock = some k) w w1 := (((Touch.refl _ w).drew).alloc _).grown g1 fun k hk => .inr (.inr hk)
    have hB1 := (H.out.blk.drew.alloc (.cells #[.int .i64 (d.later after), .int .i64 kind] 105)).grown g1 fun e => hne e.symm
    have hT2 := hT1.setCell (p := ⟨bd, 2, none⟩) (.inr (.inl rfl)) (.slice B1 (d.faults.length + 1) c1)
    obtain ⟨r1, r2⟩ := H.out.rest hT2
    have hfl : (d.fail after kind).faults.length = d.faults.length + 1 := by show (d.faults ++ [_]).length = _; rw [List.length_append]; rfl
    have hfc : fltCells (d.fail after kind).faults = fltCells d.faults ++ [.int .i64 (d.later after), .int .i64 kind] := fltCells_snoc _ _
    have hR : StepEnd w bd bm (.slice A d.faults.length c) fs (d.fail after kind) (.returned (.tuple #[])) (.returned (.tuple #[])) (w1.setCell ⟨bd, 2, none⟩ (.slice B1 (d.faults.length + 1) c1)) := by
      refine ⟨rfl, hT2.mono fun k _ hk => hk.elim .inl fun e => .inr (.inr (.inl e)), .slice B1 (d.faults.length + 1) c1, fs, ⟨H.out.fls, hB1.set_ 2 _, r1, ?_, r2, H.out.apart⟩, ?_⟩
      · rw [hfl, hfc]
        exact o1.far (p := ⟨bd, 2, none⟩) (o1.ne_blk hB1 (by decide)) _
      · rintro k (e | e | e | e)
        · exact .inl (.inl e)
        · exact .inl (.inr (.inl e))
        · rcases b1 with h | h
          · exact .inl (.inr (.inr (.inl (h.symm.trans e))))
          · rw [e] at h
            injection h with h
            refine .inr ?_
            rw [h]
            show w.heap.size ≤ (w.alloc (.cells #[.int .i64 (d.later after), .int .i64 kind] 105)).heap.size
            rw [alloc_size]
            exact Nat.le_succ _
        · exact .inl (.inr (.inr (.inr e)))
    have R := Lib.hid hR
    clear hT1 hB1 hT2 r1 r2 hfl hfc hR o1 g1 b1 hne
    go_wp2_with fail
    go_end0
    exact R.out
theorem disk_fail {w : World} {S : Nat → Prop} {bd : Nat} {d : Dk} {K : Nat} (h : Disk w S bd d) (hs : d.small K) (hK : K ≤ 1000000000) {after : Int} (kind : Int) (ha : after ≤ 9223372036854775807) :
    Calls Tryz.prog 36 #[.pointer (some ⟨bd, 0, none⟩), .int .i64 after, .int .i64 kind] w fun e w' => e = .returned (.tuple #[]) ∧ Touch S w w' ∧ Disk w' (more S w w') bd (d.fail after kind) := by
  obtain ⟨bm, fv, fs, hd, h1, h2⟩ := h
  exact (fail_any w bd bm fv fs d after kind hd (by have := hs.ops; omega) ha (by have := hs.faults; omega)).mono fun e w' q => q.disk h1 h2
theorem fail_small {after kind : Int} {d : Dk} {K : Nat} (h : d.small K) : (d.fail after kind).small (K + 1) :=
  ⟨fun f hf => Nat.le_succ_of_le (h.raw f hf), Nat.le_succ_of_le h.many, by show (d.faults ++ [_]).length ≤ _; rw [List.length_append]; exact Nat.succ_le_succ h.faults, Nat.le_succ_of_le h.ops⟩

theorem Tryz.info3 : (Tryz.prog.info? 3).map (fun i => (i.zero, i.size, i.bytes)) = some (some (.int .i64 0), 1, 8) := by kernel_rfl
def intsV (l : List Int) : List Value := l.map fun x => .int .i64 x
theorem intsV_one (l : List Int) : ∀ u ∈ intsV l, u.oneCell' = true := by
  intro u hu
  obtain ⟨x, _, rfl⟩ := List.mem_map.1 hu
  rfl
theorem intsV_length (l : List Int) : (intsV l).length = l.length := by simp [intsV]
theorem intsV_get (l : List Int) (j : Nat) : (intsV l)[j]? = (l[j]?).map fun x => .int .i64 x := by simp [intsV]
theorem int_new (w : World) (a : Int) : Src Tryz.prog 1 27 (.slice (some ⟨w.heap.size, 0, none⟩) 1 1) 1 [.int .i64 a] (w.alloc (.cells #[.int .i64 a] 3)) := by
  refine Src.ofSlice _ Tryz.underlying27 _ _ _ _ rfl (fun j u hu => ?_) (by intro u hu; simp at hu; subst hu; rfl)
  have hb := Blk.new w 3 #[.int .i64 a]
  rw [add_flat, Nat.zero_add, hb.cell j, ← hu]
  simp
/-- ints of a call's own, as ints that can be read -/
theorem Own.ints {w : World} {A : Option Addr} {n c : Nat} {l : List Int} (h : Own w 3 1 (.slice A n c) n (intsV l)) : IsInts w A n c l := by
  obtain ⟨A', c', hv, hle, hm, hA⟩ := h.form
  injection hv with e1 _ e3
  subst e1 e3
  have hl : l.length = n := by have := h.1; rw [intsV_length] at this; omega
  refine ⟨hl, hle, hm, fun h0 => ?_⟩
  rcases hA with ⟨_, h2, _⟩ | ⟨g, rfl⟩
  · omega
  · refine ⟨g, 0, rfl, fun j x hx => ?_⟩
    have hj : j < n := by have := (List.getElem?_eq_some_iff.1 hx).1; omega
    have := h.cell (j := j) (by omega)
    rw [Nat.zero_add, this, intsV_get, hx]
    rfl

set_option maxRecDepth 20000 in

theorem fl_filter (fs : List FR) (n : Int) : (fs.map FR.fl).filter (fun f => decide (f.n ≠ n)) = (fs.filter fun f => decide (f.n ≠ n)).map FR.fl := by
  rw [List.filter_map]
  rfl
theorem ent_filter (fs : List FR) (n : Int) : (fs.map fun f => (f.n, f.g)).filter (fun p => decide (p.1 ≠ n)) = (fs.filter fun f => decide (f.n ≠ n)).map fun f => (f.n, f.g) := by
  rw [List.filter_map]
  rfl
theorem del_fin {w w1 w3 : World} {bd bm : Nat} {fv fv1 : Value} {fs : List FR} {d : Dk} {n : Int} (hd : DK w1 bd bm fv1 fs d.next) (ht : Touch (foot bd bm fv fs) w w1) (hf : ∀ k, foot bd bm fv1 fs k → foot bd bm fv fs k) (hw : d.why n = 0) (him : IMap w3 bm ((fs.map fun f => (f.n, f.g)).filter fun p => decide (p.1 ≠ n))) (ht3 : Touch (fun k => k = bm) w1 w3) (res : Ending) :
    StepEnd w bd bm fv fs (d.delete n) res res w3 := by
  have hsub : ∀ f ∈ fs.filter (fun f => decide (f.n ≠ n)), f ∈ fs := fun f hf => (List.mem_filter.1 hf).1
  have hdd : d.delete n = { d.next with fs := d.fs.filter fun f => decide (f.n ≠ n) } := by unfold Dk.delete; rw [if_pos hw]
  have hT : Touch (foot bd bm fv fs) w w3 := ht.trans ht3 fun k _ e => by subst e; exact .inr (.inl rfl)
  have hne : ∀ f ∈ fs, f.g ≠ bm ∧ f.v.ownBlock ≠ some bm := fun f hf => ⟨fun e => hd.map.ne_blk (hd.file f hf).blk e.symm, fun e => hd.map.ne_own (hd.file f hf).row e⟩
  refine ⟨rfl, hT, fv1, fs.filter fun f => decide (f.n ≠ n), ⟨?_, ?_, ?_, ?_, ?_, ?_⟩, ?_⟩
  · rw [hdd]
    show d.fs.filter _ = _
    rw [show d.fs = fs.map FR.fl from hd.fls]
    exact fl_filter fs n
  · rw [hdd]
    exact hd.blk.touch ht3 fun e => hd.map.ne_blk hd.blk e.symm
  · rw [← ent_filter]
    exact him
  · rw [hdd]
    exact hd.flt.touch ht3 fun k hk e => hd.map.ne_own hd.flt (by rw [hk, e])
  · intro f hf'
    have hm := hsub f hf'
    exact (hd.file f hm).heap (ht3.block _ (hd.file f hm).blk.lt (hne f hm).1) fun k hk => ht3.block _ (Own.lt (hd.file f hm).row k hk) fun e => (hne f hm).2 (by rw [hk, e])
  · exact hd.apart.filter _
  · rintro k (e | e | e | ⟨f, hf', e⟩)
    · exact .inl (.inl e)
    · exact .inl (.inr (.inl e))
    · exact .inl (hf k (.inr (.inr (.inl e))))
    · exact .inl (.inr (.inr (.inr ⟨f, hsub f hf', e⟩)))

set_option maxRecDepth 20000 in
set_option maxHeartbeats 4000000 in
theorem delete_any (w : World) (bd bm : Nat) (fv : Value) (fs : List FR) (d : Dk) (n : Int) (h : DK w bd bm fv fs d) (hn : (Lit.int .i64 n).wf = true) (ho : d.ops ≤ 4611686018427387904) (hl : d.faults.length ≤ 4611686018427387904) :
    Calls Tryz.prog 63 #[.pointer (some ⟨bd, 0, none⟩), .int .i64 n] w (StepEnd w bd bm fv fs (d.delete n) (.returned (.int .i64 (d.why n)))) := by
  have HB := Lib.hid (begin_any w bd bm fv fs d n h ho hl)
  clear h
  go_enter Tryz.func63, Tryz.ntmps63
  go_wp2_with fail
  refine HB.out.mono ?_
  rintro e w1 ⟨he, ht1, fv1, hdk1, hown1⟩
  have hty : Touch (foot bd bm fv fs) w w1 := ht1.mono fun k _ hk => hk.elim .inl fun e => .inr (.inr (.inl e))
  have hfoot := foot_begin (bd := bd) (bm := bm) (fs := fs) hown1
  have hc0 : w1.cell? ⟨bd, 0, none⟩ = some (.map (some bm)) := hdk1.blk.cell 0
  subst he
  by_cases hw : d.why n = 0
  · obtain ⟨w3, hdel, him3, ht3⟩ := hdk1.map.del_all hn
    have HF := Lib.hid (del_fin hdk1 hty (fun k hk => hfoot k hk) hw him3 ht3 (.returned (.int .i64 0)))
    have HW := Lib.hid hw
    rw [hw]
    clear hdk1 hty hfoot ht1 hown1 HB hw him3 ht3
    go_wp2_with fail
    go_ret
    rw [HW.out]
    exact HF.out
  · have HF := Lib.hid (show StepEnd w bd bm fv fs (d.delete n) (.returned (.int .i64 (d.why n))) (.returned (.int .i64 (d.why n))) w1 from ⟨rfl, hty, fv1, fs, by unfold Dk.delete; rw [if_neg hw]; exact hdk1, fun k hk => .inl (hfoot k hk)⟩)
    generalize d.why n = y at *
    have hy : (y == 0) = false := by simpa using hw
    clear hdk1 hty hfoot ht1 hown1 HB
    go_wp2_with fail
    go_ret
    exact HF.out
theorem disk_delete {w : World} {S : Nat → Prop} {bd : Nat} {d : Dk} {K : Nat} (h : Disk w S bd d) (hs : d.small K) (hK : K ≤ 1000000000) {n : Int} (hn : (Lit.int .i64 n).wf = true) :
    Calls Tryz.prog 63 #[.pointer (some ⟨bd, 0, none⟩), .int .i64 n] w fun e w' => e = .returned (.int .i64 (d.why n)) ∧ Touch S w w' ∧ Disk w' (more S w w') bd (d.delete n) := by
  obtain ⟨bm, fv, fs, hd, h1, h2⟩ := h
  exact (delete_any w bd bm fv fs d n hd hn (by have := hs.ops; omega) (by have := hs.faults; omega)).mono fun e w' q => q.disk h1 h2
theorem disk_files {w : World} {S : Nat → Prop} {bd : Nat} {d : Dk} {K : Nat} (h : Disk w S bd d) (hs : d.small K) (hK : K ≤ 1000000000) :
    Calls Tryz.prog 38 #[.pointer (some ⟨bd, 0, none⟩)] w fun e w' => Fresh w w' ∧ ∃ B c, e = .returned (.slice B d.fs.length c) ∧ Own w' 3 1 (.slice B d.fs.length c) d.fs.length (intsV (d.fs.map Fl.n)) ∧ ∀ k, (Value.slice B d.fs.length c).ownBlock = some k → w.heap.size ≤ k := by
  obtain ⟨bm, fv, fs, hd, h1, h2⟩ := h
  obtain ⟨r1, r2⟩ := hd.raws hs
  have hl : d.fs.length = fs.length := by rw [hd.fls, List.length_map]
  have hm : d.fs.map Fl.n = fs.map FR.n := by rw [hd.fls, List.map_map]; rfl
  refine (files_any w bd bm fv fs d hd (by omega)).mono ?_
  rintro e w' ⟨v, rfl, hv, hf⟩
  rw [hl, hm]
  have ho := Own.ofRow hv
  obtain ⟨B, c, rfl, _, _, _⟩ := ho.form
  exact ⟨hf, B, c, rfl, ho, fun k hk => (World.ownsRow.lt hv k hk).1⟩
theorem delete_small {n : Int} {d : Dk} {K : Nat} (h : d.small K) : (d.delete n).small (K + 1) := by
  unfold Dk.delete
  split
  · have h1 := next_small h
    exact ⟨fun f hf => h1.raw f (List.mem_filter.1 hf).1, Nat.le_trans (List.length_filter_le _ _) h1.many, h1.faults, h1.ops⟩
  · exact next_small h
end Go.Proofs.YtlcmnihpfpmajaaGreat
