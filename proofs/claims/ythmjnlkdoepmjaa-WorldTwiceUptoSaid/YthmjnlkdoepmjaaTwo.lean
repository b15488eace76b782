/- The program's disk and the document's side by side: they tell the same. Conditions stand with each. -/
import Derived.Test.YthmjnlkdoepmjaaRdel
import Derived.Test.YthmjnlkdoepmjaaRcrash
import Derived.Test.YthmjnlkdoepmjaaDel
namespace Go.Proofs.Ythmjnlkdoepmjaa
open Go.RowKit

theorem next_nums' {r : Rk} (h : r.nums) : r.next.nums := next_nums h
theorem append_nums {r : Rk} (h : r.nums) (n : Int) (b : List UInt8) : (r.append n b).nums := by
  have h1 := next_nums h
  unfold Rk.append
  split
  · exact ⟨h1.flt, h1.lo, h1.hi⟩
  · split
    · exact ⟨h1.flt, h1.lo, h1.hi⟩
    · exact h1
theorem sync_nums {r : Rk} (h : r.nums) (n : Int) : (r.sync n).nums := by
  have h1 := next_nums h
  unfold Rk.sync
  split
  · exact ⟨h1.flt, h1.lo, h1.hi⟩
  · exact h1
theorem delete_nums {r : Rk} (h : r.nums) (n : Int) : (r.delete n).nums := by
  have h1 := next_nums h
  unfold Rk.delete
  split
  · exact ⟨h1.flt, h1.lo, h1.hi⟩
  · exact h1
theorem crash_nums (r : Rk) (cuts : List Int) : (r.crash cuts).nums := ⟨(by intro f hf; cases hf), (by show (-1 : Int) ≤ -1; decide), (by show (-1 : Int) ≤ 9223372036854775807; decide)⟩
theorem fail_nums {r : Rk} (h : r.nums) {after : Int} (kind : Int) (ha : after ≤ 9223372036854775807) : (r.fail after kind).nums := by
  refine ⟨fun f hf => ?_, h.lo, h.hi⟩
  rcases List.mem_append.1 (show f ∈ r.faults ++ [(max after 0, kind)] from hf) with h1 | h1
  · exact h.flt f h1
  · obtain rfl := List.mem_singleton.1 h1
    dsimp only
    omega
theorem halt_nums {r : Rk} (h : r.nums) {after : Int} (ha : after ≤ 9223372036854775807) : (r.halt after).nums := ⟨h.flt, (by show -1 ≤ max after 0; omega), (by show max after 0 ≤ 9223372036854775807; omega)⟩

/-- Both disks in memory, apart from each other, at or behind block B; they tell the same. -/
structure Two (B : Nat) (w : World) (S T : Nat → Prop) (bd br : Nat) (d : Dk) (r : Rk) (K : Nat) : Prop where
  disk : Disk w S bd d
  ref : RDisk w T br r
  sim : Sim d r
  small : d.small K
  nums : r.nums
  apart : ∀ k, S k → ¬ T k
  lo : ∀ k, S k ∨ T k → B ≤ k
section
variable {B : Nat} {w w' w1 w2 : World} {S T : Nat → Prop} {bd br : Nat} {d d' : Dk} {r r' : Rk} {K K' : Nat}
theorem Disk.below (h : Disk w S bd d) : ∀ k, S k → k < w.heap.size := by obtain ⟨_, _, _, _, _, h⟩ := h; exact h
theorem RDisk.below (h : RDisk w S bd r) : ∀ k, S k → k < w.heap.size := by obtain ⟨_, _, _, _, _, h⟩ := h; exact h
theorem Disk.good (h : Disk w S bd d) : (∀ f ∈ d.fs, f.kept ≤ f.raw.length ∧ f.raw ≠ [] ∧ (Lit.int .i64 f.n).wf = true) ∧ d.fs.Pairwise fun a b => a.n < b.n := by
  obtain ⟨bm, fv, fs, hd, _, _⟩ := h
  rw [hd.fls]
  refine ⟨fun f hf => ?_, List.pairwise_map.2 (hd.apart.imp fun h => h.1)⟩
  obtain ⟨g, hg, rfl⟩ := List.mem_map.1 hf
  exact ⟨(hd.file g hg).le, (hd.file g hg).some_, (hd.file g hg).key⟩
theorem Two.fit (h : Two B w S T bd br d r K) : r.fit K := by
  obtain ⟨g1, g2⟩ := h.disk.good
  have hf := h.sim.fs
  refine ⟨fun f hf' => h.small.raw f (hf ▸ hf'), hf ▸ h.small.many, ?_, h.sim.ops ▸ h.small.ops, hf ▸ g2, fun f hf' => (g1 f (hf ▸ hf')).1, h.nums⟩
  have := congrArg List.length h.sim.flt
  rw [List.length_map] at this
  rw [← this]
  exact h.small.faults
theorem Two.fresh (h : Two B w S T bd br d r K) (ht : Fresh w w') : Two B w' S T bd br d r K := ⟨h.disk.fresh ht, h.ref.fresh ht, h.sim, h.small, h.nums, h.apart, h.lo⟩
theorem Two.touch {R : Nat → Prop} (h : Two B w S T bd br d r K) (ht : Touch R w w') (hn : ∀ k, S k ∨ T k → ¬ R k) : Two B w' S T bd br d r K := ⟨h.disk.touch ht fun k hk => hn k (.inl hk), h.ref.touch ht fun k hk => hn k (.inr hk), h.sim, h.small, h.nums, h.apart, h.lo⟩
theorem Two.grow (h : Two B w S T bd br d r K) (hk : K ≤ K') : Two B w S T bd br d r K' := ⟨h.disk, h.ref, h.sim, h.small.mono hk, h.nums, h.apart, h.lo⟩
/-- one call on each -/
theorem Two.both (h : Two B w S T bd br d r K) (hB : B ≤ w.heap.size) (t1 : Touch S w w1) (hd : Disk w1 (more S w w1) bd d') (t2 : Touch T w1 w2) (hr : RDisk w2 (more T w1 w2) br r') (hs : Sim d' r') (hk : d'.small K') (hn : r'.nums) :
    Two B w2 (more S w w1) (more T w1 w2) bd br d' r' K' := by
  have h1 := h.disk.below
  have h2 := h.ref.below
  refine ⟨hd.touch t2 ?_, hr, hs, hk, hn, ?_, ?_⟩
  · rintro k (e | e) h3
    · exact h.apart k e h3
    · have := h2 k h3; omega
  · rintro k (e | e) (h3 | h3)
    · exact h.apart k e h3
    · have := h1 k e; have := t1.size; omega
    · have := h2 k h3; omega
    · omega
  · rintro k ((e | e) | (e | e))
    · exact h.lo k (.inl e)
    · omega
    · exact h.lo k (.inr e)
    · have := t1.size; omega
/-- the document's disk behind a call on the program's -/
theorem Two.ref1 (h : Two B w S T bd br d r K) (t1 : Touch S w w1) : RDisk w1 T br r := h.ref.touch t1 fun k h1 h2 => h.apart k h2 h1
end

theorem rdisk_append {w : World} {S : Nat → Prop} {bd : Nat} {r : Rk} {K : Nat} (h : RDisk w S bd r) (hs : r.fit K) (hK : K ≤ 1000000000) (n : Int) {A : Option Addr} {m c : Nat} {xs : List UInt8} (hx : Bs w A m c xs) (hxb : ∀ a, A = some a → 0 < m → ¬ S a.block ∧ a.block < w.heap.size) (hm : xs.length ≤ 1000000000) :
    Calls Try.prog 55 #[.pointer (some ⟨bd, 0, none⟩), .int .i64 n, .slice A m c] w fun e w' => e = .returned (.int .i64 (r.why n)) ∧ Touch S w w' ∧ RDisk w' (more S w w') bd (r.append n xs) := by
  obtain ⟨lv, fv, fs, hd, h1, h2⟩ := h
  exact (rappend_any w bd lv fv fs r n A m c xs hd hs hK hx (fun a ha h0 => ⟨fun hk => (hxb a ha h0).1 (h1 _ hk), (hxb a ha h0).2⟩) hm).mono fun e w' q => q.disk h1 h2
theorem rdisk_sync {w : World} {S : Nat → Prop} {bd : Nat} {r : Rk} {K : Nat} (h : RDisk w S bd r) (hs : r.fit K) (hK : K ≤ 1000000000) (n : Int) :
    Calls Try.prog 56 #[.pointer (some ⟨bd, 0, none⟩), .int .i64 n] w fun e w' => e = .returned (.int .i64 (r.why n)) ∧ Touch S w w' ∧ RDisk w' (more S w w') bd (r.sync n) := by
  obtain ⟨lv, fv, fs, hd, h1, h2⟩ := h
  exact (rsync_any w bd lv fv fs r n hd hs hK).mono fun e w' q => q.disk h1 h2
theorem rdisk_delete {w : World} {S : Nat → Prop} {bd : Nat} {r : Rk} {K : Nat} (h : RDisk w S bd r) (hs : r.fit K) (hK : K ≤ 1000000000) (n : Int) :
    Calls Try.prog 58 #[.pointer (some ⟨bd, 0, none⟩), .int .i64 n] w fun e w' => e = .returned (.int .i64 (r.why n)) ∧ Touch S w w' ∧ RDisk w' (more S w w') bd (r.delete n) := by
  obtain ⟨lv, fv, fs, hd, h1, h2⟩ := h
  exact (rdelete_any w bd lv fv fs r n hd hs hK).mono fun e w' q => q.disk h1 h2
theorem rdisk_fail {w : World} {S : Nat → Prop} {bd : Nat} {r : Rk} {K : Nat} (h : RDisk w S bd r) (hs : r.fit K) (hK : K ≤ 1000000000) (after kind : Int) :
    Calls Try.prog 59 #[.pointer (some ⟨bd, 0, none⟩), .int .i64 after, .int .i64 kind] w fun e w' => e = .returned (.tuple #[]) ∧ Touch S w w' ∧ RDisk w' (more S w w') bd (r.fail after kind) := by
  obtain ⟨lv, fv, fs, hd, h1, h2⟩ := h
  exact (rfail_any w bd lv fv fs r after kind hd (by have := hs.faults; omega)).mono fun e w' q => q.disk h1 h2
theorem rdisk_stop {w : World} {S : Nat → Prop} {bd : Nat} {r : Rk} (h : RDisk w S bd r) (after : Int) :
    Calls Try.prog 60 #[.pointer (some ⟨bd, 0, none⟩), .int .i64 after] w fun e w' => e = .returned (.tuple #[]) ∧ Touch S w w' ∧ RDisk w' (more S w w') bd (r.halt after) := by
  obtain ⟨lv, fv, fs, hd, h1, h2⟩ := h
  exact (rstop_any w bd lv fv fs r after hd).mono fun e w' q => q.disk h1 h2
theorem rdisk_crash {w : World} {S : Nat → Prop} {bd : Nat} {r : Rk} {K : Nat} (h : RDisk w S bd r) (hs : r.fit K) (hK : K ≤ 1000000000) (hne : ∀ f ∈ r.fs, f.raw ≠ []) {A : Option Addr} {m c : Nat} {cuts : List Int} (hx : IsInts w A m c cuts) (hxw : ∀ x ∈ cuts, -9223372036854775808 ≤ x ∧ x ≤ 9223372036854775807) :
    Calls Try.prog 61 #[.pointer (some ⟨bd, 0, none⟩), .slice A m c] w fun e w' => e = .returned (.tuple #[]) ∧ Touch S w w' ∧ RDisk w' (more S w w') bd (r.crash cuts) := by
  obtain ⟨lv, fv, fs, hd, h1, h2⟩ := h
  exact (rcrash_any w bd lv fv fs r A m c cuts hd hs hK hne hx hxw).mono fun e w' q => q.disk h1 h2
theorem rdisk_read {w : World} {S : Nat → Prop} {bd : Nat} {r : Rk} {K : Nat} (h : RDisk w S bd r) (hs : r.fit K) (hK : K ≤ 1000000000) (n : Int) :
    Calls Try.prog 28 #[.pointer (some ⟨bd, 0, none⟩), .int .i64 n] w fun e w' => Fresh w w' ∧ ∃ B c, e = .returned (.slice B (r.read n).length c) ∧ Row w' (.slice B (r.read n).length c) (r.read n) ∧ ∀ a, B = some a → w.heap.size ≤ a.block := by
  obtain ⟨lv, fv, fs, hd, h1, h2⟩ := h
  obtain ⟨r1, r2⟩ := hd.raws hs
  exact rread_any w bd lv fv fs r n hd (by omega) hs.rise fun f hf => by have := r1 f hf; omega
theorem rdisk_kept {w : World} {S : Nat → Prop} {bd : Nat} {r : Rk} {K : Nat} (h : RDisk w S bd r) (hs : r.fit K) (hK : K ≤ 1000000000) (n : Int) :
    Calls Try.prog 65 #[.pointer (some ⟨bd, 0, none⟩), .int .i64 n] w fun e w' => (∃ q, w' = w.drewN q) ∧ e = .returned (.int .i64 (r.kept n)) := by
  obtain ⟨lv, fv, fs, hd, h1, h2⟩ := h
  obtain ⟨r1, r2⟩ := hd.raws hs
  exact rkept_any w bd lv fv fs r n hd (by omega) hs.rise
theorem rdisk_files {w : World} {S : Nat → Prop} {bd : Nat} {r : Rk} {K : Nat} (h : RDisk w S bd r) (hs : r.fit K) (hK : K ≤ 1000000000) :
    Calls Try.prog 63 #[.pointer (some ⟨bd, 0, none⟩)] w fun e w' => Fresh w w' ∧ ∃ B c, e = .returned (.slice B r.fs.length c) ∧ Own w' 3 1 (.slice B r.fs.length c) r.fs.length (intsV (r.fs.map Fl.n)) ∧ ∀ k, (Value.slice B r.fs.length c).ownBlock = some k → w.heap.size ≤ k := by
  obtain ⟨lv, fv, fs, hd, h1, h2⟩ := h
  obtain ⟨r1, r2⟩ := hd.raws hs
  rw [hd.len]
  exact rfiles_any w bd lv fv fs r hd (by omega)
theorem rdisk_count {w : World} {S : Nat → Prop} {bd : Nat} {r : Rk} (h : RDisk w S bd r) : w.cell? ⟨bd, 3, none⟩ = some (.int .i64 r.count) := by
  obtain ⟨lv, fv, fs, hd, h1, h2⟩ := h
  exact hd.blk.cell 3
end Go.Proofs.Ythmjnlkdoepmjaa
