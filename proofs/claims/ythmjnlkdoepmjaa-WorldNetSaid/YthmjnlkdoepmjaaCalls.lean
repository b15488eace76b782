/- The disk's calls as the laws use them: at a disk within some blocks. Conditions stand with each. -/
import Derived.Test.YthmjnlkdoepmjaaCrash2
namespace Go.Proofs.Ythmjnlkdoepmjaa
open Go.RowKit

structure Dk.small (d : Dk) (K : Nat) : Prop where
  raw : ∀ f ∈ d.fs, f.raw.length ≤ K
  many : d.fs.length ≤ K
  faults : d.faults.length ≤ K
  ops : d.ops ≤ K
theorem Dk.small.mono {d : Dk} {K L : Nat} (h : d.small K) (hl : K ≤ L) : d.small L := ⟨fun f hf => Nat.le_trans (h.raw f hf) hl, Nat.le_trans h.many hl, Nat.le_trans h.faults hl, Nat.le_trans h.ops hl⟩
theorem new_small : Dk.new.small 0 := ⟨(by intro f hf; cases hf), Nat.le_refl _, Nat.le_refl _, Nat.le_refl _⟩
theorem next_small {d : Dk} {K : Nat} (h : d.small K) : d.next.small (K + 1) :=
  ⟨fun f hf => Nat.le_succ_of_le (h.raw f hf), Nat.le_succ_of_le h.many, Nat.le_trans (List.length_filter_le _ _) (Nat.le_succ_of_le h.faults), Nat.succ_le_succ h.ops⟩
theorem ins_small {n : Int} {b : List UInt8} {K : Nat} : ∀ {fs : List Fl}, (∀ f ∈ fs, f.raw.length ≤ K) → (∀ f ∈ Fl.ins n b fs, f.raw.length ≤ K + b.length) ∧ (Fl.ins n b fs).length ≤ fs.length + 1
  | [], _ => ⟨by intro f hf; simp [Fl.ins] at hf; subst hf; simp, by simp [Fl.ins]⟩
  | x :: r, h => by
    have ih := ins_small (n := n) (b := b) (K := K) (fs := r) fun f hf => h f (List.mem_cons_of_mem _ hf)
    have hx := h x (by simp)
    unfold Fl.ins
    split
    · refine ⟨fun f hf => ?_, by simp⟩
      rcases List.mem_cons.1 hf with rfl | hf
      · show b.length ≤ _; omega
      · have := h f hf; omega
    · split
      · refine ⟨fun f hf => ?_, by simp⟩
        rcases List.mem_cons.1 hf with rfl | hf
        · show (x.raw ++ b).length ≤ _; rw [List.length_append]; omega
        · have := h f (List.mem_cons_of_mem _ hf); omega
      · refine ⟨fun f hf => ?_, by simp only [List.length_cons]; have := ih.2; omega⟩
        rcases List.mem_cons.1 hf with rfl | hf
        · omega
        · exact ih.1 f hf
theorem add_small {n : Int} {b : List UInt8} {d : Dk} {K : Nat} (h : d.small K) : Dk.small { d with fs := Fl.add n b d.fs } (K + b.length + 1) := by
  unfold Fl.add
  split
  · exact h.mono (by omega)
  · have := ins_small (n := n) (b := b) h.raw
    exact ⟨fun f hf => by have := this.1 f hf; omega, by have h1 := this.2; have h2 := h.many; show (Fl.ins n b d.fs).length ≤ _; omega, by have := h.faults; show d.faults.length ≤ _; omega, by have := h.ops; show d.ops ≤ _; omega⟩
theorem append_small {n : Int} {b : List UInt8} {d : Dk} {K : Nat} (h : d.small K) : (d.append n b).small (K + b.length + 2) := by
  unfold Dk.append
  split
  · exact (add_small (next_small h)).mono (by omega)
  · split
    · exact (add_small (next_small h)).mono (by rw [List.length_take]; omega)
    · exact (next_small h).mono (by omega)
theorem sync_small {n : Int} {d : Dk} {K : Nat} (h : d.small K) : (d.sync n).small (K + 1) := by
  unfold Dk.sync
  split
  · have h1 := next_small h
    refine ⟨fun f hf => ?_, by show (Fl.sync n d.fs).length ≤ _; unfold Fl.sync; rw [List.length_map]; exact h1.many, h1.faults, h1.ops⟩
    obtain ⟨x, hx, rfl⟩ := List.mem_map.1 hf
    have := h1.raw x hx
    split <;> exact this
  · exact next_small h
theorem flose_len (f : Fl) (cut : Int) : (f.lose cut).raw.length ≤ f.raw.length := by
  show (if _ then (f.raw.take (f.kept + (f.ways cut + 1) / 2)).set _ _ else f.raw.take (f.kept + (f.ways cut + 1) / 2)).length ≤ _
  split
  · rw [List.length_set]; simp [List.length_take]; omega
  · simp [List.length_take]; omega
theorem fcrash_small {K : Nat} : ∀ {fs : List Fl} {cuts : List Int}, (∀ f ∈ fs, f.raw.length ≤ K) → (∀ f ∈ Fl.crash fs cuts, f.raw.length ≤ K) ∧ (Fl.crash fs cuts).length ≤ fs.length
  | [], _, _ => ⟨(by intro f hf; cases hf), Nat.le_refl _⟩
  | x :: r, cuts, h => by
    have ih := fcrash_small (K := K) (fs := r) (cuts := cuts.tail) fun f hf => h f (List.mem_cons_of_mem _ hf)
    unfold Fl.crash
    split
    · exact ⟨ih.1, by simp only [List.length_cons]; have := ih.2; omega⟩
    · refine ⟨fun f hf => ?_, by simp only [List.length_cons]; have := ih.2; omega⟩
      rcases List.mem_cons.1 hf with rfl | hf
      · exact Nat.le_trans (flose_len x _) (h x (by simp))
      · exact ih.1 f hf
theorem crash_small {cuts : List Int} {d : Dk} {K : Nat} (h : d.small K) : (d.crash cuts).small K :=
  ⟨(fcrash_small h.raw).1, Nat.le_trans (fcrash_small h.raw).2 h.many, Nat.zero_le _, h.ops⟩

theorem DK.raws {w : World} {bd bm : Nat} {fv : Value} {fs : List FR} {d : Dk} (h : DK w bd bm fv fs d) {K : Nat} (hs : d.small K) : (∀ f ∈ fs, f.raw.length ≤ K) ∧ fs.length ≤ K :=
  ⟨fun f hf => hs.raw f.fl (by rw [h.fls]; exact List.mem_map_of_mem hf), by have := hs.many; rwa [h.fls, List.length_map] at this⟩
theorem StepEnd.disk {w w' : World} {S : Nat → Prop} {bd bm : Nat} {fv : Value} {fs : List FR} {d' : Dk} {r e : Ending} (h : StepEnd w bd bm fv fs d' r e w') (h1 : ∀ k, foot bd bm fv fs k → S k) (h2 : ∀ k, S k → k < w.heap.size) : e = r ∧ Touch S w w' ∧ Disk w' (more S w w') bd d' := by
  obtain ⟨he, ht, fv', fs', hd, hf⟩ := h
  exact ⟨he, ht.mono fun k _ hk => h1 k hk, hd.disk (fun k hk => (hf k hk).imp (h1 k) id) h2 ht.size⟩

theorem disk_append {w : World} {S : Nat → Prop} {bd : Nat} {d : Dk} {K : Nat} (h : Disk w S bd d) (hs : d.small K) (hK : K ≤ 1000000000) {n : Int} (hn : (Lit.int .i64 n).wf = true) {A : Option Addr} {m c : Nat} {xs : List UInt8} (hx : Bs w A m c xs) (hxb : ∀ a, A = some a → 0 < m → ¬ S a.block ∧ a.block < w.heap.size) (hm : xs.length ≤ 1000000000) :
    Calls Try.prog 13 #[.pointer (some ⟨bd, 0, none⟩), .int .i64 n, .slice A m c] w fun e w' => e = .returned (.int .i64 (d.why n)) ∧ Touch S w w' ∧ Disk w' (more S w w') bd (d.append n xs) := by
  obtain ⟨bm, fv, fs, hd, h1, h2⟩ := h
  obtain ⟨r1, r2⟩ := hd.raws hs
  exact (append_any w bd bm fv fs d n A m c xs hd hn hx (fun a ha h0 => ⟨fun hk => (hxb a ha h0).1 (h1 _ hk), (hxb a ha h0).2⟩) (fun f hf => by have := r1 f hf; omega) (by omega) (by unfold maxLen; omega) (by have := hs.ops; omega) (by have := hs.faults; omega)).mono fun e w' q => q.disk h1 h2
theorem disk_sync {w : World} {S : Nat → Prop} {bd : Nat} {d : Dk} {K : Nat} (h : Disk w S bd d) (hs : d.small K) (hK : K ≤ 1000000000) {n : Int} (hn : (Lit.int .i64 n).wf = true) :
    Calls Try.prog 14 #[.pointer (some ⟨bd, 0, none⟩), .int .i64 n] w fun e w' => e = .returned (.int .i64 (d.why n)) ∧ Touch S w w' ∧ Disk w' (more S w w') bd (d.sync n) := by
  obtain ⟨bm, fv, fs, hd, h1, h2⟩ := h
  exact (sync_any w bd bm fv fs d n hd hn (by have := hs.ops; omega) (by have := hs.faults; omega)).mono fun e w' q => q.disk h1 h2
theorem disk_crash {w : World} {S : Nat → Prop} {bd : Nat} {d : Dk} {K : Nat} (h : Disk w S bd d) (hs : d.small K) (hK : K ≤ 1000000000) {A : Option Addr} {m c : Nat} {cuts : List Int} (hx : IsInts w A m c cuts) (hxw : ∀ x ∈ cuts, -9223372036854775808 ≤ x ∧ x ≤ 9223372036854775807) (hxb : ∀ a, A = some a → 0 < m → ¬ S a.block) :
    Calls Try.prog 15 #[.pointer (some ⟨bd, 0, none⟩), .slice A m c] w fun e w' => e = .returned (.tuple #[]) ∧ Touch S w w' ∧ Disk w' (more S w w') bd (d.crash cuts) := by
  obtain ⟨bm, fv, fs, hd, h1, h2⟩ := h
  obtain ⟨r1, r2⟩ := hd.raws hs
  exact (crash_any w bd bm fv fs d A m c cuts hd (by omega) (fun f hf => by have := r1 f hf; omega) hx hxw (fun a ha h0 hk => hxb a ha h0 (h1 _ hk))).mono fun e w' q => q.disk h1 h2
theorem disk_read {w : World} {S : Nat → Prop} {bd : Nat} {d : Dk} {K : Nat} (h : Disk w S bd d) (hs : d.small K) (hK : K ≤ 1000000000) {n : Int} (hn : (Lit.int .i64 n).wf = true) :
    Calls Try.prog 16 #[.pointer (some ⟨bd, 0, none⟩), .int .i64 n] w fun e w' => Fresh w w' ∧ ∃ B c, e = .returned (.slice B (d.read n).length c) ∧ Row w' (.slice B (d.read n).length c) (d.read n) ∧ ∀ a, B = some a → w.heap.size ≤ a.block := by
  obtain ⟨bm, fv, fs, hd, h1, h2⟩ := h
  obtain ⟨r1, r2⟩ := hd.raws hs
  exact read_any w bd bm fv fs d n hd hn fun f hf => by have := r1 f hf; omega
theorem disk_kept {w : World} {S : Nat → Prop} {bd : Nat} {d : Dk} (h : Disk w S bd d) {n : Int} (hn : (Lit.int .i64 n).wf = true) :
    Calls Try.prog 17 #[.pointer (some ⟨bd, 0, none⟩), .int .i64 n] w fun e w' => w = w' ∧ e = .returned (.int .i64 (d.kept n)) := by
  obtain ⟨bm, fv, fs, hd, h1, h2⟩ := h
  exact kept_any w bd bm fv fs d n hd hn
theorem disk_ops {w : World} {S : Nat → Prop} {bd : Nat} {d : Dk} (h : Disk w S bd d) : Calls Try.prog 21 #[.pointer (some ⟨bd, 0, none⟩)] w fun e w' => w = w' ∧ e = .returned (.int .i64 d.ops) := by
  obtain ⟨bm, fv, fs, hd, h1, h2⟩ := h
  exact ops_any w bd bm fv fs d hd
end Go.Proofs.Ythmjnlkdoepmjaa
