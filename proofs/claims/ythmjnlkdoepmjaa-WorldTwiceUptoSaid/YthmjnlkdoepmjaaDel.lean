/- The disk's Delete, and its Files at a disk within some blocks. Conditions stand with each. -/
import Derived.Test.YthmjnlkdoepmjaaFail
import Derived.Test.YthmjnlkdoepmjaaRfiles
namespace Go.Proofs.Ythmjnlkdoepmjaa
open Go.RowKit

theorem fl_filter (fs : List FR) (n : Int) : (fs.map FR.fl).filter (fun f => decide (f.n ≠ n)) = (fs.filter fun f => decide (f.n ≠ n)).map FR.fl := by
  rw [List.filter_map]
  rfl
theorem ent_filter (fs : List FR) (n : Int) : (fs.map fun f => (f.n, f.g)).filter (fun p => decide (p.1 ≠ n)) = (fs.filter fun f => decide (f.n ≠ n)).map fun f => (f.n, f.g) := by
  rw [List.filter_map]
  rfl
theorem del_fin {w w1 w3 : World} {bd bm : Nat} {fv fv1 : Value} {fs : List FR} {d : Dk} {n : Int} (hd : DK w1 bd bm fv1 fs d.next) (ht : Touch (foot bd bm fv fs) w w1) (hf : ∀ k, foot bd bm fv1 fs k → foot bd bm fv fs k) (hw : d.why n = 0) (him : IMap w3 bm ((fs.map fun f => (f.n, f.g)).filter fun p => decide (p.1 ≠ n))) (ht3 : Touch (fun k => k = bm) w1 w3) (res : Ending) :
    StepEnd w bd bm fv fs (d.delete n) res res w3 := by
  have hsub : ∀ f ∈ fs.filter (fun f => decide (f.n ≠ n)), f ∈ fs := fun f hf => (List.mem_filter.1 hf).1
  have hdd : d.delete n = { d.next with fs := d.fs.filter fun f => decide (f.n ≠ n) } := by unfold Dk.delete; rw [if_pos hw]
  have hT : Touch (foot bd bm fv fs) w w3 := ht.trans ht3 fun k _ e => by subst e; exact .inr (.inl rfl)
  have hne : ∀ f ∈ fs, f.g ≠ bm ∧ f.v.ownBlock ≠ some bm := fun f hf => ⟨fun e => hd.map.ne_blk (hd.file f hf).blk e.symm, fun e => hd.map.ne_own (hd.file f hf).row e⟩
  refine ⟨rfl, hT, fv1, fs.filter fun f => decide (f.n ≠ n), ⟨?_, ?_, ?_, ?_, ?_, ?_⟩, ?_⟩
  · rw [hdd]
    show d.fs.filter _ = _
    rw [show d.fs = fs.map FR.fl from hd.fls]
    exact fl_filter fs n
  · rw [hdd]
    exact hd.blk.touch ht3 fun e => hd.map.ne_blk hd.blk e.symm
  · rw [← ent_filter]
    exact him
  · rw [hdd]
    exact hd.flt.touch ht3 fun k hk e => hd.map.ne_own hd.flt (by rw [hk, e])
  · intro f hf'
    have hm := hsub f hf'
    exact (hd.file f hm).heap (ht3.block _ (hd.file f hm).blk.lt (hne f hm).1) fun k hk => ht3.block _ (Own.lt (hd.file f hm).row k hk) fun e => (hne f hm).2 (by rw [hk, e])
  · exact hd.apart.filter _
  · rintro k (e | e | e | ⟨f, hf', e⟩)
    · exact .inl (.inl e)
    · exact .inl (.inr (.inl e))
    · exact .inl (hf k (.inr (.inr (.inl e))))
    · exact .inl (.inr (.inr (.inr ⟨f, hsub f hf', e⟩)))

set_option maxRecDepth 20000 in
set_option maxHeartbeats 4000000 in
theorem delete_any (w : World) (bd bm : Nat) (fv : Value) (fs : List FR) (d : Dk) (n : Int) (h : DK w bd bm fv fs d) (hn : (Lit.int .i64 n).wf = true) (ho : d.ops ≤ 4611686018427387904) (hl : d.faults.length ≤ 4611686018427387904) :
    Calls Try.prog 57 #[.pointer (some ⟨bd, 0, none⟩), .int .i64 n] w (StepEnd w bd bm fv fs (d.delete n) (.returned (.int .i64 (d.why n)))) := by
  have HB := Lib.hid (begin_any w bd bm fv fs d n h ho hl)
  clear h
  go_enter Try.func57, Try.ntmps57
  go_wp2_with fail
  refine HB.out.mono ?_
  rintro e w1 ⟨he, ht1, fv1, hdk1, hown1⟩
  have hty : Touch (foot bd bm fv fs) w w1 := ht1.mono fun k _ hk => hk.elim .inl fun e => .inr (.inr (.inl e))
  have hfoot := foot_begin (bd := bd) (bm := bm) (fs := fs) hown1
  have hc0 : w1.cell? ⟨bd, 0, none⟩ = some (.map (some bm)) := hdk1.blk.cell 0
  subst he
  by_cases hw : d.why n = 0
  · obtain ⟨w3, hdel, him3, ht3⟩ := hdk1.map.del_all hn
    have HF := Lib.hid (del_fin hdk1 hty (fun k hk => hfoot k hk) hw him3 ht3 (.returned (.int .i64 0)))
    have HW := Lib.hid hw
    rw [hw]
    clear hdk1 hty hfoot ht1 hown1 HB hw him3 ht3
    go_wp2_with fail
    go_ret
    rw [HW.out]
    exact HF.out
  · have HF := Lib.hid (show StepEnd w bd bm fv fs (d.delete n) (.returned (.int .i64 (d.why n))) (.returned (.int .i64 (d.why n))) w1 from ⟨rfl, hty, fv1, fs, by unfold Dk.delete; rw [if_neg hw]; exact hdk1, fun k hk => .inl (hfoot k hk)⟩)
    generalize d.why n = y at *
    have hy : (y == 0) = false := by simpa using hw
    clear hdk1 hty hfoot ht1 hown1 HB
    go_wp2_with fail
    go_ret
    exact HF.out
theorem disk_delete {w : World} {S : Nat → Prop} {bd : Nat} {d : Dk} {K : Nat} (h : Disk w S bd d) (hs : d.small K) (hK : K ≤ 1000000000) {n : Int} (hn : (Lit.int .i64 n).wf = true) :
    Calls Try.prog 57 #[.pointer (some ⟨bd, 0, none⟩), .int .i64 n] w fun e w' => e = .returned (.int .i64 (d.why n)) ∧ Touch S w w' ∧ Disk w' (more S w w') bd (d.delete n) := by
  obtain ⟨bm, fv, fs, hd, h1, h2⟩ := h
  exact (delete_any w bd bm fv fs d n hd hn (by have := hs.ops; omega) (by have := hs.faults; omega)).mono fun e w' q => q.disk h1 h2
theorem disk_files {w : World} {S : Nat → Prop} {bd : Nat} {d : Dk} {K : Nat} (h : Disk w S bd d) (hs : d.small K) (hK : K ≤ 1000000000) :
    Calls Try.prog 30 #[.pointer (some ⟨bd, 0, none⟩)] w fun e w' => Fresh w w' ∧ ∃ B c, e = .returned (.slice B d.fs.length c) ∧ Own w' 3 1 (.slice B d.fs.length c) d.fs.length (intsV (d.fs.map Fl.n)) ∧ ∀ k, (Value.slice B d.fs.length c).ownBlock = some k → w.heap.size ≤ k := by
  obtain ⟨bm, fv, fs, hd, h1, h2⟩ := h
  obtain ⟨r1, r2⟩ := hd.raws hs
  have hl : d.fs.length = fs.length := by rw [hd.fls, List.length_map]
  have hm : d.fs.map Fl.n = fs.map FR.n := by rw [hd.fls, List.map_map]; rfl
  refine (files_any w bd bm fv fs d hd (by omega)).mono ?_
  rintro e w' ⟨v, rfl, hv, hf⟩
  rw [hl, hm]
  have ho := Own.ofRow hv
  obtain ⟨B, c, rfl, _, _, _⟩ := ho.form
  exact ⟨hf, B, c, rfl, ho, fun k hk => (World.ownsRow.lt hv k hk).1⟩
theorem delete_small {n : Int} {d : Dk} {K : Nat} (h : d.small K) : (d.delete n).small (K + 1) := by
  unfold Dk.delete
  split
  · have h1 := next_small h
    exact ⟨fun f hf => h1.raw f (List.mem_filter.1 hf).1, Nat.le_trans (List.length_filter_le _ _) h1.many, h1.faults, h1.ops⟩
  · exact next_small h
end Go.Proofs.Ythmjnlkdoepmjaa
