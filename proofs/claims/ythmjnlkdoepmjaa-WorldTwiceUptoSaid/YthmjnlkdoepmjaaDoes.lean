/- The law's 'does': one call on both disks is found to tell the same. Conditions stand with it. -/
import Derived.Test.YthmjnlkdoepmjaaSame
import Derived.Deep.Cut
namespace Go.Proofs.Ythmjnlkdoepmjaa
open Go.RowKit

theorem IsInts.src {P : Program} {w : World} {A : Option Addr} {n c : Nat} {xs : List Int} {t e' : TypeId} (h : IsInts w A n c xs) (ht : P.underlying t = some (.slice e')) : Src P 1 t (.slice A n c) n (intsV xs) w := by
  have hl := h.1
  subst hl
  by_cases h0 : xs = []
  · subst h0
    cases A with
    | none => exact Src.ofNil w ht c
    | some a => exact Src.ofSlice w ht a 0 c [] (by simp) (by simp) (by simp)
  · obtain ⟨b, o, rfl, hc⟩ := h.2.2.2 (List.length_pos_iff.2 h0)
    refine Src.ofSlice w ht _ _ _ _ (by rw [intsV_length]; omega) (fun j u hu => ?_) (intsV_one xs)
    rw [intsV_get] at hu
    obtain ⟨y, hy, rfl⟩ := Option.map_eq_some_iff.1 hu
    rw [add_flat]
    exact hc j y hy
def DoesEnd (B : Nat) (w : World) (bd br K : Nat) (e : Ending) (w' : World) : Prop :=
  e = .returned (.bool true) ∧ Touch (fun k => B ≤ k) w w' ∧ ∃ S' T' d' r', Two B w' S' T' bd br d' r' (K + 300)
/-- an Op that came in: its numbers, its bytes, its cuts -/
structure OpAt (B : Nat) (w : World) (file n : Int) (A : Option Addr) (m c : Nat) (xs : List UInt8) (C : Option Addr) (nc cc : Nat) (cuts : List Int) : Prop where
  file : (Lit.int .i64 file).wf = true
  n : n ≤ 9223372036854775807
  bs : Bs w A m c xs
  bsB : ∀ a, A = some a → 0 < m → a.block < B
  cs : IsInts w C nc cc cuts
  csB : ∀ a, C = some a → 0 < nc → a.block < B
  many : nc ≤ 1000000000
  rng : ∀ x ∈ cuts, -9223372036854775808 ≤ x ∧ x ≤ 9223372036854775807
theorem OpAt.touch {B : Nat} {w w' : World} {file n : Int} {A : Option Addr} {m c : Nat} {xs : List UInt8} {C : Option Addr} {nc cc : Nat} {cuts : List Int} (h : OpAt B w file n A m c xs C nc cc cuts) (ht : Touch (fun k => B ≤ k) w w') : OpAt B w' file n A m c xs C nc cc cuts :=
  ⟨h.file, h.n, h.bs.touch ht fun a ha h0 e => by have := h.bsB a ha h0; omega, h.bsB, h.cs.touch ht fun a ha h0 e => by have := h.csB a ha h0; omega, h.csB, h.many, h.rng⟩
theorem DoesEnd.mk_ {B : Nat} {w w0 w1 w2 : World} {S T : Nat → Prop} {bd br : Nat} {d d' : Dk} {r r' : Rk} {K : Nat} (h : Two B w0 S T bd br d r K) (h0 : Fresh w w0) (hB : B ≤ w.heap.size) (t1 : Touch S w0 w1) (hd : Disk w1 (more S w0 w1) bd d') (t2 : Touch T w1 w2) (hr : RDisk w2 (more T w1 w2) br r') (hs : Sim d' r') (hk : d'.small (K + 300)) (hn : r'.nums) : DoesEnd B w bd br K (.returned (.bool true)) w2 :=
  ⟨rfl, ((h0.mono fun _ _ => False.elim).trans (S := fun k => B ≤ k) t1 fun k _ e => h.lo k (.inl e)).trans t2 fun k _ e => h.lo k (.inr e), _, _, d', r', h.both (Nat.le_trans hB h0.size) t1 hd t2 hr hs hk hn⟩

set_option maxRecDepth 20000 in
set_option maxHeartbeats 4000000 in
theorem does_any {B : Nat} {w : World} {S T : Nat → Prop} {bd br : Nat} {d : Dk} {r : Rk} {K : Nat} (h : Two B w S T bd br d r K) (hB : B ≤ w.heap.size) (hK : K ≤ 900000) (Do file n kd : Int) (A : Option Addr) (m c : Nat) (xs : List UInt8) (C : Option Addr) (nc cc : Nat) (cuts : List Int) (ho : OpAt B w file n A m c xs C nc cc cuts) :
    Calls Try.prog 27 #[.pointer (some ⟨bd, 0, none⟩), .pointer (some ⟨br, 0, none⟩), .agg #[.int .i64 Do, .int .i64 file, .int .i64 n, .int .i64 kd, .slice A m c, .slice C nc cc]] w (DoesEnd B w bd br K) := by
  obtain ⟨W0, hW0⟩ : ∃ W0, W0 = w.alloc (.cells #[.int .i64 Do, .int .i64 file, .int .i64 n, .int .i64 kd, .slice A m c, .slice C nc cc] 52) := ⟨_, rfl⟩
  have hT0 : Fresh w W0 := by rw [hW0]; exact (Touch.refl _ w).alloc _
  have hB0 : Blk W0 w.heap.size 52 #[.int .i64 Do, .int .i64 file, .int .i64 n, .int .i64 kd, .slice A m c, .slice C nc cc] := by rw [hW0]; exact Blk.new _ _ _
  have hz0 : W0.heap.size = w.heap.size + 1 := by rw [hW0, alloc_size]
  have hlt : ∀ k, S k ∨ T k → k < w.heap.size := fun k hk => hk.elim (h.disk.below k) (h.ref.below k)
  have h0 := h.fresh hT0
  have hfit := h0.fit
  have hc : h.sim.ops = h.sim.ops := rfl
  have hcnt : r.count < 9223372036854775807 := by have := hfit.count; omega
  have HC := Lib.hid (show ∀ (R : Nat → Prop) (W : World), Touch R W0 W → (∀ k, R k → S k ∨ T k ∨ W0.heap.size ≤ k) → W.cell? ⟨w.heap.size, 1, none⟩ = some (.int .i64 file) ∧ W.cell? ⟨w.heap.size, 2, none⟩ = some (.int .i64 n) ∧ W.cell? ⟨w.heap.size, 3, none⟩ = some (.int .i64 kd) ∧ W.cell? ⟨w.heap.size, 5, none⟩ = some (.slice C nc cc) from fun R W ht hR => by
    have hb := hB0.touch ht fun e => by
      rcases hR _ e with e | e | e
      · have := hlt _ (.inl e); omega
      · have := hlt _ (.inr e); omega
      · omega
    exact ⟨hb.cell 1, hb.cell 2, hb.cell 3, hb.cell 5⟩)
  have c0 : W0.cell? ⟨w.heap.size, 0, none⟩ = some (.int .i64 Do) := hB0.cell 0
  have c4 : W0.cell? ⟨w.heap.size, 4, none⟩ = some (.slice A m c) := hB0.cell 4
  obtain ⟨c1, c2, c3, c5⟩ := HC.out _ W0 (Touch.refl (fun _ => False) W0) fun _ => False.elim
  have HWI := Lib.hid (within_any Do 7 W0 (by omega) (by omega))
  have HW0 := Lib.hid hW0; have HT0 := Lib.hid hT0; have H0 := Lib.hid h0; have HFIT := Lib.hid hfit; have HO := Lib.hid (show OpAt B W0 file n A m c xs C nc cc cuts from ho.touch (hT0.mono fun _ _ => False.elim)); have HLT := Lib.hid hlt
  have HBB := Lib.hid hB; have HZ := Lib.hid hz0; have HCNT := Lib.hid hcnt
  have hfile := ho.file
  have hn63 := ho.n
  have hmany := ho.many
  clear hW0 hT0 h0 hfit hlt hB0 h hc ho hz0 hB hcnt
  go_enter Try.func27, Try.ntmps27
  go_wp2_with fail
  rw [← HW0.out]
  refine HWI.out.mono ?_
  rintro e w' ⟨rfl, rfl⟩
  clear HWI HW0
  have hm : Do % 7 = 0 ∨ Do % 7 = 1 ∨ Do % 7 = 2 ∨ Do % 7 = 3 ∨ Do % 7 = 4 ∨ Do % 7 = 5 ∨ Do % 7 = 6 := by omega
  generalize Do % 7 = op at *
  rcases hm with rfl | rfl | rfl | rfl | rfl | rfl | rfl
  · go_wp2_with fail
    refine (clip_any _ _ _ _ _ HO.out.bs).mono ?_
    rintro e w1 ⟨rfl, m', hm1, hm2, rfl, hb'⟩
    have HB' := Lib.hid hb'
    have hl' : (xs.take m').length = m' := hb'.1
    clear hb'
    go_wp2_with fail
    refine (lend_any _ _ _ _ _ HB'.out (by omega)).mono ?_
    rintro e w2 ⟨hf2, LB, lc, rfl, hl2, hn2⟩
    have h2 := H0.out.fresh hf2
    have hLB : ∀ a, LB = some a → ¬ S a.block ∧ ¬ T a.block ∧ a.block < w2.heap.size := by
      intro a ha
      have h1 := hn2 a ha
      have h3 := HZ.out
      refine ⟨fun e => ?_, fun e => ?_, hl2.2.lt a.block (by rw [ha]; rfl)⟩
      · have := HLT.out _ (.inl e); omega
      · have := HLT.out _ (.inr e); omega
    have HAP := Lib.hid (disk_append h2.disk h2.small (by omega) hfile hl2.bs (fun a ha _ => ⟨(hLB a ha).1, (hLB a ha).2.2⟩) (by omega))
    have HLN := Lib.hid hn2
    have HF2 := Lib.hid hf2; have HL2 := Lib.hid hl2; have H2 := Lib.hid h2; have HLB := Lib.hid hLB
    obtain ⟨c1b, _⟩ := HC.out _ w2 hf2 fun _ => False.elim
    clear hf2 hl2 hn2 h2 hLB
    go_wp2_with fail
    refine HAP.out.mono ?_
    rintro e w3 ⟨rfl, t3, d3⟩
    have r3 := H2.out.ref1 t3
    have hA3 : ∀ a, A = some a → 0 < m' → ¬ S a.block ∧ ¬ T a.block ∧ a.block < B := fun a ha h0 => by
      have h1 := HO.out.bsB a ha (by omega)
      exact ⟨fun e => by have := H0.out.lo _ (.inl e); omega, fun e => by have := H0.out.lo _ (.inr e); omega, h1⟩
    have hb3 : Bs w3 A m' c (xs.take m') := (HB'.out.fresh HF2.out).touch t3 fun a ha h0 => (hA3 a ha h0).1
    have HRA := Lib.hid (rdisk_append r3 HFIT.out (by omega) file hb3 (fun a ha h0 => ⟨(hA3 a ha h0).2.1, by have := (hA3 a ha h0).2.2; have := HBB.out; have := HZ.out; have := HF2.out.size; have := t3.size; omega⟩) (by omega))
    rw [← H0.out.sim.why HCNT.out file] at HRA
    have t03 := (Touch.mono (S' := S) HF2.out fun _ _ => False.elim).trans t3 fun _ _ e => e
    obtain ⟨c1c, _⟩ := HC.out S w3 t03 fun _ e => .inl e
    have HLT3 := Lib.hid (show Lent w3 LB m' lc (xs.take m') from ⟨HL2.out.1, HL2.out.2.touch t3 fun k hk e => by
      obtain ⟨a, ha, hak⟩ : ∃ a, LB = some a ∧ a.block = k := by
        cases LB with
        | none => cases hk
        | some a => exact ⟨a, rfl, by simpa [Value.ownBlock] using hk⟩
      subst hak
      exact (HLB.out a ha).1 e⟩)
    have HT3 := Lib.hid t3; have HD3 := Lib.hid d3; have HB3 := Lib.hid hb3; have HA3 := Lib.hid hA3; have HT03 := Lib.hid t03
    clear t3 d3 r3 hA3 hb3 t03 HAP
    go_wp2_with fail
    refine HRA.out.mono ?_
    rintro e w4 ⟨rfl, t4, d4⟩
    have hlent4 : Lent w4 LB m' lc (xs.take m') := ⟨HLT3.out.1, HLT3.out.2.touch t4 fun k hk e => by
      obtain ⟨a, ha, hak⟩ : ∃ a, LB = some a ∧ a.block = k := by
        cases LB with
        | none => cases hk
        | some a => exact ⟨a, rfl, by simpa [Value.ownBlock] using hk⟩
      subst hak
      exact (HLB.out a ha).2.1 e⟩
    have HIN := Lib.hid (intact_any A LB m' c lc (xs.take m') w4 (HB3.out.touch t4 fun a ha h0 => (HA3.out a ha h0).2.1) hlent4 (by omega))
    have h4 := H2.out.both (by have := HBB.out; have := HZ.out; have := HF2.out.size; omega) HT3.out HD3.out t4 d4 (H2.out.sim.append HCNT.out file (xs.take m')) ((append_small H2.out.small).mono (show K + (xs.take m').length + 2 ≤ K + 300 by omega)) (append_nums H2.out.nums file (xs.take m'))
    have ht4 : Touch (fun k => B ≤ k) w w4 := ((((HT0.out.trans HF2.out fun _ _ => id).mono fun _ _ => False.elim).trans (S := fun k => B ≤ k) HT3.out fun k _ e => H2.out.lo k (.inl e)).trans t4 fun k _ e => H2.out.lo k (.inr e))
    have H4 := Lib.hid h4; have HT4 := Lib.hid ht4; have HT34 := Lib.hid t4
    clear t4 d4 hlent4 HRA h4 ht4
    go_wp2_with fail
    refine HIN.out.mono ?_
    rintro e w5 ⟨rfl, t5⟩
    have HE5 := Lib.hid (show DoesEnd B w bd br K (.returned (.bool true)) w5 from by
      have hk5 : ∀ k, (Value.slice LB m' lc).ownBlock = some k → ¬ S k ∧ ¬ T k ∧ k < w2.heap.size ∧ B ≤ k := by
        intro k hk
        cases LB with
        | none => cases hk
        | some a =>
          have hak : a.block = k := by simpa [Value.ownBlock] using hk
          subst hak
          have h1 := HLB.out a rfl
          have h2 := HLN.out a rfl
          have h3 := HZ.out
          have h4 := HBB.out
          exact ⟨h1.1, h1.2.1, h1.2.2, by omega⟩
      refine ⟨rfl, HT4.out.trans t5 fun k _ e => (hk5 k e).2.2.2, _, _, _, _, H4.out.touch t5 fun k hk e => ?_⟩
      have h5 := hk5 k e
      rcases hk with (hk | hk) | (hk | hk)
      · exact h5.1 hk
      · omega
      · exact h5.2.1 hk
      · have := HT3.out.size; omega)
    clear t5 HIN
    go_wp2_with fail
    go_ret
    exact HE5.out
  · go_wp2_with fail
    refine (clip_any _ _ _ _ _ HO.out.bs).mono ?_
    rintro e w1 ⟨rfl, m', hm1, hm2, rfl, hb'⟩
    have HB' := Lib.hid hb'
    have hl' : (xs.take m').length = m' := hb'.1
    clear hb'
    go_wp2_with fail
    refine (lend_any _ _ _ _ _ HB'.out (by omega)).mono ?_
    rintro e w2 ⟨hf2, LB, lc, rfl, hl2, hn2⟩
    have h2 := H0.out.fresh hf2
    have hLB : ∀ a, LB = some a → ¬ S a.block ∧ ¬ T a.block ∧ a.block < w2.heap.size := by
      intro a ha
      have h1 := hn2 a ha
      have h3 := HZ.out
      refine ⟨fun e => ?_, fun e => ?_, hl2.2.lt a.block (by rw [ha]; rfl)⟩
      · have := HLT.out _ (.inl e); omega
      · have := HLT.out _ (.inr e); omega
    have HAP := Lib.hid (disk_append h2.disk h2.small (by omega) hfile hl2.bs (fun a ha _ => ⟨(hLB a ha).1, (hLB a ha).2.2⟩) (by omega))
    have HLN := Lib.hid hn2
    have HF2 := Lib.hid hf2; have HL2 := Lib.hid hl2; have H2 := Lib.hid h2; have HLB := Lib.hid hLB
    obtain ⟨c1b, _⟩ := HC.out _ w2 hf2 fun _ => False.elim
    clear hf2 hl2 hn2 h2 hLB
    go_wp2_with fail
    refine HAP.out.mono ?_
    rintro e w3 ⟨rfl, t3, d3⟩
    have r3 := H2.out.ref1 t3
    have hA3 : ∀ a, A = some a → 0 < m' → ¬ S a.block ∧ ¬ T a.block ∧ a.block < B := fun a ha h0 => by
      have h1 := HO.out.bsB a ha (by omega)
      exact ⟨fun e => by have := H0.out.lo _ (.inl e); omega, fun e => by have := H0.out.lo _ (.inr e); omega, h1⟩
    have hb3 : Bs w3 A m' c (xs.take m') := (HB'.out.fresh HF2.out).touch t3 fun a ha h0 => (hA3 a ha h0).1
    have HRA := Lib.hid (rdisk_append r3 HFIT.out (by omega) file hb3 (fun a ha h0 => ⟨(hA3 a ha h0).2.1, by have := (hA3 a ha h0).2.2; have := HBB.out; have := HZ.out; have := HF2.out.size; have := t3.size; omega⟩) (by omega))
    rw [← H0.out.sim.why HCNT.out file] at HRA
    have t03 := (Touch.mono (S' := S) HF2.out fun _ _ => False.elim).trans t3 fun _ _ e => e
    obtain ⟨c1c, _⟩ := HC.out S w3 t03 fun _ e => .inl e
    have HLT3 := Lib.hid (show Lent w3 LB m' lc (xs.take m') from ⟨HL2.out.1, HL2.out.2.touch t3 fun k hk e => by
      obtain ⟨a, ha, hak⟩ : ∃ a, LB = some a ∧ a.block = k := by
        cases LB with
        | none => cases hk
        | some a => exact ⟨a, rfl, by simpa [Value.ownBlock] using hk⟩
      subst hak
      exact (HLB.out a ha).1 e⟩)
    have HT3 := Lib.hid t3; have HD3 := Lib.hid d3; have HB3 := Lib.hid hb3; have HA3 := Lib.hid hA3; have HT03 := Lib.hid t03
    clear t3 d3 r3 hA3 hb3 t03 HAP
    go_wp2_with fail
    refine HRA.out.mono ?_
    rintro e w4 ⟨rfl, t4, d4⟩
    have hlent4 : Lent w4 LB m' lc (xs.take m') := ⟨HLT3.out.1, HLT3.out.2.touch t4 fun k hk e => by
      obtain ⟨a, ha, hak⟩ : ∃ a, LB = some a ∧ a.block = k := by
        cases LB with
        | none => cases hk
        | some a => exact ⟨a, rfl, by simpa [Value.ownBlock] using hk⟩
      subst hak
      exact (HLB.out a ha).2.1 e⟩
    have HIN := Lib.hid (intact_any A LB m' c lc (xs.take m') w4 (HB3.out.touch t4 fun a ha h0 => (HA3.out a ha h0).2.1) hlent4 (by omega))
    have h4 := H2.out.both (by have := HBB.out; have := HZ.out; have := HF2.out.size; omega) HT3.out HD3.out t4 d4 (H2.out.sim.append HCNT.out file (xs.take m')) ((append_small H2.out.small).mono (show K + (xs.take m').length + 2 ≤ K + 300 by omega)) (append_nums H2.out.nums file (xs.take m'))
    have ht4 : Touch (fun k => B ≤ k) w w4 := ((((HT0.out.trans HF2.out fun _ _ => id).mono fun _ _ => False.elim).trans (S := fun k => B ≤ k) HT3.out fun k _ e => H2.out.lo k (.inl e)).trans t4 fun k _ e => H2.out.lo k (.inr e))
    have H4 := Lib.hid h4; have HT4 := Lib.hid ht4; have HT34 := Lib.hid t4
    clear t4 d4 hlent4 HRA h4 ht4
    go_wp2_with fail
    refine HIN.out.mono ?_
    rintro e w5 ⟨rfl, t5⟩
    have HE5 := Lib.hid (show DoesEnd B w bd br K (.returned (.bool true)) w5 from by
      have hk5 : ∀ k, (Value.slice LB m' lc).ownBlock = some k → ¬ S k ∧ ¬ T k ∧ k < w2.heap.size ∧ B ≤ k := by
        intro k hk
        cases LB with
        | none => cases hk
        | some a =>
          have hak : a.block = k := by simpa [Value.ownBlock] using hk
          subst hak
          have h1 := HLB.out a rfl
          have h2 := HLN.out a rfl
          have h3 := HZ.out
          have h4 := HBB.out
          exact ⟨h1.1, h1.2.1, h1.2.2, by omega⟩
      refine ⟨rfl, HT4.out.trans t5 fun k _ e => (hk5 k e).2.2.2, _, _, _, _, H4.out.touch t5 fun k hk e => ?_⟩
      have h5 := hk5 k e
      rcases hk with (hk | hk) | (hk | hk)
      · exact h5.1 hk
      · omega
      · exact h5.2.1 hk
      · have := HT3.out.size; omega)
    clear t5 HIN
    go_wp2_with fail
    go_ret
    exact HE5.out
  · have KD := Lib.hid (show ∀ W, Fresh W0 W → Calls Try.prog 14 #[.pointer (some ⟨bd, 0, none⟩), .int .i64 file] W fun e w' => e = .returned (.int .i64 (d.why file)) ∧ Touch S W w' ∧ Disk w' (more S W w') bd (d.sync file) from fun W hW => disk_sync (H0.out.fresh hW).disk H0.out.small (by omega) hfile)
    have KR := Lib.hid (show ∀ W W2, Fresh W0 W → Touch S W W2 → Calls Try.prog 56 #[.pointer (some ⟨br, 0, none⟩), .int .i64 file] W2 fun e w' => e = .returned (.int .i64 (d.why file)) ∧ Touch T W2 w' ∧ RDisk w' (more T W2 w') br (r.sync file) from fun W W2 hW h2 => by
      have := rdisk_sync ((H0.out.fresh hW).ref1 h2) HFIT.out (by omega) file
      rw [← H0.out.sim.why HCNT.out file] at this
      exact this)
    have KE := Lib.hid (show ∀ W W1 W2, Fresh W0 W → Touch S W W1 → Disk W1 (more S W W1) bd (d.sync file) → Touch T W1 W2 → RDisk W2 (more T W1 W2) br (r.sync file) → DoesEnd B w bd br K (.returned (.bool true)) W2 from fun W W1 W2 hW t1 d1 t2 r2 => DoesEnd.mk_ (H0.out.fresh hW) (HT0.out.trans hW fun _ _ => id) HBB.out t1 d1 t2 r2 (H0.out.sim.sync HCNT.out file) ((sync_small H0.out.small).mono (by omega)) (sync_nums H0.out.nums file))
    have hfd : Fresh W0 W0.drew := (Touch.refl (fun _ => False) W0).drew
    have k0 : W0.drew.cell? ⟨w.heap.size, 1, none⟩ = some (.int .i64 file) := c1
    go_upto_region 14 with fail
    go_region_held (fun w' => w'.cell? ⟨w.heap.size, 1, none⟩ = some (.int .i64 file))
      (first | exact k0 | exact k3 | exact k4)
      (first
        | (go_at_call 14; refine (KD.out _ hfd).mono ?_; rintro e w3 ⟨rfl, t3, d3⟩; have k3 := (HC.out S w3 ((Touch.mono (S' := S) hfd fun _ _ => False.elim).trans t3 fun _ _ e => e) fun _ e => .inl e).1)
        | (go_at_call 56; refine (KR.out _ _ hfd t3).mono ?_; rintro e w4 ⟨rfl, t4, d4⟩; have k4 := (HC.out (fun k => S k ∨ T k) w4 (((Touch.mono (S' := fun k => S k ∨ T k) hfd fun _ _ => False.elim).trans t3 fun _ _ e => .inl e).trans t4 fun _ _ e => .inr e) fun _ e => e.elim .inl fun e => .inr (.inl e)).1))
    have HE := Lib.hid (KE.out _ _ _ hfd t3 d3 t4 d4)
    clear t3 d3 t4 d4 k0 k3 k4
    go_wp2_with fail
    go_ret
    exact HE.out
  · have KD := Lib.hid (show ∀ W, Fresh W0 W → Calls Try.prog 57 #[.pointer (some ⟨bd, 0, none⟩), .int .i64 file] W fun e w' => e = .returned (.int .i64 (d.why file)) ∧ Touch S W w' ∧ Disk w' (more S W w') bd (d.delete file) from fun W hW => disk_delete (H0.out.fresh hW).disk H0.out.small (by omega) hfile)
    have KR := Lib.hid (show ∀ W W2, Fresh W0 W → Touch S W W2 → Calls Try.prog 58 #[.pointer (some ⟨br, 0, none⟩), .int .i64 file] W2 fun e w' => e = .returned (.int .i64 (d.why file)) ∧ Touch T W2 w' ∧ RDisk w' (more T W2 w') br (r.delete file) from fun W W2 hW h2 => by
      have := rdisk_delete ((H0.out.fresh hW).ref1 h2) HFIT.out (by omega) file
      rw [← H0.out.sim.why HCNT.out file] at this
      exact this)
    have KE := Lib.hid (show ∀ W W1 W2, Fresh W0 W → Touch S W W1 → Disk W1 (more S W W1) bd (d.delete file) → Touch T W1 W2 → RDisk W2 (more T W1 W2) br (r.delete file) → DoesEnd B w bd br K (.returned (.bool true)) W2 from fun W W1 W2 hW t1 d1 t2 r2 => DoesEnd.mk_ (H0.out.fresh hW) (HT0.out.trans hW fun _ _ => id) HBB.out t1 d1 t2 r2 (H0.out.sim.delete HCNT.out file) ((delete_small H0.out.small).mono (by omega)) (delete_nums H0.out.nums file))
    have hfd : Fresh W0 W0.drew := (Touch.refl (fun _ => False) W0).drew
    have k0 : W0.drew.cell? ⟨w.heap.size, 1, none⟩ = some (.int .i64 file) := c1
    go_upto_region 16 with fail
    go_region_held (fun w' => w'.cell? ⟨w.heap.size, 1, none⟩ = some (.int .i64 file))
      (first | exact k0 | exact k3 | exact k4)
      (first
        | (go_at_call 57; refine (KD.out _ hfd).mono ?_; rintro e w3 ⟨rfl, t3, d3⟩; have k3 := (HC.out S w3 ((Touch.mono (S' := S) hfd fun _ _ => False.elim).trans t3 fun _ _ e => e) fun _ e => .inl e).1)
        | (go_at_call 58; refine (KR.out _ _ hfd t3).mono ?_; rintro e w4 ⟨rfl, t4, d4⟩; have k4 := (HC.out (fun k => S k ∨ T k) w4 (((Touch.mono (S' := fun k => S k ∨ T k) hfd fun _ _ => False.elim).trans t3 fun _ _ e => .inl e).trans t4 fun _ _ e => .inr e) fun _ e => e.elim .inl fun e => .inr (.inl e)).1))
    have HE := Lib.hid (KE.out _ _ _ hfd t3 d3 t4 d4)
    clear t3 d3 t4 d4 k0 k3 k4
    go_wp2_with fail
    go_ret
    exact HE.out
  · have HD := Lib.hid (disk_fail H0.out.disk H0.out.small (by omega) kd hn63)
    have h0b := H0.out
    go_wp2_with fail
    refine HD.out.mono ?_
    rintro e w3 ⟨rfl, t3, d3⟩
    obtain ⟨_, c2b, c3b, _⟩ := HC.out S w3 t3 fun _ e => .inl e
    have HR := Lib.hid (rdisk_fail (h0b.ref1 t3) HFIT.out (by omega) n kd)
    have HT3 := Lib.hid t3; have HD3 := Lib.hid d3
    clear t3 d3 HD h0b
    go_wp2_with fail
    refine HR.out.mono ?_
    rintro e w4 ⟨rfl, t4, d4⟩
    have HE := Lib.hid (DoesEnd.mk_ (w := w) (K := K) H0.out HT0.out HBB.out HT3.out HD3.out t4 d4 (H0.out.sim.fail n kd) ((fail_small H0.out.small).mono (by omega)) (fail_nums H0.out.nums kd hn63))
    clear t4 d4 HR
    go_wp2_with fail
    go_ret
    exact HE.out
  · have HD := Lib.hid (disk_stop H0.out.disk H0.out.small (by omega) hn63)
    have h0b := H0.out
    go_wp2_with fail
    refine HD.out.mono ?_
    rintro e w3 ⟨rfl, t3, d3⟩
    obtain ⟨_, c2b, c3b, _⟩ := HC.out S w3 t3 fun _ e => .inl e
    have HR := Lib.hid (rdisk_stop (h0b.ref1 t3) n)
    have HT3 := Lib.hid t3; have HD3 := Lib.hid d3
    clear t3 d3 HD h0b
    go_wp2_with fail
    refine HR.out.mono ?_
    rintro e w4 ⟨rfl, t4, d4⟩
    have HE := Lib.hid (DoesEnd.mk_ (w := w) (K := K) H0.out HT0.out HBB.out HT3.out HD3.out t4 d4 (H0.out.sim.stop n) ((halt_small H0.out.small).mono (by omega)) (halt_nums H0.out.nums hn63))
    clear t4 d4 HR
    go_wp2_with fail
    go_ret
    exact HE.out
  · have hsrc : ∀ o, Src Try.prog 1 23 (.slice C nc cc) nc (intsV cuts) (W0.alloc o) := fun o => (HO.out.cs.touch ((Touch.refl (fun _ => False) W0).alloc o) fun _ _ _ => id).src Try.underlying23
    have KSRC := Lib.hid hsrc
    have c5a : ∀ o, (W0.alloc o).cell? ⟨w.heap.size, 5, none⟩ = some (.slice C nc cc) := fun o => (HC.out _ _ ((Touch.refl (fun _ => False) W0).alloc o) fun _ => False.elim).2.2.2
    clear hsrc
    go_wp2_with (at_builtin; refine wpList_own_src _ rfl _ _ 23 23 rfl 3 (.int .i64 0) 1 8 Try.info3 Try.underlying23 rfl (.slice (some ⟨W0.heap.size, 0, none⟩) 0 0) 0 [] rfl (Own.lit0 _ _ _) (by simp) (.slice C nc cc) nc _ rfl (KSRC.out _) (by unfold maxLen; omega) (by omega) ?_; intro B1 b1c w1 o1 g1 bb1; simp only [Nat.zero_add, List.nil_append] at o1 g1 bb1 ⊢; have HO1 := Lib.hid o1; have HG1 := Lib.hid g1; have HB1 := Lib.hid bb1; have c5b := (HC.out _ w1 (((Touch.refl (fun _ => False) W0).alloc _).grown g1 fun k hk => .inl (by simp only [Value.ownBlock, Option.some.injEq] at hk; omega)) fun _ => False.elim).2.2.2; clear o1 g1 bb1)
    have ht1 : Fresh W0 w1 := ((Touch.refl (fun _ => False) W0).alloc _).grown HG1.out fun k hk => .inl (by simp only [Value.ownBlock, Option.some.injEq] at hk; omega)
    have hn1 : ∀ k, (Value.slice B1 nc b1c).ownBlock = some k → W0.heap.size ≤ k := by
      intro k hk
      rcases HB1.out with h | h
      · rw [hk] at h; simp only [Value.ownBlock, Option.some.injEq] at h; omega
      · rw [hk, alloc_size] at h; injection h with h; rw [h]; exact Nat.le_succ _
    have hB1 : ∀ a, B1 = some a → ¬ S a.block ∧ ¬ T a.block := by
      intro a ha
      have h1 := hn1 a.block (by rw [ha]; rfl)
      have h2 := HZ.out
      exact ⟨fun e => by have := HLT.out _ (.inl e); omega, fun e => by have := HLT.out _ (.inr e); omega⟩
    have h1 := H0.out.fresh ht1
    have HCR := Lib.hid (disk_crash h1.disk h1.small (by omega) HO1.out.ints HO.out.rng fun a ha _ => (hB1 a ha).1)
    have H1 := Lib.hid h1; have HT1 := Lib.hid ht1; have HBN := Lib.hid hB1
    clear ht1 hn1 hB1 h1 HG1 HB1 KSRC c5a
    go_wp2_with fail
    refine HCR.out.mono ?_
    rintro e w3 ⟨rfl, t3, d3⟩
    have t03 := (Touch.mono (S' := S) HT1.out fun _ _ => False.elim).trans t3 fun _ _ e => e
    obtain ⟨_, _, _, c5c⟩ := HC.out S w3 t03 fun _ e => .inl e
    have hne : ∀ f ∈ r.fs, f.raw ≠ [] := fun f hf => ((H0.out.disk.good).1 f (by rw [H0.out.sim.fs]; exact hf)).2.1
    have hC3 : ∀ a, C = some a → 0 < nc → ¬ S a.block ∧ ¬ T a.block := fun a ha hp => by
      have h1 := HO.out.csB a ha hp
      exact ⟨fun e => by have := H0.out.lo _ (.inl e); omega, fun e => by have := H0.out.lo _ (.inr e); omega⟩
    have hi3 : IsInts w3 C nc cc cuts := HO.out.cs.touch t03 fun a ha hp => (hC3 a ha hp).1
    have HRC := Lib.hid (rdisk_crash (H1.out.ref1 t3) HFIT.out (by omega) hne hi3 HO.out.rng)
    have HI3 := Lib.hid hi3; have HC3 := Lib.hid hC3; have HT3 := Lib.hid t3; have HD3 := Lib.hid d3
    have HO3 := Lib.hid (show IsInts w3 B1 nc b1c cuts from HO1.out.ints.touch t3 fun a ha _ => (HBN.out a ha).1)
    clear hi3 hC3 t3 d3 hne HCR t03
    go_wp2_with fail
    refine HRC.out.mono ?_
    rintro e w4 ⟨rfl, t4, d4⟩
    have t04 : Touch (fun k => S k ∨ T k) W0 w4 := ((Touch.mono (S' := fun k => S k ∨ T k) HT1.out fun _ _ => False.elim).trans HT3.out fun _ _ e => .inl e).trans t4 fun _ _ e => .inr e
    obtain ⟨_, _, _, c5d⟩ := HC.out (fun k => S k ∨ T k) w4 t04 fun _ e => e.elim .inl fun e => .inr (.inl e)
    have h4 := H1.out.both (by have := HBB.out; have := HZ.out; have := HT1.out.size; omega) HT3.out HD3.out t4 d4 (H0.out.sim.crash cuts) ((crash_small H0.out.small).mono (show K ≤ K + 300 by omega)) (crash_nums r cuts)
    have HTT := Lib.hid (show Touch (fun k => B ≤ k) w w4 from (HT0.out.mono fun _ _ => False.elim).trans t04 fun k _ e => H0.out.lo k e)
    have HIN := Lib.hid (ints_any w4 B1 C nc b1c cc cuts (HO3.out.touch t4 fun a ha _ => (HBN.out a ha).2) (HI3.out.touch t4 fun a ha hp => (HC3.out a ha hp).2))
    have H4 := Lib.hid h4
    clear t4 d4 h4 t04 HRC
    go_wp2_with fail
    refine HIN.out.mono ?_
    rintro e w5 ⟨rfl, q, rfl⟩
    have HS5 := Lib.hid (same_any (H4.out.fresh ((Touch.refl (fun _ => False) w4).drewN q)) (by omega))
    clear HIN
    go_wp2_with fail
    refine HS5.out.mono ?_
    rintro e w6 ⟨rfl, t6⟩
    have HE := Lib.hid (show DoesEnd B w bd br K (.returned (.bool true)) w6 from ⟨rfl, (HTT.out.drewN q).trans t6 fun _ _ => False.elim, _, _, _, _, H4.out.fresh (((Touch.refl (fun _ => False) w4).drewN q).trans t6 fun _ _ => id)⟩)
    clear t6 HS5
    go_wp2_with fail
    go_ret
    exact HE.out
end Go.Proofs.Ythmjnlkdoepmjaa
