/- The contract of the world's wakes: it answers true. No condition. -/
import Derived.Test.YthmjnlkdoepmjaaCalls
import Derived.Lib.SlBytesConst
namespace Go.Proofs.Ythmjnlkdoepmjaa
open Go.RowKit

theorem bytes_new (w : World) (xs : List UInt8) (cs : Array Value) (hcs : cs.toList = u8s xs) (hl : xs.length ≤ 1000) : Bs (w.alloc (.cells cs 5)) (some ⟨w.heap.size, 0, none⟩) xs.length xs.length xs := Row.bs (Row.lit xs cs hcs hl)
theorem bytes_marked (w : World) (xs : List UInt8) (cs : Array Value) (fr : Nat × Nat) (hcs : cs = (u8s xs).toArray) (hl : xs.length ≤ 1000) : Bs (w.alloc (.cells cs 5 fr)) (some ⟨w.heap.size, 0, none⟩) xs.length xs.length xs := by
  refine ⟨rfl, Nat.le_refl _, by unfold maxLen; omega, fun _ => ⟨w.heap.size, 0, rfl, fun j x hx => ?_⟩⟩
  have hh : (w.alloc (.cells cs 5 fr)).heap[w.heap.size]? = some (.cells cs 5 fr) := heap_alloc_new w _
  rw [cell_of_row _ _ _ _ _ _ hh, hcs, List.getElem?_toArray, Nat.zero_add, u8s_get, hx]
  rfl
theorem ints_new (w : World) (x : Int) : IsInts (w.alloc (.cells #[.int .i64 x] 3)) (some ⟨w.heap.size, 0, none⟩) 1 1 [x] :=
  ⟨rfl, Nat.le_refl _, by simp [maxLen], fun _ => ⟨w.heap.size, 0, rfl, fun j y hy => by
    cases j with
    | zero => simp at hy; subst hy; exact (Blk.new w 3 #[.int .i64 x]).cell 0
    | succ j => simp at hy⟩⟩
/-- a disk that the call has made since w0 -/
structure Mine (w0 w : World) (bd : Nat) (d : Dk) (S : Nat → Prop) : Prop where
  disk : Disk w S bd d
  new : ∀ k, S k → w0.heap.size ≤ k
  fresh : Fresh w0 w
theorem Mine.lt {w0 w : World} {bd : Nat} {d : Dk} {S : Nat → Prop} (h : Mine w0 w bd d S) : ∀ k, S k → k < w.heap.size := by
  obtain ⟨bm, fv, fs, h1, h2, h3⟩ := h.disk
  exact h3
theorem Mine.next {w0 w w' : World} {bd : Nat} {d d' : Dk} {S : Nat → Prop} (h : Mine w0 w bd d S) (ht : Touch S w w') (hd : Disk w' (more S w w') bd d') : Mine w0 w' bd d' (more S w w') :=
  ⟨hd, fun k hk => hk.elim (h.new k) fun e => Nat.le_trans h.fresh.size e.1, h.fresh.trans ht fun i hi hs => by have := h.new i hs; omega⟩
theorem Mine.free {w0 w w' : World} {bd : Nat} {d : Dk} {S : Nat → Prop} (h : Mine w0 w bd d S) (hf : Fresh w w') : Mine w0 w' bd d S :=
  ⟨h.disk.fresh hf, h.new, h.fresh.trans hf fun _ _ h => h⟩
theorem newDisk_mine (w : World) : Calls Try.prog 12 #[] w fun e w' => ∃ bd S, e = .returned (.pointer (some ⟨bd, 0, none⟩)) ∧ Mine w w' bd Dk.new S :=
  (newDisk_any w).mono fun _ _ ⟨hf, bd, he, hd⟩ => ⟨bd, _, he, hd, fun _ hk => hk.1, hf⟩

def wk1 : Dk := Dk.new.append 1 [97, 98]
def wk2 : Dk := wk1.sync 1
def wk3 : Dk := wk2.append 1 [99, 100]
def wk4 : Dk := wk3.crash [1]
theorem wk_why : Dk.new.why 1 = 0 ∧ wk1.why 1 = 0 ∧ wk2.why 1 = 0 := by decide
theorem wk_end : wk4.read 1 = [97, 98, 99] ∧ wk4.kept 1 = 3 ∧ wk4.ops = 3 := by decide
theorem wk_small : wk1.small 4 ∧ wk2.small 5 ∧ wk3.small 9 ∧ wk4.small 9 := by
  have h1 : wk1.small (0 + [(97 : UInt8), 98].length + 2) := append_small new_small
  have h2 : wk2.small 5 := sync_small h1
  have h3 : wk3.small 9 := append_small h2
  exact ⟨h1, h2, h3, crash_small h3⟩

set_option maxRecDepth 20000 in
set_option maxHeartbeats 4000000 in
theorem wakes_any (w : World) : Calls Try.prog 18 #[] w fun e w' => e = .returned (.bool true) ∧ Fresh w w' := by
  have kc := fun (w : World) (C : Array Value) (n c : Nat) => Lib.run_convert_bytes_const (P := Try.prog) w 22 5 C n c Try.underlying22 Try.underlying5
  have one : (Lit.int .i64 1).wf = true := by decide
  go_enter Try.func18, Try.ntmps18
  go_wp2_with fail
  refine (newDisk_mine w).mono ?_
  rintro e w1 ⟨bd, S1, rfl, hd1⟩
  have HD1 := Lib.hid hd1
  have HC1 := Lib.hid (disk_append (hd1.free ((Touch.refl _ w1).alloc (.cells #[.int .u8 97, .int .u8 98] 5 (2, 3)))).disk new_small (by omega) one (bytes_marked w1 [97, 98] #[.int .u8 97, .int .u8 98] (2, 3) rfl (by decide)) (fun a ha _ => by injection ha with ha; subst ha; exact ⟨fun hs => Nat.lt_irrefl _ (hd1.lt _ hs), by simp⟩) (by decide))
  clear hd1
  go_wp2_with fail
  refine HC1.out.mono ?_
  rintro e w2 ⟨rfl, ht2, hd2⟩
  rw [wk_why.1]
  have hm2 := (HD1.out.free ((Touch.refl _ w1).alloc (.cells #[.int .u8 97, .int .u8 98] 5 (2, 3)))).next ht2 hd2
  generalize more S1 (w1.alloc (.cells #[.int .u8 97, .int .u8 98] 5 (2, 3))) w2 = S2 at hm2
  have HC2 := Lib.hid (disk_sync hm2.disk (d := wk1) wk_small.1 (by omega) one)
  have HM2 := Lib.hid hm2
  clear ht2 hd2 hm2 HC1
  go_wp2_with fail
  refine HC2.out.mono ?_
  rintro e w3 ⟨rfl, ht3, hd3⟩
  rw [wk_why.2.1]
  have hm3 := HM2.out.next ht3 hd3
  generalize more S2 w2 w3 = S3 at hm3
  have HC3 := Lib.hid (disk_append (hm3.free ((Touch.refl _ w3).alloc (.cells #[.int .u8 99, .int .u8 100] 5 (2, 3)))).disk (d := wk2) wk_small.2.1 (by omega) one (bytes_marked w3 [99, 100] #[.int .u8 99, .int .u8 100] (2, 3) rfl (by decide)) (fun a ha _ => by injection ha with ha; subst ha; exact ⟨fun hs => Nat.lt_irrefl _ (hm3.lt _ hs), by simp⟩) (by decide))
  have HM3 := Lib.hid hm3
  clear ht3 hd3 hm3 HC2
  go_wp2_with fail
  refine HC3.out.mono ?_
  rintro e w4 ⟨rfl, ht4, hd4⟩
  rw [wk_why.2.2]
  have hm4 := (HM3.out.free ((Touch.refl _ w3).alloc (.cells #[.int .u8 99, .int .u8 100] 5 (2, 3)))).next ht4 hd4
  generalize more S3 (w3.alloc (.cells #[.int .u8 99, .int .u8 100] 5 (2, 3))) w4 = S4 at hm4
  have HC4 := Lib.hid (disk_crash (hm4.free ((Touch.refl _ w4).alloc (.cells #[.int .i64 1] 3))).disk (d := wk3) wk_small.2.2.1 (by omega) (ints_new w4 1) (by intro x hx; simp at hx; omega) (fun a ha _ => by injection ha with ha; subst ha; exact fun hs => Nat.lt_irrefl _ (hm4.lt _ hs)))
  have HM4 := Lib.hid hm4
  clear ht4 hd4 hm4 HC3
  go_wp2_with fail
  refine HC4.out.mono ?_
  rintro e w5 ⟨rfl, ht5, hd5⟩
  have hm5 := (HM4.out.free ((Touch.refl _ w4).alloc (.cells #[.int .i64 1] 3))).next ht5 hd5
  generalize more S4 (w4.alloc (.cells #[.int .i64 1] 3)) w5 = S5 at hm5
  have HC5 := Lib.hid (disk_read hm5.disk (d := wk4) wk_small.2.2.2 (by omega) one)
  have HM5 := Lib.hid hm5
  clear ht5 hd5 hm5 HC4
  go_wp2_with fail
  refine HC5.out.mono ?_
  rintro e w6 ⟨hf6, B, c, rfl, hr6, _⟩
  rw [wk_end.1] at hr6 ⊢
  have hcv : (convert 22 9 (.slice B 3 c)).run Try.prog w6 = .ok (.string ⟨[(97 : UInt8), 98, 99].toArray⟩) w6 := run_convert_Bs (P := Try.prog) 22 9 Try.underlying22 Try.underlying5 Try.underlying9 (Row.bs hr6)
  have HK := Lib.hid (disk_kept (HM5.out.free hf6).disk (d := wk4) one)
  have HO := Lib.hid (disk_ops (HM5.out.free hf6).disk (d := wk4))
  have HM6 := Lib.hid (HM5.out.free hf6)
  clear hr6 hf6 HC5
  go_wp2_with fail
  refine HK.out.mono ?_
  rintro e w7 ⟨rfl, rfl⟩
  rw [wk_end.2.1]
  go_wp2_with fail
  refine HO.out.mono ?_
  rintro e w8 ⟨rfl, rfl⟩
  rw [wk_end.2.2]
  go_wp2_with fail
  go_ret
  exact ⟨rfl, HM6.out.fresh⟩
end Go.Proofs.Ythmjnlkdoepmjaa
