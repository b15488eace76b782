/- The contracts of Append, Sync, Fail, Stop and Files of the document's disk. Conditions stand with each. -/
import Derived.Test.YthmjnlkdoepmjaaRadd
import Derived.Deep.RegionWith
namespace Go.Proofs.Ythmjnlkdoepmjaa
open Go.RowKit

structure Rk.fit (r : Rk) (K : Nat) : Prop where
  raw : ∀ f ∈ r.fs, f.raw.length ≤ K
  many : r.fs.length ≤ K
  faults : r.faults.length ≤ K
  count : r.count ≤ K
  rise : r.fs.Pairwise fun a b => a.n < b.n
  le : ∀ f ∈ r.fs, f.kept ≤ f.raw.length
  nums : r.nums
section
variable {w w1 w' : World} {bd : Nat} {lv fv lv1 fv1 : Value} {fs fs1 : List RF} {r r' : Rk} {res e : Ending} {K : Nat}
theorem RDK.raws (h : RDK w bd lv fv fs r) (hk : r.fit K) : (∀ f ∈ fs, f.raw.length ≤ K) ∧ fs.length ≤ K :=
  ⟨fun f hf => hk.raw f.fl (by rw [h.fls]; exact List.mem_map_of_mem hf), by rw [← h.len]; exact hk.many⟩
theorem RBeginEnd.step {file : Int} (h : RBeginEnd w bd lv fs r file e w') : RStep w bd lv fv fs r.next (.returned (.tuple #[.int .i64 (r.why file), .bool r.half])) e w' := by
  obtain ⟨he, ht, fv', hd, hf⟩ := h
  refine ⟨he, ht.mono fun k _ e => .inl e, lv, fv', fs, hd, ?_⟩
  rintro k (e | e | e | e)
  · exact .inl (.inl e)
  · exact .inl (.inr (.inl e))
  · exact .inr (hf k e)
  · exact .inl (.inr (.inr (.inr e)))
theorem RStep.back {res' : Ending} (h : RStep w bd lv fv fs r' res e w') : RStep w bd lv fv fs r' res' res' w' := ⟨rfl, h.2⟩
theorem next_nums (h : r.nums) : r.next.nums := by
  refine ⟨fun f hf => ?_, ?_, ?_⟩
  · obtain ⟨g, hg, hx⟩ := List.mem_filterMap.1 (show f ∈ r.faults.filterMap _ from hf)
    split at hx
    · injection hx with hx
      subst hx
      have := h.flt g hg
      dsimp only
      omega
    · cases hx
  · show -1 ≤ if 0 < r.stop then r.stop - 1 else r.stop
    have := h.lo
    split <;> omega
  · show (if 0 < r.stop then r.stop - 1 else r.stop) ≤ 9223372036854775807
    have := h.hi
    split <;> omega
end

set_option maxRecDepth 20000 in
set_option maxHeartbeats 4000000 in
theorem rappend_any (w : World) (bd : Nat) (lv fv : Value) (fs : List RF) (r : Rk) (n : Int) (A : Option Addr) (m c : Nat) (xs : List UInt8) {K : Nat} (h : RDK w bd lv fv fs r) (hk : r.fit K) (hK : K ≤ 1000000000) (hx : Bs w A m c xs) (hxb : ∀ a, A = some a → 0 < m → ¬ rfoot bd lv fv fs a.block ∧ a.block < w.heap.size) (hxl : xs.length ≤ 1000000000) :
    Calls Try.prog 55 #[.pointer (some ⟨bd, 0, none⟩), .int .i64 n, .slice A m c] w (RStep w bd lv fv fs (r.append n xs) (.returned (.int .i64 (r.why n)))) := by
  obtain rfl := hx.1
  obtain ⟨hr1, hr2⟩ := h.raws hk
  have HBG := Lib.hid (rbegin_any w bd lv fv fs r n h (by have := hk.count; omega) (by have := hk.faults; omega) hk.nums)
  have hXH : ∀ w1, Touch (rfoot bd lv fv fs) w w1 → Bs w1 A xs.length c xs := fun w1 ht => hx.touch ht fun a ha h0 => (hxb a ha h0).1
  have hAd : ∀ (w1 : World) (lv1 fv1 : Value) (r1 : Rk) (ys : List UInt8) (m1 : Nat), RDK w1 bd lv1 fv1 fs r1 → Touch (rfoot bd lv fv fs) w w1 → (∀ k, rfoot bd lv1 fv1 fs k → rfoot bd lv fv fs k ∨ w.heap.size ≤ k) → Bs w1 A m1 c ys → ys.length ≤ 1000000000 → (m1 ≤ xs.length) →
      Calls Try.prog 76 #[.pointer (some ⟨bd, 0, none⟩), .int .i64 n, .slice A m1 c] w1 (RStep w bd lv fv fs { r1 with fs := Fl.add n ys r1.fs } (.returned (.tuple #[]))) := by
    intro w1 lv1 fv1 r1 ys m1 hd ht hf hb hl hm1
    refine (radd_any w1 bd lv1 fv1 fs r1 n A m1 c ys hd (by omega) hb (fun a ha h0 => ⟨fun e => ?_, ?_⟩) (fun f hf => by have := hr1 f hf; omega) hl).mono fun e w' q => q.after ht hf
    · have := hxb a ha (by omega)
      rcases hf _ e with h | h
      · exact this.1 h
      · omega
    · have := (hxb a ha (by omega)).2
      have := ht.size
      omega
  have hwy : r.why n = if r.stop = 0 then 4 else if strk r.faults = true then 3 else if n < 0 then 1 else 0 := rfl
  have happ : r.append n xs = if r.why n = 0 then { r.next with fs := Fl.add n xs r.fs } else if r.half = true ∧ 0 ≤ n then { r.next with fs := Fl.add n (xs.take (xs.length / 2)) r.fs } else r.next := rfl
  have hhw : r.half = true → r.why n = 3 := by
    intro hh
    by_cases h0 : r.stop = 0
    · rw [r.half_dead h0] at hh; cases hh
    · rw [r.half_eq h0] at hh
      rw [hwy, if_neg h0]
      simp only [Bool.and_eq_true] at hh
      rw [if_pos hh.1]
  have HXH := Lib.hid hXH; have HAD := Lib.hid hAd; have HHW := Lib.hid hhw; have HAPP := Lib.hid happ
  have hxc := hx.2.1
  have hxm := hx.2.2.1
  unfold maxLen at hxm
  have HWY := Lib.hid hwy
  clear hXH hAd hhw happ hwy hx hxb h hr1
  go_enter Try.func55, Try.ntmps55
  go_wp2_with fail
  refine HBG.out.mono ?_
  rintro e w1 hbe
  obtain ⟨he, ht1, lv1, fv1, fs1, hd1, hf1⟩ := (hbe.step (fv := fv))
  obtain ⟨_, _, fv2, hd2, hf2⟩ := hbe
  subst he
  have HS := Lib.hid (show RStep w bd lv fv fs r.next (.returned (.int .i64 (r.why n))) (.returned (.int .i64 (r.why n))) w1 from ⟨rfl, ht1, lv1, fv1, fs1, hd1, hf1⟩)
  have HT1 := Lib.hid ht1
  have HD2 := Lib.hid hd2
  have HF2 := Lib.hid (show ∀ k, rfoot bd lv fv2 fs k → rfoot bd lv fv fs k ∨ w.heap.size ≤ k from by
    rintro k (e | e | e | e)
    · exact .inl (.inl e)
    · exact .inl (.inr (.inl e))
    · exact .inr (hf2 k e)
    · exact .inl (.inr (.inr (.inr e))))
  clear ht1 hd1 hf1 hd2 hf2 HBG
  by_cases hhalf : r.half = true
  · have hw3 := HHW.out hhalf
    have HW := Lib.hid hw3
    rw [hw3] at HS HAPP ⊢
    have h30 : ((3 : Int) == 0) = false := rfl
    by_cases hn0 : 0 ≤ n
    · rw [hhalf]
      have HR := Lib.hid (show r.append n xs = { r.next with fs := Fl.add n (xs.take (xs.length / 2)) r.fs } by rw [HAPP.out, if_neg (by decide), if_pos ⟨hhalf, hn0⟩])
      have HAD2 := Lib.hid (HAD.out w1 lv fv2 r.next (xs.take (xs.length / 2)) (xs.length / 2) HD2.out HT1.out HF2.out ((HXH.out w1 HT1.out).take (by omega)) (by rw [List.length_take]; omega) (by omega))
      clear HAPP HS hhalf HAD HXH HHW
      go_wp2_with fail
      refine HAD2.out.mono ?_
      rintro e w2 ⟨rfl, hs⟩
      have HS := Lib.hid hs
      clear hs HAD2
      go_wp2_with fail
      go_ret
      rw [HR.out, HW.out]
      exact ⟨rfl, HS.out⟩
    · rw [hhalf]
      have HR := Lib.hid (show r.append n xs = r.next by rw [HAPP.out, if_neg (by decide), if_neg (fun h => hn0 h.2)])
      clear HAPP hhalf HAD HXH HHW
      go_wp2_with fail
      go_ret
      rw [HR.out, HW.out]
      exact HS.out
  · have hhf : r.half = false := by simpa using hhalf
    rw [hhf]
    by_cases hw0 : r.why n = 0
    · have HR := Lib.hid (show r.append n xs = { r.next with fs := Fl.add n xs r.fs } by rw [HAPP.out, if_pos hw0])
      have HAD2 := Lib.hid (HAD.out w1 lv fv2 r.next xs xs.length HD2.out HT1.out HF2.out (HXH.out w1 HT1.out) hxl (Nat.le_refl _))
      have HW := Lib.hid hw0
      rw [hw0]
      clear HAPP HS hhalf HAD HXH HHW hhf hw0
      go_wp2_with fail
      refine HAD2.out.mono ?_
      rintro e w2 ⟨rfl, hs⟩
      have HS := Lib.hid hs
      clear hs HAD2
      go_wp2_with fail
      go_ret
      rw [HR.out, HW.out]
      exact ⟨rfl, HS.out⟩
    · have HR := Lib.hid (show r.append n xs = r.next by rw [HAPP.out, if_neg hw0, if_neg (fun h => hhalf h.1)])
      generalize r.why n = y at *
      have hy : (y == 0) = false := by simpa using hw0
      clear HAPP hhalf HAD HXH HHW hhf HWY
      go_wp2_with fail
      go_ret
      rw [HR.out]
      exact HS.out

set_option maxRecDepth 20000 in
set_option maxHeartbeats 4000000 in
theorem rstop_any (w : World) (bd : Nat) (lv fv : Value) (fs : List RF) (r : Rk) (after : Int) (h : RDK w bd lv fv fs r) :
    Calls Try.prog 60 #[.pointer (some ⟨bd, 0, none⟩), .int .i64 after] w (RStep w bd lv fv fs (r.halt after) (.returned (.tuple #[]))) := by
  have hf2 : w.frozen? ⟨bd, 2, none⟩ = false := h.blk.frozen 2
  have hc2 : w.cell? ⟨bd, 2, none⟩ = some (.int .i64 r.stop) := h.blk.cell 2
  have hS : ∀ s, s = max after 0 → RStep w bd lv fv fs (r.halt after) (.returned (.tuple #[])) (.returned (.tuple #[])) (w.setCell ⟨bd, 2, none⟩ (.int .i64 s)) := by
    rintro s rfl
    have hT : Touch (fun k => k = bd) w (w.setCell ⟨bd, 2, none⟩ (.int .i64 (max after 0))) := (Touch.refl (fun k => k = bd) w).setCell (p := ⟨bd, 2, none⟩) (.inr rfl) _
    refine ⟨rfl, hT.mono fun k _ e => .inl e, lv, fv, fs, ⟨h.fls, h.blk.set_ 2 _, ?_, ?_, ?_⟩, fun _ h => .inl h⟩
    · exact h.row.touch hT fun k hk e => h.row.ne_blk h.blk (by decide) (by rw [hk, e])
    · exact h.flt.touch hT fun k hk e => h.flt.ne_blk h.blk (by decide) (by rw [hk, e])
    · exact fun f hf => (h.file f hf).touch hT fun k hk e => (h.file f hf).ne_blk h.blk (by decide) (by rw [hk, e])
  by_cases h0 : after < 0
  · have HS := Lib.hid (hS 0 (by omega))
    clear hS h
    go_enter Try.func60, Try.ntmps60
    go_wp2_with fail
    go_end0
    exact HS.out
  · have HS := Lib.hid (hS after (by omega))
    clear hS h
    go_enter Try.func60, Try.ntmps60
    go_wp2_with fail
    go_end0
    exact HS.out

set_option maxRecDepth 20000 in
set_option maxHeartbeats 4000000 in
theorem rfail_any (w : World) (bd : Nat) (lv fv : Value) (fs : List RF) (r : Rk) (after kind : Int) (h : RDK w bd lv fv fs r) (hl : r.faults.length ≤ 1000000000) :
    Calls Try.prog 59 #[.pointer (some ⟨bd, 0, none⟩), .int .i64 after, .int .i64 kind] w (RStep w bd lv fv fs (r.fail after kind) (.returned (.tuple #[]))) := by
  obtain ⟨A, c, rfl, hle, hcm, hA⟩ := h.flt.form
  have hc1 : w.cell? ⟨bd, 1, none⟩ = some (.slice A r.faults.length c) := h.blk.cell 1
  unfold maxLen at hcm
  have hS : ∀ s, s = max after 0 → ∀ (w1 : World) (B : Option Addr) (c1 : Nat), Own w1 120 2 (.slice B (r.faults.length + 1) c1) (r.faults.length + 1) (fltCells r.faults ++ [.int .i64 s, .int .i64 kind]) → (w.alloc (.cells #[.int .i64 s, .int .i64 kind] 120)).grownBy w1 (Value.slice A r.faults.length c).ownBlock →
      ((Value.slice B (r.faults.length + 1) c1).ownBlock = (Value.slice A r.faults.length c).ownBlock ∨ (Value.slice B (r.faults.length + 1) c1).ownBlock = some (w.alloc (.cells #[.int .i64 s, .int .i64 kind] 120)).heap.size) →
      RStep w bd lv (.slice A r.faults.length c) fs (r.fail after kind) (.returned (.tuple #[])) (.returned (.tuple #[])) (w1.setCell ⟨bd, 1, none⟩ (.slice B (r.faults.length + 1) c1)) ∧ w1.frozen? ⟨bd, 1, none⟩ = false ∧ w1.cell? ⟨bd, 1, none⟩ = some (.slice A r.faults.length c) := by
    rintro s rfl w1 B c1 ho hg hb
    have hne : (Value.slice A r.faults.length c).ownBlock ≠ some bd := h.flt.ne_blk h.blk (by decide)
    have hT1 : Touch (fun k => k = bd ∨ (Value.slice A r.faults.length c).ownBlock = some k) w w1 := ((Touch.refl _ w).alloc _).grown hg fun k hk => .inr (.inr hk)
    have hB1 := (h.blk.alloc (.cells #[.int .i64 (max after 0), .int .i64 kind] 120)).grown hg fun e => hne e.symm
    have hT2 := hT1.setCell (p := ⟨bd, 1, none⟩) (.inr (.inl rfl)) (.slice B (r.faults.length + 1) c1)
    refine ⟨⟨rfl, hT2.mono fun k _ hk => hk.elim .inl fun e => .inr (.inr (.inl e)), lv, .slice B (r.faults.length + 1) c1, fs, ⟨h.fls, hB1.set_ 1 _, ?_, ?_, ?_⟩, ?_⟩, hB1.frozen 1, hB1.cell 1⟩
    · refine h.row.touch hT2 fun k hk e => ?_
      rcases e with e | e
      · exact h.row.ne_blk h.blk (by decide) (by rw [hk, e])
      · rcases h.flt.2 with ⟨h1, _⟩ | ⟨g, cap, cur, h1, hg2, _⟩
        · rw [h1] at e; cases e
        · rw [h1] at e
          simp only [Value.ownBlock, Option.some.injEq] at e
          subst e
          exact h.row.ne_blk (t := 120) (cs := cur) hg2 (by decide) hk
    · show Own _ _ 2 _ (r.faults ++ [(max after 0, kind)]).length (fltCells (r.faults ++ [(max after 0, kind)]))
      rw [List.length_append, fltCells_append]
      exact ho.far (p := ⟨bd, 1, none⟩) (ho.ne_blk hB1 (by decide)) _
    · intro f hf
      refine (h.file f hf).touch hT2 fun k hk e => ?_
      rcases e with e | e
      · exact (h.file f hf).ne_blk h.blk (by decide) (by rw [hk, e])
      · rcases h.flt.2 with ⟨h1, _⟩ | ⟨g, cap, cur, h1, hg2, _⟩
        · rw [h1] at e; cases e
        · rw [h1] at e
          simp only [Value.ownBlock, Option.some.injEq] at e
          subst e
          exact (h.file f hf).ne_blk (t := 120) (cs := cur) hg2 (by decide) hk
    · rintro k (e | e | e | e)
      · exact .inl (.inl e)
      · exact .inl (.inr (.inl e))
      · rcases hb with h1 | h1
        · exact .inl (.inr (.inr (.inl (h1.symm.trans e))))
        · rw [e, alloc_size] at h1
          injection h1 with h1
          exact .inr (by omega)
      · exact .inl (.inr (.inr (.inr e)))
  have HFLT := Lib.hid h.flt
  by_cases h0 : after < 0
  · have HS := Lib.hid (hS 0 (by omega))
    clear hS h
    go_enter Try.func59, Try.ntmps59
    go_wp2_with (at_builtin; refine wpList_own_src _ rfl _ _ 98 98 rfl 120 (.agg #[.int .i64 0, .int .i64 0]) 2 16 Try.info120 Try.underlying98 rfl (.slice A r.faults.length c) _ _ rfl (HFLT.out.alloc _) (fltCells_one _) (.slice (some ⟨w.heap.size, 0, none⟩) 1 1) 1 [.int .i64 0, .int .i64 kind] rfl (by exact rflt_new w 0 kind) (by unfold maxLen; omega) (by omega) ?_; intro B1 c1 w1 o1 g1 b1; obtain ⟨s1, s2, s3⟩ := HS.out w1 B1 c1 o1 g1 b1; have S1 := Lib.hid s1; clear o1 g1 b1 s1)
    go_end0
    exact S1.out
  · have HS := Lib.hid (hS after (by omega))
    clear hS h
    go_enter Try.func59, Try.ntmps59
    go_wp2_with (at_builtin; refine wpList_own_src _ rfl _ _ 98 98 rfl 120 (.agg #[.int .i64 0, .int .i64 0]) 2 16 Try.info120 Try.underlying98 rfl (.slice A r.faults.length c) _ _ rfl (HFLT.out.alloc _) (fltCells_one _) (.slice (some ⟨w.heap.size, 0, none⟩) 1 1) 1 [.int .i64 after, .int .i64 kind] rfl (by exact rflt_new w after kind) (by unfold maxLen; omega) (by omega) ?_; intro B1 c1 w1 o1 g1 b1; obtain ⟨s1, s2, s3⟩ := HS.out w1 B1 c1 o1 g1 b1; have S1 := Lib.hid s1; clear o1 g1 b1 s1)
    go_end0
    exact S1.out
end Go.Proofs.Ythmjnlkdoepmjaa
