/- The disk's Append and Sync. Conditions stand with each. -/
import Derived.Test.YthmjnlkdoepmjaaAdd
namespace Go.Proofs.Ythmjnlkdoepmjaa
open Go.RowKit

/-- one file turned, the others as they were -/
theorem DK.upd {w w' : World} {bd bm : Nat} {fv : Value} {fs : List FR} {d : Dk} (h : DK w bd bm fv fs d) {n : Int} {f : FR} (hf : f ∈ fs) (hfn : f.n = n) (F : FR → FR) (ht : Touch (fun k => k = f.g ∨ f.v.ownBlock = some k) w w') (hF : FileAt w' (F f)) (h1 : (F f).n = n) (h2 : (F f).g = f.g) (h3 : (F f).v.ownBlock = f.v.ownBlock) :
    DK w' bd bm fv (updR n F fs) { d with fs := (updR n F fs).map FR.fl } ∧ ∀ k, foot bd bm fv (updR n F fs) k → foot bd bm fv fs k := by
  have hne : ∀ f' ∈ fs, f'.n ≠ n → f'.g ≠ f.g ∧ f'.v.ownBlock ≠ f.v.ownBlock := fun f' hf' hn' => apart_ne h.apart f' hf' f hf (by rw [hfn]; exact hn')
  have hu : ∀ f' ∈ fs, f'.n = n → f' = f := fun f' hf' e => uniq h.apart f' hf' f hf (by rw [e, hfn])
  refine ⟨⟨rfl, ?_, ?_, ?_, ?_, ?_⟩, ?_⟩
  · exact h.blk.touch ht (by
      rintro (e | e)
      · exact h.blk.ne_ (h.file f hf).blk (by decide) e
      · exact Own.ne_blk (h.file f hf).row h.blk (by decide) e)
  · have : (updR n F fs).map (fun f => (f.n, f.g)) = fs.map fun f => (f.n, f.g) := by
      unfold updR
      rw [List.map_map]
      refine List.map_congr_left fun f' hf' => ?_
      simp only [Function.comp]
      by_cases e : f'.n = n
      · have := hu f' hf' e
        subst this
        rw [if_pos e, h1, h2, hfn]
      · rw [if_neg e]
    rw [this]
    refine h.map.heap (ht.block _ h.map.lt ?_)
    rintro (e | e)
    · exact h.map.ne_blk (h.file f hf).blk e
    · exact h.map.ne_own (h.file f hf).row e
  · exact h.flt.touch ht (by
      rintro k hk (e | e)
      · exact h.flt.ne_blk (h.file f hf).blk (by decide) (by rw [hk, e])
      · exact Own.ne_own h.flt (h.file f hf).row (by decide) k hk e)
  · intro f' hf'
    obtain ⟨f0, hf0, rfl⟩ := List.mem_map.1 hf'
    by_cases e0 : f0.n = n
    · rw [if_pos e0, hu f0 hf0 e0]
      exact hF
    · rw [if_neg e0]
      obtain ⟨n1, n2⟩ := hne f0 hf0 e0
      refine (h.file f0 hf0).heap (ht.block _ (h.file f0 hf0).blk.lt ?_) fun k hk => ht.block _ (Own.lt (h.file f0 hf0).row k hk) ?_
      · rintro (e | e)
        · exact n1 e
        · exact Own.ne_blk (h.file f hf).row (h.file f0 hf0).blk (by decide) e
      · rintro (e | e)
        · exact Own.ne_blk (h.file f0 hf0).row (h.file f hf).blk (by decide) (by rw [hk, e])
        · exact n2 (hk.trans e.symm)
  · refine List.pairwise_map.2 (h.apart.imp_of_mem fun {a b} ha hb' ⟨q1, q2, q3⟩ => ?_)
    by_cases ea : a.n = n
    · have := hu a ha ea
      subst this
      rw [if_pos ea, if_neg (by omega), h1, h2, h3]
      exact ⟨by omega, q2, q3⟩
    · rw [if_neg ea]
      by_cases eb : b.n = n
      · have := hu b hb' eb
        subst this
        rw [if_pos eb, h1, h2, h3]
        exact ⟨by omega, q2, q3⟩
      · rw [if_neg eb]
        exact ⟨q1, q2, q3⟩
  · rintro k (e | e | e | ⟨f', hf', e⟩)
    · exact .inl e
    · exact .inr (.inl e)
    · exact .inr (.inr (.inl e))
    · obtain ⟨f0, hf0, rfl⟩ := List.mem_map.1 hf'
      by_cases e0 : f0.n = n
      · rw [if_pos e0, hu f0 hf0 e0, h2, h3] at e
        exact .inr (.inr (.inr ⟨f, hf, e⟩))
      · rw [if_neg e0] at e
        exact .inr (.inr (.inr ⟨f0, hf0, e⟩))

def StepEnd (w : World) (bd bm : Nat) (fv : Value) (fs : List FR) (d' : Dk) (r : Ending) (e : Ending) (w' : World) : Prop :=
  e = r ∧ Touch (foot bd bm fv fs) w w' ∧ ∃ fv' fs', DK w' bd bm fv' fs' d' ∧ ∀ k, foot bd bm fv' fs' k → foot bd bm fv fs k ∨ w.heap.size ≤ k
theorem StepEnd.next {w w1 w2 : World} {bd bm : Nat} {fv fv1 : Value} {fs fs1 : List FR} {d2 : Dk} {r e : Ending} (ht : Touch (foot bd bm fv fs) w w1) (hs : ∀ k, foot bd bm fv1 fs1 k → foot bd bm fv fs k ∨ w.heap.size ≤ k) (h : StepEnd w1 bd bm fv1 fs1 d2 r e w2) : StepEnd w bd bm fv fs d2 r e w2 := by
  obtain ⟨he, h1, fv2, fs2, h2, h3⟩ := h
  refine ⟨he, ht.trans h1 fun k hk hf => (hs k hf).resolve_right (by omega), fv2, fs2, h2, fun k hk => ?_⟩
  rcases h3 k hk with e | e
  · exact hs k e
  · exact .inr (Nat.le_trans ht.size e)
theorem why_cases (d : Dk) (n : Int) : d.why n = 0 ∨ d.why n = 1 ∨ d.why n = 3 ∨ d.why n = 4 := by
  unfold Dk.why
  cases d.dead <;> cases d.hit <;> by_cases h : n < 0 <;> simp [h]
theorem foot_begin {bd bm : Nat} {fv fv' : Value} {fs : List FR} (h : fv'.ownBlock = fv.ownBlock) : ∀ k, foot bd bm fv' fs k → foot bd bm fv fs k := by
  intro k hk
  unfold foot at hk ⊢
  rwa [h] at hk

set_option maxRecDepth 20000 in
set_option maxHeartbeats 2000000 in
theorem append_any (w : World) (bd bm : Nat) (fv : Value) (fs : List FR) (d : Dk) (n : Int) (A : Option Addr) (m c : Nat) (xs : List UInt8) (h : DK w bd bm fv fs d) (hn : (Lit.int .i64 n).wf = true) (hx : Bs w A m c xs) (hxb : ∀ a, A = some a → 0 < m → ¬ foot bd bm fv fs a.block ∧ a.block < w.heap.size)
    (hb : ∀ f ∈ fs, f.raw.length + xs.length ≤ 140737488355000) (hb0 : xs.length ≤ 140737488355000) (hfl : fs.length < maxLen) (ho : d.ops ≤ 4611686018427387904) (hl : d.faults.length ≤ 4611686018427387904) :
    Calls Try.prog 13 #[.pointer (some ⟨bd, 0, none⟩), .int .i64 n, .slice A m c] w (StepEnd w bd bm fv fs (d.append n xs) (.returned (.int .i64 (d.why n)))) := by
  have hmc := hx.2.1
  have hcm := hx.2.2.1
  unfold maxLen at hcm
  have hml := hx.1
  have HB := Lib.hid (begin_any w bd bm fv fs d n h ho hl)
  have HADD := Lib.hid (fun w1 fv1 d1 k => add_any w1 bd bm fv1 fs d1 n A k c (xs.take k))
  have HX := Lib.hid hx; have HXB := Lib.hid hxb; have HML := Lib.hid hml; have HBB := Lib.hid hb; have HFL := Lib.hid hfl
  clear h hx hxb hml hb hfl
  have hd : d.append n xs = if d.why n = 0 then { d.next with fs := Fl.add n xs d.fs } else if d.why n = 3 ∧ d.kind = 2 ∧ 0 ≤ n then { d.next with fs := Fl.add n (xs.take (xs.length / 2)) d.fs } else d.next := rfl
  have HD := Lib.hid hd
  clear hd
  go_enter Try.func13, Try.ntmps13
  go_wp2_with fail
  refine HB.out.mono ?_
  rintro e w1 ⟨he, ht1, fv1, hdk1, hown1⟩
  have hty : Touch (foot bd bm fv fs) w w1 := ht1.mono fun k _ hk => hk.elim .inl fun e => .inr (.inr (.inl e))
  have hx1 : Bs w1 A m c xs := HX.out.touch hty fun a ha h0 hf => (HXB.out a ha h0).1 hf
  have hfoot := foot_begin (bd := bd) (bm := bm) (fs := fs) hown1
  have HDK := Lib.hid hdk1; have HT1 := Lib.hid hty; have HX1 := Lib.hid hx1; have HF := Lib.hid hfoot
  have hfin : ∀ (y : Int) (w2 : World), y = d.why n → (∃ fs', DK w2 bd bm fv1 fs' (d.append n xs) ∧ (∀ k, foot bd bm fv1 fs' k → foot bd bm fv1 fs k ∨ w1.heap.size ≤ k) ∧ Touch (foot bd bm fv1 fs) w1 w2) → StepEnd w bd bm fv fs (d.append n xs) (.returned (.int .i64 (d.why n))) (.returned (.int .i64 y)) w2 := by
    rintro y w2 rfl ⟨fs', h1, h2, h3⟩
    exact StepEnd.next HT1.out (fun k hk => .inl (HF.out k hk)) ⟨rfl, h3, fv1, fs', h1, h2⟩
  have FIN := Lib.hid hfin
  clear ht1 hdk1 hown1 hty hx1 hfoot hfin HB
  have hsame : d.append n xs = d.next → ∃ fs', DK w1 bd bm fv1 fs' (d.append n xs) ∧ (∀ k, foot bd bm fv1 fs' k → foot bd bm fv1 fs k ∨ w1.heap.size ≤ k) ∧ Touch (foot bd bm fv1 fs) w1 w1 := fun e => ⟨fs, by rw [e]; exact HDK.out, fun _ h => .inl h, Touch.refl _ _⟩
  have HS := Lib.hid hsame
  clear hsame
  rcases why_cases d n with hw | hw | hw | hw
  · rw [hw] at he
    subst he
    have HW := Lib.hid hw
    clear hw
    go_wp2_with fail
    have hc := HADD.out w1 fv1 d.next m HDK.out hn
    rw [List.take_of_length_le (by rw [HML.out]; exact Nat.le_refl _)] at hc
    refine (hc HX1.out (fun a ha h0 => ⟨fun hf => (HXB.out a ha h0).1 (HF.out _ hf), Nat.lt_of_lt_of_le (HXB.out a ha h0).2 HT1.out.size⟩) HBB.out hb0 HFL.out).mono ?_
    rintro e w2 ⟨rfl, ht2, fs2, hdk2, hf2⟩
    have R := Lib.hid (FIN.out 0 w2 HW.out.symm ⟨fs2, by rw [HD.out, if_pos HW.out]; exact hdk2, hf2, ht2.mono fun k _ hk => by
      rcases hk with e | e
      · exact .inr (.inl e)
      · exact .inr (.inr (.inr e))⟩)
    clear hc ht2 hdk2 hf2
    go_wp2_with fail
    go_ret
    exact R.out
  · rw [hw] at he
    subst he
    have R := Lib.hid (FIN.out 1 w1 hw.symm (HS.out (by rw [HD.out, hw]; rfl)))
    clear hw
    go_wp2_with fail
    go_ret
    exact R.out
  · rw [hw] at he
    by_cases hk : d.kind = 2
    · by_cases h0 : 0 ≤ n
      · rw [hk] at he
        subst he
        have HW := Lib.hid (show d.why n = 3 ∧ d.kind = 2 ∧ 0 ≤ n from ⟨hw, hk, h0⟩)
        clear hw hk
        go_wp2_with fail
        have hlt : (xs.take (m / 2)).length ≤ xs.length := by rw [List.length_take]; omega
        refine (HADD.out w1 fv1 d.next (m / 2) HDK.out hn (HX1.out.take (by omega)) (fun a ha h0 => ⟨fun hf => (HXB.out a ha (by omega)).1 (HF.out _ hf), Nat.lt_of_lt_of_le (HXB.out a ha (by omega)).2 HT1.out.size⟩) (fun f hf => by have := HBB.out f hf; omega) (by omega) HFL.out).mono ?_
        rintro e w2 ⟨rfl, ht2, fs2, hdk2, hf2⟩
        have R := Lib.hid (FIN.out 3 w2 HW.out.1.symm ⟨fs2, by rw [HD.out, if_neg (by rw [HW.out.1]; decide), if_pos HW.out, HML.out]; exact hdk2, hf2, ht2.mono fun k _ hk => by
          rcases hk with e | e
          · exact .inr (.inl e)
          · exact .inr (.inr (.inr e))⟩)
        clear ht2 hdk2 hf2 hlt
        go_wp2_with fail
        go_ret
        exact R.out
      · rw [hk] at he
        subst he
        have hdn : decide (0 ≤ n) = false := by simpa using h0
        have R := Lib.hid (FIN.out 3 w1 hw.symm (HS.out (by rw [HD.out, if_neg (by rw [hw]; decide), if_neg (fun h => h0 h.2.2)])))
        clear hw hk h0
        go_wp2_with fail
        go_ret
        exact R.out
    · have R := Lib.hid (FIN.out 3 w1 hw.symm (HS.out (by rw [HD.out, if_neg (by rw [hw]; decide), if_neg (fun h => hk h.2.1)])))
      have hkb : (d.kind == 2) = false := by simpa using hk
      subst he
      clear hw hk
      go_wp2_with fail
      go_ret
      exact R.out
  · rw [hw] at he
    subst he
    have R := Lib.hid (FIN.out 4 w1 hw.symm (HS.out (by rw [HD.out, hw]; rfl)))
    clear hw
    go_wp2_with fail
    go_ret
    exact R.out

set_option maxRecDepth 20000 in
set_option maxHeartbeats 2000000 in
theorem sync_any (w : World) (bd bm : Nat) (fv : Value) (fs : List FR) (d : Dk) (n : Int) (h : DK w bd bm fv fs d) (hn : (Lit.int .i64 n).wf = true) (ho : d.ops ≤ 4611686018427387904) (hl : d.faults.length ≤ 4611686018427387904) :
    Calls Try.prog 14 #[.pointer (some ⟨bd, 0, none⟩), .int .i64 n] w (StepEnd w bd bm fv fs (d.sync n) (.returned (.int .i64 (d.why n)))) := by
  have HB := Lib.hid (begin_any w bd bm fv fs d n h ho hl)
  have hfls := h.fls
  have HFLS := Lib.hid hfls
  clear h hfls
  have hd : d.sync n = if d.why n = 0 then { d.next with fs := Fl.sync n d.fs } else d.next := rfl
  have HD := Lib.hid hd
  clear hd
  go_enter Try.func14, Try.ntmps14
  go_wp2_with fail
  refine HB.out.mono ?_
  rintro e w1 ⟨he, ht1, fv1, hdk1, hown1⟩
  have hty : Touch (foot bd bm fv fs) w w1 := ht1.mono fun k _ hk => hk.elim .inl fun e => .inr (.inr (.inl e))
  have hfoot := foot_begin (bd := bd) (bm := bm) (fs := fs) hown1
  have hc0 : w1.cell? ⟨bd, 0, none⟩ = some (.map (some bm)) := hdk1.blk.cell 0
  have hlk := hdk1.map.look hn
  have HDK := Lib.hid hdk1; have HT1 := Lib.hid hty; have HF := Lib.hid hfoot
  have hfin : ∀ (y : Int) (w2 : World), y = d.why n → (∃ fs', DK w2 bd bm fv1 fs' (d.sync n) ∧ (∀ k, foot bd bm fv1 fs' k → foot bd bm fv1 fs k ∨ w1.heap.size ≤ k) ∧ Touch (foot bd bm fv1 fs) w1 w2) → StepEnd w bd bm fv fs (d.sync n) (.returned (.int .i64 (d.why n))) (.returned (.int .i64 y)) w2 := by
    rintro y w2 rfl ⟨fs', h1, h2, h3⟩
    exact StepEnd.next HT1.out (fun k hk => .inl (HF.out k hk)) ⟨rfl, h3, fv1, fs', h1, h2⟩
  have FIN := Lib.hid hfin
  have hsame : d.sync n = d.next → ∃ fs', DK w1 bd bm fv1 fs' (d.sync n) ∧ (∀ k, foot bd bm fv1 fs' k → foot bd bm fv1 fs k ∨ w1.heap.size ≤ k) ∧ Touch (foot bd bm fv1 fs) w1 w1 := fun e => ⟨fs, by rw [e]; exact HDK.out, fun _ h => .inl h, Touch.refl _ _⟩
  have HS := Lib.hid hsame
  clear ht1 hdk1 hown1 hty hfoot hfin HB hsame
  by_cases hw : d.why n = 0
  · cases hf : fs.find? (fun f => decide (f.n = n)) with
    | none =>
      rw [entV_none hf] at hlk
      have hno : Fl.sync n d.fs = d.fs := by
        rw [HFLS.out]
        unfold Fl.sync
        conv => rhs; rw [← List.map_id (fs.map FR.fl)]
        refine List.map_congr_left fun f hf' => ?_
        obtain ⟨f0, h0, rfl⟩ := List.mem_map.1 hf'
        have := List.find?_eq_none.1 hf f0 h0
        rw [if_neg (show ¬ (FR.fl f0).n = n from fun e => by have e : f0.n = n := e; simp [e] at this)]
        rfl
      rw [hw] at he
      subst he
      have R := Lib.hid (FIN.out 0 w1 hw.symm (HS.out (by rw [HD.out, if_pos hw, hno]; rfl)))
      clear hw hf hno
      go_wp2_with fail
      go_ret
      exact R.out
    | some f =>
      rw [entV_some hf] at hlk
      obtain ⟨hfm, hfn⟩ := find_mem hf
      have hFA := HDK.out.file f hfm
      obtain ⟨b, cc, hv, hl1, hl2⟩ := hFA.addr
      have hc1 : w1.cell? ⟨f.g, 0, none⟩ = some f.v := hFA.blk.cell 0
      rw [hv] at hc1
      have hc2 : w1.cell? ⟨f.g, 1, none⟩ = some (.int .i64 f.kept) := hFA.blk.cell 1
      have hq2 : w1.frozen? ⟨f.g, 1, none⟩ = false := hFA.blk.frozen 1
      have ht : Touch (fun k => k = f.g ∨ f.v.ownBlock = some k) w1 (w1.setCell ⟨f.g, 1, none⟩ (.int .i64 f.raw.length)) := (Touch.refl _ w1).setCell (p := ⟨f.g, 1, none⟩) (.inr (.inl rfl)) _
      have hne : f.v.ownBlock ≠ some f.g := Own.ne_blk hFA.row hFA.blk (by decide)
      obtain ⟨q1, q2⟩ := HDK.out.upd hfm hfn (fun f => ⟨f.n, f.raw, f.raw.length, f.g, f.v⟩) ht ⟨hFA.blk.set_ 1 _, Own.far hFA.row (p := ⟨f.g, 1, none⟩) hne _, Nat.le_refl _, hFA.some_, hFA.key⟩ hfn rfl rfl
      have hd2 : d.sync n = { d.next with fs := (updR n (fun f => (⟨f.n, f.raw, f.raw.length, f.g, f.v⟩ : FR)) fs).map FR.fl } := by
        rw [HD.out, if_pos hw, HFLS.out]
        have : Fl.sync n (fs.map FR.fl) = (updR n (fun f => (⟨f.n, f.raw, f.raw.length, f.g, f.v⟩ : FR)) fs).map FR.fl := by
          unfold Fl.sync updR
          rw [List.map_map, List.map_map]
          refine List.map_congr_left fun f0 _ => ?_
          simp only [Function.comp]
          by_cases e : f0.n = n
          · rw [if_pos e, if_pos (show (FR.fl f0).n = n from e)]
            rfl
          · rw [if_neg e, if_neg (show ¬ (FR.fl f0).n = n from e)]
        rw [this]
      have R := Lib.hid (FIN.out 0 (w1.setCell ⟨f.g, 1, none⟩ (.int .i64 f.raw.length)) hw.symm ⟨_, by rw [hd2]; exact q1, fun k hk => .inl (q2 k hk), ht.mono fun k _ hk => .inr (.inr (.inr ⟨f, hfm, hk⟩))⟩)
      rw [hw] at he
      subst he
      clear hw hf hfm hfn hFA hv ht hne q1 q2 hd2
      go_wp2_with fail
      go_ret
      exact R.out
  · have R := Lib.hid (FIN.out (d.why n) w1 rfl (HS.out (by rw [HD.out, if_neg hw])))
    have hwb : (d.why n == 0) = false := by simpa using hw
    subst he
    clear hw
    go_wp2_with fail
    go_ret
    exact R.out
end Go.Proofs.Ythmjnlkdoepmjaa
