/- The contracts of Sync and Files of the document's disk. Conditions stand with each. -/
import Derived.Test.YthmjnlkdoepmjaaRcalls
import Derived.BigRegion
namespace Go.Proofs.Ythmjnlkdoepmjaa
open Go.RowKit

theorem RBeginEnd.foot {w : World} {bd : Nat} {lv fv fv' : Value} {fs : List RF} (hf : ∀ k, fv'.ownBlock = some k → w.heap.size ≤ k) : ∀ k, rfoot bd lv fv' fs k → rfoot bd lv fv fs k ∨ w.heap.size ≤ k := by
  rintro k (e | e | e | e)
  · exact .inl (.inl e)
  · exact .inl (.inr (.inl e))
  · exact .inr (hf k e)
  · exact .inl (.inr (.inr (.inr e)))
theorem RStep.drew {w w' : World} {bd : Nat} {lv fv : Value} {fs : List RF} {r' : Rk} {res e : Ending} (h : RStep w bd lv fv fs r' res e w') : RStep w bd lv fv fs r' res e w'.drew := by
  obtain ⟨he, ht, lv', fv', fs', hd, hf⟩ := h
  exact ⟨he, ht.drew, lv', fv', fs', hd.fresh ((Touch.refl _ w').drew), hf⟩
theorem rsync_fin {w w1 : World} {bd P : Nat} {lv fv fv2 : Value} {fs : List RF} {r : Rk} {n : Int} {f : RF} {g c : Nat} (hlv : lv = .slice (some ⟨g, 0, none⟩) fs.length c) (hd : RDK w1 bd lv fv2 fs r.next) (ho : r.fs.Pairwise fun a b => a.n < b.n) (hh : Fl.hit n r.fs = true) (hP : P = Fl.pos n r.fs) (hf : fs[P]? = some f) (hw : r.why n = 0)
    (ht : Touch (fun k => k = bd) w w1) (hfoot : ∀ k, rfoot bd lv fv2 fs k → rfoot bd lv fv fs k ∨ w.heap.size ≤ k) (res : Ending) (q : Nat) :
    RStep w bd lv fv fs (r.sync n) res res ((w1.drewN q).setCell ⟨g, P * 3 + 2, none⟩ (.int .i64 f.raw.length)) := by
  subst hlv
  have h6 := hd.fresh ((Touch.refl (fun _ => False) w1).drewN q)
  have h7 := h6.store hf 2 (.int .i64 f.raw.length) ⟨f.n, f.raw, f.raw.length, f.v⟩ (rfCells_set2 _ hf) (h6.file f (List.mem_of_getElem? hf))
  have hg : rfoot bd (.slice (some ⟨g, 0, none⟩) fs.length c) fv fs g := .inr (.inl rfl)
  refine ⟨rfl, ((ht.mono (S' := rfoot bd _ fv fs) fun k _ e => .inl e).drewN q).setCell (p := ⟨g, P * 3 + 2, none⟩) (.inr hg) _, .slice (some ⟨g, 0, none⟩) fs.length c, fv2, fs.set P ⟨f.n, f.raw, f.raw.length, f.v⟩, ?_, ?_⟩
  · have hs : r.sync n = { r.next with fs := r.next.fs.set P (RF.fl ⟨f.n, f.raw, f.raw.length, f.v⟩) } := by
      unfold Rk.sync
      rw [if_pos hw]
      have h1 : Fl.at_ r.fs n = some f.fl := RDK.at_some (r := r.next) hd ho hh (by rw [show r.next.fs = r.fs from rfl, ← hP]; exact hf)
      refine congrArg (fun x => ({ r.next with fs := x } : Rk)) ?_
      rw [Fl.sync_pos ho, h1, hP]
      rfl
    rw [hs]
    exact h7
  · rintro k (e | e | e | ⟨f', hf', e⟩)
    · exact .inl (.inl e)
    · exact .inl (.inr (.inl e))
    · exact hfoot k (.inr (.inr (.inl e)))
    · rcases List.mem_or_eq_of_mem_set hf' with h0 | rfl
      · exact hfoot k (.inr (.inr (.inr ⟨f', h0, e⟩)))
      · exact hfoot k (.inr (.inr (.inr ⟨f, List.mem_of_getElem? hf, e⟩)))

set_option maxRecDepth 20000 in
set_option maxHeartbeats 4000000 in
theorem rsync_any (w : World) (bd : Nat) (lv fv : Value) (fs : List RF) (r : Rk) (n : Int) {K : Nat} (h : RDK w bd lv fv fs r) (hk : r.fit K) (hK : K ≤ 1000000000) :
    Calls Try.prog 56 #[.pointer (some ⟨bd, 0, none⟩), .int .i64 n] w (RStep w bd lv fv fs (r.sync n) (.returned (.int .i64 (r.why n)))) := by
  obtain ⟨hr1, hr2⟩ := h.raws hk
  have HBG := Lib.hid (rbegin_any w bd lv fv fs r n h (by have := hk.count; omega) (by have := hk.faults; omega) hk.nums)
  have HRISE := Lib.hid hk.rise
  clear h hk
  go_enter Try.func56, Try.ntmps56
  go_wp2_with fail
  refine HBG.out.mono ?_
  rintro e w1 ⟨he, ht, fv2, hd2, hf2⟩
  subst he
  have HT := Lib.hid ht; have HD := Lib.hid hd2; have HFT := Lib.hid (RBeginEnd.foot (w := w) (bd := bd) (lv := lv) (fv := fv) (fs := fs) hf2)
  have HAT := Lib.hid (rat_any w1 bd lv fv2 fs r.next n hd2 (by omega))
  rw [show r.next.fs = r.fs from rfl] at HAT
  clear ht hd2 hf2 HBG
  go_wp2_with fail
  refine HAT.out.mono ?_
  rintro e w2 ⟨⟨q, rfl⟩, rfl⟩
  clear HAT
  obtain ⟨P, hP⟩ : ∃ P, P = Fl.pos n r.fs := ⟨_, rfl⟩
  have HP := Lib.hid hP
  rw [← hP]
  clear hP
  have HN := Lib.hid (show ∀ q', r.sync n = r.next → RStep w bd lv fv fs (r.sync n) (.returned (.int .i64 (r.why n))) (.returned (.int .i64 (r.why n))) (w1.drewN q') from fun q' e => by
    rw [e]
    exact ⟨rfl, (HT.out.mono fun k _ e => .inl e).drewN q', lv, fv2, fs, HD.out.fresh ((Touch.refl _ w1).drewN q'), HFT.out⟩)
  by_cases hw : r.why n = 0
  · cases hh : Fl.hit n r.fs with
    | true =>
      obtain ⟨f, hf, _⟩ := RDK.hit (r := r.next) HD.out hh
      rw [show Fl.pos n r.next.fs = P from HP.out.symm] at hf
      have hlt : P < fs.length := (List.getElem?_eq_some_iff.1 hf).1
      obtain ⟨A, c, hlv, hle, hcm, hA⟩ := HD.out.lform
      obtain ⟨g, rfl⟩ := hA (by omega)
      unfold maxLen at hcm
      obtain ⟨C, cc, hv, hv1, hv2, _⟩ := (HD.out.file f (List.mem_of_getElem? hf)).form
      have HS := Lib.hid (fun q' => rsync_fin (w := w) (fv := fv) hlv HD.out HRISE.out hh HP.out hf hw HT.out HFT.out (.returned (.int .i64 (r.why n))) q')
      rw [hw] at HS
      have HW := Lib.hid hw
      subst hlv
      have j0 : ∀ q', (w1.drewN q').cell? ⟨bd, 0, none⟩ = some (.slice (some ⟨g, 0, none⟩) fs.length c) := fun _ => HD.out.blk.cell 0
      have j1 : ∀ q', (w1.drewN q').cell? ⟨g, P * 3 + 1, none⟩ = some (.slice C f.raw.length cc) := fun q' => by
        have := HD.out.lcell hf 1 (by omega)
        rw [show (RF.cells f)[1]? = some f.v from rfl, hv] at this
        exact this
      have j2 : ∀ q', (w1.drewN q').frozen? ⟨g, P * 3 + 2, none⟩ = false := fun _ => HD.out.row.frozen _
      have j3 : ∀ q', (w1.drewN q').cell? ⟨g, P * 3 + 2, none⟩ = some (.int .i64 f.kept) := fun _ => HD.out.lcell hf 2 (by omega)
      have hfl : f.raw.length ≤ 1000000000 := by have := hr1 f (List.mem_of_getElem? hf); omega
      rw [hw]
      clear hf hv hr1 hh hw HN HD HT HFT hA
      obtain ⟨W, hW⟩ : ∃ W, W = w1.drewN q := ⟨_, rfl⟩
      have i0 := j0 q; have i1 := j1 q; have i2 := j2 q; have i3 := j3 q
      rw [← hW] at i0 i1 i2 i3 ⊢
      have HWW := Lib.hid hW
      clear hW j0 j1 j2 j3
      go_wp2_with fail
      go_region
      rw [HWW.out]
      go_wp2_with fail
      go_ret
      rw [HW.out]
      exact (HS.out q).drew
    | false =>
      have hs : r.sync n = r.next := by
        unfold Rk.sync
        rw [if_pos hw, Fl.sync_pos HRISE.out, RDK.at_none HRISE.out hh]
        rfl
      have HS := Lib.hid (HN.out q hs)
      rw [hw] at HS
      have HW := Lib.hid hw
      rw [hw]
      clear hw hh HN
      go_wp2_with fail
      go_ret
      rw [HW.out]
      exact HS.out
  · have hs : r.sync n = r.next := by unfold Rk.sync; rw [if_neg hw]
    have HS := Lib.hid (HN.out q hs)
    generalize r.why n = y at *
    have hy : (y == 0) = false := by simpa using hw
    clear HN
    go_wp2_with fail
    go_ret
    exact HS.out
end Go.Proofs.Ythmjnlkdoepmjaa
