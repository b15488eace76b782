/- The contract of the Crash of the document's disk. Conditions stand with it. -/
import Derived.Test.YthmjnlkdoepmjaaRfiles
namespace Go.Proofs.Ythmjnlkdoepmjaa
open Go.RowKit

theorem crash_drop {l : List Fl} {cuts : List Int} {j : Nat} {f : Fl} (h : l[j]? = some f) : Fl.crash (l.drop j) (cuts.drop j) = if (f.lose ((cuts.drop j).headD 0)).kept = 0 then Fl.crash (l.drop (j + 1)) (cuts.drop (j + 1)) else f.lose ((cuts.drop j).headD 0) :: Fl.crash (l.drop (j + 1)) (cuts.drop (j + 1)) := by
  obtain ⟨hj, rfl⟩ := List.getElem?_eq_some_iff.1 h
  rw [List.drop_eq_getElem_cons hj]
  conv => lhs; unfold Fl.crash
  rw [List.tail_drop]
theorem headD_some {cuts : List Int} {j : Nat} {x : Int} (h : cuts[j]? = some x) : (cuts.drop j).headD 0 = x := by
  obtain ⟨hj, rfl⟩ := List.getElem?_eq_some_iff.1 h
  rw [List.drop_eq_getElem_cons hj]
  rfl
theorem headD_none {cuts : List Int} {j : Nat} (h : cuts.length ≤ j) : (cuts.drop j).headD 0 = 0 := by
  rw [List.drop_eq_nil_of_le h]
  rfl
/-- the files that are left so far -/
def RLeft (w : World) (_fs : List RF) (r : Rk) (cuts : List Int) (j : Nat) (v : Value) (wr : World) : Prop :=
  ∃ gs : List RF, gs.length ≤ j ∧ gs.map RF.fl ++ Fl.crash (r.fs.drop j) (cuts.drop j) = Fl.crash r.fs cuts ∧ Own wr 104 3 v gs.length (rfCells gs) ∧ (∀ f ∈ gs, Row wr f.v f.raw ∧ ∀ k, f.v.ownBlock = some k → w.heap.size ≤ k) ∧ (∀ k, v.ownBlock = some k → w.heap.size ≤ k) ∧ Fresh w wr
theorem RLeft.skip {w wr w2 : World} {fs : List RF} {r : Rk} {cuts : List Int} {j : Nat} {v : Value} {f : Fl} (h : RLeft w fs r cuts j v wr) (hf : r.fs[j]? = some f) (hk : (f.lose ((cuts.drop j).headD 0)).kept = 0) (ht : Fresh wr w2) : RLeft w fs r cuts (j + 1) v w2 := by
  obtain ⟨gs, h1, h2, h3, h4, h5, h6⟩ := h
  refine ⟨gs, Nat.le_succ_of_le h1, ?_, h3.touch ht fun _ _ => id, fun f hf => ⟨(h4 f hf).1.touch ht fun _ _ => id, (h4 f hf).2⟩, h5, h6.trans ht fun _ _ => id⟩
  rw [← h2, crash_drop hf, if_pos hk]
theorem rleft_push {w w2 w3 : World} {fs : List RF} {r : Rk} {cuts : List Int} {j : Nat} {v : Value} {f : Fl} {g : RF} {B : Option Addr} {c : Nat} {gs : List RF} (h1 : gs.length ≤ j) (h2 : gs.map RF.fl ++ Fl.crash (r.fs.drop j) (cuts.drop j) = Fl.crash r.fs cuts) (h3 : Own w2 104 3 v gs.length (rfCells gs)) (h4 : ∀ f ∈ gs, Row w2 f.v f.raw ∧ ∀ k, f.v.ownBlock = some k → w.heap.size ≤ k) (h5 : ∀ k, v.ownBlock = some k → w.heap.size ≤ k) (h6 : Fresh w w2)
    (hf : r.fs[j]? = some f) (hk : (f.lose ((cuts.drop j).headD 0)).kept ≠ 0) (hg : g.fl = f.lose ((cuts.drop j).headD 0)) (hr : Row w2 g.v g.raw) (hn : ∀ k, g.v.ownBlock = some k → w.heap.size ≤ k)
    (o3 : Own w3 104 3 (.slice B (gs.length + 1) c) (gs.length + 1) (rfCells gs ++ [.int .i64 g.n, g.v, .int .i64 g.kept])) {o : Obj} (hgr : (w2.alloc o).grownBy w3 v.ownBlock) (hb : (Value.slice B (gs.length + 1) c).ownBlock = v.ownBlock ∨ (Value.slice B (gs.length + 1) c).ownBlock = some (w2.alloc o).heap.size) :
    RLeft w fs r cuts (j + 1) (.slice B (gs.length + 1) c) w3 := by
  have hT : Touch (fun k => v.ownBlock = some k) w2 w3 := ((Touch.refl _ w2).alloc o).grown hgr fun k hk => .inr hk
  have hrow : ∀ {f : RF}, Row w2 f.v f.raw → Row w3 f.v f.raw := fun {f} hx => hx.touch hT fun k hk e => Own.ne_own h3 (Own.ofRow hx) (by decide) k e hk
  have hl : (gs ++ [g]).length = gs.length + 1 := by rw [List.length_append]; rfl
  refine ⟨gs ++ [g], by omega, ?_, ?_, ?_, ?_, (h6.alloc o).grown hgr fun k hk => .inl (h5 k hk)⟩
  · rw [← h2, crash_drop hf, if_neg hk, List.map_append, List.append_assoc, ← hg]
    rfl
  · rw [hl, rfCells_append]
    exact o3
  · intro f' hf'
    rcases List.mem_append.1 hf' with h | h
    · exact ⟨hrow (h4 f' h).1, (h4 f' h).2⟩
    · obtain rfl := List.mem_singleton.1 h
      exact ⟨hrow hr, hn⟩
  · intro k hk
    rcases hb with h | h
    · exact h5 k (h.symm.trans hk)
    · rw [hk, alloc_size] at h
      injection h with h
      have := h6.size
      omega
/-- what the walk knows of the torn byte -/
theorem row_torn {w : World} {B : Option Addr} {c M1 : Nat} {raw : List UInt8} (h : Row w (.slice B (M1 + 1) c) (raw.take (M1 + 1))) (hl : M1 < raw.length) :
    ∃ (b x : Nat), B = some ⟨b, 0, none⟩ ∧ x < 256 ∧ w.cell? ⟨b, M1, none⟩ = some (.int .u8 (x : Int)) ∧ w.frozen? ⟨b, M1, none⟩ = false ∧ Row (w.setCell ⟨b, M1, none⟩ (.int .u8 (255 - (x : Int)))) (.slice (some ⟨b, 0, none⟩) (M1 + 1) c) ((raw.take (M1 + 1)).set M1 (255 - raw.getD M1 0)) := by
  have htl : (raw.take (M1 + 1)).length = M1 + 1 := by rw [List.length_take]; omega
  obtain ⟨A', c', hv, _, _, hg⟩ := h.form
  obtain ⟨g, hg⟩ := hg (by intro e; rw [e] at htl; cases htl)
  injection hv with e1 _ _
  rw [hg] at e1
  subst e1
  have hr : w.ownsRow 0 5 1 (.slice (some ⟨g, 0, none⟩) (M1 + 1) c) (M1 + 1) (u8s (raw.take (M1 + 1))) := by unfold Row at h; rw [htl] at h; exact h
  have hcell := hr.cellAt M1 (by omega)
  rw [u8s_get, List.getElem?_take, if_pos (by omega), List.getElem?_eq_getElem hl] at hcell
  simp only [Option.map_some] at hcell
  have hgd : raw.getD M1 0 = raw[M1] := by simp [List.getD_eq_getElem?_getD, List.getElem?_eq_getElem hl]
  rw [hgd]
  have hx8 := (raw[M1]).toNat_lt
  have hsb : ((255 - raw[M1] : UInt8).toNat : Int) = 255 - (raw[M1].toNat : Int) := by
    rw [UInt8.toNat_sub_of_le _ _ (by rw [UInt8.le_iff_toNat_le]; show raw[M1].toNat ≤ 255; omega)]
    show ((255 - raw[M1].toNat : Nat) : Int) = _
    omega
  refine ⟨g, raw[M1].toNat, rfl, hx8, hcell, hr.frozenAt M1, ?_⟩
  have h1 := (hr.stored M1 (.int .u8 ((255 - raw[M1] : UInt8).toNat : Int))).1
  rw [hsb] at h1
  unfold Row
  rw [List.length_set, htl, show u8s ((raw.take (M1 + 1)).set M1 (255 - raw[M1])) = (u8s (raw.take (M1 + 1))).set M1 (.int .u8 ((255 - raw[M1] : UInt8).toNat : Int)) from List.map_set, hsb]
  exact h1
theorem rfile_src (w : World) (n k : Int) (A : Option Addr) (m c a : Nat) (ha : a = w.heap.size) : Src Try.prog 3 97 (.slice (some ⟨a, 0, none⟩) 1 1) 1 [.int .i64 n, .slice A m c, .int .i64 k] (w.alloc (.cells #[.int .i64 n, .slice A m c, .int .i64 k] 104)) := by
  subst ha
  refine Src.ofSlice _ Try.underlying97 _ _ _ _ rfl (fun j u hu => ?_) (by intro u hu; simp at hu; rcases hu with rfl | rfl | rfl <;> rfl)
  have hb := Blk.new w 104 #[.int .i64 n, .slice A m c, .int .i64 k]
  rw [add_flat, Nat.zero_add, hb.cell j, ← hu]
  simp
theorem ways_tmod (f : Fl) (x : Int) (U : Nat) (hU : (f.raw.length : Int) - f.kept = U) : f.ways x < 2 * U + 1 ∧ (0 ≤ x.tmod (2 * (U : Int) + 1) → x.tmod (2 * (U : Int) + 1) = (f.ways x : Int)) ∧ (x.tmod (2 * (U : Int) + 1) < 0 → x.tmod (2 * (U : Int) + 1) + 2 * (U : Int) + 1 = (f.ways x : Int)) ∧ (x = 0 → f.ways x = 0) := by
  have hwy : ((f.ways x : Nat) : Int) = x % (2 * (U : Int) + 1) := by
    unfold Fl.ways
    rw [hU]
    exact Int.toNat_of_nonneg (Int.emod_nonneg _ (by omega))
  have hlt : x % (2 * (U : Int) + 1) < 2 * (U : Int) + 1 := Int.emod_lt_of_pos _ (by omega)
  have hge : 0 ≤ x % (2 * (U : Int) + 1) := Int.emod_nonneg _ (by omega)
  have htm := Int.tmod_eq_emod (a := x) (b := 2 * (U : Int) + 1)
  refine ⟨by omega, fun h => ?_, fun h => ?_, fun h => ?_⟩
  · by_cases h0 : 0 ≤ x ∨ (2 * (U : Int) + 1) ∣ x
    · rw [if_pos h0] at htm; omega
    · rw [if_neg h0] at htm; omega
  · by_cases h0 : 0 ≤ x ∨ (2 * (U : Int) + 1) ∣ x
    · rw [if_pos h0] at htm; omega
    · rw [if_neg h0] at htm; omega
  · subst h
    rw [Int.zero_emod] at hwy
    omega

theorem flose_ext {a b : Fl} (h1 : a.n = b.n) (h2 : a.raw = b.raw) (h3 : a.kept = b.kept) : a = b := by cases a; cases b; simp_all

set_option maxRecDepth 20000 in
set_option maxHeartbeats 8000000 in
theorem rcrash_any (w : World) (bd : Nat) (lv fv : Value) (fs : List RF) (r : Rk) (A : Option Addr) (nc cc : Nat) (cuts : List Int) {K : Nat} (h : RDK w bd lv fv fs r) (hk : r.fit K) (hK : K ≤ 1000000000) (hne : ∀ f ∈ r.fs, f.raw ≠ []) (hx : IsInts w A nc cc cuts) (hxw : ∀ x ∈ cuts, -9223372036854775808 ≤ x ∧ x ≤ 9223372036854775807) :
    Calls Try.prog 61 #[.pointer (some ⟨bd, 0, none⟩), .slice A nc cc] w (RStep w bd lv fv fs (r.crash cuts) (.returned (.tuple #[]))) := by
  obtain rfl := hx.1
  obtain ⟨hr1, hr2⟩ := h.raws hk
  have hle : ∀ f ∈ fs, f.kept ≤ f.raw.length ∧ f.raw ≠ [] := fun f hf => ⟨hk.le f.fl (by rw [h.fls]; exact List.mem_map_of_mem hf), hne f.fl (by rw [h.fls]; exact List.mem_map_of_mem hf)⟩
  obtain ⟨A0, c0, rfl, hl0, hcm0, hA0⟩ := h.lform
  unfold maxLen at hcm0
  have hxc := hx.2.1
  have hxm := hx.2.2.1
  unfold maxLen at hxm
  have H := Lib.hid h; have HX := Lib.hid hx; have HXW := Lib.hid hxw; have HA0 := Lib.hid hA0; have HR1 := Lib.hid hr1; have HLE := Lib.hid hle
  clear h hx hxw hA0 hr1 hle hne hk
  go_enter Try.func61, Try.ntmps61
  go_wp2_with fail
  go_loopw [4, 5] (fun v i wr => ∃ j : Nat, j ≤ fs.length ∧ i = .int .i64 j ∧ RLeft w fs r cuts j v wr) (fun _ i _ => fs.length - (intOf i).toNat)
  case atStart => exact ⟨0, by omega, rfl, [], Nat.le_refl _, by simp, Own.nil_ _ _ _, fun f hf => (by cases hf), fun k hk => (by cases hk), Touch.refl _ _⟩
  case round =>
    obtain ⟨j, hj, rfl, hL⟩ := hrel
    obtain ⟨gs, e1, e2, e3, e4, e5, e6⟩ := id hL
    have hR := H.out.fresh e6
    have hc0 : wr.cell? ⟨bd, 0, none⟩ = some (.slice A0 fs.length c0) := hR.blk.cell 0
    by_cases hlt : j < fs.length
    · obtain ⟨g, rfl⟩ := HA0.out (by omega)
      obtain ⟨f, hf⟩ : ∃ f, fs[j]? = some f := ⟨fs[j], List.getElem?_eq_getElem hlt⟩
      have hfm := List.mem_of_getElem? hf
      obtain ⟨hkl, hnf⟩ := HLE.out f hfm
      obtain ⟨C, cf, hv, hv1, hv2, hv3⟩ := (hR.file f hfm).form
      obtain ⟨gb, rfl⟩ := hv3 hnf
      unfold maxLen at hv2
      have hfl : f.raw.length ≤ 1000000000 := by have := HR1.out f hfm; omega
      have y0 : wr.cell? ⟨g, j * 3, none⟩ = some (.int .i64 f.n) := hR.lcell hf 0 (by omega)
      have y1 : wr.cell? ⟨g, j * 3 + 1, none⟩ = some (.slice (some ⟨gb, 0, none⟩) f.raw.length cf) := by
        have := hR.lcell hf 1 (by omega)
        rw [show (RF.cells f)[1]? = some f.v from rfl, hv] at this
        exact this
      have y2 : wr.cell? ⟨g, j * 3 + 2, none⟩ = some (.int .i64 f.kept) := hR.lcell hf 2 (by omega)
      obtain ⟨S, hS⟩ : ∃ S, S = wr.alloc (.cells #[.int .i64 f.n, .slice (some ⟨gb, 0, none⟩) f.raw.length cf, .int .i64 f.kept] 104) := ⟨_, rfl⟩
      have hSb : Blk S wr.heap.size 104 #[.int .i64 f.n, .slice (some ⟨gb, 0, none⟩) f.raw.length cf, .int .i64 f.kept] := by rw [hS]; exact Blk.new _ _ _
      have hSz : S.heap.size = wr.heap.size + 1 := by rw [hS, alloc_size]
      have hTS : Fresh wr S := by rw [hS]; exact (Touch.refl _ wr).alloc _
      have q0 : S.cell? ⟨wr.heap.size, 0, none⟩ = some (.int .i64 f.n) := hSb.cell 0
      have q1 : S.cell? ⟨wr.heap.size, 1, none⟩ = some (.slice (some ⟨gb, 0, none⟩) f.raw.length cf) := hSb.cell 1
      have q2 : S.cell? ⟨wr.heap.size, 2, none⟩ = some (.int .i64 f.kept) := hSb.cell 2
      have HAFT := Lib.hid (show ∀ W, Fresh S W → W.cell? ⟨wr.heap.size, 0, none⟩ = some (.int .i64 f.n) ∧ W.cell? ⟨wr.heap.size, 1, none⟩ = some (.slice (some ⟨gb, 0, none⟩) f.raw.length cf) ∧ W.cell? ⟨wr.heap.size, 2, none⟩ = some (.int .i64 f.kept) from fun W hW => ⟨(hSb.touch hW id).cell 0, (hSb.touch hW id).cell 1, (hSb.touch hW id).cell 2⟩)
      have q1a : ∀ o, (S.alloc o).cell? ⟨wr.heap.size, 1, none⟩ = some (.slice (some ⟨gb, 0, none⟩) f.raw.length cf) := fun o => (HAFT.out _ ((Touch.refl _ S).alloc o)).2.1
      obtain ⟨x, hxx⟩ : ∃ x, x = (cuts.drop j).headD 0 := ⟨_, rfl⟩
      obtain ⟨U, hU⟩ : ∃ U : Nat, (f.raw.length : Int) - f.kept = U := ⟨f.raw.length - f.kept, by omega⟩
      obtain ⟨w1x, w2x, w3x, w4x⟩ := ways_tmod f.fl x U hU
      obtain ⟨k, hkk⟩ : ∃ k, k = f.fl.ways x := ⟨_, rfl⟩
      obtain ⟨M, hM⟩ : ∃ M, M = f.kept + (k + 1) / 2 := ⟨_, rfl⟩
      rw [← hkk] at w1x w2x w3x w4x
      have hML : M ≤ f.raw.length := by omega
      have hMI : (f.kept : Int) + ((k : Int) + 1) / 2 = (M : Int) := by omega
      have hkept : (f.fl.lose x).kept = M := by rw [hM, hkk]; rfl
      have hraw : (f.fl.lose x).raw = if k % 2 = 0 ∧ 0 < k then (f.raw.take M).set (M - 1) (255 - f.raw.getD (M - 1) 0) else f.raw.take M := by rw [hM, hkk]; rfl
      have hU2 : (U : Int) ≤ 1000000000 := by omega
      have hfr : r.fs[j]? = some f.fl := by rw [H.out.fls, List.getElem?_map, hf]; rfl
      have hcase : (j < cuts.length ∧ ∃ b o, A = some ⟨b, o, none⟩ ∧ S.cell? ⟨b, o + j, none⟩ = some (.int .i64 x) ∧ x.tmod (2 * (U : Int) + 1) = k) ∨ (j < cuts.length ∧ ∃ b o y, A = some ⟨b, o, none⟩ ∧ S.cell? ⟨b, o + j, none⟩ = some (.int .i64 x) ∧ x.tmod (2 * (U : Int) + 1) = y ∧ y < 0 ∧ -2000000001 ≤ y ∧ y + 2 * (U : Int) + 1 = k) ∨ (¬ j < cuts.length ∧ k = 0) := by
        by_cases hjc : j < cuts.length
        · obtain ⟨b, o, rfl, hc⟩ := HX.out.2.2.2 (by omega)
          have hcx : cuts[j]? = some x := by rw [hxx, List.getElem?_eq_getElem hjc]; exact congrArg some (headD_some (List.getElem?_eq_getElem hjc)).symm
          have hsc := hTS.cell (e6.cell (hc j x hcx) id) id
          by_cases hy : x.tmod (2 * (U : Int) + 1) < 0
          · have := w3x hy
            exact .inr (.inl ⟨hjc, b, o, _, rfl, hsc, rfl, hy, by omega, this⟩)
          · exact .inl ⟨hjc, b, o, rfl, hsc, w2x (by omega)⟩
        · exact .inr (.inr ⟨hjc, w4x (by rw [hxx, headD_none (by omega)])⟩)
      have HBS := Lib.hid (show ∀ o, Bs (S.alloc o) (some ⟨gb, 0, none⟩) M cf (f.raw.take M) from fun o => (Row.bs (show Row (S.alloc o) (.slice (some ⟨gb, 0, none⟩) f.raw.length cf) f.raw from by rw [← hv]; exact ((hR.file f hfm).touch hTS fun _ _ => id).alloc o)).take hML)
      have HK := Lib.hid hkept; have HRAW := Lib.hid hraw; have HFR := Lib.hid hfr; have HXX := Lib.hid hxx; have HL := Lib.hid hL; have HTS := Lib.hid hTS; have HSZ := Lib.hid hSz
      have HLEN := Lib.hid e1; have HE2 := Lib.hid e2; have HE3 := Lib.hid (show Own S 104 3 u4 gs.length (rfCells gs) from e3.touch hTS fun _ _ => id); have HE4 := Lib.hid (show ∀ f ∈ gs, Row S f.v f.raw ∧ ∀ k, f.v.ownBlock = some k → w.heap.size ≤ k from fun f hf => ⟨(e4 f hf).1.touch hTS fun _ _ => id, (e4 f hf).2⟩); have HE5 := Lib.hid e5
      have HE6 := Lib.hid (show Fresh w S from e6.trans hTS fun _ _ => id)
      have HS := Lib.hid hS
      have HONE := Lib.hid (show ∀ u ∈ rfCells gs, u.oneCell' = true from rfCells_one fun f hf => (e4 f hf).1)
      have HM := Lib.hid hM
      have hwz := e6.size
      clear hkept hraw hfr hxx hL hTS hSz e2 e3 e4 e5 e6 hS hM hR hf hfm hv hSb w1x w2x w3x w4x hkk hv3
      go_upto_region 5 with fail
      rw [← HS.out]
      have KN1 := Lib.hid (show ∀ (B : Option Addr) (m c : Nat) (o : Obj), ((Value.slice B m c).ownBlock = (Value.slice (some ⟨S.heap.size, 0, none⟩) 0 0).ownBlock ∨ (Value.slice B m c).ownBlock = some (S.alloc o).heap.size) → ∀ k, (Value.slice B m c).ownBlock = some k → S.heap.size ≤ k from by
        intro B m c o hb k hk
        rcases hb with h | h
        · rw [hk] at h; simp only [Value.ownBlock, Option.some.injEq] at h; omega
        · rw [hk, alloc_size] at h; injection h with h; rw [h]; exact Nat.le_succ _)
      rcases hcase with ⟨z1, cb, co, rfl, z2, z3⟩ | ⟨z1, cb, co, y, rfl, z2, z3, z4, z5, z6⟩ | ⟨z1, hk0⟩
      · by_cases hto : k % 2 = 0 ∧ 0 < k
        · obtain ⟨M1, rfl⟩ : ∃ M1, M = M1 + 1 := ⟨M - 1, by have := HM.out; omega⟩
          have hp1 : ((k : Int) % 2 == 0) = true := by simp; omega
          have hpk : (0 : Int) < (k : Int) := by omega
          have HTL := Lib.hid (show (f.raw.take (M1 + 1)).length = M1 + 1 by rw [List.length_take]; omega)
          go_wp2_with (first | (at_builtin; refine wpList_row_bs rfl (.tmp 58) (.tmp 62) 22 rfl Try.info5 Try.underlying22 (.slice (some ⟨S.heap.size, 0, none⟩) 0 0) [] rfl (Row.lit [] #[] rfl (by simp)) (some ⟨gb, 0, none⟩) (M1 + 1) cf (f.raw.take (M1 + 1)) rfl (HBS.out _) (by simp only [List.length_nil, HTL.out]; omega) ?_; intro B1 c1 w1 r1 g1 o1; simp only [List.length_nil, Nat.zero_add, List.nil_append, HTL.out] at r1 g1 o1 ⊢; have hT1 : Fresh S w1 := ((Touch.refl (fun _ => False) S).alloc _).grown g1 (fun k hk => .inl (by simp only [Value.ownBlock, Option.some.injEq] at hk; omega)); have hN1 := KN1.out B1 (M1 + 1) c1 _ o1; obtain ⟨b1, x8, rfl, hx8, s0, s1, s2⟩ := row_torn r1 (by omega); have hbS : S.heap.size ≤ b1 := hN1 _ rfl; have hTW : ∀ v, Fresh S (w1.setCell ⟨b1, M1, none⟩ v) := fun v => hT1.setCell (p := ⟨b1, M1, none⟩) (.inl hbS) v; have p0 := fun v => (HAFT.out _ (hTW v)).1; have R1 := Lib.hid s2; have HTW := Lib.hid hTW; clear s2 hTW; have HT1 := Lib.hid hT1; have HN1 := Lib.hid hN1; clear r1 g1 o1 hT1 hN1) | (at_builtin; refine wpList_own_src _ rfl (.tmp 83) (.tmp 89) 97 97 rfl 104 (.agg #[.int .i64 0, .slice none 0 0, .int .i64 0]) 3 40 Try.info104 Try.underlying97 rfl u4 _ _ rfl ((HE3.out.touch (HTW.out _) fun _ _ => id).alloc _) HONE.out (.slice (some ⟨w1.heap.size, 0, none⟩) 1 1) 1 [.int .i64 f.n, .slice (some ⟨b1, 0, none⟩) (M1 + 1) c1, .int .i64 ((M1 + 1 : Nat) : Int)] rfl (by exact rfile_src (w1.setCell ⟨b1, M1, none⟩ (.int .u8 (255 - (x8 : Int)))) f.n ((M1 + 1 : Nat) : Int) (some ⟨b1, 0, none⟩) (M1 + 1) c1 w1.heap.size (by simp [World.setCell])) (by unfold maxLen; omega) (by omega) ?_; intro B2 c2 w2 o2 g2 bb2; have HO2 := Lib.hid o2; have HG2 := Lib.hid g2; have HB2 := Lib.hid bb2; clear o2 g2 bb2))
          have hgl : (⟨f.n, (f.raw.take (M1 + 1)).set M1 (255 - f.raw.getD M1 0), M1 + 1⟩ : Fl) = f.fl.lose x := by
            have h1 := HRAW.out
            rw [if_pos hto] at h1
            exact flose_ext rfl h1.symm HK.out.symm
          have hP := rleft_push (fs := fs) (w3 := w2) (f := f.fl) (g := ⟨f.n, (f.raw.take (M1 + 1)).set M1 (255 - f.raw.getD M1 0), M1 + 1, .slice (some ⟨b1, 0, none⟩) (M1 + 1) c1⟩) HLEN.out HE2.out (HE3.out.touch (HTW.out _) fun _ _ => id) (fun f' hf' => ⟨(HE4.out f' hf').1.touch (HTW.out _) fun _ _ => id, (HE4.out f' hf').2⟩) HE5.out (HE6.out.trans (HTW.out _) fun _ _ => id) HFR.out (by rw [← HXX.out, HK.out]; omega) (by rw [← HXX.out]; exact hgl) R1.out (fun k' hk' => by have := HN1.out k' hk'; have := HE6.out.size; omega) HO2.out HG2.out HB2.out
          refine ⟨⟨j + 1, by omega, by simp, hP⟩, by simp [intOf] <;> omega⟩
        · by_cases hk0 : k = 0
          · have hpk : ¬ (0 : Int) < (k : Int) := by omega
            obtain rfl : M = f.kept := by have := HM.out; omega
            by_cases hm0 : f.kept = 0
            · have hmp : decide ((0 : Int) < ((f.kept : Nat) : Int)) = false := by simp; omega
              have hmpn : decide (0 < f.kept) = false := by simp; omega
              have HM0 := Lib.hid hm0
              clear hm0
              have HTL := Lib.hid (show (f.raw.take (f.kept)).length = f.kept by rw [List.length_take]; omega)
              go_wp2_with (at_builtin; refine wpList_row_bs rfl (.tmp 58) (.tmp 62) 22 rfl Try.info5 Try.underlying22 (.slice (some ⟨S.heap.size, 0, none⟩) 0 0) [] rfl (Row.lit [] #[] rfl (by simp)) (some ⟨gb, 0, none⟩) (f.kept) cf (f.raw.take (f.kept)) rfl (HBS.out _) (by simp only [List.length_nil, HTL.out]; omega) ?_; intro B1 c1 w1 r1 g1 o1; simp only [List.length_nil, Nat.zero_add, List.nil_append, HTL.out] at r1 g1 o1 ⊢; have hT1 : Fresh S w1 := ((Touch.refl (fun _ => False) S).alloc _).grown g1 (fun k hk => .inl (by simp only [Value.ownBlock, Option.some.injEq] at hk; omega)); have hN1 := KN1.out B1 (f.kept) c1 _ o1; have p0 := (HAFT.out w1 hT1).1; have R1 := Lib.hid r1; have HT1 := Lib.hid hT1; have HN1 := Lib.hid hN1; clear r1 g1 o1 hT1 hN1)
              exact ⟨⟨j + 1, by omega, by simp, HL.out.skip HFR.out (by rw [← HXX.out, HK.out]; exact HM0.out) (HTS.out.trans HT1.out fun _ _ => id)⟩, by simp [intOf] <;> omega⟩
            · have hmp : (0 : Int) < ((f.kept : Nat) : Int) := by omega
              have HTL := Lib.hid (show (f.raw.take (f.kept)).length = f.kept by rw [List.length_take]; omega)
              go_wp2_with (first | (at_builtin; refine wpList_row_bs rfl (.tmp 58) (.tmp 62) 22 rfl Try.info5 Try.underlying22 (.slice (some ⟨S.heap.size, 0, none⟩) 0 0) [] rfl (Row.lit [] #[] rfl (by simp)) (some ⟨gb, 0, none⟩) (f.kept) cf (f.raw.take (f.kept)) rfl (HBS.out _) (by simp only [List.length_nil, HTL.out]; omega) ?_; intro B1 c1 w1 r1 g1 o1; simp only [List.length_nil, Nat.zero_add, List.nil_append, HTL.out] at r1 g1 o1 ⊢; have hT1 : Fresh S w1 := ((Touch.refl (fun _ => False) S).alloc _).grown g1 (fun k hk => .inl (by simp only [Value.ownBlock, Option.some.injEq] at hk; omega)); have hN1 := KN1.out B1 (f.kept) c1 _ o1; have p0 := (HAFT.out w1 hT1).1; have R1 := Lib.hid r1; have HT1 := Lib.hid hT1; have HN1 := Lib.hid hN1; clear r1 g1 o1 hT1 hN1) | (at_builtin; refine wpList_own_src _ rfl (.tmp 83) (.tmp 89) 97 97 rfl 104 (.agg #[.int .i64 0, .slice none 0 0, .int .i64 0]) 3 40 Try.info104 Try.underlying97 rfl u4 _ _ rfl ((HE3.out.touch HT1.out fun _ _ => id).alloc _) HONE.out (.slice (some ⟨w1.heap.size, 0, none⟩) 1 1) 1 [.int .i64 f.n, .slice B1 (f.kept) c1, .int .i64 ((f.kept : Nat) : Int)] rfl (by exact rfile_src w1 f.n ((f.kept : Nat) : Int) B1 (f.kept) c1 w1.heap.size rfl) (by unfold maxLen; omega) (by omega) ?_; intro B2 c2 w2 o2 g2 bb2; have HO2 := Lib.hid o2; have HG2 := Lib.hid g2; have HB2 := Lib.hid bb2; clear o2 g2 bb2))
              have hgl : (⟨f.n, f.raw.take (f.kept), f.kept⟩ : Fl) = f.fl.lose x := by
                have h1 := HRAW.out
                rw [if_neg hto] at h1
                exact flose_ext rfl h1.symm HK.out.symm
              have hP := rleft_push (fs := fs) (w3 := w2) (f := f.fl) (g := ⟨f.n, f.raw.take (f.kept), f.kept, .slice B1 (f.kept) c1⟩) HLEN.out HE2.out (HE3.out.touch HT1.out fun _ _ => id) (fun f' hf' => ⟨(HE4.out f' hf').1.touch HT1.out fun _ _ => id, (HE4.out f' hf').2⟩) HE5.out (HE6.out.trans HT1.out fun _ _ => id) HFR.out (by rw [← HXX.out, HK.out]; omega) (by rw [← HXX.out]; exact hgl) R1.out (fun k' hk' => by have := HN1.out k' hk'; have := HE6.out.size; omega) HO2.out HG2.out HB2.out
              refine ⟨⟨j + 1, by omega, by simp, hP⟩, by simp [intOf] <;> omega⟩
          · have hpk : (0 : Int) < (k : Int) := by omega
            have hp1 : ((k : Int) % 2 == 0) = false := by simp; omega
            have hm0 : ¬ M = 0 := by have := HM.out; omega
            have hmp : (0 : Int) < ((M : Nat) : Int) := by omega
            have HTL := Lib.hid (show (f.raw.take (M)).length = M by rw [List.length_take]; omega)
            go_wp2_with (first | (at_builtin; refine wpList_row_bs rfl (.tmp 58) (.tmp 62) 22 rfl Try.info5 Try.underlying22 (.slice (some ⟨S.heap.size, 0, none⟩) 0 0) [] rfl (Row.lit [] #[] rfl (by simp)) (some ⟨gb, 0, none⟩) (M) cf (f.raw.take (M)) rfl (HBS.out _) (by simp only [List.length_nil, HTL.out]; omega) ?_; intro B1 c1 w1 r1 g1 o1; simp only [List.length_nil, Nat.zero_add, List.nil_append, HTL.out] at r1 g1 o1 ⊢; have hT1 : Fresh S w1 := ((Touch.refl (fun _ => False) S).alloc _).grown g1 (fun k hk => .inl (by simp only [Value.ownBlock, Option.some.injEq] at hk; omega)); have hN1 := KN1.out B1 (M) c1 _ o1; have p0 := (HAFT.out w1 hT1).1; have R1 := Lib.hid r1; have HT1 := Lib.hid hT1; have HN1 := Lib.hid hN1; clear r1 g1 o1 hT1 hN1) | (at_builtin; refine wpList_own_src _ rfl (.tmp 83) (.tmp 89) 97 97 rfl 104 (.agg #[.int .i64 0, .slice none 0 0, .int .i64 0]) 3 40 Try.info104 Try.underlying97 rfl u4 _ _ rfl ((HE3.out.touch HT1.out fun _ _ => id).alloc _) HONE.out (.slice (some ⟨w1.heap.size, 0, none⟩) 1 1) 1 [.int .i64 f.n, .slice B1 (M) c1, .int .i64 ((M : Nat) : Int)] rfl (by exact rfile_src w1 f.n ((M : Nat) : Int) B1 (M) c1 w1.heap.size rfl) (by unfold maxLen; omega) (by omega) ?_; intro B2 c2 w2 o2 g2 bb2; have HO2 := Lib.hid o2; have HG2 := Lib.hid g2; have HB2 := Lib.hid bb2; clear o2 g2 bb2))
            have hgl : (⟨f.n, f.raw.take (M), M⟩ : Fl) = f.fl.lose x := by
              have h1 := HRAW.out
              rw [if_neg hto] at h1
              exact flose_ext rfl h1.symm HK.out.symm
            have hP := rleft_push (fs := fs) (w3 := w2) (f := f.fl) (g := ⟨f.n, f.raw.take (M), M, .slice B1 (M) c1⟩) HLEN.out HE2.out (HE3.out.touch HT1.out fun _ _ => id) (fun f' hf' => ⟨(HE4.out f' hf').1.touch HT1.out fun _ _ => id, (HE4.out f' hf').2⟩) HE5.out (HE6.out.trans HT1.out fun _ _ => id) HFR.out (by rw [← HXX.out, HK.out]; omega) (by rw [← HXX.out]; exact hgl) R1.out (fun k' hk' => by have := HN1.out k' hk'; have := HE6.out.size; omega) HO2.out HG2.out HB2.out
            refine ⟨⟨j + 1, by omega, by simp, hP⟩, by simp [intOf] <;> omega⟩
      · by_cases hto : k % 2 = 0 ∧ 0 < k
        · obtain ⟨M1, rfl⟩ : ∃ M1, M = M1 + 1 := ⟨M - 1, by have := HM.out; omega⟩
          have hp1 : ((k : Int) % 2 == 0) = true := by simp; omega
          have hpk : (0 : Int) < (k : Int) := by omega
          have HTL := Lib.hid (show (f.raw.take (M1 + 1)).length = M1 + 1 by rw [List.length_take]; omega)
          go_wp2_with (first | (at_builtin; refine wpList_row_bs rfl (.tmp 58) (.tmp 62) 22 rfl Try.info5 Try.underlying22 (.slice (some ⟨S.heap.size, 0, none⟩) 0 0) [] rfl (Row.lit [] #[] rfl (by simp)) (some ⟨gb, 0, none⟩) (M1 + 1) cf (f.raw.take (M1 + 1)) rfl (HBS.out _) (by simp only [List.length_nil, HTL.out]; omega) ?_; intro B1 c1 w1 r1 g1 o1; simp only [List.length_nil, Nat.zero_add, List.nil_append, HTL.out] at r1 g1 o1 ⊢; have hT1 : Fresh S w1 := ((Touch.refl (fun _ => False) S).alloc _).grown g1 (fun k hk => .inl (by simp only [Value.ownBlock, Option.some.injEq] at hk; omega)); have hN1 := KN1.out B1 (M1 + 1) c1 _ o1; obtain ⟨b1, x8, rfl, hx8, s0, s1, s2⟩ := row_torn r1 (by omega); have hbS : S.heap.size ≤ b1 := hN1 _ rfl; have hTW : ∀ v, Fresh S (w1.setCell ⟨b1, M1, none⟩ v) := fun v => hT1.setCell (p := ⟨b1, M1, none⟩) (.inl hbS) v; have p0 := fun v => (HAFT.out _ (hTW v)).1; have R1 := Lib.hid s2; have HTW := Lib.hid hTW; clear s2 hTW; have HT1 := Lib.hid hT1; have HN1 := Lib.hid hN1; clear r1 g1 o1 hT1 hN1) | (at_builtin; refine wpList_own_src _ rfl (.tmp 83) (.tmp 89) 97 97 rfl 104 (.agg #[.int .i64 0, .slice none 0 0, .int .i64 0]) 3 40 Try.info104 Try.underlying97 rfl u4 _ _ rfl ((HE3.out.touch (HTW.out _) fun _ _ => id).alloc _) HONE.out (.slice (some ⟨w1.heap.size, 0, none⟩) 1 1) 1 [.int .i64 f.n, .slice (some ⟨b1, 0, none⟩) (M1 + 1) c1, .int .i64 ((M1 + 1 : Nat) : Int)] rfl (by exact rfile_src (w1.setCell ⟨b1, M1, none⟩ (.int .u8 (255 - (x8 : Int)))) f.n ((M1 + 1 : Nat) : Int) (some ⟨b1, 0, none⟩) (M1 + 1) c1 w1.heap.size (by simp [World.setCell])) (by unfold maxLen; omega) (by omega) ?_; intro B2 c2 w2 o2 g2 bb2; have HO2 := Lib.hid o2; have HG2 := Lib.hid g2; have HB2 := Lib.hid bb2; clear o2 g2 bb2))
          have hgl : (⟨f.n, (f.raw.take (M1 + 1)).set M1 (255 - f.raw.getD M1 0), M1 + 1⟩ : Fl) = f.fl.lose x := by
            have h1 := HRAW.out
            rw [if_pos hto] at h1
            exact flose_ext rfl h1.symm HK.out.symm
          have hP := rleft_push (fs := fs) (w3 := w2) (f := f.fl) (g := ⟨f.n, (f.raw.take (M1 + 1)).set M1 (255 - f.raw.getD M1 0), M1 + 1, .slice (some ⟨b1, 0, none⟩) (M1 + 1) c1⟩) HLEN.out HE2.out (HE3.out.touch (HTW.out _) fun _ _ => id) (fun f' hf' => ⟨(HE4.out f' hf').1.touch (HTW.out _) fun _ _ => id, (HE4.out f' hf').2⟩) HE5.out (HE6.out.trans (HTW.out _) fun _ _ => id) HFR.out (by rw [← HXX.out, HK.out]; omega) (by rw [← HXX.out]; exact hgl) R1.out (fun k' hk' => by have := HN1.out k' hk'; have := HE6.out.size; omega) HO2.out HG2.out HB2.out
          refine ⟨⟨j + 1, by omega, by simp, hP⟩, by simp [intOf] <;> omega⟩
        · by_cases hk0 : k = 0
          · have hpk : ¬ (0 : Int) < (k : Int) := by omega
            obtain rfl : M = f.kept := by have := HM.out; omega
            by_cases hm0 : f.kept = 0
            · have hmp : decide ((0 : Int) < ((f.kept : Nat) : Int)) = false := by simp; omega
              have hmpn : decide (0 < f.kept) = false := by simp; omega
              have HM0 := Lib.hid hm0
              clear hm0
              have HTL := Lib.hid (show (f.raw.take (f.kept)).length = f.kept by rw [List.length_take]; omega)
              go_wp2_with (at_builtin; refine wpList_row_bs rfl (.tmp 58) (.tmp 62) 22 rfl Try.info5 Try.underlying22 (.slice (some ⟨S.heap.size, 0, none⟩) 0 0) [] rfl (Row.lit [] #[] rfl (by simp)) (some ⟨gb, 0, none⟩) (f.kept) cf (f.raw.take (f.kept)) rfl (HBS.out _) (by simp only [List.length_nil, HTL.out]; omega) ?_; intro B1 c1 w1 r1 g1 o1; simp only [List.length_nil, Nat.zero_add, List.nil_append, HTL.out] at r1 g1 o1 ⊢; have hT1 : Fresh S w1 := ((Touch.refl (fun _ => False) S).alloc _).grown g1 (fun k hk => .inl (by simp only [Value.ownBlock, Option.some.injEq] at hk; omega)); have hN1 := KN1.out B1 (f.kept) c1 _ o1; have p0 := (HAFT.out w1 hT1).1; have R1 := Lib.hid r1; have HT1 := Lib.hid hT1; have HN1 := Lib.hid hN1; clear r1 g1 o1 hT1 hN1)
              exact ⟨⟨j + 1, by omega, by simp, HL.out.skip HFR.out (by rw [← HXX.out, HK.out]; exact HM0.out) (HTS.out.trans HT1.out fun _ _ => id)⟩, by simp [intOf] <;> omega⟩
            · have hmp : (0 : Int) < ((f.kept : Nat) : Int) := by omega
              have HTL := Lib.hid (show (f.raw.take (f.kept)).length = f.kept by rw [List.length_take]; omega)
              go_wp2_with (first | (at_builtin; refine wpList_row_bs rfl (.tmp 58) (.tmp 62) 22 rfl Try.info5 Try.underlying22 (.slice (some ⟨S.heap.size, 0, none⟩) 0 0) [] rfl (Row.lit [] #[] rfl (by simp)) (some ⟨gb, 0, none⟩) (f.kept) cf (f.raw.take (f.kept)) rfl (HBS.out _) (by simp only [List.length_nil, HTL.out]; omega) ?_; intro B1 c1 w1 r1 g1 o1; simp only [List.length_nil, Nat.zero_add, List.nil_append, HTL.out] at r1 g1 o1 ⊢; have hT1 : Fresh S w1 := ((Touch.refl (fun _ => False) S).alloc _).grown g1 (fun k hk => .inl (by simp only [Value.ownBlock, Option.some.injEq] at hk; omega)); have hN1 := KN1.out B1 (f.kept) c1 _ o1; have p0 := (HAFT.out w1 hT1).1; have R1 := Lib.hid r1; have HT1 := Lib.hid hT1; have HN1 := Lib.hid hN1; clear r1 g1 o1 hT1 hN1) | (at_builtin; refine wpList_own_src _ rfl (.tmp 83) (.tmp 89) 97 97 rfl 104 (.agg #[.int .i64 0, .slice none 0 0, .int .i64 0]) 3 40 Try.info104 Try.underlying97 rfl u4 _ _ rfl ((HE3.out.touch HT1.out fun _ _ => id).alloc _) HONE.out (.slice (some ⟨w1.heap.size, 0, none⟩) 1 1) 1 [.int .i64 f.n, .slice B1 (f.kept) c1, .int .i64 ((f.kept : Nat) : Int)] rfl (by exact rfile_src w1 f.n ((f.kept : Nat) : Int) B1 (f.kept) c1 w1.heap.size rfl) (by unfold maxLen; omega) (by omega) ?_; intro B2 c2 w2 o2 g2 bb2; have HO2 := Lib.hid o2; have HG2 := Lib.hid g2; have HB2 := Lib.hid bb2; clear o2 g2 bb2))
              have hgl : (⟨f.n, f.raw.take (f.kept), f.kept⟩ : Fl) = f.fl.lose x := by
                have h1 := HRAW.out
                rw [if_neg hto] at h1
                exact flose_ext rfl h1.symm HK.out.symm
              have hP := rleft_push (fs := fs) (w3 := w2) (f := f.fl) (g := ⟨f.n, f.raw.take (f.kept), f.kept, .slice B1 (f.kept) c1⟩) HLEN.out HE2.out (HE3.out.touch HT1.out fun _ _ => id) (fun f' hf' => ⟨(HE4.out f' hf').1.touch HT1.out fun _ _ => id, (HE4.out f' hf').2⟩) HE5.out (HE6.out.trans HT1.out fun _ _ => id) HFR.out (by rw [← HXX.out, HK.out]; omega) (by rw [← HXX.out]; exact hgl) R1.out (fun k' hk' => by have := HN1.out k' hk'; have := HE6.out.size; omega) HO2.out HG2.out HB2.out
              refine ⟨⟨j + 1, by omega, by simp, hP⟩, by simp [intOf] <;> omega⟩
          · have hpk : (0 : Int) < (k : Int) := by omega
            have hp1 : ((k : Int) % 2 == 0) = false := by simp; omega
            have hm0 : ¬ M = 0 := by have := HM.out; omega
            have hmp : (0 : Int) < ((M : Nat) : Int) := by omega
            have HTL := Lib.hid (show (f.raw.take (M)).length = M by rw [List.length_take]; omega)
            go_wp2_with (first | (at_builtin; refine wpList_row_bs rfl (.tmp 58) (.tmp 62) 22 rfl Try.info5 Try.underlying22 (.slice (some ⟨S.heap.size, 0, none⟩) 0 0) [] rfl (Row.lit [] #[] rfl (by simp)) (some ⟨gb, 0, none⟩) (M) cf (f.raw.take (M)) rfl (HBS.out _) (by simp only [List.length_nil, HTL.out]; omega) ?_; intro B1 c1 w1 r1 g1 o1; simp only [List.length_nil, Nat.zero_add, List.nil_append, HTL.out] at r1 g1 o1 ⊢; have hT1 : Fresh S w1 := ((Touch.refl (fun _ => False) S).alloc _).grown g1 (fun k hk => .inl (by simp only [Value.ownBlock, Option.some.injEq] at hk; omega)); have hN1 := KN1.out B1 (M) c1 _ o1; have p0 := (HAFT.out w1 hT1).1; have R1 := Lib.hid r1; have HT1 := Lib.hid hT1; have HN1 := Lib.hid hN1; clear r1 g1 o1 hT1 hN1) | (at_builtin; refine wpList_own_src _ rfl (.tmp 83) (.tmp 89) 97 97 rfl 104 (.agg #[.int .i64 0, .slice none 0 0, .int .i64 0]) 3 40 Try.info104 Try.underlying97 rfl u4 _ _ rfl ((HE3.out.touch HT1.out fun _ _ => id).alloc _) HONE.out (.slice (some ⟨w1.heap.size, 0, none⟩) 1 1) 1 [.int .i64 f.n, .slice B1 (M) c1, .int .i64 ((M : Nat) : Int)] rfl (by exact rfile_src w1 f.n ((M : Nat) : Int) B1 (M) c1 w1.heap.size rfl) (by unfold maxLen; omega) (by omega) ?_; intro B2 c2 w2 o2 g2 bb2; have HO2 := Lib.hid o2; have HG2 := Lib.hid g2; have HB2 := Lib.hid bb2; clear o2 g2 bb2))
            have hgl : (⟨f.n, f.raw.take (M), M⟩ : Fl) = f.fl.lose x := by
              have h1 := HRAW.out
              rw [if_neg hto] at h1
              exact flose_ext rfl h1.symm HK.out.symm
            have hP := rleft_push (fs := fs) (w3 := w2) (f := f.fl) (g := ⟨f.n, f.raw.take (M), M, .slice B1 (M) c1⟩) HLEN.out HE2.out (HE3.out.touch HT1.out fun _ _ => id) (fun f' hf' => ⟨(HE4.out f' hf').1.touch HT1.out fun _ _ => id, (HE4.out f' hf').2⟩) HE5.out (HE6.out.trans HT1.out fun _ _ => id) HFR.out (by rw [← HXX.out, HK.out]; omega) (by rw [← HXX.out]; exact hgl) R1.out (fun k' hk' => by have := HN1.out k' hk'; have := HE6.out.size; omega) HO2.out HG2.out HB2.out
            refine ⟨⟨j + 1, by omega, by simp, hP⟩, by simp [intOf] <;> omega⟩
      · have hto : ¬ (k % 2 = 0 ∧ 0 < k) := by omega
        obtain rfl : M = f.kept := by have := HM.out; omega
        by_cases hm0 : f.kept = 0
        · have hmp : decide ((0 : Int) < ((f.kept : Nat) : Int)) = false := by simp; omega
          have hmpn : decide (0 < f.kept) = false := by simp; omega
          have HM0 := Lib.hid hm0
          clear hm0
          have HTL := Lib.hid (show (f.raw.take (f.kept)).length = f.kept by rw [List.length_take]; omega)
          go_wp2_with (at_builtin; refine wpList_row_bs rfl (.tmp 58) (.tmp 62) 22 rfl Try.info5 Try.underlying22 (.slice (some ⟨S.heap.size, 0, none⟩) 0 0) [] rfl (Row.lit [] #[] rfl (by simp)) (some ⟨gb, 0, none⟩) (f.kept) cf (f.raw.take (f.kept)) rfl (HBS.out _) (by simp only [List.length_nil, HTL.out]; omega) ?_; intro B1 c1 w1 r1 g1 o1; simp only [List.length_nil, Nat.zero_add, List.nil_append, HTL.out] at r1 g1 o1 ⊢; have hT1 : Fresh S w1 := ((Touch.refl (fun _ => False) S).alloc _).grown g1 (fun k hk => .inl (by simp only [Value.ownBlock, Option.some.injEq] at hk; omega)); have hN1 := KN1.out B1 (f.kept) c1 _ o1; have p0 := (HAFT.out w1 hT1).1; have R1 := Lib.hid r1; have HT1 := Lib.hid hT1; have HN1 := Lib.hid hN1; clear r1 g1 o1 hT1 hN1)
          exact ⟨⟨j + 1, by omega, by simp, HL.out.skip HFR.out (by rw [← HXX.out, HK.out]; exact HM0.out) (HTS.out.trans HT1.out fun _ _ => id)⟩, by simp [intOf] <;> omega⟩
        · have hmp : (0 : Int) < ((f.kept : Nat) : Int) := by omega
          have HTL := Lib.hid (show (f.raw.take (f.kept)).length = f.kept by rw [List.length_take]; omega)
          go_wp2_with (first | (at_builtin; refine wpList_row_bs rfl (.tmp 58) (.tmp 62) 22 rfl Try.info5 Try.underlying22 (.slice (some ⟨S.heap.size, 0, none⟩) 0 0) [] rfl (Row.lit [] #[] rfl (by simp)) (some ⟨gb, 0, none⟩) (f.kept) cf (f.raw.take (f.kept)) rfl (HBS.out _) (by simp only [List.length_nil, HTL.out]; omega) ?_; intro B1 c1 w1 r1 g1 o1; simp only [List.length_nil, Nat.zero_add, List.nil_append, HTL.out] at r1 g1 o1 ⊢; have hT1 : Fresh S w1 := ((Touch.refl (fun _ => False) S).alloc _).grown g1 (fun k hk => .inl (by simp only [Value.ownBlock, Option.some.injEq] at hk; omega)); have hN1 := KN1.out B1 (f.kept) c1 _ o1; have p0 := (HAFT.out w1 hT1).1; have R1 := Lib.hid r1; have HT1 := Lib.hid hT1; have HN1 := Lib.hid hN1; clear r1 g1 o1 hT1 hN1) | (at_builtin; refine wpList_own_src _ rfl (.tmp 83) (.tmp 89) 97 97 rfl 104 (.agg #[.int .i64 0, .slice none 0 0, .int .i64 0]) 3 40 Try.info104 Try.underlying97 rfl u4 _ _ rfl ((HE3.out.touch HT1.out fun _ _ => id).alloc _) HONE.out (.slice (some ⟨w1.heap.size, 0, none⟩) 1 1) 1 [.int .i64 f.n, .slice B1 (f.kept) c1, .int .i64 ((f.kept : Nat) : Int)] rfl (by exact rfile_src w1 f.n ((f.kept : Nat) : Int) B1 (f.kept) c1 w1.heap.size rfl) (by unfold maxLen; omega) (by omega) ?_; intro B2 c2 w2 o2 g2 bb2; have HO2 := Lib.hid o2; have HG2 := Lib.hid g2; have HB2 := Lib.hid bb2; clear o2 g2 bb2))
          have hgl : (⟨f.n, f.raw.take (f.kept), f.kept⟩ : Fl) = f.fl.lose x := by
            have h1 := HRAW.out
            rw [if_neg hto] at h1
            exact flose_ext rfl h1.symm HK.out.symm
          have hP := rleft_push (fs := fs) (w3 := w2) (f := f.fl) (g := ⟨f.n, f.raw.take (f.kept), f.kept, .slice B1 (f.kept) c1⟩) HLEN.out HE2.out (HE3.out.touch HT1.out fun _ _ => id) (fun f' hf' => ⟨(HE4.out f' hf').1.touch HT1.out fun _ _ => id, (HE4.out f' hf').2⟩) HE5.out (HE6.out.trans HT1.out fun _ _ => id) HFR.out (by rw [← HXX.out, HK.out]; omega) (by rw [← HXX.out]; exact hgl) R1.out (fun k' hk' => by have := HN1.out k' hk'; have := HE6.out.size; omega) HO2.out HG2.out HB2.out
          refine ⟨⟨j + 1, by omega, by simp, hP⟩, by simp [intOf] <;> omega⟩
    · have hjl : j = fs.length := by omega
      subst hjl
      rw [List.drop_eq_nil_of_le (by rw [H.out.len]; exact Nat.le_refl _)] at e2
      obtain ⟨A5, c5, rfl, _, _, _⟩ := e3.form
      have hne5 : (Value.slice A5 gs.length c5).ownBlock ≠ some bd := fun e => by have := e5 bd e; have := H.out.blk.lt; omega
      have k1 : ∀ v, (wr.setCell ⟨bd, 0, none⟩ v).cell? ⟨bd, 1, none⟩ = some fv := fun v => (hR.blk.set_ 0 v).cell 1
      have k1f : ∀ v, (wr.setCell ⟨bd, 0, none⟩ v).frozen? ⟨bd, 1, none⟩ = false := fun v => (hR.blk.set_ 0 v).frozen 1
      have k0f : wr.frozen? ⟨bd, 0, none⟩ = false := hR.blk.frozen 0
      have k2 : ∀ v v', ((wr.setCell ⟨bd, 0, none⟩ v).setCell ⟨bd, 1, none⟩ v').cell? ⟨bd, 2, none⟩ = some (.int .i64 r.stop) := fun v v' => ((hR.blk.set_ 0 v).set_ 1 v').cell 2
      have k2f : ∀ v v', ((wr.setCell ⟨bd, 0, none⟩ v).setCell ⟨bd, 1, none⟩ v').frozen? ⟨bd, 2, none⟩ = false := fun v v' => ((hR.blk.set_ 0 v).set_ 1 v').frozen 2
      have hFV : ∃ Af nf cf, fv = .slice Af nf cf := by obtain ⟨Af, cf, e, _⟩ := H.out.flt.form; exact ⟨Af, _, cf, e⟩
      have HFIN := Lib.hid (show RStep w bd (.slice A0 fs.length c0) fv fs (r.crash cuts) (.returned (.tuple #[])) (.returned (.tuple #[])) (((wr.setCell ⟨bd, 0, none⟩ (.slice A5 gs.length c5)).setCell ⟨bd, 1, none⟩ (.slice none 0 0)).setCell ⟨bd, 2, none⟩ (.int .i64 (-1))) from by
        have hT : Touch (fun k => k = bd) w (((wr.setCell ⟨bd, 0, none⟩ (.slice A5 gs.length c5)).setCell ⟨bd, 1, none⟩ (.slice none 0 0)).setCell ⟨bd, 2, none⟩ (.int .i64 (-1))) := (((Touch.mono (S' := fun k => k = bd) e6 fun _ _ => False.elim).setCell (p := ⟨bd, 0, none⟩) (.inr rfl) _).setCell (p := ⟨bd, 1, none⟩) (.inr rfl) _).setCell (p := ⟨bd, 2, none⟩) (.inr rfl) _
        refine ⟨rfl, hT.mono fun k _ e => .inl e, .slice A5 gs.length c5, .slice none 0 0, gs, ⟨?_, ?_, ?_, ?_, ?_⟩, ?_⟩
        · show Fl.crash r.fs cuts = _
          rw [← e2]
          exact List.append_nil _
        · exact ((hR.blk.set_ 0 _).set_ 1 _).set_ 2 _
        · exact ((e3.far (p := ⟨bd, 0, none⟩) hne5 _).far (p := ⟨bd, 1, none⟩) hne5 _).far (p := ⟨bd, 2, none⟩) hne5 _
        · exact Own.nil_ _ _ _
        · intro f hf
          have hn : f.v.ownBlock ≠ some bd := fun e => by have := (e4 f hf).2 bd e; have := H.out.blk.lt; omega
          exact (((e4 f hf).1.far (p := ⟨bd, 0, none⟩) hn _).far (p := ⟨bd, 1, none⟩) hn _).far (p := ⟨bd, 2, none⟩) hn _
        · rintro k (e | e | e | ⟨f, hf, e⟩)
          · exact .inl (.inl e)
          · exact .inr (e5 k e)
          · cases e
          · exact .inr ((e4 f hf).2 k e))
      obtain ⟨Af, nf, cf, rfl⟩ := hFV
      clear e1 e2 e3 e4 e5 e6 hR hL hne5
      go_wp2_with fail
      go_end0
      exact HFIN.out
end Go.Proofs.Ythmjnlkdoepmjaa
