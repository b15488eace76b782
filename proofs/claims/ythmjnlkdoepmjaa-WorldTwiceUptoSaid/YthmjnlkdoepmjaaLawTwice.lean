/- The walk of the law WorldTwice: it answers true. Conditions stand with it. -/
import Derived.Test.YthmjnlkdoepmjaaLawDisk
namespace Go.Proofs.Ythmjnlkdoepmjaa
open Go.RowKit

theorem flose_full (f : Fl) (cut : Int) (hk : f.kept ≤ f.raw.length) : (f.lose cut).kept = (f.lose cut).raw.length := by
  have hlt : f.ways cut < 2 * (f.raw.length - f.kept) + 1 := (ways_tmod f cut (f.raw.length - f.kept) (by omega)).1
  show f.kept + (f.ways cut + 1) / 2 = (if _ then (f.raw.take (f.kept + (f.ways cut + 1) / 2)).set _ _ else f.raw.take (f.kept + (f.ways cut + 1) / 2)).length
  split
  · rw [List.length_set, List.length_take]; omega
  · rw [List.length_take]; omega
theorem crash_full : ∀ (fs : List Fl) (cuts : List Int), (∀ f ∈ fs, f.kept ≤ f.raw.length) → ∀ f ∈ Fl.crash fs cuts, f.kept = f.raw.length ∧ f.kept ≠ 0
  | [], _, _, f, hf => by cases hf
  | x :: r, cuts, h, f, hf => by
    unfold Fl.crash at hf
    have ih := crash_full r cuts.tail fun g hg => h g (List.mem_cons_of_mem _ hg)
    split at hf
    · exact ih f hf
    · rename_i h0
      rcases List.mem_cons.1 hf with rfl | hf
      · exact ⟨flose_full x _ (h x (by simp)), h0⟩
      · exact ih f hf
theorem crash_same : ∀ (fs : List Fl) (cuts : List Int), (∀ f ∈ fs, f.kept = f.raw.length ∧ f.kept ≠ 0) → Fl.crash fs cuts = fs
  | [], _, _ => rfl
  | x :: r, cuts, h => by
    obtain ⟨h1, h2⟩ := h x (by simp)
    have hw : x.ways (cuts.headD 0) = 0 := by
      have := (ways_tmod x (cuts.headD 0) 0 (by omega)).1
      omega
    have hl : x.lose (cuts.headD 0) = x := by
      refine flose_ext rfl ?_ ?_
      · show (if x.ways (cuts.headD 0) % 2 = 0 ∧ 0 < x.ways (cuts.headD 0) then _ else x.raw.take (x.kept + (x.ways (cuts.headD 0) + 1) / 2)) = x.raw
        rw [hw, if_neg (by omega), h1]
        simp
      · show x.kept + (x.ways (cuts.headD 0) + 1) / 2 = x.kept
        rw [hw]
        simp
    unfold Fl.crash
    rw [hl, if_neg h2, crash_same r cuts.tail fun f hf => h f (List.mem_cons_of_mem _ hf)]
theorem crash_wf : ∀ (fs : List Fl) (cuts : List Int), (∀ f ∈ fs, (Lit.int .i64 f.n).wf = true) → ∀ f ∈ Fl.crash fs cuts, (Lit.int .i64 f.n).wf = true
  | [], _, _, f, hf => by cases hf
  | x :: r, cuts, h, f, hf => by
    unfold Fl.crash at hf
    have ih := crash_wf r cuts.tail fun g hg => h g (List.mem_cons_of_mem _ hg)
    split at hf
    · exact ih f hf
    · rcases List.mem_cons.1 hf with rfl | hf
      · exact h x (by simp)
      · exact ih f hf
theorem Try.info22 : (Try.prog.info? 22).map (fun i => (i.zero, i.size, i.bytes)) = some (some (.slice none 0 0), 1, 24) := by kernel_rfl
theorem bs_new (w : World) (A : Option Addr) (m c : Nat) : Src Try.prog 1 56 (.slice (some ⟨w.heap.size, 0, none⟩) 1 1) 1 [.slice A m c] (w.alloc (.cells #[.slice A m c] 22)) := by
  refine Src.ofSlice _ Try.underlying56 _ _ _ _ rfl (fun j u hu => ?_) (by intro u hu; simp at hu; subst hu; rfl)
  have hb := Blk.new w 22 #[.slice A m c]
  rw [add_flat, Nat.zero_add, hb.cell j, ← hu]
  simp
/-- what was read so far -/
def Was (d : Dk) (base : Nat) (v : Value) (j : Nat) (w : World) : Prop :=
  ∃ rs : List Value, rs.length = j ∧ Own w 22 1 v j rs ∧ (∀ u ∈ rs, u.oneCell' = true) ∧ (∀ k, v.ownBlock = some k → base ≤ k) ∧ ∀ (i : Nat) (u : Value) (n : Int), rs[i]? = some u → (d.fs.map Fl.n)[i]? = some n → ∃ B c, u = .slice B (d.read n).length c ∧ Row w u (d.read n) ∧ ∀ a, B = some a → base ≤ a.block
theorem Was.touch {d : Dk} {base : Nat} {v : Value} {j : Nat} {w w' : World} {S : Nat → Prop} (h : Was d base v j w) (ht : Touch S w w') (hS : ∀ k, base ≤ k → ¬ S k) : Was d base v j w' := by
  obtain ⟨rs, h1, h2, h3, h4, h5⟩ := h
  refine ⟨rs, h1, h2.touch ht fun k hk => hS k (h4 k hk), h3, h4, fun i u n hu hn => ?_⟩
  obtain ⟨B, c, rfl, hr, hb⟩ := h5 i u n hu hn
  refine ⟨B, c, rfl, hr.touch ht fun k hk => ?_, hb⟩
  cases B with
  | none => cases hk
  | some a =>
    have hak : a.block = k := by simpa [Value.ownBlock] using hk
    exact hS k (by rw [← hak]; exact hb a rfl)
theorem was_push {d : Dk} {base : Nat} {v : Value} {j : Nat} {w w2 : World} {A B : Option Addr} {c c2 : Nat} {n : Int} {rs : List Value} (h1 : rs.length = j) (h2 : Own w 22 1 v j rs) (h3 : ∀ u ∈ rs, u.oneCell' = true) (h4 : ∀ k, v.ownBlock = some k → base ≤ k) (h5 : ∀ (i : Nat) (u : Value) (n : Int), rs[i]? = some u → (d.fs.map Fl.n)[i]? = some n → ∃ B c, u = .slice B (d.read n).length c ∧ Row w u (d.read n) ∧ ∀ a, B = some a → base ≤ a.block)
    (hn : (d.fs.map Fl.n)[j]? = some n) (hr : Row w (.slice A (d.read n).length c) (d.read n)) (hb : ∀ a, A = some a → base ≤ a.block) (hz : base ≤ w.heap.size)
    {o : Obj} (hO : Own w2 22 1 (.slice B (j + 1) c2) (j + 1) (rs ++ [.slice A (d.read n).length c])) (hg : (w.alloc o).grownBy w2 v.ownBlock) (hbk : (Value.slice B (j + 1) c2).ownBlock = v.ownBlock ∨ (Value.slice B (j + 1) c2).ownBlock = some (w.alloc o).heap.size) :
    Was d base (.slice B (j + 1) c2) (j + 1) w2 := by
  have hT : Touch (fun k => v.ownBlock = some k) w w2 := ((Touch.refl _ w).alloc o).grown hg fun k hk => .inr hk
  have hrow : ∀ {u : Value} {xs : List UInt8}, Row w u xs → Row w2 u xs := fun {u xs} hx => hx.touch hT fun k hk e => Own.ne_own h2 (Own.ofRow hx) (by decide) k e hk
  refine ⟨rs ++ [.slice A (d.read n).length c], by rw [List.length_append, h1]; rfl, hO, ?_, ?_, ?_⟩
  · intro u hu
    rcases List.mem_append.1 hu with hu | hu
    · exact h3 u hu
    · obtain rfl := List.mem_singleton.1 hu
      rfl
  · intro k hk
    rcases hbk with e | e
    · exact h4 k (e.symm.trans hk)
    · rw [hk, alloc_size] at e
      injection e with e
      omega
  · intro i u n' hu hn'
    rcases Nat.lt_or_ge i rs.length with hi | hi
    · rw [List.getElem?_append_left hi] at hu
      obtain ⟨B', c', rfl, hr', hb'⟩ := h5 i u n' hu hn'
      exact ⟨B', c', rfl, hrow hr', hb'⟩
    · rw [List.getElem?_append_right hi] at hu
      have h0 : i - rs.length = 0 := by
        rcases Nat.eq_zero_or_pos (i - rs.length) with h0 | h0
        · exact h0
        · rw [List.getElem?_eq_none (by simp; omega)] at hu; cases hu
      rw [h0] at hu
      simp only [List.getElem?_cons_zero, Option.some.injEq] at hu
      subst hu
      obtain rfl : i = j := by omega
      rw [hn] at hn'
      injection hn' with hn'
      subst hn'
      exact ⟨A, c, rfl, hrow hr, hb⟩

set_option maxRecDepth 20000 in
set_option maxHeartbeats 8000000 in
theorem law_twice (w : World) (A : Option Addr) (n c : Nat) (ops : List OpD) (Aa : Option Addr) (na ca : Nat) (ca' : List Int) (Ab : Option Addr) (nb cb : Nat) (cb' : List Int) (h : OpsAt w A n c ops)
    (ha : IsInts w Aa na ca ca') (har : ∀ x ∈ ca', -9223372036854775808 ≤ x ∧ x ≤ 9223372036854775807) (hal : ∀ x, Aa = some x → 0 < na → x.block < w.heap.size) (hb : IsInts w Ab nb cb cb') (hbr : ∀ x ∈ cb', -9223372036854775808 ≤ x ∧ x ≤ 9223372036854775807) (hbl : ∀ x, Ab = some x → 0 < nb → x.block < w.heap.size) :
    Calls Try.prog 8 #[.slice A n c, .slice Aa na ca, .slice Ab nb cb] w fun e w' => e = .returned (.bool true) ∧ Fresh w w' := by
  have hlen := h.len
  have hnc := h.vs.2.1
  have hcm := h.vs.2.2.1
  unfold maxLen at hcm
  obtain ⟨B, hB⟩ : ∃ B, B = w.heap.size := ⟨_, rfl⟩
  have HBE := Lib.hid hB
  have H := Lib.hid h; have HLEN := Lib.hid hlen
  have HA := Lib.hid ha; have HAR := Lib.hid har; have HAL := Lib.hid hal; have HBI := Lib.hid hb; have HBR := Lib.hid hbr; have HBL := Lib.hid hbl
  clear h hlen hB ha har hal hb hbr hbl
  go_enter Try.func8, Try.ntmps8
  go_wp2_with fail
  refine (newDisk_any w).mono ?_
  rintro e w1 ⟨t1, bd, rfl, hd1⟩
  have HT1 := Lib.hid t1; have HD1 := Lib.hid hd1
  clear t1 hd1
  go_wp2_with fail
  refine (rnewDisk_any w1).mono ?_
  rintro e w2 ⟨t2, br, rfl, hd2⟩
  have H2 := Lib.hid (two_new HT1.out HD1.out t2 hd2)
  have HT2 := Lib.hid (HT1.out.trans t2 fun _ _ => id)
  clear t2 hd2 HD1
  go_wp2_with fail
  go_loopw [9] (fun i wr => ∃ j : Nat, j ≤ n ∧ j ≤ 200 ∧ i = .int .i64 j ∧ ∃ S T d r, Two B wr S T bd br d r (300 * j) ∧ Touch (fun k => B ≤ k) w wr) (fun i _ => n - (intOf i).toNat)
  case atStart => exact ⟨0, by omega, by omega, rfl, _, _, _, _, by rw [HBE.out]; exact H2.out, HT2.out.mono fun _ _ => False.elim⟩
  case round =>
    obtain ⟨j, hj, hj2, rfl, S, T, d, r, h2, ht⟩ := hrel
    have HR := Lib.hid h2; have HT := Lib.hid ht
    clear h2 ht
    by_cases hlt : j < n ∧ j < 200
    · obtain ⟨hl1, hl2⟩ := hlt
      obtain ⟨b, off, rfl⟩ := H.out.vs.at_ (by omega)
      obtain ⟨o, ho⟩ : ∃ o, ops[j]? = some o := ⟨ops[j]'(by rw [HLEN.out]; exact hl1), List.getElem?_eq_getElem _⟩
      have hop := H.out.op o (List.mem_of_getElem? ho)
      have hbk : b < B := by rw [HBE.out]; exact H.out.lt _ rfl (by omega)
      have hv := H.out.vs.touch HT.out fun a ha h0 e => by
        injection ha with ha
        subst ha
        have e : B ≤ b := e
        omega
      have hx := fun r hr => flat_at OpD.cells 6 (fun _ => rfl) ops j r o ho hr
      have k0 : wr.cell? ⟨b, off + j * 6, none⟩ = some (.int .i64 o.Do) := hv.cellAt (hx 0 (by omega))
      have k1 : wr.cell? ⟨b, off + j * 6 + 1, none⟩ = some (.int .i64 o.file) := hv.cellAt (hx 1 (by omega))
      have k2 : wr.cell? ⟨b, off + j * 6 + 2, none⟩ = some (.int .i64 o.n) := hv.cellAt (hx 2 (by omega))
      have k3 : wr.cell? ⟨b, off + j * 6 + 3, none⟩ = some (.int .i64 o.kd) := hv.cellAt (hx 3 (by omega))
      have k4 : wr.cell? ⟨b, off + j * 6 + 4, none⟩ = some (.slice o.A o.m o.c) := hv.cellAt (hx 4 (by omega))
      have k5 : wr.cell? ⟨b, off + j * 6 + 5, none⟩ = some (.slice o.C o.nc o.cc) := hv.cellAt (hx 5 (by omega))
      have HDO := Lib.hid (does_any HR.out (by have := HT.out.size; have := HBE.out; omega) (by omega) o.Do o.file o.n o.kd o.A o.m o.c o.xs o.C o.nc o.cc o.cuts (by have := hop.touch (B := w.heap.size) (w' := wr) (by rw [← HBE.out]; exact HT.out); rw [← HBE.out] at this; exact this))
      clear hop ho hv hx
      go_wp2_with fail
      refine HDO.out.mono ?_
      rintro e w3 ⟨rfl, t3, S3, T3, d3, r3, h3⟩
      have HE := Lib.hid (show Two B w3 S3 T3 bd br d3 r3 (300 * (j + 1)) from h3.grow (by omega))
      have HTE := Lib.hid (HT.out.trans t3 fun _ _ e => e)
      clear k0 k1 k2 k3 k4 k5 t3 h3 HDO
      go_wp2_with fail
      refine ⟨⟨j + 1, by omega, by omega, by simp, S3, T3, d3, r3, HE.out, HTE.out⟩, by simp [intOf] <;> omega⟩
    · by_cases hjn : j < n
      · have hj200 : j = 200 := by omega
        subst hj200
        have hgood := HR.out.disk.good.1
        have hfull := crash_full d.fs ca' fun f hf => (hgood f hf).1
        have hwf1 : ∀ f ∈ Fl.crash d.fs ca', (Lit.int .i64 f.n).wf = true := fun f hf => crash_wf d.fs ca' (fun f hf => (hgood f hf).2.2) f hf
        have HCR := Lib.hid (disk_crash HR.out.disk HR.out.small (by omega) (HA.out.touch HT.out fun x hx h0 e => by have := HAL.out x hx h0; have := HBE.out; omega) HAR.out fun x hx h0 e => by have := HAL.out x hx h0; have := HBE.out; have := HR.out.lo _ (.inl e); omega)
        have hsm := crash_small (cuts := ca') HR.out.small
        have hsame : (d.crash ca').fs = Fl.crash d.fs ca' := rfl
        have HFULL := Lib.hid hfull; have HWF1 := Lib.hid hwf1
        clear hgood hfull hwf1
        go_wp2_with fail
        refine HCR.out.mono ?_
        rintro e w3 ⟨rfl, t3, d3⟩
        generalize d.crash ca' = d1 at *
        have HSM := Lib.hid (show d1.small 60000 from hsm.mono (by omega))
        have HWF := Lib.hid (show ∀ f ∈ d1.fs, (Lit.int .i64 f.n).wf = true by rw [hsame]; exact HWF1.out)
        have HFU := Lib.hid (show ∀ f ∈ d1.fs, f.kept = f.raw.length ∧ f.kept ≠ 0 by rw [hsame]; exact HFULL.out)
        have HT3 := Lib.hid (HT.out.trans t3 fun k _ e => HR.out.lo k (.inl e))
        have HLO := Lib.hid (show ∀ k, more S wr w3 k → B ≤ k from fun k e => by
          rcases e with e | e
          · exact HR.out.lo k (.inl e)
          · have := HT.out.size; have := HBE.out; omega)
        generalize more S wr w3 = S3 at *
        have HD3 := Lib.hid d3
        have hlen1 : d1.fs.length ≤ 60000 := HSM.out.many
        clear hsm hsame t3 d3 HCR HFULL HWF1
        have HDF := Lib.hid (disk_files HD3.out HSM.out (by omega))
        go_wp2_with fail
        refine HDF.out.mono ?_
        rintro e w4 ⟨t4, L4, lc4, rfl, ho4, hn4⟩
        have HT4 := Lib.hid t4; have HO4 := Lib.hid ho4; have HN4 := Lib.hid hn4
        have hz4 := t4.size
        clear t4 ho4 hn4 HDF
        go_wp2_with fail
        go_loopw [11, 12] (fun wv i wk => ∃ j2 : Nat, j2 ≤ d1.fs.length ∧ i = .int .i64 j2 ∧ Fresh w4 wk ∧ Was d1 w4.heap.size wv j2 wk) (fun _ i _ => d1.fs.length - (intOf i).toNat)
        case atStart => exact ⟨0, by omega, rfl, Touch.refl _ _, [], rfl, Own.nil_ _ _ _, by simp, fun k hk => (by cases hk), fun i u n hu => (by simp at hu)⟩
        case round =>
          obtain ⟨j2, hj2', rfl, hTk, hW⟩ := hrel
          have HTK := Lib.hid hTk; have HW := Lib.hid hW
          clear hTk hW
          by_cases hlt2 : j2 < d1.fs.length
          · obtain ⟨g4, rfl⟩ : ∃ g, L4 = some ⟨g, 0, none⟩ := by
              obtain ⟨A', c', hv, _, _, hA⟩ := HO4.out.form
              injection hv with e1 _ _
              rcases hA with ⟨_, h0, _⟩ | ⟨g, hg⟩
              · omega
              · exact ⟨g, e1.trans hg⟩
            obtain ⟨f, hf⟩ : ∃ f, d1.fs[j2]? = some f := ⟨d1.fs[j2], List.getElem?_eq_getElem hlt2⟩
            have hwf := HWF.out f (List.mem_of_getElem? hf)
            have hnm : (d1.fs.map Fl.n)[j2]? = some f.n := by rw [List.getElem?_map, hf]; rfl
            have hcl : wr.cell? ⟨g4, j2, none⟩ = some (.int .i64 f.n) := by
              have := (HO4.out.touch HTK.out fun _ _ => id).cell (j := j2) (by omega)
              rw [this, intsV_get, hnm]
              rfl
            have HRD := Lib.hid (disk_read (HD3.out.fresh (HT4.out.trans HTK.out fun _ _ => id)) HSM.out (by omega) hwf)
            generalize f.n = nn at *
            have HNM := Lib.hid hnm
            clear hf hnm hwf
            go_wp2_with fail
            refine HRD.out.mono ?_
            rintro e w5 ⟨t5, B5, c5, rfl, hr5, hn5⟩
            obtain ⟨rs, q1, q2, q3, q4, q5⟩ := HW.out.touch t5 fun _ _ => id
            have Q1 := Lib.hid q1; have Q2 := Lib.hid q2; have Q3 := Lib.hid q3; have Q4 := Lib.hid q4; have Q5 := Lib.hid q5
            have HT5 := Lib.hid (HTK.out.trans t5 fun _ _ => id); have HR5 := Lib.hid hr5
            have HN5 := Lib.hid (show ∀ a, B5 = some a → w4.heap.size ≤ a.block from fun a ha => Nat.le_trans HTK.out.size (hn5 a ha))
            clear q1 q2 q3 q4 q5 t5 hr5 hn5 HRD
            go_wp2_with (at_builtin; refine wpList_own_src _ rfl _ _ 56 56 rfl 22 (.slice none 0 0) 1 24 Try.info22 Try.underlying56 rfl u11 _ _ rfl (Q2.out.alloc _) Q3.out (.slice (some ⟨w5.heap.size, 0, none⟩) 1 1) 1 [.slice B5 (d1.read nn).length c5] rfl (by exact bs_new w5 B5 (d1.read nn).length c5) (by unfold maxLen; omega) (by omega) ?_; intro B6 c6 w6 o6 g6 b6; have O6 := Lib.hid o6; have G6 := Lib.hid g6; have BB6 := Lib.hid b6; clear o6 g6 b6)
            have hP := was_push Q1.out Q2.out Q3.out Q4.out Q5.out HNM.out HR5.out HN5.out HT5.out.size O6.out G6.out BB6.out
            have hT6 : Fresh w4 w6 := (HT5.out.alloc _).grown G6.out fun k hk => .inl (Q4.out k hk)
            exact ⟨⟨j2 + 1, by omega, by simp, hT6, hP⟩, by simp [intOf] <;> omega⟩
          · have hj2e : j2 = d1.fs.length := by omega
            subst hj2e
            have hdk := HD3.out.fresh (HT4.out.trans HTK.out fun _ _ => id)
            have hTwk : Touch (fun k => B ≤ k) w wr := (HT3.out.trans HT4.out fun _ _ => False.elim).trans HTK.out fun _ _ => False.elim
            have HCR := Lib.hid (disk_crash hdk HSM.out (by omega) (HBI.out.touch hTwk fun x hx h0 e => by have := HBL.out x hx h0; have := HBE.out; omega) HBR.out fun x hx h0 e => by have := HBL.out x hx h0; have := HBE.out; have := HLO.out _ e; omega)
            have hfs2 : (d1.crash cb').fs = d1.fs := crash_same d1.fs cb' HFU.out
            have hsm2 := crash_small (cuts := cb') HSM.out
            have HTWK := Lib.hid hTwk
            clear hdk hTwk
            go_wp2_with fail
            refine HCR.out.mono ?_
            rintro e w7 ⟨rfl, t7, d7⟩
            generalize d1.crash cb' = d2 at *
            have hS3 : ∀ k, w4.heap.size ≤ k → ¬ S3 k := fun k hk e => by have := HD3.out.below k e; omega
            have HW7 := Lib.hid (HW.out.touch t7 hS3)
            have HO7 := Lib.hid (show Own w7 3 1 (.slice L4 d1.fs.length lc4) d1.fs.length (intsV (d1.fs.map Fl.n)) from (HO4.out.touch HTK.out fun _ _ => id).touch t7 fun k hk e => by have := HN4.out k hk; have := HD3.out.below k e; omega)
            have HD7 := Lib.hid d7; have HSM2 := Lib.hid hsm2
            have HRE := Lib.hid (show ∀ n, d2.read n = d1.read n from fun n => by unfold Dk.read; rw [hfs2])
            have HT7 := Lib.hid (HTWK.out.trans t7 fun k _ e => HLO.out k e)
            have HDF := Lib.hid (disk_files HD7.out HSM2.out (by omega))
            rw [hfs2] at HDF
            clear t7 d7 hsm2 hfs2 hS3 HCR
            go_wp2_with fail
            refine HDF.out.mono ?_
            rintro e w8 ⟨t8, L8, lc8, rfl, ho8, hn8⟩
            have HO8 := Lib.hid (HO7.out.touch t8 fun _ _ => id)
            have HIN := Lib.hid (ints_any w8 L8 L4 _ lc8 lc4 (d1.fs.map Fl.n) ho8.ints HO8.out.ints)
            have HT8 := Lib.hid t8
            clear t8 ho8 hn8 HDF
            go_wp2_with fail
            refine HIN.out.mono ?_
            rintro e w9 ⟨rfl, q, rfl⟩
            have HT9 := Lib.hid (show Fresh w7 (w8.drewN q) from HT8.out.drewN q)
            generalize w8.drewN q = w9 at *
            clear HIN
            obtain ⟨rs, q1, q2, q3, q4, q5⟩ := HW7.out
            obtain ⟨Aw, cw, hvw, _, _, hAw⟩ := q2.form
            subst hvw
            have Q1 := Lib.hid q1; have Q2 := Lib.hid q2; have Q5 := Lib.hid q5; have HAW := Lib.hid hAw
            clear q1 q2 q3 q4 q5 hAw HW7
            go_wp2_with fail
            go_loopw [13] (fun i wr => ∃ j3 : Nat, j3 ≤ d1.fs.length ∧ i = .int .i64 j3 ∧ Fresh w9 wr) (fun i _ => d1.fs.length - (intOf i).toNat)
            case atStart => exact ⟨0, by omega, rfl, Touch.refl _ _⟩
            case round =>
              obtain ⟨j3, hj3, rfl, hTm⟩ := hrel
              have HTM := Lib.hid (HT9.out.trans hTm fun _ _ => id)
              have HTN := Lib.hid hTm
              clear hTm
              by_cases hlt3 : j3 < d1.fs.length
              · obtain ⟨g4, rfl⟩ : ∃ g, L4 = some ⟨g, 0, none⟩ := by
                  obtain ⟨A', c', hv, _, _, hA⟩ := HO4.out.form
                  injection hv with e1 _ _
                  rcases hA with ⟨_, h0, _⟩ | ⟨g, hg⟩
                  · omega
                  · exact ⟨g, e1.trans hg⟩
                obtain ⟨gw, rfl⟩ : ∃ g, Aw = some ⟨g, 0, none⟩ := by
                  rcases HAW.out with ⟨_, h0, _⟩ | hg
                  · omega
                  · exact hg
                obtain ⟨f, hf⟩ : ∃ f, d1.fs[j3]? = some f := ⟨d1.fs[j3], List.getElem?_eq_getElem hlt3⟩
                have hwf := HWF.out f (List.mem_of_getElem? hf)
                have hnm : (d1.fs.map Fl.n)[j3]? = some f.n := by rw [List.getElem?_map, hf]; rfl
                obtain ⟨u, hu⟩ : ∃ u, rs[j3]? = some u := ⟨rs[j3]'(by rw [Q1.out]; exact hlt3), List.getElem?_eq_getElem _⟩
                obtain ⟨Bx, cx, rfl, hrx, _⟩ := Q5.out j3 u f.n hu hnm
                have HS := Lib.hid (show ∀ W, Fresh wr W → (Fresh wr W ∧ W.cell? ⟨g4, j3, none⟩ = some (.int .i64 f.n) ∧ W.cell? ⟨gw, j3, none⟩ = some (.slice Bx (d1.read f.n).length cx) ∧ (convert 22 9 (.slice Bx (d1.read f.n).length cx)).run Try.prog W = .ok (.string ⟨(d1.read f.n).toArray⟩) W) from fun W hW => by
                  have ht := HTM.out.trans hW fun _ _ => id
                  refine ⟨hW, ?_, ?_, run_convert_Bs (P := Try.prog) 22 9 Try.underlying22 Try.underlying5 Try.underlying9 (Row.bs (hrx.touch ht fun _ _ => id))⟩
                  · have := (HO7.out.touch ht fun _ _ => id).cell (j := j3) (by omega)
                    rw [this, intsV_get, hnm]
                    rfl
                  · have := (Q2.out.touch ht fun _ _ => id).cell (j := j3) (by omega)
                    rw [this, hu])
                have KRD := Lib.hid (show ∀ W, Fresh wr W → Calls Try.prog 16 #[.pointer (some ⟨bd, 0, none⟩), .int .i64 f.n] W fun e w' => Fresh W w' ∧ ∃ B c, e = .returned (.slice B (d1.read f.n).length c) ∧ Row w' (.slice B (d1.read f.n).length c) (d1.read f.n) ∧ ∀ a, B = some a → W.heap.size ≤ a.block from fun W hW => by
                  have := disk_read (HD7.out.fresh (HTM.out.trans hW fun _ _ => id)) HSM2.out (by omega) hwf
                  rw [HRE.out] at this
                  exact this)
                generalize f.n = nn at *
                clear hf hnm hwf hu hrx
                have KA := Lib.hid (show ∀ W, (Fresh wr W ∧ W.cell? ⟨g4, j3, none⟩ = some (.int .i64 nn) ∧ W.cell? ⟨gw, j3, none⟩ = some (.slice Bx (d1.read nn).length cx) ∧ (convert 22 9 (.slice Bx (d1.read nn).length cx)).run Try.prog W = .ok (.string ⟨(d1.read nn).toArray⟩) W) → Fresh wr W from fun _ h => h.1)
                go_upto_region 23 with fail
                go_region_held (fun w' => Fresh wr w' ∧ w'.cell? ⟨g4, j3, none⟩ = some (.int .i64 nn) ∧ w'.cell? ⟨gw, j3, none⟩ = some (.slice Bx (d1.read nn).length cx) ∧ (convert 22 9 (.slice Bx (d1.read nn).length cx)).run Try.prog w' = .ok (.string ⟨(d1.read nn).toArray⟩) w')
                  (first | exact HS.out _ ((Touch.refl _ wr).drew) | assumption)
                  (first
                    | (go_at_call 16; refine (KRD.out _ (KA.out _ (by assumption))).mono ?_; rintro e w10 ⟨t10, B10, c10, rfl, hr10, hn10⟩; have k10 := HS.out w10 ((KA.out _ (by assumption)).trans t10 fun _ _ => id); have kc10 := run_convert_Bs (P := Try.prog) 22 9 Try.underlying22 Try.underlying5 Try.underlying9 (Row.bs hr10); clear hr10 hn10 t10))
                all_goals
                  have HE := Lib.hid (HTN.out.trans (KA.out _ k10) fun _ _ => id)
                  clear k10 kc10 KA HS
                  go_wp2_with fail
                  exact ⟨⟨j3 + 1, by omega, by simp, HE.out⟩, by simp [intOf] <;> omega⟩
              · have hj3e : j3 = d1.fs.length := by omega
                subst hj3e
                go_wp2_with fail
                refine (wakes_any wr).mono ?_
                rintro e w11 ⟨rfl, t11⟩
                have HF := Lib.hid (show Fresh w w11 from by
                  have := (HT7.out.trans HTM.out fun _ _ => False.elim).trans t11 fun _ _ => False.elim
                  rw [HBE.out] at this
                  exact this.old)
                clear t11
                go_wp2_with fail
                go_ret
                exact ⟨rfl, HF.out⟩
      · have hjn2 : j = n := by omega
        subst hjn2
        have hgood := HR.out.disk.good.1
        have hfull := crash_full d.fs ca' fun f hf => (hgood f hf).1
        have hwf1 : ∀ f ∈ Fl.crash d.fs ca', (Lit.int .i64 f.n).wf = true := fun f hf => crash_wf d.fs ca' (fun f hf => (hgood f hf).2.2) f hf
        have HCR := Lib.hid (disk_crash HR.out.disk HR.out.small (by omega) (HA.out.touch HT.out fun x hx h0 e => by have := HAL.out x hx h0; have := HBE.out; omega) HAR.out fun x hx h0 e => by have := HAL.out x hx h0; have := HBE.out; have := HR.out.lo _ (.inl e); omega)
        have hsm := crash_small (cuts := ca') HR.out.small
        have hsame : (d.crash ca').fs = Fl.crash d.fs ca' := rfl
        have HFULL := Lib.hid hfull; have HWF1 := Lib.hid hwf1
        clear hgood hfull hwf1
        go_wp2_with fail
        refine HCR.out.mono ?_
        rintro e w3 ⟨rfl, t3, d3⟩
        generalize d.crash ca' = d1 at *
        have HSM := Lib.hid (show d1.small 60000 from hsm.mono (by omega))
        have HWF := Lib.hid (show ∀ f ∈ d1.fs, (Lit.int .i64 f.n).wf = true by rw [hsame]; exact HWF1.out)
        have HFU := Lib.hid (show ∀ f ∈ d1.fs, f.kept = f.raw.length ∧ f.kept ≠ 0 by rw [hsame]; exact HFULL.out)
        have HT3 := Lib.hid (HT.out.trans t3 fun k _ e => HR.out.lo k (.inl e))
        have HLO := Lib.hid (show ∀ k, more S wr w3 k → B ≤ k from fun k e => by
          rcases e with e | e
          · exact HR.out.lo k (.inl e)
          · have := HT.out.size; have := HBE.out; omega)
        generalize more S wr w3 = S3 at *
        have HD3 := Lib.hid d3
        have hlen1 : d1.fs.length ≤ 60000 := HSM.out.many
        clear hsm hsame t3 d3 HCR HFULL HWF1
        have HDF := Lib.hid (disk_files HD3.out HSM.out (by omega))
        go_wp2_with fail
        refine HDF.out.mono ?_
        rintro e w4 ⟨t4, L4, lc4, rfl, ho4, hn4⟩
        have HT4 := Lib.hid t4; have HO4 := Lib.hid ho4; have HN4 := Lib.hid hn4
        have hz4 := t4.size
        clear t4 ho4 hn4 HDF
        go_wp2_with fail
        go_loopw [11, 12] (fun wv i wk => ∃ j2 : Nat, j2 ≤ d1.fs.length ∧ i = .int .i64 j2 ∧ Fresh w4 wk ∧ Was d1 w4.heap.size wv j2 wk) (fun _ i _ => d1.fs.length - (intOf i).toNat)
        case atStart => exact ⟨0, by omega, rfl, Touch.refl _ _, [], rfl, Own.nil_ _ _ _, by simp, fun k hk => (by cases hk), fun i u n hu => (by simp at hu)⟩
        case round =>
          obtain ⟨j2, hj2', rfl, hTk, hW⟩ := hrel
          have HTK := Lib.hid hTk; have HW := Lib.hid hW
          clear hTk hW
          by_cases hlt2 : j2 < d1.fs.length
          · obtain ⟨g4, rfl⟩ : ∃ g, L4 = some ⟨g, 0, none⟩ := by
              obtain ⟨A', c', hv, _, _, hA⟩ := HO4.out.form
              injection hv with e1 _ _
              rcases hA with ⟨_, h0, _⟩ | ⟨g, hg⟩
              · omega
              · exact ⟨g, e1.trans hg⟩
            obtain ⟨f, hf⟩ : ∃ f, d1.fs[j2]? = some f := ⟨d1.fs[j2], List.getElem?_eq_getElem hlt2⟩
            have hwf := HWF.out f (List.mem_of_getElem? hf)
            have hnm : (d1.fs.map Fl.n)[j2]? = some f.n := by rw [List.getElem?_map, hf]; rfl
            have hcl : wr.cell? ⟨g4, j2, none⟩ = some (.int .i64 f.n) := by
              have := (HO4.out.touch HTK.out fun _ _ => id).cell (j := j2) (by omega)
              rw [this, intsV_get, hnm]
              rfl
            have HRD := Lib.hid (disk_read (HD3.out.fresh (HT4.out.trans HTK.out fun _ _ => id)) HSM.out (by omega) hwf)
            generalize f.n = nn at *
            have HNM := Lib.hid hnm
            clear hf hnm hwf
            go_wp2_with fail
            refine HRD.out.mono ?_
            rintro e w5 ⟨t5, B5, c5, rfl, hr5, hn5⟩
            obtain ⟨rs, q1, q2, q3, q4, q5⟩ := HW.out.touch t5 fun _ _ => id
            have Q1 := Lib.hid q1; have Q2 := Lib.hid q2; have Q3 := Lib.hid q3; have Q4 := Lib.hid q4; have Q5 := Lib.hid q5
            have HT5 := Lib.hid (HTK.out.trans t5 fun _ _ => id); have HR5 := Lib.hid hr5
            have HN5 := Lib.hid (show ∀ a, B5 = some a → w4.heap.size ≤ a.block from fun a ha => Nat.le_trans HTK.out.size (hn5 a ha))
            clear q1 q2 q3 q4 q5 t5 hr5 hn5 HRD
            go_wp2_with (at_builtin; refine wpList_own_src _ rfl _ _ 56 56 rfl 22 (.slice none 0 0) 1 24 Try.info22 Try.underlying56 rfl u11 _ _ rfl (Q2.out.alloc _) Q3.out (.slice (some ⟨w5.heap.size, 0, none⟩) 1 1) 1 [.slice B5 (d1.read nn).length c5] rfl (by exact bs_new w5 B5 (d1.read nn).length c5) (by unfold maxLen; omega) (by omega) ?_; intro B6 c6 w6 o6 g6 b6; have O6 := Lib.hid o6; have G6 := Lib.hid g6; have BB6 := Lib.hid b6; clear o6 g6 b6)
            have hP := was_push Q1.out Q2.out Q3.out Q4.out Q5.out HNM.out HR5.out HN5.out HT5.out.size O6.out G6.out BB6.out
            have hT6 : Fresh w4 w6 := (HT5.out.alloc _).grown G6.out fun k hk => .inl (Q4.out k hk)
            exact ⟨⟨j2 + 1, by omega, by simp, hT6, hP⟩, by simp [intOf] <;> omega⟩
          · have hj2e : j2 = d1.fs.length := by omega
            subst hj2e
            have hdk := HD3.out.fresh (HT4.out.trans HTK.out fun _ _ => id)
            have hTwk : Touch (fun k => B ≤ k) w wr := (HT3.out.trans HT4.out fun _ _ => False.elim).trans HTK.out fun _ _ => False.elim
            have HCR := Lib.hid (disk_crash hdk HSM.out (by omega) (HBI.out.touch hTwk fun x hx h0 e => by have := HBL.out x hx h0; have := HBE.out; omega) HBR.out fun x hx h0 e => by have := HBL.out x hx h0; have := HBE.out; have := HLO.out _ e; omega)
            have hfs2 : (d1.crash cb').fs = d1.fs := crash_same d1.fs cb' HFU.out
            have hsm2 := crash_small (cuts := cb') HSM.out
            have HTWK := Lib.hid hTwk
            clear hdk hTwk
            go_wp2_with fail
            refine HCR.out.mono ?_
            rintro e w7 ⟨rfl, t7, d7⟩
            generalize d1.crash cb' = d2 at *
            have hS3 : ∀ k, w4.heap.size ≤ k → ¬ S3 k := fun k hk e => by have := HD3.out.below k e; omega
            have HW7 := Lib.hid (HW.out.touch t7 hS3)
            have HO7 := Lib.hid (show Own w7 3 1 (.slice L4 d1.fs.length lc4) d1.fs.length (intsV (d1.fs.map Fl.n)) from (HO4.out.touch HTK.out fun _ _ => id).touch t7 fun k hk e => by have := HN4.out k hk; have := HD3.out.below k e; omega)
            have HD7 := Lib.hid d7; have HSM2 := Lib.hid hsm2
            have HRE := Lib.hid (show ∀ n, d2.read n = d1.read n from fun n => by unfold Dk.read; rw [hfs2])
            have HT7 := Lib.hid (HTWK.out.trans t7 fun k _ e => HLO.out k e)
            have HDF := Lib.hid (disk_files HD7.out HSM2.out (by omega))
            rw [hfs2] at HDF
            clear t7 d7 hsm2 hfs2 hS3 HCR
            go_wp2_with fail
            refine HDF.out.mono ?_
            rintro e w8 ⟨t8, L8, lc8, rfl, ho8, hn8⟩
            have HO8 := Lib.hid (HO7.out.touch t8 fun _ _ => id)
            have HIN := Lib.hid (ints_any w8 L8 L4 _ lc8 lc4 (d1.fs.map Fl.n) ho8.ints HO8.out.ints)
            have HT8 := Lib.hid t8
            clear t8 ho8 hn8 HDF
            go_wp2_with fail
            refine HIN.out.mono ?_
            rintro e w9 ⟨rfl, q, rfl⟩
            have HT9 := Lib.hid (show Fresh w7 (w8.drewN q) from HT8.out.drewN q)
            generalize w8.drewN q = w9 at *
            clear HIN
            obtain ⟨rs, q1, q2, q3, q4, q5⟩ := HW7.out
            obtain ⟨Aw, cw, hvw, _, _, hAw⟩ := q2.form
            subst hvw
            have Q1 := Lib.hid q1; have Q2 := Lib.hid q2; have Q5 := Lib.hid q5; have HAW := Lib.hid hAw
            clear q1 q2 q3 q4 q5 hAw HW7
            go_wp2_with fail
            go_loopw [13] (fun i wr => ∃ j3 : Nat, j3 ≤ d1.fs.length ∧ i = .int .i64 j3 ∧ Fresh w9 wr) (fun i _ => d1.fs.length - (intOf i).toNat)
            case atStart => exact ⟨0, by omega, rfl, Touch.refl _ _⟩
            case round =>
              obtain ⟨j3, hj3, rfl, hTm⟩ := hrel
              have HTM := Lib.hid (HT9.out.trans hTm fun _ _ => id)
              have HTN := Lib.hid hTm
              clear hTm
              by_cases hlt3 : j3 < d1.fs.length
              · obtain ⟨g4, rfl⟩ : ∃ g, L4 = some ⟨g, 0, none⟩ := by
                  obtain ⟨A', c', hv, _, _, hA⟩ := HO4.out.form
                  injection hv with e1 _ _
                  rcases hA with ⟨_, h0, _⟩ | ⟨g, hg⟩
                  · omega
                  · exact ⟨g, e1.trans hg⟩
                obtain ⟨gw, rfl⟩ : ∃ g, Aw = some ⟨g, 0, none⟩ := by
                  rcases HAW.out with ⟨_, h0, _⟩ | hg
                  · omega
                  · exact hg
                obtain ⟨f, hf⟩ : ∃ f, d1.fs[j3]? = some f := ⟨d1.fs[j3], List.getElem?_eq_getElem hlt3⟩
                have hwf := HWF.out f (List.mem_of_getElem? hf)
                have hnm : (d1.fs.map Fl.n)[j3]? = some f.n := by rw [List.getElem?_map, hf]; rfl
                obtain ⟨u, hu⟩ : ∃ u, rs[j3]? = some u := ⟨rs[j3]'(by rw [Q1.out]; exact hlt3), List.getElem?_eq_getElem _⟩
                obtain ⟨Bx, cx, rfl, hrx, _⟩ := Q5.out j3 u f.n hu hnm
                have HS := Lib.hid (show ∀ W, Fresh wr W → (Fresh wr W ∧ W.cell? ⟨g4, j3, none⟩ = some (.int .i64 f.n) ∧ W.cell? ⟨gw, j3, none⟩ = some (.slice Bx (d1.read f.n).length cx) ∧ (convert 22 9 (.slice Bx (d1.read f.n).length cx)).run Try.prog W = .ok (.string ⟨(d1.read f.n).toArray⟩) W) from fun W hW => by
                  have ht := HTM.out.trans hW fun _ _ => id
                  refine ⟨hW, ?_, ?_, run_convert_Bs (P := Try.prog) 22 9 Try.underlying22 Try.underlying5 Try.underlying9 (Row.bs (hrx.touch ht fun _ _ => id))⟩
                  · have := (HO7.out.touch ht fun _ _ => id).cell (j := j3) (by omega)
                    rw [this, intsV_get, hnm]
                    rfl
                  · have := (Q2.out.touch ht fun _ _ => id).cell (j := j3) (by omega)
                    rw [this, hu])
                have KRD := Lib.hid (show ∀ W, Fresh wr W → Calls Try.prog 16 #[.pointer (some ⟨bd, 0, none⟩), .int .i64 f.n] W fun e w' => Fresh W w' ∧ ∃ B c, e = .returned (.slice B (d1.read f.n).length c) ∧ Row w' (.slice B (d1.read f.n).length c) (d1.read f.n) ∧ ∀ a, B = some a → W.heap.size ≤ a.block from fun W hW => by
                  have := disk_read (HD7.out.fresh (HTM.out.trans hW fun _ _ => id)) HSM2.out (by omega) hwf
                  rw [HRE.out] at this
                  exact this)
                generalize f.n = nn at *
                clear hf hnm hwf hu hrx
                have KA := Lib.hid (show ∀ W, (Fresh wr W ∧ W.cell? ⟨g4, j3, none⟩ = some (.int .i64 nn) ∧ W.cell? ⟨gw, j3, none⟩ = some (.slice Bx (d1.read nn).length cx) ∧ (convert 22 9 (.slice Bx (d1.read nn).length cx)).run Try.prog W = .ok (.string ⟨(d1.read nn).toArray⟩) W) → Fresh wr W from fun _ h => h.1)
                go_upto_region 23 with fail
                go_region_held (fun w' => Fresh wr w' ∧ w'.cell? ⟨g4, j3, none⟩ = some (.int .i64 nn) ∧ w'.cell? ⟨gw, j3, none⟩ = some (.slice Bx (d1.read nn).length cx) ∧ (convert 22 9 (.slice Bx (d1.read nn).length cx)).run Try.prog w' = .ok (.string ⟨(d1.read nn).toArray⟩) w')
                  (first | exact HS.out _ ((Touch.refl _ wr).drew) | assumption)
                  (first
                    | (go_at_call 16; refine (KRD.out _ (KA.out _ (by assumption))).mono ?_; rintro e w10 ⟨t10, B10, c10, rfl, hr10, hn10⟩; have k10 := HS.out w10 ((KA.out _ (by assumption)).trans t10 fun _ _ => id); have kc10 := run_convert_Bs (P := Try.prog) 22 9 Try.underlying22 Try.underlying5 Try.underlying9 (Row.bs hr10); clear hr10 hn10 t10))
                all_goals
                  have HE := Lib.hid (HTN.out.trans (KA.out _ k10) fun _ _ => id)
                  clear k10 kc10 KA HS
                  go_wp2_with fail
                  exact ⟨⟨j3 + 1, by omega, by simp, HE.out⟩, by simp [intOf] <;> omega⟩
              · have hj3e : j3 = d1.fs.length := by omega
                subst hj3e
                go_wp2_with fail
                refine (wakes_any wr).mono ?_
                rintro e w11 ⟨rfl, t11⟩
                have HF := Lib.hid (show Fresh w w11 from by
                  have := (HT7.out.trans HTM.out fun _ _ => False.elim).trans t11 fun _ _ => False.elim
                  rw [HBE.out] at this
                  exact this.old)
                clear t11
                go_wp2_with fail
                go_ret
                exact ⟨rfl, HF.out⟩
end Go.Proofs.Ythmjnlkdoepmjaa
