/- The wal claims' texts, several in one: Crash. Conditions stand with each theorem. -/
import Derived.Test.YtlcmnihpfpmajaaGreatZa08
/- A file's lose. Conditions stand with each. -/
namespace Go.Proofs.YtlcmnihpfpmajaaGreat
open Go.RowKit

def LoseEnd (w : World) (f : FR) (cut : Int) (e : Ending) (w' : World) : Prop :=
  e = .returned (.int .i64 (f.fl.lose cut).kept) ∧ Touch (fun k => k = f.g ∨ f.v.ownBlock = some k) w w' ∧ ∃ v', Blk w' f.g 111 #[v', .int .i64 (f.fl.lose cut).kept] ∧ Raw w' v' (f.fl.lose cut).raw ∧ v'.ownBlock = f.v.ownBlock

/-- what the walk leaves, without and with the torn byte -/
theorem lose_fin (w : World) (f : FR) (cut : Int) (h : FileAt w f) (nq : Nat) (b c : Nat) (hv : f.v = .slice (some ⟨b, 0, none⟩) f.raw.length c) (k M : Nat) (hk : k = f.fl.ways cut) (hM : M = f.kept + (k + 1) / 2) (hML : M ≤ f.raw.length) (hc : f.raw.length ≤ c)
    (w' : World) (hw : w' = (((w.drewN nq).setCell ⟨f.g, 1, none⟩ (.int .i64 M)).setCell ⟨f.g, 0, none⟩ (.slice (some ⟨b, 0, none⟩) M M)).drew) :
    ((¬ (k % 2 = 0 ∧ 0 < k)) → LoseEnd w f cut (.returned (.int .i64 M)) w') ∧
    ((k % 2 = 0 ∧ 0 < k) → ∀ nr, LoseEnd w f cut (.returned (.int .i64 M)) ((w'.setCell ⟨b, M - 1, none⟩ (.int .u8 ((255 - f.raw.getD (M - 1) 0).toNat : Int))).drewN nr)) := by
  have hkept : (f.fl.lose cut).kept = M := by rw [hM, hk]; rfl
  have hraw : (f.fl.lose cut).raw = if k % 2 = 0 ∧ 0 < k then (f.raw.take M).set (M - 1) (255 - f.raw.getD (M - 1) 0) else f.raw.take M := by rw [hM, hk]; rfl
  have hbg : b ≠ f.g := fun e => Own.ne_blk h.row h.blk (by decide) (by rw [hv, e]; rfl)
  have hrow := h.row
  unfold Raw at hrow
  rw [hv] at hrow
  have hO : Own w' 5 1 (.slice (some ⟨b, 0, none⟩) M M) M ((u8s f.raw).take (M * 1)) := by
    rw [hw]
    exact Own.far (Own.far (hrow.cut hML (Nat.le_refl M) (by omega)) (p := ⟨f.g, 1, none⟩) (fun e => hbg (by injection e)) _) (p := ⟨f.g, 0, none⟩) (fun e => hbg (by injection e)) _
  have hB : Blk w' f.g 111 #[.slice (some ⟨b, 0, none⟩) M M, .int .i64 M] := by
    rw [hw]
    exact (((h.blk.drewN nq).set_ 1 _).set_ 0 _).drew
  have hT : Touch (fun k => k = f.g ∨ f.v.ownBlock = some k) w w' := by
    rw [hw]
    exact ((((Touch.refl (fun k => k = f.g ∨ f.v.ownBlock = some k) w).drewN nq).setCell (p := ⟨f.g, 1, none⟩) (.inr (.inl rfl)) _).setCell (p := ⟨f.g, 0, none⟩) (.inr (.inl rfl)) _).drew
  have htl : (f.raw.take M).length = M := by rw [List.length_take]; omega
  have hu8 : (u8s f.raw).take (M * 1) = u8s (f.raw.take M) := by rw [Nat.mul_one]; exact (List.map_take).symm
  rw [hu8] at hO
  refine ⟨fun hn => ⟨by rw [hkept], hT, _, by rw [hkept]; exact hB, ?_, by rw [hv]; rfl⟩, fun hy nr => ⟨by rw [hkept], (hT.setCell (p := ⟨b, M - 1, none⟩) (.inr (.inr (by rw [hv]; rfl))) _).drewN nr, _, by rw [hkept]; exact (hB.far (p := ⟨b, M - 1, none⟩) (fun e => hbg e.symm) _).drewN nr, ?_, by rw [hv]; rfl⟩⟩
  · rw [hraw, if_neg hn]
    unfold Raw
    rw [htl]
    exact hO
  · rw [hraw, if_pos hy]
    unfold Raw
    rw [List.length_set, htl, show u8s ((f.raw.take M).set (M - 1) (255 - f.raw.getD (M - 1) 0)) = (u8s (f.raw.take M)).set (M - 1) (.int .u8 ((255 - f.raw.getD (M - 1) 0).toNat : Int)) from List.map_set]
    exact (hO.stored (M - 1) _).drewN nr

set_option maxRecDepth 20000 in
set_option maxHeartbeats 4000000 in
theorem lose_any (w : World) (f : FR) (cut : Int) (h : FileAt w f) (hb : f.raw.length ≤ 140737488355328) (_hc1 : -9223372036854775808 ≤ cut) (_hc2 : cut ≤ 9223372036854775807) :
    Calls Tryz.prog 39 #[.pointer (some ⟨f.g, 0, none⟩), .int .i64 cut] w (LoseEnd w f cut) := by
  obtain ⟨b, c, hv, hl1, hl2⟩ := h.addr
  have hrow := h.row
  unfold Raw at hrow
  rw [hv] at hrow
  have HROW := Lib.hid hrow
  have hle := h.le
  have hwy : ((f.fl.ways cut : Nat) : Int) = cut % (2 * ((f.raw.length : Int) - f.kept) + 1) := by
    unfold Fl.ways
    exact Int.toNat_of_nonneg (Int.emod_nonneg _ (by show 2 * ((f.raw.length : Int) - f.kept) + 1 ≠ 0; omega))
  have hlt : cut % (2 * ((f.raw.length : Int) - f.kept) + 1) < 2 * ((f.raw.length : Int) - f.kept) + 1 := Int.emod_lt_of_pos _ (by omega)
  obtain ⟨k, hk⟩ : ∃ k, k = f.fl.ways cut := ⟨_, rfl⟩
  obtain ⟨M, hM⟩ : ∃ M, M = f.kept + (k + 1) / 2 := ⟨_, rfl⟩
  rw [← hk] at hwy
  have hML : M ≤ f.raw.length := by omega
  have HFIN := Lib.hid (fun nq => lose_fin w f cut h nq b c hv k M hk hM hML hl1)
  have k0 : w.cell? ⟨f.g, 0, none⟩ = some f.v := h.blk.cell 0
  have k1 : w.cell? ⟨f.g, 1, none⟩ = some (.int .i64 f.kept) := h.blk.cell 1
  have q0 := h.blk.frozen 0
  have q1 := h.blk.frozen 1
  have hbg : b ≠ f.g := fun e => Own.ne_blk h.row h.blk (by decide) (by rw [hv, e]; rfl)
  rw [hv] at k0
  unfold maxLen at hl2
  have hMI : (f.kept : Int) + ((k : Int) + 1) / 2 = (M : Int) := by omega
  have hkL : (k : Int) ≤ 2 * 140737488355328 := by omega
  have htm : cut.tmod (2 * ((f.raw.length : Int) - f.kept) + 1) = if 0 ≤ cut ∨ cut % (2 * ((f.raw.length : Int) - f.kept) + 1) = 0 then (k : Int) else (k : Int) - (2 * ((f.raw.length : Int) - f.kept) + 1) := by
    rw [Int.tmod_eq_emod]
    by_cases h0 : 0 ≤ cut ∨ cut % (2 * ((f.raw.length : Int) - f.kept) + 1) = 0
    · rw [if_pos h0, if_pos (h0.imp id Int.dvd_of_emod_eq_zero)]
      omega
    · rw [if_neg h0, if_neg (fun h => h0 (h.imp id Int.emod_eq_zero_of_dvd))]
      omega
  have HBLK := Lib.hid h.blk
  have HV := Lib.hid hv; have HM := Lib.hid hM; have HWY := Lib.hid hwy
  clear h hk hM hv hrow hwy
  by_cases h0 : 0 ≤ cut ∨ cut % (2 * ((f.raw.length : Int) - f.kept) + 1) = 0
  · rw [if_pos h0] at htm
    clear h0 hlt
    go_enter Tryz.func39, Tryz.ntmps39
    go_wp2_with fail
    go_quiet (fail)
    go_wp2_with fail
    go_region
    obtain ⟨W1, hW1⟩ : ∃ W1, W1 = (((w.drewN nq).setCell ⟨f.g, 1, none⟩ (.int .i64 M)).setCell ⟨f.g, 0, none⟩ (.slice (some ⟨b, 0, none⟩) M M)).drew := ⟨_, rfl⟩
    rw [← hW1]
    have hfin := HFIN.out nq W1 hW1
    have HF := Lib.hid hfin
    have z0 : W1.cell? ⟨f.g, 0, none⟩ = some (.slice (some ⟨b, 0, none⟩) M M) := by rw [hW1]; exact ((HBLK.out.drewN nq).set_ 1 _ |>.set_ 0 _ |>.drew).cell 0
    have z1 : W1.cell? ⟨f.g, 1, none⟩ = some (.int .i64 M) := by rw [hW1]; exact ((HBLK.out.drewN nq).set_ 1 _ |>.set_ 0 _ |>.drew).cell 1
    have hO1 : Own W1 5 1 (.slice (some ⟨b, 0, none⟩) M M) M ((u8s f.raw).take (M * 1)) := by
      rw [hW1]
      exact Own.far (Own.far (HROW.out.cut hML (Nat.le_refl M) (by omega)) (p := ⟨f.g, 1, none⟩) (fun e => hbg (by injection e)) _) (p := ⟨f.g, 0, none⟩) (fun e => hbg (by injection e)) _
    have HO1 := Lib.hid hO1
    have Z1 := Lib.hid (fun (v : Value) (j : Nat) => (show Blk ((W1.setCell ⟨b, j, none⟩ v).drew) f.g 111 #[.slice (some ⟨b, 0, none⟩) M M, .int .i64 M] from (by rw [hW1]; exact ((HBLK.out.drewN nq).set_ 1 _ |>.set_ 0 _ |>.drew |>.far (p := ⟨b, j, none⟩) (fun e => hbg e.symm) v).drew)).cell 1)
    clear hfin hW1 k0 k1 htm HFIN q0 q1 hO1
    by_cases hp : k % 2 = 0
    · have hp1 : ((k : Int) % 2 == 0) = true := by simp; omega
      by_cases hz : 0 < k
      · obtain ⟨M1, hM1⟩ : ∃ M1, M = M1 + 1 := ⟨M - 1, by have := HM.out; omega⟩
        subst hM1
        have hx := HO1.out.cell (j := M1) (by omega)
        have hxf := HO1.out.frozen M1
        rw [List.getElem?_take, if_pos (by omega), u8s_get, List.getElem?_eq_getElem (by omega)] at hx
        simp only [Option.map_some] at hx
        obtain ⟨x, hxx⟩ : ∃ x, x = f.raw[M1]'(by omega) := ⟨_, rfl⟩
        rw [← hxx] at hx
        have hxd : f.raw.getD M1 0 = x := by rw [hxx]; simp [List.getD_eq_getElem?_getD, List.getElem?_eq_getElem (show M1 < f.raw.length by omega)]
        have hx8 := x.toNat_lt
        have hsb : ((255 - x : UInt8).toNat : Int) = 255 - (x.toNat : Int) := by
          rw [UInt8.toNat_sub_of_le _ _ (by rw [UInt8.le_iff_toNat_le]; show x.toNat ≤ 255; omega)]
          show ((255 - x.toNat : Nat) : Int) = _
          omega
        have HXD := Lib.hid hxd; have HSB := Lib.hid hsb
        clear hxx hxd hsb
        have hzI : (0 : Int) < (k : Int) := by omega
        go_wp2_with fail
        go_region
        have z1d : (W1.setCell ⟨b, M1, none⟩ (.int .u8 (255 - (x.toNat : Int)))).drew.cell? ⟨f.g, 1, none⟩ = some (.int .i64 ((M1 + 1 : Nat) : Int)) := Z1.out (.int .u8 (255 - (x.toNat : Int))) M1
        clear z0 z1 hx hxf
        go_wp2_with fail
        go_ret
        have := HF.out.2 ⟨hp, hz⟩ 1
        rw [show M1 + 1 - 1 = M1 from rfl, HXD.out, HSB.out] at this
        exact this
      · have hz1 : decide ((0 : Int) < k) = false := by simp; omega
        go_wp2_with fail
        go_ret
        exact HF.out.1 (by omega)
    · have hp1 : ((k : Int) % 2 == 0) = false := by simp; omega
      go_wp2_with fail
      go_ret
      exact HF.out.1 (by omega)
  · rw [if_neg h0] at htm
    have hkw : (k : Int) < 2 * ((f.raw.length : Int) - f.kept) + 1 := by rw [HWY.out]; exact hlt
    clear h0 hlt
    go_enter Tryz.func39, Tryz.ntmps39
    go_wp2_with fail
    go_quiet (fail)
    go_wp2_with fail
    go_region
    obtain ⟨W1, hW1⟩ : ∃ W1, W1 = (((w.drewN nq).setCell ⟨f.g, 1, none⟩ (.int .i64 M)).setCell ⟨f.g, 0, none⟩ (.slice (some ⟨b, 0, none⟩) M M)).drew := ⟨_, rfl⟩
    rw [← hW1]
    have hfin := HFIN.out nq W1 hW1
    have HF := Lib.hid hfin
    have z0 : W1.cell? ⟨f.g, 0, none⟩ = some (.slice (some ⟨b, 0, none⟩) M M) := by rw [hW1]; exact ((HBLK.out.drewN nq).set_ 1 _ |>.set_ 0 _ |>.drew).cell 0
    have z1 : W1.cell? ⟨f.g, 1, none⟩ = some (.int .i64 M) := by rw [hW1]; exact ((HBLK.out.drewN nq).set_ 1 _ |>.set_ 0 _ |>.drew).cell 1
    have hO1 : Own W1 5 1 (.slice (some ⟨b, 0, none⟩) M M) M ((u8s f.raw).take (M * 1)) := by
      rw [hW1]
      exact Own.far (Own.far (HROW.out.cut hML (Nat.le_refl M) (by omega)) (p := ⟨f.g, 1, none⟩) (fun e => hbg (by injection e)) _) (p := ⟨f.g, 0, none⟩) (fun e => hbg (by injection e)) _
    have HO1 := Lib.hid hO1
    have Z1 := Lib.hid (fun (v : Value) (j : Nat) => (show Blk ((W1.setCell ⟨b, j, none⟩ v).drew) f.g 111 #[.slice (some ⟨b, 0, none⟩) M M, .int .i64 M] from (by rw [hW1]; exact ((HBLK.out.drewN nq).set_ 1 _ |>.set_ 0 _ |>.drew |>.far (p := ⟨b, j, none⟩) (fun e => hbg e.symm) v).drew)).cell 1)
    clear hfin hW1 k0 k1 htm HFIN q0 q1 hO1
    by_cases hp : k % 2 = 0
    · have hp1 : ((k : Int) % 2 == 0) = true := by simp; omega
      by_cases hz : 0 < k
      · obtain ⟨M1, hM1⟩ : ∃ M1, M = M1 + 1 := ⟨M - 1, by have := HM.out; omega⟩
        subst hM1
        have hx := HO1.out.cell (j := M1) (by omega)
        have hxf := HO1.out.frozen M1
        rw [List.getElem?_take, if_pos (by omega), u8s_get, List.getElem?_eq_getElem (by omega)] at hx
        simp only [Option.map_some] at hx
        obtain ⟨x, hxx⟩ : ∃ x, x = f.raw[M1]'(by omega) := ⟨_, rfl⟩
        rw [← hxx] at hx
        have hxd : f.raw.getD M1 0 = x := by rw [hxx]; simp [List.getD_eq_getElem?_getD, List.getElem?_eq_getElem (show M1 < f.raw.length by omega)]
        have hx8 := x.toNat_lt
        have hsb : ((255 - x : UInt8).toNat : Int) = 255 - (x.toNat : Int) := by
          rw [UInt8.toNat_sub_of_le _ _ (by rw [UInt8.le_iff_toNat_le]; show x.toNat ≤ 255; omega)]
          show ((255 - x.toNat : Nat) : Int) = _
          omega
        have HXD := Lib.hid hxd; have HSB := Lib.hid hsb
        clear hxx hxd hsb
        have hzI : (0 : Int) < (k : Int) := by omega
        go_wp2_with fail
        go_region
        have z1d : (W1.setCell ⟨b, M1, none⟩ (.int .u8 (255 - (x.toNat : Int)))).drew.cell? ⟨f.g, 1, none⟩ = some (.int .i64 ((M1 + 1 : Nat) : Int)) := Z1.out (.int .u8 (255 - (x.toNat : Int))) M1
        clear z0 z1 hx hxf
        go_wp2_with fail
        go_ret
        have := HF.out.2 ⟨hp, hz⟩ 1
        rw [show M1 + 1 - 1 = M1 from rfl, HXD.out, HSB.out] at this
        exact this
      · have hz1 : decide ((0 : Int) < k) = false := by simp; omega
        go_wp2_with fail
        go_ret
        exact HF.out.1 (by omega)
    · have hp1 : ((k : Int) % 2 == 0) = false := by simp; omega
      go_wp2_with fail
      go_ret
      exact HF.out.1 (by omega)
end Go.Proofs.YtlcmnihpfpmajaaGreat
