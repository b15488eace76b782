/- The contract of the reference's State (printed by gen_staw.py). Conditions stand with it. -/
import Derived.Test.YtdfhdanfigpbpaaStaW
import Derived.Test.YtdfhdanfigpbpaaRefWs
namespace Go.Proofs.Ytdfhdanfigpbpaa
open Go.RowKit

set_option maxRecDepth 100000 in
set_option maxHeartbeats 4000000 in
theorem refstate_any (s : Dec.Sta) (A : Option Addr) (c : Nat) (B : Option Addr) (d : Nat) (w : World) (hv : StaAt w s A c B d) (hvb : StaBlk s A B w.heap.size) (hn : s.nd.length ≤ 1048576) (hm : s.sg.length ≤ 1048576) (hs : StaLe s 1048576) :
    Calls Try.prog 44 #[.agg #[.string ⟨s.df.toArray⟩, .string ⟨s.id.toArray⟩, .string ⟨s.pa.toArray⟩, .string ⟨s.pn.toArray⟩, .int .i64 s.st, .string ⟨s.tx.toArray⟩, .slice A s.nd.length c, .slice B s.sg.length d, .int .i64 s.ev]] w (EncEnd w (Enc.state s)) := by
  obtain ⟨w0, hw0⟩ : ∃ w0, w0 = (w.alloc (.cells #[.string ⟨s.df.toArray⟩, .string ⟨s.id.toArray⟩, .string ⟨s.pa.toArray⟩, .string ⟨s.pn.toArray⟩, .int .i64 s.st, .string ⟨s.tx.toArray⟩, .slice A s.nd.length c, .slice B s.sg.length d, .int .i64 s.ev] 67)).alloc (.cells #[.slice none 0 0, .bool false] 93) := ⟨_, rfl⟩
  have HT0 := Lib.hid (show Fresh w w0 by rw [hw0]; exact ((Touch.refl _ w).alloc _).alloc _)
  have HE := Lib.hid (show Blk w0 w.heap.size 67 #[.string ⟨s.df.toArray⟩, .string ⟨s.id.toArray⟩, .string ⟨s.pa.toArray⟩, .string ⟨s.pn.toArray⟩, .int .i64 s.st, .string ⟨s.tx.toArray⟩, .slice A s.nd.length c, .slice B s.sg.length d, .int .i64 s.ev] by rw [hw0]; exact (Blk.new w _ _).alloc _)
  have HP0 := Lib.hid (show Wr w0 (w.heap.size + 1) (.slice none 0 0) [] false by
    rw [hw0]
    refine ⟨?_, Row.nil_ _⟩
    have := Blk.new (w.alloc (.cells #[.string ⟨s.df.toArray⟩, .string ⟨s.id.toArray⟩, .string ⟨s.pa.toArray⟩, .string ⟨s.pn.toArray⟩, .int .i64 s.st, .string ⟨s.tx.toArray⟩, .slice A s.nd.length c, .slice B s.sg.length d, .int .i64 s.ev] 67)) 93 #[.slice none 0 0, .bool false]
    simpa using this)
  have HG0 := Lib.hid (PenGo.refl (w.heap.size + 1) (.slice none 0 0) w0)
  have HV := Lib.hid (show StaAt w0 s A c B d from hv.fresh HT0.out)
  have hsz0 : w.heap.size + 2 = w0.heap.size := by rw [hw0]; simp
  have HEN := Lib.hid (show ∀ (u : Value) (wx : World), PenGo (w.heap.size + 1) (.slice none 0 0) w0 u wx → Blk wx w.heap.size 67 #[.string ⟨s.df.toArray⟩, .string ⟨s.id.toArray⟩, .string ⟨s.pa.toArray⟩, .string ⟨s.pn.toArray⟩, .int .i64 s.st, .string ⟨s.tx.toArray⟩, .slice A s.nd.length c, .slice B s.sg.length d, .int .i64 s.ev] from fun u wx h => HE.out.touch h.touch (by
    rintro (h1 | h1)
    · omega
    · cases h1))
  have HVN := Lib.hid (show ∀ (u : Value) (wx : World), PenGo (w.heap.size + 1) (.slice none 0 0) w0 u wx → StaAt wx s A c B d from fun u wx h => HV.out.touch h.touch
    (by
      rintro a ha h0 (h1 | h1)
      · have := hvb.nd a ha h0; omega
      · cases h1)
    (by
      rintro a ha h0 (h1 | h1)
      · have := hvb.sg a ha h0; omega
      · cases h1))
  have HS := Lib.hid hs
  have h_df := hs.df
  have h_id := hs.id
  have h_pa := hs.pa
  have h_pn := hs.pn
  have h_tx := hs.tx
  have HW0 := Lib.hid hw0
  have HSZ0 := Lib.hid hsz0
  have HA0 : Hid (toEnc false [] = Enc.nil0) := Lib.hid rfl
  clear hv hvb hs hw0 hsz0
  obtain ⟨v0, hv0⟩ : ∃ v, v = Value.slice none 0 0 := ⟨_, rfl⟩
  obtain ⟨a0, ha0⟩ : ∃ x, x = ([] : List UInt8) := ⟨_, rfl⟩
  obtain ⟨b0, hb0⟩ : ∃ x, x = false := ⟨_, rfl⟩
  have hab0 : a0.length ≤ 0 := by rw [ha0]; exact Nat.le_refl _
  have HP0 := Lib.hid (show Wr w0 (w.heap.size + 1) v0 a0 b0 by rw [hv0, ha0, hb0]; exact HP0.out)
  have HG0 := Lib.hid (show PenGo (w.heap.size + 1) (.slice none 0 0) w0 v0 w0 by rw [hv0]; exact HG0.out)
  have HA0 := Lib.hid (show toEnc b0 a0 = Enc.nil0 by rw [ha0, hb0]; rfl)
  clear hv0 ha0 hb0
  have hc_0 := HE.out.cell 0
  simp only [List.getElem?_toArray, List.getElem?_cons_zero] at hc_0
  rw [HW0.out] at hc_0
  go_enter Try.func44, Try.ntmps44
  go_wp2_with fail
  rw [← HW0.out]
  clear hc_0
  refine (wtext_any (w.heap.size + 1) v0 a0 b0 ⟨s.df.toArray⟩ w0 HP0.out (by simp only [ByteArray.size, List.size_toArray]; omega)).mono ?_
  rintro e w1 ⟨rfl, v1, a1, b1, hp, hr, hl, hg⟩
  replace hr : toEnc b1 a1 = Enc.cat (toEnc b0 a0) (Enc.text s.df) := hr
  have HA1 := Lib.hid (show toEnc b1 a1 = Enc.text s.df by rw [hr, HA0.out]; exact Enc.nil_cat _)
  have HP1 := Lib.hid hp
  have HG1 := Lib.hid (HG0.out.trans hg)
  have hab1 : a1.length ≤ 1048600 := by simp only [ByteArray.size, List.size_toArray] at hl; omega
  clear hp hr hg hl
  have hc_1 : w1.cell? ⟨w.heap.size, 1, none⟩ = some (.string ⟨s.id.toArray⟩) := (HEN.out _ _ HG1.out).cell 1
  go_wp2_with fail
  refine (wtext_any (w.heap.size + 1) v1 a1 b1 ⟨s.id.toArray⟩ w1 HP1.out (by simp only [ByteArray.size, List.size_toArray]; omega)).mono ?_
  rintro e w2 ⟨rfl, v2, a2, b2, hp, hr, hl, hg⟩
  replace hr : toEnc b2 a2 = Enc.cat (toEnc b1 a1) (Enc.text s.id) := hr
  have HA2 := Lib.hid (show toEnc b2 a2 = Enc.cat (Enc.text s.df) (Enc.text s.id) by rw [hr, HA1.out])
  have HP2 := Lib.hid hp
  have HG2 := Lib.hid (HG1.out.trans hg)
  have hab2 : a2.length ≤ 2097200 := by simp only [ByteArray.size, List.size_toArray] at hl; omega
  clear hp hr hg hl hc_1
  have hc_2 : w2.cell? ⟨w.heap.size, 2, none⟩ = some (.string ⟨s.pa.toArray⟩) := (HEN.out _ _ HG2.out).cell 2
  go_wp2_with fail
  refine (wtext_any (w.heap.size + 1) v2 a2 b2 ⟨s.pa.toArray⟩ w2 HP2.out (by simp only [ByteArray.size, List.size_toArray]; omega)).mono ?_
  rintro e w3 ⟨rfl, v3, a3, b3, hp, hr, hl, hg⟩
  replace hr : toEnc b3 a3 = Enc.cat (toEnc b2 a2) (Enc.text s.pa) := hr
  have HA3 := Lib.hid (show toEnc b3 a3 = Enc.cat (Enc.cat (Enc.text s.df) (Enc.text s.id)) (Enc.text s.pa) by rw [hr, HA2.out])
  have HP3 := Lib.hid hp
  have HG3 := Lib.hid (HG2.out.trans hg)
  have hab3 : a3.length ≤ 3145800 := by simp only [ByteArray.size, List.size_toArray] at hl; omega
  clear hp hr hg hl hc_2
  have hc_3 : w3.cell? ⟨w.heap.size, 3, none⟩ = some (.string ⟨s.pn.toArray⟩) := (HEN.out _ _ HG3.out).cell 3
  go_wp2_with fail
  refine (wtext_any (w.heap.size + 1) v3 a3 b3 ⟨s.pn.toArray⟩ w3 HP3.out (by simp only [ByteArray.size, List.size_toArray]; omega)).mono ?_
  rintro e w4 ⟨rfl, v4, a4, b4, hp, hr, hl, hg⟩
  replace hr : toEnc b4 a4 = Enc.cat (toEnc b3 a3) (Enc.text s.pn) := hr
  have HA4 := Lib.hid (show toEnc b4 a4 = Enc.cat (Enc.cat (Enc.cat (Enc.text s.df) (Enc.text s.id)) (Enc.text s.pa)) (Enc.text s.pn) by rw [hr, HA3.out])
  have HP4 := Lib.hid hp
  have HG4 := Lib.hid (HG3.out.trans hg)
  have hab4 : a4.length ≤ 4194400 := by simp only [ByteArray.size, List.size_toArray] at hl; omega
  clear hp hr hg hl hc_3
  have hc_4 : w4.cell? ⟨w.heap.size, 4, none⟩ = some (.int .i64 s.st) := (HEN.out _ _ HG4.out).cell 4
  go_wp2_with fail
  refine (wnumber_any (w.heap.size + 1) v4 a4 b4 s.st 0 4 w4 (by omega) (by omega) HP4.out (by omega)).mono ?_
  rintro e w5 ⟨rfl, v5, a5, b5, hp, hr, hl, hg⟩
  replace hr : toEnc b5 a5 = Enc.cat (toEnc b4 a4) (Enc.number s.st 0 4) := hr
  have HA5 := Lib.hid (show toEnc b5 a5 = Enc.cat (Enc.cat (Enc.cat (Enc.cat (Enc.text s.df) (Enc.text s.id)) (Enc.text s.pa)) (Enc.text s.pn)) (Enc.number s.st 0 4) by rw [hr, HA4.out])
  have HP5 := Lib.hid hp
  have HG5 := Lib.hid (HG4.out.trans hg)
  have hab5 : a5.length ≤ 4194500 := by omega
  clear hp hr hg hl hc_4
  have hc_5 : w5.cell? ⟨w.heap.size, 5, none⟩ = some (.string ⟨s.tx.toArray⟩) := (HEN.out _ _ HG5.out).cell 5
  go_wp2_with fail
  refine (wtext_any (w.heap.size + 1) v5 a5 b5 ⟨s.tx.toArray⟩ w5 HP5.out (by simp only [ByteArray.size, List.size_toArray]; omega)).mono ?_
  rintro e w6 ⟨rfl, v6, a6, b6, hp, hr, hl, hg⟩
  replace hr : toEnc b6 a6 = Enc.cat (toEnc b5 a5) (Enc.text s.tx) := hr
  have HA6 := Lib.hid (show toEnc b6 a6 = Enc.cat (Enc.cat (Enc.cat (Enc.cat (Enc.cat (Enc.text s.df) (Enc.text s.id)) (Enc.text s.pa)) (Enc.text s.pn)) (Enc.number s.st 0 4)) (Enc.text s.tx) by rw [hr, HA5.out])
  have HP6 := Lib.hid hp
  have HG6 := Lib.hid (HG5.out.trans hg)
  have hab6 : a6.length ≤ 5243200 := by simp only [ByteArray.size, List.size_toArray] at hl; omega
  clear hp hr hg hl hc_5
  have hc_6 : w6.cell? ⟨w.heap.size, 6, none⟩ = some (.slice A s.nd.length c) := (HEN.out _ _ HG6.out).cell 6
  go_wp2_with fail
  refine (wnumber_any (w.heap.size + 1) v6 a6 b6 s.nd.length 0 4503599627370496 w6 (by omega) (by omega) HP6.out (by omega)).mono ?_
  rintro e w7 ⟨rfl, v7, a7, b7, hp, hr, hl, hg⟩
  replace hr : toEnc b7 a7 = Enc.cat (toEnc b6 a6) (Enc.plain s.nd.length) := hr
  have HA7 := Lib.hid (show toEnc b7 a7 = Enc.cat (Enc.cat (Enc.cat (Enc.cat (Enc.cat (Enc.cat (Enc.text s.df) (Enc.text s.id)) (Enc.text s.pa)) (Enc.text s.pn)) (Enc.number s.st 0 4)) (Enc.text s.tx)) (Enc.plain s.nd.length) by rw [hr, HA6.out])
  have HP7 := Lib.hid hp
  have HG7 := Lib.hid (HG6.out.trans hg)
  have hab7 : a7.length ≤ 5243300 := by omega
  clear hp hr hg hl hc_6
  have hc_6 : w7.cell? ⟨w.heap.size, 6, none⟩ = some (.slice A s.nd.length c) := (HEN.out _ _ HG7.out).cell 6
  go_wp2_with fail
  clear hc_6
  go_loopw [5] (fun i wr => ∃ k : Nat, k ≤ s.nd.length ∧ i = .int .i64 k ∧ ∃ (ys : List UInt8) (u : Value) (bad : Bool), toEnc bad ys = Enc.cat (Enc.cat (Enc.cat (Enc.cat (Enc.cat (Enc.cat (Enc.cat (Enc.text s.df) (Enc.text s.id)) (Enc.text s.pa)) (Enc.text s.pn)) (Enc.number s.st 0 4)) (Enc.text s.tx)) (Enc.plain s.nd.length)) (Enc.catAll ((s.nd.take k).map Enc.nod)) ∧ ys.length ≤ 5243300 + k * 1048700 ∧ Wr wr (w.heap.size + 1) u ys bad ∧ PenGo (w.heap.size + 1) (.slice none 0 0) w0 u wr) (fun i _ => s.nd.length - (intOf i).toNat)
  case atStart => exact ⟨0, Nat.zero_le _, rfl, a7, v7, b7, by rw [HA7.out]; exact (Enc.cat_nil _).symm, by omega, HP7.out, HG7.out⟩
  case round =>
    obtain ⟨k, hk, rfl, ys, u, bad, hys, hyl, hpu, hgu⟩ := hrel
    have HPU := Lib.hid hpu; clear hpu
    have HGU := Lib.hid hgu; clear hgu
    have HYS := Lib.hid hys; clear hys
    have hc_6 : wr.cell? ⟨w.heap.size, 6, none⟩ = some (.slice A s.nd.length c) := (HEN.out _ _ HGU.out).cell 6
    by_cases hlt : k < s.nd.length
    · obtain ⟨b, off, rfl⟩ := HV.out.nd.at_ (by omega)
      obtain ⟨o, ho⟩ : ∃ o, s.nd[k]? = some o := ⟨s.nd[k], List.getElem?_eq_getElem hlt⟩
      have hso := HS.out.nd o (List.mem_of_getElem? ho)
      have hyk : k * 1048700 ≤ 2199075880000 := by omega
      have hk0 : wr.cell? ⟨b, off + k * 3, none⟩ = some (.int .i64 o.s) := (HVN.out _ _ HGU.out).nd.cellAt (ndsV_at ho 0 (by omega))
      go_wp2_with fail
      refine (wnumber_any (w.heap.size + 1) u ys bad o.s 0 4 wr (by omega) (by omega) HPU.out (by omega)).mono ?_
      rintro e s0 ⟨rfl, z0, c0, d0, hp, hr, hl, hg⟩
      have HX0 := Lib.hid (show toEnc d0 c0 = Enc.cat (toEnc bad ys) (Enc.number o.s 0 4) by exact hr)
      have HQ0 := Lib.hid hp
      have HJ0 := Lib.hid (HGU.out.trans hg)
      have hcl0 : c0.length ≤ ys.length + 8 := by omega
      clear hp hr hg hl hk0 hc_6
      have hk1 : s0.cell? ⟨b, off + k * 3 + 1, none⟩ = some (.int .i64 o.t) := (HVN.out _ _ HJ0.out).nd.cellAt (ndsV_at ho 1 (by omega))
      have hc_6 : s0.cell? ⟨w.heap.size, 6, none⟩ = some (.slice (some ⟨b, off, none⟩) s.nd.length c) := (HEN.out _ _ HJ0.out).cell 6
      go_wp2_with fail
      refine (wnumber_any (w.heap.size + 1) z0 c0 d0 o.t 0 4503599627370496 s0 (by omega) (by omega) HQ0.out (by omega)).mono ?_
      rintro e s1 ⟨rfl, z1, c1, d1, hp, hr, hl, hg⟩
      have HX1 := Lib.hid (show toEnc d1 c1 = Enc.cat (Enc.cat (toEnc bad ys) (Enc.number o.s 0 4)) (Enc.plain o.t) by rw [← HX0.out]; exact hr)
      have HQ1 := Lib.hid hp
      have HJ1 := Lib.hid (HJ0.out.trans hg)
      have hcl1 : c1.length ≤ c0.length + 8 := by omega
      clear hp hr hg hl hk1 hc_6
      have hk2 : s1.cell? ⟨b, off + k * 3 + 2, none⟩ = some (.string ⟨o.x.toArray⟩) := (HVN.out _ _ HJ1.out).nd.cellAt (ndsV_at ho 2 (by omega))
      have hc_6 : s1.cell? ⟨w.heap.size, 6, none⟩ = some (.slice (some ⟨b, off, none⟩) s.nd.length c) := (HEN.out _ _ HJ1.out).cell 6
      go_wp2_with fail
      refine (wtext_any (w.heap.size + 1) z1 c1 d1 ⟨o.x.toArray⟩ s1 HQ1.out (by simp only [ByteArray.size, List.size_toArray]; omega)).mono ?_
      rintro e s2 ⟨rfl, z2, c2, d2, hp, hr, hl, hg⟩
      have HX2 := Lib.hid (show toEnc d2 c2 = Enc.cat (Enc.cat (Enc.cat (toEnc bad ys) (Enc.number o.s 0 4)) (Enc.plain o.t)) (Enc.text o.x) by rw [← HX1.out]; exact hr)
      have HQ2 := Lib.hid hp
      have HJ2 := Lib.hid (HJ1.out.trans hg)
      have hcl2 : c2.length ≤ c1.length + 1048584 := by simp only [ByteArray.size, List.size_toArray] at hl; omega
      clear hp hr hg hl hk2 hc_6
      go_wp2_with fail
      go_roundw
      case rel =>
        refine ⟨k + 1, by omega, by go_num, c2, z2, d2, ?_, by omega, HQ2.out, HJ2.out⟩
        rw [enc_take ho, HX2.out, HYS.out]
        unfold Enc.nod
        simp only [Enc.cat_assoc]
      case measure => simp [intOf] <;> omega
    · obtain rfl : k = s.nd.length := by omega
      have hab8 : ys.length ≤ 1150000000000 := by omega
      have HA8 := Lib.hid (show toEnc bad ys = Enc.cat (Enc.cat (Enc.cat (Enc.cat (Enc.cat (Enc.cat (Enc.cat (Enc.text s.df) (Enc.text s.id)) (Enc.text s.pa)) (Enc.text s.pn)) (Enc.number s.st 0 4)) (Enc.text s.tx)) (Enc.plain s.nd.length)) (Enc.catAll (s.nd.map Enc.nod)) by rw [HYS.out, List.take_length])
      have HP8 := HPU
      have HG8 := HGU
      obtain ⟨v8, hv⟩ : ∃ v, v = u := ⟨_, rfl⟩
      obtain ⟨w8, hw⟩ : ∃ x, x = wr := ⟨_, rfl⟩
      obtain ⟨a8, ha⟩ : ∃ x, x = ys := ⟨_, rfl⟩
      obtain ⟨b8, hb⟩ : ∃ x, x = bad := ⟨_, rfl⟩
      clear HPU HGU HYS hyl
      subst hv hw ha hb
      have hc_7 : w8.cell? ⟨w.heap.size, 7, none⟩ = some (.slice B s.sg.length d) := (HEN.out _ _ HG8.out).cell 7
      go_wp2_with fail
      refine (wnumber_any (w.heap.size + 1) v8 a8 b8 s.sg.length 0 4503599627370496 w8 (by omega) (by omega) HP8.out (by omega)).mono ?_
      rintro e w9 ⟨rfl, v9, a9, b9, hp, hr, hl, hg⟩
      replace hr : toEnc b9 a9 = Enc.cat (toEnc b8 a8) (Enc.plain s.sg.length) := hr
      have HA9 := Lib.hid (show toEnc b9 a9 = Enc.cat (Enc.cat (Enc.cat (Enc.cat (Enc.cat (Enc.cat (Enc.cat (Enc.cat (Enc.text s.df) (Enc.text s.id)) (Enc.text s.pa)) (Enc.text s.pn)) (Enc.number s.st 0 4)) (Enc.text s.tx)) (Enc.plain s.nd.length)) (Enc.catAll (s.nd.map Enc.nod))) (Enc.plain s.sg.length) by rw [hr, HA8.out])
      have HP9 := Lib.hid hp
      have HG9 := Lib.hid (HG8.out.trans hg)
      have hab9 : a9.length ≤ 1150000000010 := by omega
      clear hp hr hg hl hc_7
      have hc_7 : w9.cell? ⟨w.heap.size, 7, none⟩ = some (.slice B s.sg.length d) := (HEN.out _ _ HG9.out).cell 7
      go_wp2_with fail
      clear hc_7
      go_loopw [6] (fun i wr => ∃ k : Nat, k ≤ s.sg.length ∧ i = .int .i64 k ∧ ∃ (ys : List UInt8) (u : Value) (bad : Bool), toEnc bad ys = Enc.cat (Enc.cat (Enc.cat (Enc.cat (Enc.cat (Enc.cat (Enc.cat (Enc.cat (Enc.cat (Enc.text s.df) (Enc.text s.id)) (Enc.text s.pa)) (Enc.text s.pn)) (Enc.number s.st 0 4)) (Enc.text s.tx)) (Enc.plain s.nd.length)) (Enc.catAll (s.nd.map Enc.nod))) (Enc.plain s.sg.length)) (Enc.catAll ((s.sg.take k).map Enc.sig)) ∧ ys.length ≤ 1150000000010 + k * 2097200 ∧ Wr wr (w.heap.size + 1) u ys bad ∧ PenGo (w.heap.size + 1) (.slice none 0 0) w0 u wr) (fun i _ => s.sg.length - (intOf i).toNat)
      case atStart => exact ⟨0, Nat.zero_le _, rfl, a9, v9, b9, by rw [HA9.out]; exact (Enc.cat_nil _).symm, by omega, HP9.out, HG9.out⟩
      case round =>
        obtain ⟨k, hk, rfl, ys, u, bad, hys, hyl, hpu, hgu⟩ := hrel
        have HPU := Lib.hid hpu; clear hpu
        have HGU := Lib.hid hgu; clear hgu
        have HYS := Lib.hid hys; clear hys
        have hc_7 : wr.cell? ⟨w.heap.size, 7, none⟩ = some (.slice B s.sg.length d) := (HEN.out _ _ HGU.out).cell 7
        by_cases hlt : k < s.sg.length
        · obtain ⟨b, off, rfl⟩ := HV.out.sg.at_ (by omega)
          obtain ⟨o, ho⟩ : ∃ o, s.sg[k]? = some o := ⟨s.sg[k], List.getElem?_eq_getElem hlt⟩
          have hso := HS.out.sg o (List.mem_of_getElem? ho)
          have hyk : k * 2097200 ≤ 2199075880000 := by omega
          have hk0 : wr.cell? ⟨b, off + k * 2, none⟩ = some (.string ⟨o.n.toArray⟩) := (HVN.out _ _ HGU.out).sg.cellAt (sgsV_at ho 0 (by omega))
          go_wp2_with fail
          refine (wtext_any (w.heap.size + 1) u ys bad ⟨o.n.toArray⟩ wr HPU.out (by simp only [ByteArray.size, List.size_toArray]; omega)).mono ?_
          rintro e s0 ⟨rfl, z0, c0, d0, hp, hr, hl, hg⟩
          have HX0 := Lib.hid (show toEnc d0 c0 = Enc.cat (toEnc bad ys) (Enc.text o.n) by exact hr)
          have HQ0 := Lib.hid hp
          have HJ0 := Lib.hid (HGU.out.trans hg)
          have hcl0 : c0.length ≤ ys.length + 1048584 := by simp only [ByteArray.size, List.size_toArray] at hl; omega
          clear hp hr hg hl hk0 hc_7
          have hk1 : s0.cell? ⟨b, off + k * 2 + 1, none⟩ = some (.string ⟨o.x.toArray⟩) := (HVN.out _ _ HJ0.out).sg.cellAt (sgsV_at ho 1 (by omega))
          have hc_7 : s0.cell? ⟨w.heap.size, 7, none⟩ = some (.slice (some ⟨b, off, none⟩) s.sg.length d) := (HEN.out _ _ HJ0.out).cell 7
          go_wp2_with fail
          refine (wtext_any (w.heap.size + 1) z0 c0 d0 ⟨o.x.toArray⟩ s0 HQ0.out (by simp only [ByteArray.size, List.size_toArray]; omega)).mono ?_
          rintro e s1 ⟨rfl, z1, c1, d1, hp, hr, hl, hg⟩
          have HX1 := Lib.hid (show toEnc d1 c1 = Enc.cat (Enc.cat (toEnc bad ys) (Enc.text o.n)) (Enc.text o.x) by rw [← HX0.out]; exact hr)
          have HQ1 := Lib.hid hp
          have HJ1 := Lib.hid (HJ0.out.trans hg)
          have hcl1 : c1.length ≤ c0.length + 1048584 := by simp only [ByteArray.size, List.size_toArray] at hl; omega
          clear hp hr hg hl hk1 hc_7
          go_wp2_with fail
          go_roundw
          case rel =>
            refine ⟨k + 1, by omega, by go_num, c1, z1, d1, ?_, by omega, HQ1.out, HJ1.out⟩
            rw [enc_take ho, HX1.out, HYS.out]
            unfold Enc.sig
            simp only [Enc.cat_assoc]
          case measure => simp [intOf] <;> omega
        · obtain rfl : k = s.sg.length := by omega
          have hab10 : ys.length ≤ 3400000000000 := by omega
          have HA10 := Lib.hid (show toEnc bad ys = Enc.cat (Enc.cat (Enc.cat (Enc.cat (Enc.cat (Enc.cat (Enc.cat (Enc.cat (Enc.cat (Enc.text s.df) (Enc.text s.id)) (Enc.text s.pa)) (Enc.text s.pn)) (Enc.number s.st 0 4)) (Enc.text s.tx)) (Enc.plain s.nd.length)) (Enc.catAll (s.nd.map Enc.nod))) (Enc.plain s.sg.length)) (Enc.catAll (s.sg.map Enc.sig)) by rw [HYS.out, List.take_length])
          have HP10 := HPU
          have HG10 := HGU
          obtain ⟨v10, hv⟩ : ∃ v, v = u := ⟨_, rfl⟩
          obtain ⟨w10, hw⟩ : ∃ x, x = wr := ⟨_, rfl⟩
          obtain ⟨a10, ha⟩ : ∃ x, x = ys := ⟨_, rfl⟩
          obtain ⟨b10, hb⟩ : ∃ x, x = bad := ⟨_, rfl⟩
          clear HPU HGU HYS hyl
          subst hv hw ha hb
          have hc_8 : w10.cell? ⟨w.heap.size, 8, none⟩ = some (.int .i64 s.ev) := (HEN.out _ _ HG10.out).cell 8
          go_wp2_with fail
          refine (wnumber_any (w.heap.size + 1) v10 a10 b10 s.ev 0 4503599627370496 w10 (by omega) (by omega) HP10.out (by omega)).mono ?_
          rintro e w11 ⟨rfl, v11, a11, b11, hp, hr, hl, hg⟩
          replace hr : toEnc b11 a11 = Enc.cat (toEnc b10 a10) (Enc.plain s.ev) := hr
          have HA11 := Lib.hid (show toEnc b11 a11 = Enc.cat (Enc.cat (Enc.cat (Enc.cat (Enc.cat (Enc.cat (Enc.cat (Enc.cat (Enc.cat (Enc.cat (Enc.text s.df) (Enc.text s.id)) (Enc.text s.pa)) (Enc.text s.pn)) (Enc.number s.st 0 4)) (Enc.text s.tx)) (Enc.plain s.nd.length)) (Enc.catAll (s.nd.map Enc.nod))) (Enc.plain s.sg.length)) (Enc.catAll (s.sg.map Enc.sig))) (Enc.plain s.ev) by rw [hr, HA10.out])
          have HP11 := Lib.hid hp
          have HG11 := Lib.hid (HG10.out.trans hg)
          have hab11 : a11.length ≤ 3400000000010 := by omega
          clear hp hr hg hl hc_8
          have HD := Lib.hid (wdone_any (w.heap.size + 1) v11 a11 b11 w11 HP11.out)
          have hfin : Fresh w w11 := HT0.out.trans HG11.out.touch (fun i hi hs => by
            rcases hs with hs | hs
            · omega
            · simp [Value.ownBlock] at hs)
          have hspec : Enc.state s = toEnc b11 a11 := by rw [HA11.out]; rfl
          have hrow := HP11.out.2
          have hnew : ∀ i, v11.ownBlock = some i → w.heap.size ≤ i := by
            intro i hi
            rcases HG11.out.own with e | e
            · rw [e] at hi; simp [Value.ownBlock] at hi
            · have := e i hi; have := HSZ0.out; omega
          have hend : EncEnd w (Enc.state s) (.returned (.tuple (if b11 then #[.slice none 0 0, .int .i64 2] else #[v11, .int .i64 0]))) w11 := by
            rw [hspec]
            cases b11
            · obtain ⟨A, c, rfl, _⟩ := hrow.form
              exact ⟨A, c, rfl, hrow, hnew, hfin⟩
            · exact ⟨rfl, hfin⟩
          replace hend := Lib.hid hend
          clear hfin hspec hrow hnew
          go_wp2_with fail
          refine HD.out.mono ?_
          rintro e w' ⟨rfl, rfl⟩
          cases b11
          · go_wp2_with fail
            go_ret2
            exact hend.out
          · go_wp2_with fail
            go_ret2
            exact hend.out
end Go.Proofs.Ytdfhdanfigpbpaa
