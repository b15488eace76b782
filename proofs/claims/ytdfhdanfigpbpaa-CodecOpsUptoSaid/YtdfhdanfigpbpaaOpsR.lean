/- The contract of the reference's Ops. Conditions stand with it. -/
import Derived.Test.YtdfhdanfigpbpaaOpsW
import Derived.Test.YtdfhdanfigpbpaaRefWs
namespace Go.Proofs.Ytdfhdanfigpbpaa
open Go.RowKit

set_option maxRecDepth 20000 in
set_option maxHeartbeats 1000000 in
theorem wflag_any (bw : Nat) (v : Value) (xs : List UInt8) (bad g : Bool) (w : World) (hp : Wr w bw v xs bad) (hb : xs.length ≤ 140737488355000) :
    Calls Try.prog 81 #[.pointer (some ⟨bw, 0, none⟩), .bool g] w (WrEnd bw v xs bad w 1 (Enc.flag g)) := by
  have hc1 := hp.1.cell 0
  have hf1 := hp.1.frozen 0
  simp only [List.getElem?_toArray, List.getElem?_cons_zero] at hc1
  have HP := Lib.hid hp; clear hp
  have hne : v.ownBlock ≠ some bw := HP.out.2.ne_blk HP.out.1 (by decide)
  have HNE := Lib.hid hne; clear hne
  have hfin : ∀ (y : UInt8) (A3 : Option Addr) (c3 : Nat) (w3 : World), Row w3 (.slice A3 (xs.length + 1) c3) (xs ++ [y]) → (w.alloc (.cells #[.int .u8 (y.toNat : Int)] 5)).grownBy w3 v.ownBlock →
      ((Value.slice A3 (xs.length + 1) c3).ownBlock = v.ownBlock ∨ (Value.slice A3 (xs.length + 1) c3).ownBlock = some (w.alloc (.cells #[.int .u8 (y.toNat : Int)] 5)).heap.size) →
      Wr (w3.setCell ⟨bw, 0, none⟩ (.slice A3 (xs.length + 1) c3)) bw (.slice A3 (xs.length + 1) c3) (xs ++ [y]) bad ∧ PenGo bw v w (.slice A3 (xs.length + 1) c3) (w3.setCell ⟨bw, 0, none⟩ (.slice A3 (xs.length + 1) c3)) := by
    intro y A3 c3 w3 hr3 hg3 ho3
    have h := wr_app (w := w.alloc (.cells #[.int .u8 (y.toNat : Int)] 5)) ⟨HP.out.1.alloc _, HP.out.2.alloc _⟩ hr3 hg3 ho3
    have h0 : PenGo bw v w v (w.alloc (.cells #[.int .u8 (y.toNat : Int)] 5)) := ⟨(Touch.refl _ w).alloc _, .inl rfl⟩
    exact ⟨h.1, h0.trans h.2⟩
  have HFIN := Lib.hid hfin; clear hfin
  cases g
  · go_enter Try.func81, Try.ntmps81
    go_wp2_with (at_builtin; (refine wpList_row _ rfl _ _ 24 rfl Try.info5 Try.underlying24 v xs rfl (HP.out.2.alloc _) w.heap.size 1 1 [0] rfl rfl (new_u8 w _ _ _ rfl) (by simp only [List.length_singleton]; omega) ?_); intro A3 c3 w3 hr3 hg3 ho3; have hB3 := (HP.out.1.alloc (.cells #[.int .u8 0] 5)).grown hg3 (fun e => HNE.out e.symm); have hc3 := hB3.cell 0; have hf3 := hB3.frozen 0; simp only [List.getElem?_toArray, List.getElem?_cons_zero] at hc3)
    have hpb := HFIN.out 0 _ _ _ hr3 hg3 ho3
    clear hc3 hf3 hB3 hr3 hg3 ho3
    go_end0
    exact ⟨rfl, _, _, bad, hpb.1, toEnc_some _ _ _, by simp, hpb.2⟩
  · go_enter Try.func81, Try.ntmps81
    go_wp2_with (at_builtin; (refine wpList_row _ rfl _ _ 24 rfl Try.info5 Try.underlying24 v xs rfl (HP.out.2.alloc _) w.heap.size 1 1 [1] rfl rfl (new_u8 w _ _ _ rfl) (by simp only [List.length_singleton]; omega) ?_); intro A3 c3 w3 hr3 hg3 ho3; have hB3 := (HP.out.1.alloc (.cells #[.int .u8 1] 5)).grown hg3 (fun e => HNE.out e.symm); have hc3 := hB3.cell 0; have hf3 := hB3.frozen 0; simp only [List.getElem?_toArray, List.getElem?_cons_zero] at hc3)
    have hpb := HFIN.out 1 _ _ _ hr3 hg3 ho3
    clear hc3 hf3 hB3 hr3 hg3 ho3
    go_end0
    exact ⟨rfl, _, _, bad, hpb.1, toEnc_some _ _ _, by simp, hpb.2⟩

set_option maxRecDepth 20000 in
set_option maxHeartbeats 4000000 in
theorem refops_any (A : Option Addr) (n c : Nat) (l : List Dec.Op) (w : World) (hv : Vs w 3 A n c (opsV l))
    (hA : ∀ a, A = some a → 0 < n → a.block < w.heap.size) (hn : n ≤ 1048576) (hs : ∀ o ∈ l, o.k.length ≤ 1048576 ∧ o.v.length ≤ 1048576) :
    Calls Try.prog 35 #[.slice A n c] w (EncEnd w (Enc.ops l)) := by
  have hln : l.length = n := by have := hv.1; rw [opsV_length] at this; omega
  obtain ⟨w0, hw0⟩ : ∃ w0, w0 = w.alloc (.cells #[.slice none 0 0, .bool false] 93) := ⟨_, rfl⟩
  have HT0 := Lib.hid (show Fresh w w0 by rw [hw0]; exact (Touch.refl _ w).alloc _)
  have HP0 := Lib.hid (show Wr w0 w.heap.size (.slice none 0 0) [] false by rw [hw0]; exact ⟨Blk.new w _ _, Row.nil_ _⟩)
  have HV := Lib.hid (show Vs w0 3 A n c (opsV l) from hv.fresh HT0.out)
  have hsz0 : w.heap.size + 1 = w0.heap.size := by rw [hw0]; simp
  have HVN : ∀ (u : Value) (wx : World), PenGo w.heap.size (.slice none 0 0) w0 u wx → Vs wx 3 A n c (opsV l) := fun u wx h => HV.out.touch h.touch (by
    rintro a ha h0 (h1 | h1)
    · have := hA a ha h0; omega
    · cases h1)
  replace HVN := Lib.hid HVN
  have HS := Lib.hid hs
  have HW0 := Lib.hid hw0
  clear hw0 hv hA hs
  go_enter Try.func35, Try.ntmps35
  go_wp2_with fail
  rw [← HW0.out]
  refine (wnumber_any w.heap.size (.slice none 0 0) [] false n 0 4503599627370496 w0 (by omega) (by omega) HP0.out (by simp only [List.length_nil]; omega)).mono ?_
  rintro e w1 ⟨rfl, v1, a1, b1, hp, hr, hl1, hg⟩
  have HA1 := Lib.hid (show toEnc b1 a1 = Enc.plain n from by rw [hr]; exact Enc.nil_cat _)
  have HP1 := Lib.hid hp
  have HG1 := Lib.hid hg
  simp only [List.length_nil] at hl1
  clear hp hg hr
  go_wp2_with fail
  go_loopw [5] (fun i wr => ∃ k : Nat, k ≤ n ∧ i = .int .i64 k ∧ ∃ (ys : List UInt8) (u : Value) (bad : Bool), toEnc bad ys = Enc.cat (Enc.plain n) (Enc.catAll ((l.take k).map Enc.op)) ∧ ys.length ≤ 100 + k * 2097200 ∧ Wr wr w.heap.size u ys bad ∧ PenGo w.heap.size (.slice none 0 0) w0 u wr) (fun i _ => n - (intOf i).toNat)
  case atStart => exact ⟨0, Nat.zero_le _, rfl, a1, v1, b1, by rw [HA1.out]; exact (Enc.cat_nil _).symm, by omega, HP1.out, HG1.out⟩
  case round =>
    obtain ⟨k, hk, rfl, ys, u, bad, hys, hyl, hpu, hgu⟩ := hrel
    have HPU := Lib.hid hpu; clear hpu
    have HGU := Lib.hid hgu; clear hgu
    have HYS := Lib.hid hys; clear hys
    by_cases hlt : k < n
    · obtain ⟨b, off, rfl⟩ := HV.out.at_ (by omega)
      obtain ⟨o, ho⟩ : ∃ o, l[k]? = some o := ⟨l[k], List.getElem?_eq_getElem (by omega)⟩
      have hso := HS.out o (List.mem_of_getElem? ho)
      have hkl := hso.1
      have hvl := hso.2
      have hks : (ByteArray.mk o.k.toArray).size = o.k.length := by simp [ByteArray.size]
      have hvs : (ByteArray.mk o.v.toArray).size = o.v.length := by simp [ByteArray.size]
      have hyk : k * 2097200 ≤ 2199075880000 := by omega
      have HC : ∀ (u : Value) (wx : World), PenGo w.heap.size (.slice none 0 0) w0 u wx → wx.cell? ⟨b, off + k * 3, none⟩ = some (.string ⟨o.k.toArray⟩) ∧ wx.cell? ⟨b, off + k * 3 + 1, none⟩ = some (.string ⟨o.v.toArray⟩) ∧ wx.cell? ⟨b, off + k * 3 + 2, none⟩ = some (.bool o.g) := fun u wx h =>
        ⟨(HVN.out u wx h).cellAt (opsV_at ho 0 (by omega)), (HVN.out u wx h).cellAt (opsV_at ho 1 (by omega)), (HVN.out u wx h).cellAt (opsV_at ho 2 (by omega))⟩
      replace HC := Lib.hid HC
      obtain ⟨hk0, -, -⟩ := HC.out _ _ HGU.out
      go_wp2_with fail
      refine (wtext_any w.heap.size u ys bad ⟨o.k.toArray⟩ wr HPU.out (by rw [hks]; omega)).mono ?_
      rintro e w2 ⟨rfl, v2, a2, b2, hp, hr, hl2, hg⟩
      have HA2 := Lib.hid (show toEnc b2 a2 = Enc.cat (toEnc bad ys) (Enc.text o.k) from hr)
      have HP2 := Lib.hid hp
      have HG2 := Lib.hid (HGU.out.trans hg)
      rw [hks] at hl2
      clear hp hg hr hk0
      obtain ⟨-, -, hd2⟩ := HC.out _ _ HG2.out
      go_wp2_with fail
      refine (wflag_any w.heap.size v2 a2 b2 o.g w2 HP2.out (by omega)).mono ?_
      rintro e w3 ⟨rfl, v3, a3, b3, hp, hr, hl3, hg⟩
      have HA3 := Lib.hid (show toEnc b3 a3 = Enc.cat (Enc.cat (toEnc bad ys) (Enc.text o.k)) (Enc.flag o.g) from by rw [hr, HA2.out])
      have HP3 := Lib.hid hp
      have HG3 := Lib.hid (HG2.out.trans hg)
      clear hp hg hr hd2
      obtain ⟨-, he1, he2⟩ := HC.out _ _ HG3.out
      have hcb := HP3.out.1.cell 1
      have hfb := HP3.out.1.frozen 1
      simp only [List.getElem?_toArray, List.getElem?_cons_zero, List.getElem?_cons_succ] at hcb
      cases hgo : o.g with
      | true =>
        rw [hgo] at he2
        by_cases hv0 : o.v = []
        · rw [hv0] at he1
          go_wp2_with fail
          go_roundw
          case rel =>
            refine ⟨k + 1, by omega, by go_num, a3, v3, b3, ?_, by omega, HP3.out, HG3.out⟩
            rw [op_take ho, HA3.out, HYS.out, hgo]
            unfold Enc.op
            rw [hgo, hv0, if_pos rfl, if_pos rfl, Enc.cat_nil]
            simp only [Enc.cat_assoc]
          case measure => simp [intOf] <;> omega
        · have hve : o.v.isEmpty = false := by simpa using hv0
          have hpb : Wr (w3.setCell ⟨w.heap.size, 1, none⟩ (.bool true)) w.heap.size v3 a3 true := ⟨HP3.out.1.set_ 1 (.bool true), HP3.out.2.far (p := ⟨w.heap.size, 1, none⟩) (HP3.out.2.ne_blk HP3.out.1 (by decide)) _⟩
          have hgb : PenGo w.heap.size v3 w3 v3 (w3.setCell ⟨w.heap.size, 1, none⟩ (.bool true)) := ⟨(Touch.refl _ w3).setCell (p := ⟨w.heap.size, 1, none⟩) (.inr (.inl rfl)) _, .inl rfl⟩
          have HPB := Lib.hid hpb; clear hpb
          have HGB := Lib.hid hgb; clear hgb
          go_wp2_with fail
          go_roundw
          case rel =>
            refine ⟨k + 1, by omega, by go_num, a3, v3, true, ?_, by omega, HPB.out, HG3.out.trans HGB.out⟩
            rw [op_take ho]
            unfold Enc.op
            rw [hgo, if_pos rfl, if_neg hv0, Enc.cat_none_r, Enc.cat_none_r, Enc.cat_none_r]
            rfl
          case measure => simp [intOf] <;> omega
      | false =>
        rw [hgo] at he2
        go_wp2_with fail
        refine (wtext_any w.heap.size v3 a3 b3 ⟨o.v.toArray⟩ w3 HP3.out (by rw [hvs]; omega)).mono ?_
        rintro e w4 ⟨rfl, v4, a4, b4, hp, hr, hl4, hg⟩
        have HA4 := Lib.hid (show toEnc b4 a4 = Enc.cat (toEnc b3 a3) (Enc.text o.v) from hr)
        have HP4 := Lib.hid hp
        have HG4 := Lib.hid (HG3.out.trans hg)
        rw [hvs] at hl4
        clear hp hg hr he1 he2
        go_wp2_with fail
        go_roundw
        case rel =>
          refine ⟨k + 1, by omega, by go_num, a4, v4, b4, ?_, by omega, HP4.out, HG4.out⟩
          rw [op_take ho, HA4.out, HA3.out, HYS.out]
          unfold Enc.op
          rw [hgo, if_neg (by simp)]
          simp only [Enc.cat_assoc]
        case measure => simp [intOf] <;> omega
    · obtain rfl : k = n := by omega
      have HD := Lib.hid (wdone_any w.heap.size u ys bad wr HPU.out)
      have hfin : Fresh w wr := HT0.out.trans HGU.out.touch (fun i hi hs => by
        rcases hs with hs | hs
        · omega
        · simp [Value.ownBlock] at hs)
      have hspec : Enc.ops l = toEnc bad ys := by
        rw [HYS.out]
        unfold Enc.ops
        rw [hln, ← hln, List.take_length]
      have hrow := HPU.out.2
      have hnew : ∀ i, u.ownBlock = some i → w.heap.size ≤ i := by
        intro i hi
        rcases HGU.out.own with e | e
        · rw [e] at hi; simp [Value.ownBlock] at hi
        · have := e i hi; omega
      have hend : EncEnd w (Enc.ops l) (.returned (.tuple (if bad then #[.slice none 0 0, .int .i64 2] else #[u, .int .i64 0]))) wr := by
        rw [hspec]
        cases bad
        · obtain ⟨A, c, rfl, _⟩ := hrow.form
          exact ⟨A, c, rfl, hrow, hnew, hfin⟩
        · exact ⟨rfl, hfin⟩
      replace hend := Lib.hid hend
      clear hfin hspec hrow hnew
      go_wp2_with fail
      refine HD.out.mono ?_
      rintro e w' ⟨rfl, rfl⟩
      cases bad
      · go_wp2_with fail
        go_ret2
        exact hend.out
      · go_wp2_with fail
        go_ret2
        exact hend.out
end Go.Proofs.Ytdfhdanfigpbpaa
