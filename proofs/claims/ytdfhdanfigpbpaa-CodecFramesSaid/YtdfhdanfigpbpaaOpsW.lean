/- The contract of the codec's Ops: a batch's changes are written. Conditions stand with it. -/
import Derived.Test.YtdfhdanfigpbpaaOpsE
import Derived.Test.YtdfhdanfigpbpaaVrow
import Derived.Test.YtdfhdanfigpbpaaWriters
namespace Go.Proofs.Ytdfhdanfigpbpaa
open Go.RowKit

theorem op_none {l : List Dec.Op} {k : Nat} {o : Dec.Op} (h : l[k]? = some o) (hn : Enc.op o = none) : Enc.catAll (l.map Enc.op) = none :=
  catAll_none (List.mem_map.2 ⟨o, List.mem_of_getElem? h, hn⟩)
theorem catAll_snoc (l : List Enc.Enc) (a : Enc.Enc) : Enc.catAll (l ++ [a]) = Enc.cat (Enc.catAll l) a := by
  induction l with
  | nil => simp [Enc.catAll, Enc.cat_nil, Enc.nil_cat]
  | cons b l ih => simp only [List.cons_append, Enc.catAll, ih, Enc.cat_assoc]
theorem op_take {l : List Dec.Op} {k : Nat} {o : Dec.Op} (h : l[k]? = some o) : Enc.catAll ((l.take (k + 1)).map Enc.op) = Enc.cat (Enc.catAll ((l.take k).map Enc.op)) (Enc.op o) := by
  obtain ⟨hk, rfl⟩ := List.getElem?_eq_some_iff.1 h
  rw [List.take_succ_eq_append_getElem hk, List.map_append, List.map_singleton, catAll_snoc]
def opV (o : Dec.Op) : List Value := [.string ⟨o.k.toArray⟩, .string ⟨o.v.toArray⟩, .bool o.g]
def opsV (l : List Dec.Op) : List Value := l.flatMap opV
theorem opsV_length (l : List Dec.Op) : (opsV l).length = l.length * 3 := flat_length opV 3 (fun _ => rfl) l
theorem opsV_at {l : List Dec.Op} {i : Nat} {o : Dec.Op} (h : l[i]? = some o) (r : Nat) (hr : r < 3) : (opsV l)[i * 3 + r]? = (opV o)[r]? := flat_at opV 3 (fun _ => rfl) l i r o h hr

set_option maxRecDepth 20000 in
set_option maxHeartbeats 4000000 in
theorem ops1_any (bp be : Nat) (A : Option Addr) (n c : Nat) (l : List Dec.Op) (w : World) (hp : Pen w bp (.slice none 0 0) []) (he : Blk w be 50 #[.slice A n c]) (hv : Vs w 3 A n c (opsV l))
    (hA : ∀ a, A = some a → 0 < n → a.block < w.heap.size ∧ a.block ≠ bp) (hn : n ≤ 1048576) (hs : ∀ o ∈ l, o.k.length ≤ maxLen ∧ o.v.length ≤ maxLen) :
    Calls Try.prog 79 #[.pointer (some ⟨bp, 0, none⟩), .pointer (some ⟨be, 0, none⟩)] w (PenEnd bp (.slice none 0 0) [] w (Enc.ops l)) := by
  have hln : l.length = n := by have := hv.1; rw [opsV_length] at this; omega
  have hne : be ≠ bp := he.ne_ hp.1 (by decide)
  have HNE := Lib.hid hne
  have HV := Lib.hid hv; clear hv
  have HA := Lib.hid hA; clear hA
  have HS := Lib.hid hs; clear hs
  have hc0 := he.cell 0
  simp only [List.getElem?_toArray, List.getElem?_cons_zero] at hc0
  have HK := Lib.hid (plain_any bp (.slice none 0 0) [] n w hp (by simp only [List.length_nil]; omega))
  have HE := Lib.hid he; clear he
  have HP := Lib.hid hp; clear hp hne
  go_enter Try.func79, Try.ntmps79
  go_wp2_with fail
  refine HK.out.mono ?_
  intro e w1 h
  rcases h.cases with ⟨hr, rfl, ht⟩ | ⟨y0, v1, hr, rfl, hp1, hg1⟩
  · exact ⟨rfl, PenEnd.pan (by unfold Enc.ops; rw [hln, hr]; rfl) ht⟩
  have hl0 := Enc.plain_size hr
  have HR := Lib.hid hr; clear hr h
  have HP1 := Lib.hid hp1; clear hp1
  have HG1 := Lib.hid hg1; clear hg1
  have hc1 : w1.cell? ⟨be, 0, none⟩ = some (.slice A n c) := HG1.out.touch.cell hc0 (by rintro (h | h); exact HNE.out h; cases h)
  go_wp2_with fail
  go_loopw [11] (fun i wr => ∃ k : Nat, k ≤ n ∧ i = .int .i64 k ∧ ∃ (ys : List UInt8) (u : Value), Enc.catAll ((l.take k).map Enc.op) = some ys ∧ ys.length ≤ k * 2097200 ∧ Pen wr bp u (y0 ++ ys) ∧ PenGo bp (.slice none 0 0) w u wr) (fun i _ => n - (intOf i).toNat)
  case atStart => exact ⟨0, Nat.zero_le _, rfl, [], v1, rfl, by simp, by rw [List.append_nil]; exact HP1.out, HG1.out⟩
  case round =>
    obtain ⟨k, hk, rfl, ys, u, hys, hyl, hpu, hgu⟩ := hrel
    have HPU := Lib.hid hpu; clear hpu
    have HGU := Lib.hid hgu; clear hgu
    have HYS := Lib.hid hys; clear hys
    by_cases hlt : k < n
    · obtain ⟨b, off, rfl⟩ := HV.out.at_ (by omega)
      obtain ⟨o, ho⟩ : ∃ o, l[k]? = some o := ⟨l[k], List.getElem?_eq_getElem (by omega)⟩
      have hab := HA.out _ rfl (by omega)
      have hvr : Vs wr 3 (some ⟨b, off, none⟩) n c (opsV l) := HV.out.touch HGU.out.touch (by rintro a ha h0 (h | h); exact (HA.out a ha h0).2 h; cases h)
      have hk0 : wr.cell? ⟨b, off + k * 3, none⟩ = some (.string ⟨o.k.toArray⟩) := hvr.cellAt (opsV_at ho 0 (by omega))
      have hk1 : wr.cell? ⟨b, off + k * 3 + 1, none⟩ = some (.string ⟨o.v.toArray⟩) := hvr.cellAt (opsV_at ho 1 (by omega))
      have hk2 : wr.cell? ⟨b, off + k * 3 + 2, none⟩ = some (.bool o.g) := hvr.cellAt (opsV_at ho 2 (by omega))
      clear hvr
      have hso := HS.out o (List.mem_of_getElem? ho)
      obtain ⟨S, hS⟩ : ∃ S, S = wr.alloc (.cells #[.string ⟨o.k.toArray⟩, .string ⟨o.v.toArray⟩, .bool o.g] 114) := ⟨_, rfl⟩
      have HPS := Lib.hid (show Pen S bp u (y0 ++ ys) by rw [hS]; exact ⟨HPU.out.1.alloc _, HPU.out.2.alloc _⟩)
      have HGS := Lib.hid (show PenGo bp (.slice none 0 0) w u S by rw [hS]; exact ⟨HGU.out.touch.alloc _, HGU.out.own⟩)
      have HBS := Lib.hid (show Blk S wr.heap.size 114 #[.string ⟨o.k.toArray⟩, .string ⟨o.v.toArray⟩, .bool o.g] by rw [hS]; exact Blk.new _ _ _)
      have HSS := Lib.hid hS; clear hS
      have hbb : wr.heap.size ≠ bp := by have := HPU.out.1.lt; omega
      have hyk : k * 2097200 ≤ 2199075880000 := by omega
      have hkl := hso.1
      have hvl := hso.2
      go_wp2_with fail
      rw [← HSS.out]
      refine (text_any bp u (y0 ++ ys) ⟨o.k.toArray⟩ S HPS.out (by simp only [List.length_append]; omega) hkl).mono ?_
      intro e w2 h
      rcases h.cases with ⟨hr, rfl, ht⟩ | ⟨z1, v2, hr, rfl, hp2, hg2⟩
      · exact ⟨rfl, PenEnd.pan (by unfold Enc.ops; rw [op_none ho (by unfold Enc.op; rw [show Enc.text o.k = none from hr]; rfl), Enc.cat_none_r]) (HGS.out.touch.trans ht HGS.out.subS)⟩
      have hz1 := text_size hr
      have HR1 := Lib.hid (show Enc.text o.k = some z1 from hr); clear hr h
      have HG2 := Lib.hid (HGS.out.trans hg2)
      have hB2 := HBS.out.touch hg2.touch (by rintro (h | h); exact hbb h; exact HPS.out.2.ne_blk HBS.out (by decide) h)
      have HP2 := Lib.hid hp2; clear hp2
      have HB2 := Lib.hid hB2
      have hd1 := hB2.cell 1
      have hd2 := hB2.cell 2
      simp only [List.getElem?_toArray, List.getElem?_cons_zero, List.getElem?_cons_succ] at hd1 hd2
      have hcp := HP2.out.1.cell 0
      have hfp := HP2.out.1.frozen 0
      simp only [List.getElem?_toArray, List.getElem?_cons_zero] at hcp
      have hne2 : v2.ownBlock ≠ some bp := HP2.out.2.ne_blk HP2.out.1 (by decide)
      have HNE2 := Lib.hid hne2; clear hne2
      clear hB2 hg2 hk0 hk1 hk2
      have HNB := Lib.hid (HP2.out.2.ne_blk HB2.out (by decide))
      cases hg : o.g with
      | true =>
        rw [hg] at hd2
        by_cases hv0 : o.v = []
        · rw [hv0] at hd1
          go_wp2_with (at_builtin; (refine wpList_row _ rfl _ _ 24 rfl Try.info5 Try.underlying24 v2 (y0 ++ ys ++ z1) rfl (HP2.out.2.alloc _) w2.heap.size 1 1 [1] rfl rfl (new_u8 w2 _ _ _ rfl) (by simp only [List.length_singleton, List.length_append]; omega) ?_); intro A3 c3 w3 hr3 hg3 ho3; have hB3 := (HP2.out.1.alloc (.cells #[.int .u8 1] 5)).grown hg3 (fun e => HNE2.out e.symm); have hc3 := hB3.cell 0; have hf3 := hB3.frozen 0; have hd3 := ((HB2.out.alloc (.cells #[.int .u8 1] 5)).grown hg3 (fun e => HNB.out e.symm)).cell 1; simp only [List.getElem?_toArray, List.getElem?_cons_zero, List.getElem?_cons_succ] at hc3 hd3)
          have hpb := pen_app HP2.out ((Touch.refl _ w2).alloc _) (HP2.out.1.alloc _) hr3 hg3 ho3
          simp only [List.append_assoc, List.length_append, List.length_singleton] at hpb
          clear hc3 hf3 hd3 hB3 hr3 hg3 ho3
          go_roundw
          case rel =>
            refine ⟨k + 1, by omega, by go_num, ys ++ (z1 ++ [1]), _, ?_, ?_, hpb.1, HG2.out.trans hpb.2⟩
            · rw [op_take ho, HYS.out]
              unfold Enc.op Enc.flag
              rw [hg, hv0, HR1.out]
              simp [Enc.cat_some]
            · simp only [List.length_append, List.length_singleton]; omega
          case measure => simp [intOf] <;> omega
        · have hve : o.v.isEmpty = false := by simpa using hv0
          go_wp2_with (at_builtin; (refine wpList_row _ rfl _ _ 24 rfl Try.info5 Try.underlying24 v2 (y0 ++ ys ++ z1) rfl (HP2.out.2.alloc _) w2.heap.size 1 1 [1] rfl rfl (new_u8 w2 _ _ _ rfl) (by simp only [List.length_singleton, List.length_append]; omega) ?_); intro A3 c3 w3 hr3 hg3 ho3; have hB3 := (HP2.out.1.alloc (.cells #[.int .u8 1] 5)).grown hg3 (fun e => HNE2.out e.symm); have hc3 := hB3.cell 0; have hf3 := hB3.frozen 0; have hd3 := ((HB2.out.alloc (.cells #[.int .u8 1] 5)).grown hg3 (fun e => HNB.out e.symm)).cell 1; simp only [List.getElem?_toArray, List.getElem?_cons_zero, List.getElem?_cons_succ] at hc3 hd3)
          have hpb := pen_app HP2.out ((Touch.refl _ w2).alloc _) (HP2.out.1.alloc _) hr3 hg3 ho3
          simp only [List.append_assoc, List.length_append, List.length_singleton] at hpb
          refine ⟨rfl, PenEnd.pan ?_ (HG2.out.trans hpb.2).touch⟩
          unfold Enc.ops
          rw [op_none ho (by unfold Enc.op; rw [hg, if_pos rfl, if_neg hv0, Enc.cat_none_r]), Enc.cat_none_r]
      | false =>
        rw [hg] at hd2
        go_wp2_with (at_builtin; (refine wpList_row _ rfl _ _ 24 rfl Try.info5 Try.underlying24 v2 (y0 ++ ys ++ z1) rfl (HP2.out.2.alloc _) w2.heap.size 1 1 [0] rfl rfl (new_u8 w2 _ _ _ rfl) (by simp only [List.length_singleton, List.length_append]; omega) ?_); intro A3 c3 w3 hr3 hg3 ho3; have hB3 := (HP2.out.1.alloc (.cells #[.int .u8 0] 5)).grown hg3 (fun e => HNE2.out e.symm); have hc3 := hB3.cell 0; have hf3 := hB3.frozen 0; have hd3 := ((HB2.out.alloc (.cells #[.int .u8 0] 5)).grown hg3 (fun e => HNB.out e.symm)).cell 1; simp only [List.getElem?_toArray, List.getElem?_cons_zero, List.getElem?_cons_succ] at hc3 hd3)
        have hpb := pen_app HP2.out ((Touch.refl _ w2).alloc _) (HP2.out.1.alloc _) hr3 hg3 ho3
        simp only [List.append_assoc, List.length_append, List.length_singleton] at hpb
        clear hc3 hf3 hd3 hB3 hr3 hg3 ho3
        have HPB := Lib.hid hpb.1
        have HGB := Lib.hid (HG2.out.trans hpb.2)
        clear hpb
        refine (text_any bp _ (y0 ++ (ys ++ (z1 ++ [0]))) ⟨o.v.toArray⟩ _ HPB.out (by simp only [List.length_append, List.length_singleton]; omega) hvl).mono ?_
        intro e w4 h
        rcases h.cases with ⟨hr, rfl, ht⟩ | ⟨z2, v4, hr, rfl, hp4, hg4⟩
        · refine ⟨rfl, PenEnd.pan ?_ (HGB.out.touch.trans ht HGB.out.subS)⟩
          unfold Enc.ops
          rw [op_none ho (by unfold Enc.op; rw [hg, if_neg (by simp), show Enc.text o.v = none from hr, Enc.cat_none_r]), Enc.cat_none_r]
        · have hz2 := text_size hr
          replace hr : Enc.text o.v = some z2 := hr
          have HP4 := Lib.hid hp4; clear hp4
          have HG4 := Lib.hid hg4; clear hg4
          have HR4 := Lib.hid hr; clear hr h
          go_wp2_with fail
          go_roundw
          case rel =>
            refine ⟨k + 1, by omega, by go_num, ys ++ (z1 ++ ([0] ++ z2)), v4, ?_, ?_, by simpa only [List.append_assoc] using HP4.out, HGB.out.trans HG4.out⟩
            · rw [op_take ho, HYS.out]
              unfold Enc.op Enc.flag
              rw [hg, HR1.out, if_neg (by simp), if_neg (by simp), HR4.out]
              simp [Enc.cat_some]
            · simp only [List.length_append, List.length_singleton]; omega
          case measure => simp [intOf] <;> omega
    · obtain rfl : k = n := by omega
      go_wp2_with fail
      go_end0
      refine PenEnd.ret (ys := y0 ++ ys) ?_ ⟨u, HPU.out, HGU.out⟩
      have h2 := HYS.out
      rw [← hln, List.take_length] at h2
      unfold Enc.ops
      rw [hln, HR.out, h2]
      rfl

set_option maxRecDepth 20000 in
set_option maxHeartbeats 1000000 in
theorem ops_any (A : Option Addr) (n c : Nat) (l : List Dec.Op) (w : World) (hv : Vs w 3 A n c (opsV l))
    (hA : ∀ a, A = some a → 0 < n → a.block < w.heap.size) (hn : n ≤ 1048576) (hs : ∀ o ∈ l, o.k.length ≤ maxLen ∧ o.v.length ≤ maxLen) :
    Calls Try.prog 34 #[.slice A n c] w (EncEnd w (Enc.ops l)) := by
  have hmf : ∀ (fn : Fn) (first cap : Array Value) (w : World), (Instr.makeFunc fn first cap).run Try.prog w = .ok (.func fn first cap) w := fun _ _ _ _ => rfl
  have HK := Lib.hid (written_any 79 #[.pointer (some ⟨w.heap.size, 0, none⟩)] (Enc.ops l) (w.alloc (.cells #[.slice A n c] 50)) (fun args w => by simp [go_sem])
    (fun w1 bp hf hbp hp => by
      have hsz : (w.alloc (.cells #[.slice A n c] 50)).heap.size = w.heap.size + 1 := by simp
      simpa using ops1_any bp w.heap.size A n c l w1 hp ((Blk.new w _ _).touch hf id) ((hv.alloc _).fresh hf) (fun a ha h0 => by have h1 := hA a ha h0; have h2 := hf.size; exact ⟨by omega, by omega⟩) hn hs))
  clear hv hA hs
  go_enter Try.func34, Try.ntmps34
  go_wp2_with fail
  refine HK.out.mono ?_
  intro e w1 h
  rcases h.of_alloc.cases with ⟨hr, rfl, ht⟩ | ⟨ys, A, c, hr, rfl, hrow, hnew, ht⟩
  · have HR := Lib.hid hr; clear hr h
    have HT := Lib.hid ht; clear ht
    go_wp2_with fail
    go_ret2
    exact EncEnd.no HR.out HT.out
  · have HR := Lib.hid hr; clear hr h
    have HT := Lib.hid ht; clear ht
    have HROW := Lib.hid hrow; clear hrow
    have HNEW := Lib.hid hnew; clear hnew
    go_wp2_with fail
    go_ret2
    exact EncEnd.yes HR.out HROW.out HNEW.out HT.out
end Go.Proofs.Ytdfhdanfigpbpaa
