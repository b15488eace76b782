/- The contract of the codec's State (printed by gen_staw.py). Conditions stand with it. -/
import Derived.Test.YtdfhdanfigpbpaaStaE
import Derived.Test.YtdfhdanfigpbpaaOpsW
namespace Go.Proofs.Ytdfhdanfigpbpaa
open Go.RowKit

def ndV (n : Dec.Nd) : List Value := [.int .i64 n.s, .int .i64 n.t, .string ⟨n.x.toArray⟩]
def ndsV (l : List Dec.Nd) : List Value := l.flatMap ndV
theorem ndsV_length (l : List Dec.Nd) : (ndsV l).length = l.length * 3 := flat_length ndV 3 (fun _ => rfl) l
theorem ndsV_at {l : List Dec.Nd} {i : Nat} {o : Dec.Nd} (h : l[i]? = some o) (r : Nat) (hr : r < 3) : (ndsV l)[i * 3 + r]? = (ndV o)[r]? := flat_at ndV 3 (fun _ => rfl) l i r o h hr
def sgV (n : Dec.Sg) : List Value := [.string ⟨n.n.toArray⟩, .string ⟨n.x.toArray⟩]
def sgsV (l : List Dec.Sg) : List Value := l.flatMap sgV
theorem sgsV_length (l : List Dec.Sg) : (sgsV l).length = l.length * 2 := flat_length sgV 2 (fun _ => rfl) l
theorem sgsV_at {l : List Dec.Sg} {i : Nat} {o : Dec.Sg} (h : l[i]? = some o) (r : Nat) (hr : r < 2) : (sgsV l)[i * 2 + r]? = (sgV o)[r]? := flat_at sgV 2 (fun _ => rfl) l i r o h hr
/-- a state's value, its two rows at A and B -/
def staV (s : Dec.Sta) (A : Option Addr) (c : Nat) (B : Option Addr) (d : Nat) : Value := .agg #[.string ⟨s.df.toArray⟩, .string ⟨s.id.toArray⟩, .string ⟨s.pa.toArray⟩, .string ⟨s.pn.toArray⟩, .int .i64 s.st, .string ⟨s.tx.toArray⟩, .slice A s.nd.length c, .slice B s.sg.length d, .int .i64 s.ev]
/-- a state's two rows lie in memory -/
structure StaAt (w : World) (s : Dec.Sta) (A : Option Addr) (c : Nat) (B : Option Addr) (d : Nat) : Prop where
  nd : Vs w 3 A s.nd.length c (ndsV s.nd)
  sg : Vs w 2 B s.sg.length d (sgsV s.sg)
theorem StaAt.touch {w w' : World} {s : Dec.Sta} {A B : Option Addr} {c d : Nat} {S : Nat → Prop} (h : StaAt w s A c B d) (ht : Touch S w w') (hA : ∀ a, A = some a → 0 < s.nd.length → ¬ S a.block) (hB : ∀ a, B = some a → 0 < s.sg.length → ¬ S a.block) : StaAt w' s A c B d :=
  ⟨h.nd.touch ht hA, h.sg.touch ht hB⟩
theorem StaAt.fresh {w w' : World} {s : Dec.Sta} {A B : Option Addr} {c d : Nat} (h : StaAt w s A c B d) (ht : Fresh w w') : StaAt w' s A c B d := h.touch ht (fun _ _ _ => id) (fun _ _ _ => id)
/-- its rows' blocks are below g -/
structure StaBlk (s : Dec.Sta) (A B : Option Addr) (g : Nat) : Prop where
  nd : ∀ a, A = some a → 0 < s.nd.length → a.block < g
  sg : ∀ a, B = some a → 0 < s.sg.length → a.block < g
theorem StaBlk.le {s : Dec.Sta} {A B : Option Addr} {g g' : Nat} (h : StaBlk s A B g) (hg : g ≤ g') : StaBlk s A B g' := ⟨fun a ha h0 => Nat.lt_of_lt_of_le (h.nd a ha h0) hg, fun a ha h0 => Nat.lt_of_lt_of_le (h.sg a ha h0) hg⟩
/-- its texts and rows are no longer than M -/
structure StaLe (s : Dec.Sta) (M : Nat) : Prop where
  df : s.df.length ≤ M
  id : s.id.length ≤ M
  pa : s.pa.length ≤ M
  pn : s.pn.length ≤ M
  tx : s.tx.length ≤ M
  nd : ∀ o ∈ s.nd, o.x.length ≤ M
  sg : ∀ o ∈ s.sg, o.n.length ≤ M ∧ o.x.length ≤ M
theorem StaLe.mono {s : Dec.Sta} {M M' : Nat} (h : StaLe s M) (hm : M ≤ M') : StaLe s M' :=
  ⟨Nat.le_trans h.df hm, Nat.le_trans h.id hm, Nat.le_trans h.pa hm, Nat.le_trans h.pn hm, Nat.le_trans h.tx hm, fun o ho => Nat.le_trans (h.nd o ho) hm, fun o ho => ⟨Nat.le_trans (h.sg o ho).1 hm, Nat.le_trans (h.sg o ho).2 hm⟩⟩
theorem enc_take {α : Type} {e : α → Enc.Enc} {l : List α} {k : Nat} {o : α} (h : l[k]? = some o) : Enc.catAll ((l.take (k + 1)).map e) = Enc.cat (Enc.catAll ((l.take k).map e)) (e o) := by
  obtain ⟨hk, rfl⟩ := List.getElem?_eq_some_iff.1 h
  rw [List.take_succ_eq_append_getElem hk, List.map_append, List.map_singleton, catAll_snoc]
theorem enc_none {α : Type} {e : α → Enc.Enc} {l : List α} {k : Nat} {o : α} (h : l[k]? = some o) (hn : e o = none) : Enc.catAll (l.map e) = none :=
  catAll_none (List.mem_map.2 ⟨o, List.mem_of_getElem? h, hn⟩)

/-- its rows' blocks are not g -/
structure StaNe (s : Dec.Sta) (A B : Option Addr) (g : Nat) : Prop where
  nd : ∀ a, A = some a → 0 < s.nd.length → a.block ≠ g
  sg : ∀ a, B = some a → 0 < s.sg.length → a.block ≠ g
theorem texts4 (a b c d : List UInt8) : Enc.texts [a, b, c, d] = Enc.cat (Enc.cat (Enc.cat (Enc.text a) (Enc.text b)) (Enc.text c)) (Enc.text d) := by
  simp only [Enc.texts, List.map_cons, List.map_nil, Enc.catAll, Enc.cat_nil, Enc.cat_assoc]
theorem sig_texts (o : Dec.Sg) : Enc.sig o = Enc.texts [o.n, o.x] := by
  simp only [Enc.sig, Enc.texts, List.map_cons, List.map_nil, Enc.catAll, Enc.cat_nil]

set_option maxRecDepth 100000 in
set_option maxHeartbeats 3000000 in
theorem state1_any (bp be : Nat) (s : Dec.Sta) (A : Option Addr) (c : Nat) (B : Option Addr) (d : Nat) (w : World) (hp : Pen w bp (.slice none 0 0) []) (he : Blk w be 67 #[.string ⟨s.df.toArray⟩, .string ⟨s.id.toArray⟩, .string ⟨s.pa.toArray⟩, .string ⟨s.pn.toArray⟩, .int .i64 s.st, .string ⟨s.tx.toArray⟩, .slice A s.nd.length c, .slice B s.sg.length d, .int .i64 s.ev]) (hv : StaAt w s A c B d)
    (hvb : StaBlk s A B w.heap.size) (hvn : (∀ a, A = some a → 0 < s.nd.length → a.block ≠ bp) ∧ (∀ a, B = some a → 0 < s.sg.length → a.block ≠ bp)) (hn : s.nd.length ≤ 1048576) (hm : s.sg.length ≤ 1048576) (hs : StaLe s maxLen) :
    Calls Try.prog 93 #[.pointer (some ⟨bp, 0, none⟩), .pointer (some ⟨be, 0, none⟩)] w (PenEnd bp (.slice none 0 0) [] w (Enc.state s)) := by
  have hne : be ≠ bp := he.ne_ hp.1 (by decide)
  have hnb : ¬ PenS bp (.slice none 0 0) be := by rintro (h | h); exact hne h; cases h
  have HNB := Lib.hid hnb
  have HV := Lib.hid hv; have HVN := Lib.hid (StaNe.mk (s := s) (A := A) (B := B) (g := bp) hvn.1 hvn.2); have HS := Lib.hid hs; have HE := Lib.hid he
  clear hv hvn hs hnb hne
  obtain ⟨w0, hw0⟩ : ∃ w0, w0 = w.alloc (.cells #[.string ⟨s.df.toArray⟩, .string ⟨s.id.toArray⟩, .string ⟨s.pa.toArray⟩, .string ⟨s.pn.toArray⟩] 9) := ⟨_, rfl⟩
  have HP0 := Lib.hid (show Pen w0 bp (.slice none 0 0) [] by rw [hw0]; exact ⟨hp.1.alloc _, hp.2.alloc _⟩)
  have HG0 := Lib.hid (show PenGo bp (.slice none 0 0) w (.slice none 0 0) w0 by rw [hw0]; exact ⟨(Touch.refl _ w).alloc _, .inl rfl⟩)
  have HT0 := Lib.hid (show Blk w0 w.heap.size 9 (([⟨s.df.toArray⟩, ⟨s.id.toArray⟩, ⟨s.pa.toArray⟩, ⟨s.pn.toArray⟩] : List ByteArray).map Value.string).toArray by rw [hw0]; exact Blk.new _ _ _)
  have HW0 := Lib.hid hw0
  clear hp he hw0
  have hc_0 := HE.out.cell 0
  have hc_1 := HE.out.cell 1
  have hc_2 := HE.out.cell 2
  have hc_3 := HE.out.cell 3
  simp only [List.getElem?_toArray, List.getElem?_cons_zero, List.getElem?_cons_succ] at hc_0 hc_1 hc_2 hc_3
  go_enter Try.func93, Try.ntmps93
  go_wp2_with fail
  rw [← HW0.out]
  refine (texts_any bp (.slice none 0 0) [] [⟨s.df.toArray⟩, ⟨s.id.toArray⟩, ⟨s.pa.toArray⟩, ⟨s.pn.toArray⟩] w.heap.size w0 HP0.out HT0.out (by simp) (by simp) (by intro q hq; simp only [List.mem_cons, List.not_mem_nil, or_false] at hq; rcases hq with rfl | rfl | rfl | rfl; exact HS.out.df; exact HS.out.id; exact HS.out.pa; exact HS.out.pn)).mono ?_
  intro e w4 h
  rcases h.cases with ⟨hr, rfl, ht⟩ | ⟨a4, v4, hr, rfl, hp, hg⟩
  · exact ⟨rfl, PenEnd.pan (by unfold Enc.state; rw [← texts4, show Enc.texts [s.df, s.id, s.pa, s.pn] = none from hr]; rfl) (HG0.out.touch.trans ht HG0.out.subS)⟩
  have hl := texts_size hr
  simp only [List.map_cons, List.map_nil, List.length_cons, List.length_nil] at hl
  replace hr : Enc.texts [s.df, s.id, s.pa, s.pn] = some a4 := hr
  have hab4 : a4.length ≤ 4200000 := by omega
  have HA4 := Lib.hid (show Enc.cat (Enc.cat (Enc.cat (Enc.text s.df) (Enc.text s.id)) (Enc.text s.pa)) (Enc.text s.pn) = some a4 by rw [← texts4]; exact hr)
  rw [List.nil_append] at hp
  have HP4 := Lib.hid hp
  have HG4 := Lib.hid (HG0.out.trans hg)
  clear hp hg hr h hl hc_0 hc_1 hc_2 hc_3
  have hc_4 : w4.cell? ⟨be, 4, none⟩ = some (.int .i64 s.st) := (HE.out.touch HG4.out.touch HNB.out).cell 4
  go_wp2_with fail
  refine (number_any bp v4 a4 s.st 0 4 w4 (by omega) (by omega) HP4.out (by omega)).mono ?_
  intro e w5 h
  rcases h.cases with ⟨hr, rfl, ht⟩ | ⟨y4, v5, hr, rfl, hp, hg⟩
  · exact ⟨rfl, PenEnd.pan (by unfold Enc.state; rw [HA4.out, show Enc.number s.st 0 4 = none from hr]; rfl) (HG4.out.touch.trans ht HG4.out.subS)⟩
  have hl := Enc.number_size (by omega) hr
  replace hr : Enc.number s.st 0 4 = some y4 := hr
  obtain ⟨a5, ha⟩ : ∃ a, a = a4 ++ y4 := ⟨_, rfl⟩
  have hab5 : a5.length ≤ 4200010 := by rw [ha, List.length_append]; omega
  have HA5 := Lib.hid (show Enc.cat (Enc.cat (Enc.cat (Enc.cat (Enc.text s.df) (Enc.text s.id)) (Enc.text s.pa)) (Enc.text s.pn)) (Enc.number s.st 0 4) = some a5 by rw [HA4.out, hr, ha]; rfl)
  rw [← ha] at hp
  have HP5 := Lib.hid hp
  have HG5 := Lib.hid (HG4.out.trans hg)
  clear hp hg hr ha h hl hc_4
  have hc_5 : w5.cell? ⟨be, 5, none⟩ = some (.string ⟨s.tx.toArray⟩) := (HE.out.touch HG5.out.touch HNB.out).cell 5
  go_wp2_with fail
  refine (text_any bp v5 a5 ⟨s.tx.toArray⟩ w5 HP5.out (by omega) HS.out.tx).mono ?_
  intro e w6 h
  rcases h.cases with ⟨hr, rfl, ht⟩ | ⟨y5, v6, hr, rfl, hp, hg⟩
  · exact ⟨rfl, PenEnd.pan (by unfold Enc.state; rw [HA5.out, show Enc.text s.tx = none from hr]; rfl) (HG5.out.touch.trans ht HG5.out.subS)⟩
  have hl := text_size hr
  replace hr : Enc.text s.tx = some y5 := hr
  obtain ⟨a6, ha⟩ : ∃ a, a = a5 ++ y5 := ⟨_, rfl⟩
  have hab6 : a6.length ≤ 5300000 := by rw [ha, List.length_append]; omega
  have HA6 := Lib.hid (show Enc.cat (Enc.cat (Enc.cat (Enc.cat (Enc.cat (Enc.text s.df) (Enc.text s.id)) (Enc.text s.pa)) (Enc.text s.pn)) (Enc.number s.st 0 4)) (Enc.text s.tx) = some a6 by rw [HA5.out, hr, ha]; rfl)
  rw [← ha] at hp
  have HP6 := Lib.hid hp
  have HG6 := Lib.hid (HG5.out.trans hg)
  clear hp hg hr ha h hl hc_5
  have hc_6 : w6.cell? ⟨be, 6, none⟩ = some (.slice A s.nd.length c) := (HE.out.touch HG6.out.touch HNB.out).cell 6
  go_wp2_with fail
  refine (plain_any bp v6 a6 s.nd.length w6 HP6.out (by omega)).mono ?_
  intro e w7 h
  rcases h.cases with ⟨hr, rfl, ht⟩ | ⟨y6, v7, hr, rfl, hp, hg⟩
  · exact ⟨rfl, PenEnd.pan (by unfold Enc.state; rw [HA6.out, show Enc.plain s.nd.length = none from hr]; rfl) (HG6.out.touch.trans ht HG6.out.subS)⟩
  have hl := Enc.plain_size hr
  replace hr : Enc.plain s.nd.length = some y6 := hr
  obtain ⟨a7, ha⟩ : ∃ a, a = a6 ++ y6 := ⟨_, rfl⟩
  have hab7 : a7.length ≤ 5300010 := by rw [ha, List.length_append]; omega
  have HA7 := Lib.hid (show Enc.cat (Enc.cat (Enc.cat (Enc.cat (Enc.cat (Enc.cat (Enc.text s.df) (Enc.text s.id)) (Enc.text s.pa)) (Enc.text s.pn)) (Enc.number s.st 0 4)) (Enc.text s.tx)) (Enc.plain s.nd.length) = some a7 by rw [HA6.out, hr, ha]; rfl)
  rw [← ha] at hp
  have HP7 := Lib.hid hp
  have HG7 := Lib.hid (HG6.out.trans hg)
  clear hp hg hr ha h hl hc_6
  have hc_6 : w7.cell? ⟨be, 6, none⟩ = some (.slice A s.nd.length c) := (HE.out.touch HG7.out.touch HNB.out).cell 6
  go_wp2_with fail
  clear hc_6
  go_loopw [34] (fun i wr => ∃ k : Nat, k ≤ s.nd.length ∧ i = .int .i64 k ∧ ∃ (ys : List UInt8) (u : Value), Enc.catAll ((s.nd.take k).map Enc.nod) = some ys ∧ ys.length ≤ k * 1048600 ∧ Pen wr bp u (a7 ++ ys) ∧ PenGo bp (.slice none 0 0) w u wr) (fun i _ => s.nd.length - (intOf i).toNat)
  case atStart => exact ⟨0, Nat.zero_le _, rfl, [], v7, rfl, by simp, by rw [List.append_nil]; exact HP7.out, HG7.out⟩
  case round =>
    obtain ⟨k, hk, rfl, ys, u, hys, hyl, hpu, hgu⟩ := hrel
    have HPU := Lib.hid hpu; clear hpu
    have HGU := Lib.hid hgu; clear hgu
    have HYS := Lib.hid hys; clear hys
    by_cases hlt : k < s.nd.length
    · obtain ⟨b, off, rfl⟩ := HV.out.nd.at_ (by omega)
      obtain ⟨o, ho⟩ : ∃ o, s.nd[k]? = some o := ⟨s.nd[k], List.getElem?_eq_getElem hlt⟩
      have hvr := HV.out.nd.touch HGU.out.touch (by rintro a ha h0 (h | h); exact (HVN.out.nd a ha h0) h; cases h)
      have hk0 : wr.cell? ⟨b, off + k * 3, none⟩ = some (.int .i64 o.s) := hvr.cellAt (ndsV_at ho 0 (by omega))
      have hk1 : wr.cell? ⟨b, off + k * 3 + 1, none⟩ = some (.int .i64 o.t) := hvr.cellAt (ndsV_at ho 1 (by omega))
      have hk2 : wr.cell? ⟨b, off + k * 3 + 2, none⟩ = some (.string ⟨o.x.toArray⟩) := hvr.cellAt (ndsV_at ho 2 (by omega))
      clear hvr
      have hso := HS.out.nd o (List.mem_of_getElem? ho)
      obtain ⟨S0, hS⟩ : ∃ S, S = wr.alloc (.cells #[.int .i64 o.s, .int .i64 o.t, .string ⟨o.x.toArray⟩] 127) := ⟨_, rfl⟩
      have HPS := Lib.hid (show Pen S0 bp u (a7 ++ ys) by rw [hS]; exact ⟨HPU.out.1.alloc _, HPU.out.2.alloc _⟩)
      have HGS := Lib.hid (show PenGo bp (.slice none 0 0) w u S0 by rw [hS]; exact ⟨HGU.out.touch.alloc _, HGU.out.own⟩)
      have HBS := Lib.hid (show Blk S0 wr.heap.size 127 #[.int .i64 o.s, .int .i64 o.t, .string ⟨o.x.toArray⟩] by rw [hS]; exact Blk.new _ _ _)
      have HSS := Lib.hid hS; clear hS
      have hbb : wr.heap.size ≠ bp := by have := HPU.out.1.lt; omega
      have HSX : Hid (∀ (v : Value) (z : List UInt8) (wx : World), Pen wx bp v z → Blk wx wr.heap.size 127 #[.int .i64 o.s, .int .i64 o.t, .string ⟨o.x.toArray⟩] → ¬ PenS bp v wr.heap.size) := Lib.hid (by
        rintro v z wx hp hb (h | h)
        · exact hbb h
        · exact hp.2.ne_blk hb (by decide) h)
      have hyk : k * 1048600 ≤ 2199075880000 := by omega
      go_wp2_with fail
      rw [← HSS.out]
      refine (number_any bp u (a7 ++ ys) o.s 0 4 S0 (by omega) (by omega) HPS.out (by rw [List.length_append]; omega)).mono ?_
      intro e s1 h
      rcases h.cases with ⟨hr, rfl, ht⟩ | ⟨x0, z1, hr, rfl, hp, hg⟩
      · exact ⟨rfl, PenEnd.pan (by unfold Enc.state; rw [HA7.out, enc_none (e := Enc.nod) ho (by unfold Enc.nod; rw [show Enc.number o.s 0 4 = none from hr]; rfl)]; rfl) (HGS.out.touch.trans ht HGS.out.subS)⟩
      have hl0 := Enc.number_size (by omega) hr
      have HX0 := Lib.hid hr
      have HJ1 := Lib.hid (HGS.out.trans hg)
      have HK1 := Lib.hid (HBS.out.touch hg.touch (HSX.out _ _ _ HPS.out HBS.out))
      have HQ1 := Lib.hid hp
      have hd1 := HK1.out.cell 1
      simp only [List.getElem?_toArray, List.getElem?_cons_zero, List.getElem?_cons_succ] at hd1
      clear hr h hp hg
      go_wp2_with fail
      refine (plain_any bp z1 (a7 ++ ys ++ x0) o.t s1 HQ1.out (by simp only [List.length_append]; omega)).mono ?_
      intro e s2 h
      rcases h.cases with ⟨hr, rfl, ht⟩ | ⟨x1, z2, hr, rfl, hp, hg⟩
      · exact ⟨rfl, PenEnd.pan (by unfold Enc.state; rw [HA7.out, enc_none (e := Enc.nod) ho (by unfold Enc.nod; rw [HX0.out, show Enc.plain o.t = none from hr]; rfl)]; rfl) (HJ1.out.touch.trans ht HJ1.out.subS)⟩
      have hl1 := Enc.plain_size hr
      have HX1 := Lib.hid hr
      have HJ2 := Lib.hid (HJ1.out.trans hg)
      have HK2 := Lib.hid (HK1.out.touch hg.touch (HSX.out _ _ _ HQ1.out HK1.out))
      have HQ2 := Lib.hid hp
      have hd2 := HK2.out.cell 2
      simp only [List.getElem?_toArray, List.getElem?_cons_zero, List.getElem?_cons_succ] at hd2
      clear hr h hp hg hd1
      go_wp2_with fail
      refine (text_any bp z2 (a7 ++ ys ++ x0 ++ x1) ⟨o.x.toArray⟩ s2 HQ2.out (by simp only [List.length_append]; omega) hso).mono ?_
      intro e s3 h
      rcases h.cases with ⟨hr, rfl, ht⟩ | ⟨x2, z3, hr, rfl, hp, hg⟩
      · exact ⟨rfl, PenEnd.pan (by unfold Enc.state; rw [HA7.out, enc_none (e := Enc.nod) ho (by unfold Enc.nod; rw [HX0.out, HX1.out, show Enc.text o.x = none from hr]; rfl)]; rfl) (HJ2.out.touch.trans ht HJ2.out.subS)⟩
      have hl2 := text_size hr
      replace hr : Enc.text o.x = some x2 := hr
      have HX2 := Lib.hid hr
      have HJ3 := Lib.hid (HJ2.out.trans hg)
      have HQ3 := Lib.hid hp
      clear hr h hp hg hd2
      go_wp2_with fail
      go_roundw
      case rel =>
        refine ⟨k + 1, by omega, by go_num, ys ++ (x0 ++ (x1 ++ x2)), z3, ?_, ?_, by simpa only [List.append_assoc] using HQ3.out, HJ3.out⟩
        · rw [enc_take ho, HYS.out]
          unfold Enc.nod
          rw [HX0.out, HX1.out, HX2.out]
          simp [Enc.cat_some]
        · simp only [List.length_append]; omega
      case measure => simp [intOf] <;> omega
    · obtain rfl : k = s.nd.length := by omega
      obtain ⟨a8, ha⟩ : ∃ a, a = a7 ++ ys := ⟨_, rfl⟩
      have hab8 : a8.length ≤ 1150000000000 := by rw [ha, List.length_append]; omega
      have HA8 := Lib.hid (show Enc.cat (Enc.cat (Enc.cat (Enc.cat (Enc.cat (Enc.cat (Enc.cat (Enc.text s.df) (Enc.text s.id)) (Enc.text s.pa)) (Enc.text s.pn)) (Enc.number s.st 0 4)) (Enc.text s.tx)) (Enc.plain s.nd.length)) (Enc.catAll (s.nd.map Enc.nod)) = some a8 by
        have h2 := HYS.out
        rw [List.take_length] at h2
        rw [HA7.out, h2, ha]
        rfl)
      have hp := HPU.out
      rw [← ha] at hp
      have HP8 := Lib.hid hp
      have HG8 := HGU
      clear hp ha
      obtain ⟨v8, hv8⟩ : ∃ v8, v8 = u := ⟨_, rfl⟩
      obtain ⟨w8, hw8⟩ : ∃ w8, w8 = wr := ⟨_, rfl⟩
      rw [← hv8, ← hw8] at HP8 HG8
      clear HPU HGU HYS hyl
      subst hv8 hw8
      have hc_7 : w8.cell? ⟨be, 7, none⟩ = some (.slice B s.sg.length d) := (HE.out.touch HG8.out.touch HNB.out).cell 7
      go_wp2_with fail
      refine (plain_any bp v8 a8 s.sg.length w8 HP8.out (by omega)).mono ?_
      intro e w9 h
      rcases h.cases with ⟨hr, rfl, ht⟩ | ⟨y8, v9, hr, rfl, hp, hg⟩
      · exact ⟨rfl, PenEnd.pan (by unfold Enc.state; rw [HA8.out, show Enc.plain s.sg.length = none from hr]; rfl) (HG8.out.touch.trans ht HG8.out.subS)⟩
      have hl := Enc.plain_size hr
      replace hr : Enc.plain s.sg.length = some y8 := hr
      obtain ⟨a9, ha⟩ : ∃ a, a = a8 ++ y8 := ⟨_, rfl⟩
      have hab9 : a9.length ≤ 1150000000010 := by rw [ha, List.length_append]; omega
      have HA9 := Lib.hid (show Enc.cat (Enc.cat (Enc.cat (Enc.cat (Enc.cat (Enc.cat (Enc.cat (Enc.cat (Enc.text s.df) (Enc.text s.id)) (Enc.text s.pa)) (Enc.text s.pn)) (Enc.number s.st 0 4)) (Enc.text s.tx)) (Enc.plain s.nd.length)) (Enc.catAll (s.nd.map Enc.nod))) (Enc.plain s.sg.length) = some a9 by rw [HA8.out, hr, ha]; rfl)
      rw [← ha] at hp
      have HP9 := Lib.hid hp
      have HG9 := Lib.hid (HG8.out.trans hg)
      clear hp hg hr ha h hl hc_7
      have hc_6 : w9.cell? ⟨be, 7, none⟩ = some (.slice B s.sg.length d) := (HE.out.touch HG9.out.touch HNB.out).cell 7
      go_wp2_with fail
      clear hc_6
      go_loopw [59] (fun i wr => ∃ k : Nat, k ≤ s.sg.length ∧ i = .int .i64 k ∧ ∃ (ys : List UInt8) (u : Value), Enc.catAll ((s.sg.take k).map Enc.sig) = some ys ∧ ys.length ≤ k * 2097200 ∧ Pen wr bp u (a9 ++ ys) ∧ PenGo bp (.slice none 0 0) w u wr) (fun i _ => s.sg.length - (intOf i).toNat)
      case atStart => exact ⟨0, Nat.zero_le _, rfl, [], v9, rfl, by simp, by rw [List.append_nil]; exact HP9.out, HG9.out⟩
      case round =>
        obtain ⟨k, hk, rfl, ys, u, hys, hyl, hpu, hgu⟩ := hrel
        have HPU := Lib.hid hpu; clear hpu
        have HGU := Lib.hid hgu; clear hgu
        have HYS := Lib.hid hys; clear hys
        by_cases hlt : k < s.sg.length
        · obtain ⟨b, off, rfl⟩ := HV.out.sg.at_ (by omega)
          obtain ⟨o, ho⟩ : ∃ o, s.sg[k]? = some o := ⟨s.sg[k], List.getElem?_eq_getElem hlt⟩
          have hvr := HV.out.sg.touch HGU.out.touch (by rintro a ha h0 (h | h); exact (HVN.out.sg a ha h0) h; cases h)
          have hk0 : wr.cell? ⟨b, off + k * 2, none⟩ = some (.string ⟨o.n.toArray⟩) := hvr.cellAt (sgsV_at ho 0 (by omega))
          have hk1 : wr.cell? ⟨b, off + k * 2 + 1, none⟩ = some (.string ⟨o.x.toArray⟩) := hvr.cellAt (sgsV_at ho 1 (by omega))
          clear hvr
          have hso := HS.out.sg o (List.mem_of_getElem? ho)
          obtain ⟨S0, hS⟩ : ∃ S, S = wr.alloc (.cells #[.string ⟨o.n.toArray⟩, .string ⟨o.x.toArray⟩] 129) := ⟨_, rfl⟩
          have HPS := Lib.hid (show Pen S0 bp u (a9 ++ ys) by rw [hS]; exact ⟨HPU.out.1.alloc _, HPU.out.2.alloc _⟩)
          have HGS := Lib.hid (show PenGo bp (.slice none 0 0) w u S0 by rw [hS]; exact ⟨HGU.out.touch.alloc _, HGU.out.own⟩)
          have HBS := Lib.hid (show Blk S0 wr.heap.size 129 #[.string ⟨o.n.toArray⟩, .string ⟨o.x.toArray⟩] by rw [hS]; exact Blk.new _ _ _)
          have HSS := Lib.hid hS; clear hS
          have hbb : wr.heap.size ≠ bp := by have := HPU.out.1.lt; omega
          have HSX : Hid (∀ (v : Value) (z : List UInt8) (wx : World), Pen wx bp v z → Blk wx wr.heap.size 129 #[.string ⟨o.n.toArray⟩, .string ⟨o.x.toArray⟩] → ¬ PenS bp v wr.heap.size) := Lib.hid (by
            rintro v z wx hp hb (h | h)
            · exact hbb h
            · exact hp.2.ne_blk hb (by decide) h)
          have hyk : k * 2097200 ≤ 2199075880000 := by omega
          go_wp2_with fail
          rw [← HSS.out]
          obtain ⟨S1, hS1⟩ : ∃ S1, S1 = S0.alloc (Obj.cells #[.string ⟨o.n.toArray⟩, .string ⟨o.x.toArray⟩] 9) := ⟨_, rfl⟩
          have HP1' := Lib.hid (show Pen S1 bp u (a9 ++ ys) by rw [hS1]; exact ⟨HPS.out.1.alloc _, HPS.out.2.alloc _⟩)
          have HG1' := Lib.hid (show PenGo bp (.slice none 0 0) w u S1 by rw [hS1]; exact ⟨HGS.out.touch.alloc _, HGS.out.own⟩)
          have hsz9 : S0.heap.size = wr.heap.size + 1 := by rw [HSS.out]; simp
          have HT1' := Lib.hid (show Blk S1 (wr.heap.size + 1) 9 (([⟨o.n.toArray⟩, ⟨o.x.toArray⟩] : List ByteArray).map Value.string).toArray by rw [hS1, ← hsz9]; exact Blk.new _ _ _)
          clear hsz9
          have HS1' := Lib.hid hS1; clear hS1
          rw [← HS1'.out]
          refine (texts_any bp u (a9 ++ ys) [⟨o.n.toArray⟩, ⟨o.x.toArray⟩] (wr.heap.size + 1) S1 HP1'.out HT1'.out (by rw [List.length_append]; omega) (by simp) (by intro q hq; simp only [List.mem_cons, List.not_mem_nil, or_false] at hq; rcases hq with rfl | rfl; exact hso.1; exact hso.2)).mono ?_
          intro e s1 h
          rcases h.cases with ⟨hr, rfl, ht⟩ | ⟨x0, z1, hr, rfl, hp, hg⟩
          · exact ⟨rfl, PenEnd.pan (by unfold Enc.state; rw [HA9.out, enc_none (e := Enc.sig) ho (by rw [sig_texts]; exact hr)]; rfl) (HG1'.out.touch.trans ht HG1'.out.subS)⟩
          have hl0 := texts_size hr
          simp only [List.map_cons, List.map_nil, List.length_cons, List.length_nil] at hl0
          replace hr : Enc.sig o = some x0 := by rw [sig_texts]; exact hr
          have HX0 := Lib.hid hr
          have HJ1 := Lib.hid (HG1'.out.trans hg)
          have HQ1 := Lib.hid hp
          clear hr h hp hg
          go_wp2_with fail
          go_roundw
          case rel =>
            refine ⟨k + 1, by omega, by go_num, ys ++ x0, z1, ?_, ?_, by simpa only [List.append_assoc] using HQ1.out, HJ1.out⟩
            · rw [enc_take ho, HYS.out, HX0.out]
              rfl
            · simp only [List.length_append]; omega
          case measure => simp [intOf] <;> omega
        · obtain rfl : k = s.sg.length := by omega
          obtain ⟨a10, ha⟩ : ∃ a, a = a9 ++ ys := ⟨_, rfl⟩
          have hab10 : a10.length ≤ 3400000000000 := by rw [ha, List.length_append]; omega
          have HA10 := Lib.hid (show Enc.cat (Enc.cat (Enc.cat (Enc.cat (Enc.cat (Enc.cat (Enc.cat (Enc.cat (Enc.cat (Enc.text s.df) (Enc.text s.id)) (Enc.text s.pa)) (Enc.text s.pn)) (Enc.number s.st 0 4)) (Enc.text s.tx)) (Enc.plain s.nd.length)) (Enc.catAll (s.nd.map Enc.nod))) (Enc.plain s.sg.length)) (Enc.catAll (s.sg.map Enc.sig)) = some a10 by
            have h2 := HYS.out
            rw [List.take_length] at h2
            rw [HA9.out, h2, ha]
            rfl)
          have hp := HPU.out
          rw [← ha] at hp
          have HP10 := Lib.hid hp
          have HG10 := HGU
          clear hp ha
          obtain ⟨v10, hv10⟩ : ∃ v10, v10 = u := ⟨_, rfl⟩
          obtain ⟨w10, hw10⟩ : ∃ w10, w10 = wr := ⟨_, rfl⟩
          rw [← hv10, ← hw10] at HP10 HG10
          clear HPU HGU HYS hyl
          subst hv10 hw10
          have hc_8 : w10.cell? ⟨be, 8, none⟩ = some (.int .i64 s.ev) := (HE.out.touch HG10.out.touch HNB.out).cell 8
          go_wp2_with fail
          refine (plain_any bp v10 a10 s.ev w10 HP10.out (by omega)).mono ?_
          intro e w11 h
          rcases h.cases with ⟨hr, rfl, ht⟩ | ⟨y10, v11, hr, rfl, hp, hg⟩
          · exact ⟨rfl, PenEnd.pan (by unfold Enc.state; rw [HA10.out, show Enc.plain s.ev = none from hr]; rfl) (HG10.out.touch.trans ht HG10.out.subS)⟩
          have hl := Enc.plain_size hr
          replace hr : Enc.plain s.ev = some y10 := hr
          obtain ⟨a11, ha⟩ : ∃ a, a = a10 ++ y10 := ⟨_, rfl⟩
          have hab11 : a11.length ≤ 3400000000010 := by rw [ha, List.length_append]; omega
          have HA11 := Lib.hid (show Enc.cat (Enc.cat (Enc.cat (Enc.cat (Enc.cat (Enc.cat (Enc.cat (Enc.cat (Enc.cat (Enc.cat (Enc.text s.df) (Enc.text s.id)) (Enc.text s.pa)) (Enc.text s.pn)) (Enc.number s.st 0 4)) (Enc.text s.tx)) (Enc.plain s.nd.length)) (Enc.catAll (s.nd.map Enc.nod))) (Enc.plain s.sg.length)) (Enc.catAll (s.sg.map Enc.sig))) (Enc.plain s.ev) = some a11 by rw [HA10.out, hr, ha]; rfl)
          rw [← ha] at hp
          have HP11 := Lib.hid hp
          have HG11 := Lib.hid (HG10.out.trans hg)
          clear hp hg hr ha h hl hc_8
          go_wp2_with fail
          go_end0
          exact PenEnd.ret (ys := a11) (by unfold Enc.state; exact HA11.out) ⟨v11, by rw [List.nil_append]; exact HP11.out, HG11.out⟩

set_option maxRecDepth 20000 in
set_option maxHeartbeats 1000000 in
theorem state_any (s : Dec.Sta) (A : Option Addr) (c : Nat) (B : Option Addr) (d : Nat) (w : World) (hv : StaAt w s A c B d) (hvb : StaBlk s A B w.heap.size) (hn : s.nd.length ≤ 1048576) (hm : s.sg.length ≤ 1048576) (hs : StaLe s maxLen) :
    Calls Try.prog 43 #[.agg #[.string ⟨s.df.toArray⟩, .string ⟨s.id.toArray⟩, .string ⟨s.pa.toArray⟩, .string ⟨s.pn.toArray⟩, .int .i64 s.st, .string ⟨s.tx.toArray⟩, .slice A s.nd.length c, .slice B s.sg.length d, .int .i64 s.ev]] w (EncEnd w (Enc.state s)) := by
  have hmf : ∀ (fn : Fn) (first cap : Array Value) (w : World), (Instr.makeFunc fn first cap).run Try.prog w = .ok (.func fn first cap) w := fun _ _ _ _ => rfl
  have HK := Lib.hid (written_any 93 #[.pointer (some ⟨w.heap.size, 0, none⟩)] (Enc.state s) (w.alloc (.cells #[.string ⟨s.df.toArray⟩, .string ⟨s.id.toArray⟩, .string ⟨s.pa.toArray⟩, .string ⟨s.pn.toArray⟩, .int .i64 s.st, .string ⟨s.tx.toArray⟩, .slice A s.nd.length c, .slice B s.sg.length d, .int .i64 s.ev] 67)) (fun args w => by simp [go_sem])
    (fun w1 bp hf hbp hp => by
      have hsz : (w.alloc (.cells #[.string ⟨s.df.toArray⟩, .string ⟨s.id.toArray⟩, .string ⟨s.pa.toArray⟩, .string ⟨s.pn.toArray⟩, .int .i64 s.st, .string ⟨s.tx.toArray⟩, .slice A s.nd.length c, .slice B s.sg.length d, .int .i64 s.ev] 67)).heap.size = w.heap.size + 1 := by simp
      have h2 := hf.size
      simpa using state1_any bp w.heap.size s A c B d w1 hp ((Blk.new w _ _).touch hf id) ((hv.fresh ((Touch.refl _ w).alloc _)).fresh hf) (hvb.le (by omega)) ⟨fun a ha h0 => by have h1 := hvb.nd a ha h0; omega, fun a ha h0 => by have h1 := hvb.sg a ha h0; omega⟩ hn hm hs))
  clear hv hvb hs
  go_enter Try.func43, Try.ntmps43
  go_wp2_with fail
  refine HK.out.mono ?_
  intro e w1 h
  rcases h.of_alloc.cases with ⟨hr, rfl, ht⟩ | ⟨ys, A, c, hr, rfl, hrow, hnew, ht⟩
  · have HR := Lib.hid hr; clear hr h
    have HT := Lib.hid ht; clear ht
    go_wp2_with fail
    go_ret2
    exact EncEnd.no HR.out HT.out
  · have HR := Lib.hid hr; clear hr h
    have HT := Lib.hid ht; clear ht
    have HROW := Lib.hid hrow; clear hrow
    have HNEW := Lib.hid hnew; clear hnew
    go_wp2_with fail
    go_ret2
    exact EncEnd.yes HR.out HROW.out HNEW.out HT.out
end Go.Proofs.Ytdfhdanfigpbpaa
