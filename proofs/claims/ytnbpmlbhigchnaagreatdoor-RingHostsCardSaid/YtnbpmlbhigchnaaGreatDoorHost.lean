/- Whose a shard is: Host's closure, Host, Hosts. Conditions stand with each. -/
import Derived.Test.YtnbpmlbhigchnaaGreatDoorNew
namespace Go.Proofs.YtnbpmlbhigchnaaGreatDoor
open Go.RowKit Ieee Go.Sort

theorem idx_find {α : Type} (p : α → Bool) (d : α) : ∀ (l : List α) (i : Nat), (∃ k s, l[k]? = some s ∧ l.find? p = some s ∧ Lib.idxByFrom (fun _ y => p y) d l i = ((i + k : Nat) : Int)) ∨ (l.find? p = none ∧ Lib.idxByFrom (fun _ y => p y) d l i = -1)
  | [], _ => .inr ⟨rfl, rfl⟩
  | a :: l, i => by
    cases h : p a with
    | true => exact .inl ⟨0, a, rfl, by rw [List.find?_cons, h], by simp [Lib.idxByFrom, h]⟩
    | false =>
      rcases idx_find p d l (i + 1) with ⟨k, s, h1, h2, h3⟩ | ⟨h1, h2⟩
      · exact .inl ⟨k + 1, s, h1, by rw [List.find?_cons, h]; exact h2, by simp only [Lib.idxByFrom, h]; rw [if_neg (by simp), h3]; simp; omega⟩
      · exact .inr ⟨by rw [List.find?_cons, h]; exact h1, by simp only [Lib.idxByFrom, h]; rw [if_neg (by simp), h2]⟩
theorem idx_next (sps : List Sp) (z : Int × Int) (hne : sps ≠ []) : ∃ (m : Nat) (s : Sp), sps[m]? = some s ∧ nextK (sps.map Sp.key) z = some s.key ∧ (Lib.idxBy (fun _ (y : Sp) => !befZ y.z z) sps default = (m : Int) ∨ (m = 0 ∧ Lib.idxBy (fun _ (y : Sp) => !befZ y.z z) sps default = -1)) := by
  have hf : (sps.map Sp.key).find? (fun s => !befZ s.1 z) = (sps.find? fun y => !befZ y.z z).map Sp.key := by
    rw [List.find?_map]
    rfl
  unfold nextK
  rw [hf]
  rcases idx_find (fun y : Sp => !befZ y.z z) default sps 0 with ⟨k, s, h1, h2, h3⟩ | ⟨h1, h2⟩
  · exact ⟨k, s, h1, by rw [h2]; rfl, .inl (by unfold Lib.idxBy; rw [h3, Nat.zero_add])⟩
  · cases sps with
    | nil => exact absurd rfl hne
    | cons a l => exact ⟨0, a, rfl, by rw [h1]; rfl, .inr ⟨rfl, h2⟩⟩

set_option maxRecDepth 20000 in
theorem pred_any {z : Int × Int} {x y : Nat} (hx : FV x z.1) (hy : FV y z.2) (hz : InZ z) {B : Nat} {w : World} (hB : B < w.heap.size) (hc : w.cell? ⟨B, 0, none⟩ = some (.complex .f64 x y)) :
    PredBelow Tryz.prog 30 #[.pointer (some ⟨B, 0, none⟩)] (fun s : Sp => .agg s.enc.toArray) (fun s => !befZ s.z z) w := fun W s hb => by
  show Calls Tryz.prog 30 #[.agg #[.complex .f64 s.x s.y, .int .i64 s.h], .pointer (some ⟨B, 0, none⟩)] W _
  have HB := Lib.hid (show Below w.heap.size w (W.alloc (.cells #[.complex .f64 s.x s.y, .int .i64 s.h] 60)) from hb.alloc hb.size _)
  have c1 : W.cell? ⟨B, 0, none⟩ = some (.complex .f64 x y) := (hb.cell (p := ⟨B, 0, none⟩) hB).trans hc
  have hBW : B < W.heap.size := Nat.lt_of_lt_of_le hB hb.size
  have hne : B ≠ W.heap.size := by omega
  have KB := Lib.hid (fun W => before_any s.hx s.hy hx hy s.hz hz W)
  obtain ⟨r, hr⟩ : ∃ r, r = befZ s.z z := ⟨_, rfl⟩
  rw [← hr] at KB
  have HRR := Lib.hid hr
  clear hb hc hB hx hy hz hr
  go_enter Tryz.func30, Tryz.ntmps30
  go_wp2_with fail
  refine (KB.out _).mono ?_
  rintro e w1 ⟨rfl, hw1⟩
  rw [hw1]
  clear hw1 w1
  go_wp2_with fail
  all_goals (go_ret; exact ⟨by simp [HRR.out], HB.out⟩)

/-- a shard's point, out of its number's text -/
def shardP (bs : List UInt8) : Int × Int := pointZ ([115, 104, 97, 114, 100, 47] ++ bs)
def hostOf (K : List Key) (bs : List UInt8) : Value := match nextK K (shardP bs) with
  | none => .tuple #[.int .i64 0, .bool false]
  | some s => .tuple #[.int .i64 s.2, .bool true]
theorem hostOf_some {K : List Key} {bs : List UInt8} {s : Key} (h : nextK K (shardP bs) = some s) : hostOf K bs = .tuple #[.int .i64 s.2, .bool true] := by unfold hostOf; rw [h]
theorem shard_bytes (bs : List UInt8) : (({ data := #[115, 104, 97, 114, 100, 47] } : ByteArray) ++ ⟨bs.toArray⟩) = ⟨([115, 104, 97, 114, 100, 47] ++ bs).toArray⟩ := by
  apply ByteArray.ext
  simp

set_option maxRecDepth 20000 in
set_option maxHeartbeats 2000000 in
theorem host_any (bn : Nat) (hv sv : Value) (hs : List Int) (sps : List Sp) (sh : Int) (bs : List UInt8) (hb : bs.length ≤ 100) (w : World) (hR : RG w bn hv sv hs sps) (hl : sps.length ≤ 1000000000)
    (KI : Calls Tryz.prog 19 #[.int .i64 sh] w fun e w' => e = .returned (.string ⟨bs.toArray⟩) ∧ Fresh w w') :
    Calls Tryz.prog 10 #[.pointer (some ⟨bn, 0, none⟩), .int .i64 sh] w fun e w' => e = .returned (hostOf (sps.map Sp.key) bs) ∧ Fresh w w' := by
  have c1 : w.cell? ⟨bn, 1, none⟩ = some sv := hR.blk.cell 1
  obtain ⟨A, c, rfl, hc1, hc2, hA⟩ := hR.srow.form
  by_cases hne : sps = []
  · subst hne
    have HR := Lib.hid hR
    clear hR hA KI
    go_enter Tryz.func10, Tryz.ntmps10
    go_wp2_with fail
    all_goals (go_ret2; exact ⟨rfl, Touch.refl _ _⟩)
  · have hpos : 0 < sps.length := List.length_pos_iff.2 hne
    obtain ⟨g, rfl⟩ : ∃ g, A = some ⟨g, 0, none⟩ := by
      rcases hA with ⟨_, h0, _⟩ | hg
      · omega
      · exact hg
    obtain ⟨m, s, hm, hnext, hidx⟩ := idx_next sps (shardP bs) hne
    rw [hostOf_some hnext]
    have hml : m < sps.length := (List.getElem?_eq_some_iff.1 hm).1
    have hn0 : ¬ sps.length = 0 := by omega
    have h0 : ((sps.length : Int) == 0) = false := by simp; exact hne
    have n1 : ¬ 9223372036854775807 < 6 + bs.length := by omega
    have HNE := Lib.hid hne; have HR := Lib.hid hR; have HM := Lib.hid hm; have HI := Lib.hid hidx; have HK := Lib.hid KI
    have KP := Lib.hid (fun W => point_any ([115, 104, 97, 114, 100, 47] ++ bs) (by simp; omega) W)
    have HZ := Lib.hid (InZ.point ([115, 104, 97, 114, 100, 47] ++ bs))
    have hzz : pointZ ([115, 104, 97, 114, 100, 47] ++ bs) = shardP bs := rfl
    rw [hzz] at KP HZ
    generalize shardP bs = z at *
    clear hne hR hm hidx hnext hA hzz KI
    go_enter Tryz.func10, Tryz.ntmps10
    go_wp2_with fail
    refine HK.out.mono ?_
    rintro e w1 ⟨rfl, hf1⟩
    have HF1 := Lib.hid hf1
    clear hf1 HK
    go_wp2_with fail
    rw [shard_bytes]
    refine (KP.out _).mono ?_
    rintro e w2 ⟨⟨x, y, rfl, hx, hy⟩, hw2⟩
    rw [hw2]
    clear hw2 w2 KP
    obtain ⟨W2, hW2⟩ : ∃ W2, W2 = (w1.alloc (.cells #[.complex .f64 0 0] 45)).setCell ⟨w1.heap.size, 0, none⟩ (.complex .f64 x y) := ⟨_, rfl⟩
    have HF2 := Lib.hid (show Fresh w W2 by rw [hW2]; exact (HF1.out.alloc _).setCell (p := ⟨w1.heap.size, 0, none⟩) (.inl HF1.out.size) _)
    have hb2 : Blk W2 w1.heap.size 45 #[.complex .f64 x y] := by rw [hW2]; simpa using (Blk.new w1 45 #[.complex .f64 0 0]).set_ 0 (.complex .f64 x y)
    have kst : (store ⟨w1.heap.size, 0, none⟩ (.complex .f64 x y)).run Tryz.prog (w1.alloc (.cells #[.complex .f64 0 0] 45)) = .ok () W2 := by
      have h1 := (Blk.new w1 45 #[.complex .f64 0 0]).cell 0
      have h2 := (Blk.new w1 45 #[.complex .f64 0 0]).frozen 0
      simp only [List.getElem?_toArray, List.getElem?_cons_zero] at h1
      rw [run_store _ _ _ _ _ rfl, h1, h2, hW2]
      rfl
    have hR2 := HR.out.fresh HF2.out
    have c2 : W2.cell? ⟨bn, 1, none⟩ = some (.slice (some ⟨g, 0, none⟩) sps.length c) := hR2.blk.cell 1
    have KX := Lib.hid (AnyQ.slices_IndexFunc Tryz.indexSp 2 Tryz.isAgg60 Tryz.sizeOf60 Sp.enc Sp.enc_len (fun s => !befZ s.z z) 30 #[.pointer (some ⟨w1.heap.size, 0, none⟩)]
      (enters_of Tryz.func30 (by kernel_rfl) rfl) g 0 sps.length c sps W2 (pred_any hx hy HZ.out hb2.lt (hb2.cell 0)) (Nat.le_refl _) (by omega) (hR2.srow.lt g rfl) (fun j hj i v hi => by
        have hi2 : i < 2 := (List.getElem?_eq_some_iff.1 hi).1
        have h1 : sps[j]? = some sps[j]! := by rw [getElem!_pos sps j hj]; exact List.getElem?_eq_getElem hj
        rw [Nat.zero_add, hR2.srow.cell (j := j * 2 + i) (by omega), ← hi]
        exact flat_at Sp.enc 2 Sp.enc_len sps j i _ h1 hi2))
    rw [List.take_length] at KX
    have HW2 := Lib.hid hW2
    clear hx hy hW2 hb2 hR2
    obtain ⟨q, hq⟩ : ∃ q, q = Lib.idxBy (fun _ (y : Sp) => !befZ y.z z) sps default := ⟨_, rfl⟩
    rw [← hq] at KX HI
    clear hq
    go_wp2_with fail
    refine KX.out.mono ?_
    rintro e w3 ⟨rfl, hb3⟩
    have hf3 : Fresh W2 w3 := Touch.ofBelow hb3 _
    have hR3 := HR.out.fresh (HF2.out.trans hf3 fun _ _ => id)
    have c3 : w3.cell? ⟨bn, 1, none⟩ = some (.slice (some ⟨g, 0, none⟩) sps.length c) := hR3.blk.cell 1
    have c4 : w3.cell? ⟨g, m * 2 + 1, none⟩ = some (.int .i64 s.h) := by
      rw [hR3.srow.cell (j := m * 2 + 1) (by omega)]
      exact flat_at Sp.enc 2 Sp.enc_len sps m 1 s HM.out (by omega)
    have HF3 := Lib.hid (HF2.out.trans hf3 fun _ _ => id)
    have hi := HI.out
    clear hb3 hf3 hR3 KX c1 c2 HI
    rcases hi with rfl | ⟨rfl, hq⟩
    · have hq0 : ¬ (m : Int) < 0 := by omega
      go_wp2_with fail
      all_goals (go_ret2; exact ⟨rfl, HF3.out⟩)
    · simp only [Nat.zero_mul, Nat.zero_add] at c4
      have hne' := HNE.out
      have hmx : max q 0 = 0 := by rw [hq]; rfl
      clear hq
      go_wp2_with fail
      all_goals (go_ret2; exact ⟨rfl, HF3.out⟩)
end Go.Proofs.YtnbpmlbhigchnaaGreatDoor
