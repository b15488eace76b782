/- wal.Log.Read with the row that it lays; a play over new blocks. Conditions stand with each. -/
import Derived.Test.YtlcmnihpfpmajaaGreatPgkZ
import Derived.Deep.RegionHeld
namespace Go.Proofs.YtlcmnihpfpmajaaGreat
open Go.RowKit
section
variable {w : World} {bl bd : Nat} {R : Nat → Prop} {l : Lg} {sv rv : Value} {vs : List Value}
def ReadRow (w : World) (c : Ct) (i : Int) (e : Ending) (w' : World) : Prop :=
  Fresh w w' ∧ (((i < (c.first : Int) ∨ (c.next : Int) ≤ i) ∧ e = .returned (.tuple #[.slice none 0 0, .int .i64 6])) ∨
    ∃ j b B k, i = (c.first : Int) + (j : Nat) ∧ c.rows[j]? = some b ∧ e = .returned (.tuple #[.slice B b.length k, .int .i64 0]) ∧ Row w' (.slice B b.length k) b ∧ ∀ a, B = some a → w.heap.size ≤ a.block)
set_option maxRecDepth 20000 in
set_option maxHeartbeats 2000000 in
theorem lreadR_any (h : LM w bl bd R l sv rv vs) (hb : l.c.next ≤ 1000000000) (hr : ∀ b ∈ l.c.rows, b.length ≤ 100000000) (i : Int) :
    Calls Tryz.prog 27 #[.pointer (some ⟨bl, 0, none⟩), .int .i64 i] w (ReadRow w l.c i) := by
  have HN := Lib.hid (next_any h hb)
  have HB := Lib.hid h.blk
  have hnx : (l.c.next : Int) = (l.c.first : Int) + (l.c.rows.length : Int) := by unfold Ct.next; omega
  have hb2 : l.c.next ≤ 1000000000 := hb
  have c3 : w.cell? ⟨bl, 3, none⟩ = some (.int .i64 (l.c.first : Int)) := h.blk.cell 3
  by_cases h1 : i < (l.c.first : Int)
  · clear h hb hr
    go_enter Tryz.func27, Tryz.ntmps27
    go_wp2_with fail
    go_ret2
    exact ⟨Touch.refl _ _, .inl ⟨.inl h1, rfl⟩⟩
  · by_cases h2 : (l.c.next : Int) ≤ i
    · clear h hb hr
      go_enter Tryz.func27, Tryz.ntmps27
      go_wp2_with fail
      refine HN.out.mono ?_
      rintro e w2 ⟨rfl, q, rfl⟩
      go_wp2_with fail
      go_ret2
      exact ⟨(Touch.refl _ _).drewN q, .inl ⟨.inr h2, rfl⟩⟩
    · obtain ⟨j, hj⟩ : ∃ j : Nat, i = (l.c.first : Int) + (j : Int) := ⟨(i - (l.c.first : Int)).toNat, by omega⟩
      have hjl : j < l.c.rows.length := by omega
      obtain ⟨b, hbj⟩ : ∃ b, l.c.rows[j]? = some b := ⟨_, List.getElem?_eq_getElem hjl⟩
      obtain ⟨A, k, hvj, hbs, _⟩ := h.recs.at_ j b hbj
      obtain ⟨D, cd, rfl, hn1, hn2, hD⟩ := h.rows.form
      obtain ⟨g, o, rfl⟩ : ∃ g o, D = some ⟨g, o, none⟩ := by
        rcases hD with ⟨_, h2, _⟩ | ⟨g, o, e⟩
        · omega
        · exact ⟨g, _, e⟩
      have cj : w.cell? ⟨g, o + j, none⟩ = some (.slice A b.length k) := (h.rows.cell (j := j) (by omega)).trans hvj
      have HST := Lib.hid (show ∀ W, Fresh w W → Fresh w W ∧ W.cell? ⟨bl, 3, none⟩ = some (.int .i64 (l.c.first : Int)) ∧ W.cell? ⟨bl, 4, none⟩ = some (.slice (some ⟨g, o, none⟩) l.c.rows.length cd) ∧ W.cell? ⟨g, o + j, none⟩ = some (.slice A b.length k) from fun W hW => ⟨hW, hW.cell c3 id, (HB.out.touch hW id).cell 4, hW.cell cj id⟩)
      have KC := Lib.hid (show ∀ W, Fresh w W → Calls Tryz.prog 43 #[.slice A b.length k] W fun e w' => Fresh W w' ∧ ∃ B c', e = .returned (.slice B b.length c') ∧ Row w' (.slice B b.length c') b ∧ (∀ a, B = some a → W.heap.size ≤ a.block) from fun W hW => clone_any A b.length k b W (hbs.fresh hW) (by have := hr b (List.mem_of_getElem? hbj); omega))
      have HBJ := Lib.hid hbj
      have HJ := Lib.hid hj
      have hwr : IntKind.i64.wrap (i - (l.c.first : Int)) = (j : Int) := by rw [IntWalk.i64_in _ (by omega)]; omega
      have hji : (j : Int) < (l.c.rows.length : Int) := by omega
      clear h hb hr hbs hvj cj hD hbj hj
      go_enter Tryz.func27, Tryz.ntmps27
      go_wp2_with fail
      refine HN.out.mono ?_
      rintro e w2 ⟨rfl, q, rfl⟩
      go_upto_region 3 with fail
      go_region_held (fun W => Fresh w W ∧ W.cell? ⟨bl, 3, none⟩ = some (.int .i64 (l.c.first : Int)) ∧ W.cell? ⟨bl, 4, none⟩ = some (.slice (some ⟨g, o, none⟩) l.c.rows.length cd) ∧ W.cell? ⟨g, o + j, none⟩ = some (.slice A b.length k))
        (first | exact HST.out _ (((Touch.refl _ w).drewN q).drew) | exact HST.out _ ((Touch.refl _ w).drewN q) | assumption)
        (first
          | (go_at_call 43; refine (KC.out _ (And.left (by assumption))).mono ?_; rintro e w3 ⟨t3, B2, c2, rfl, hr2, hn2⟩; have k2 := HST.out w3 ((And.left (by assumption : Fresh w _ ∧ _)).trans t3 fun _ _ => id); have HR2 := Lib.hid hr2; have HN2 := Lib.hid (show ∀ a, B2 = some a → w.heap.size ≤ a.block from fun a ha => Nat.le_trans (Touch.size (And.left (by assumption : Fresh w _ ∧ _))) (hn2 a ha)); clear hr2 hn2))
      have HK2 := Lib.hid k2.1
      go_wp2_with fail
      go_ret2
      exact ⟨HK2.out, .inr ⟨j, b, B2, c2, HJ.out, HBJ.out, rfl, HR2.out, HN2.out⟩⟩
end
section
variable {w1 W W' : World} {bp bd bl n : Nat} {F S : Nat → Prop} {p : PS} {vA : Option Addr} {vc i T : Nat}
/-- only blocks that are new are written -/
theorem PT.over (h : PT w1 W bp bd F S p n bl vA vc) (ht : Touch (fun k => W.heap.size ≤ k) W W') : PT w1 W' bp bd F S p n bl vA vc := by
  obtain ⟨S1, R1, Q1, l1, sv1, rv1, vs1, mv1, kv1, tv1, hx⟩ := h
  have hlt := hx.pm.lt
  have hSl := hx.pm.ld.dk.below
  have hs := hx.tch.size
  exact ⟨S1, R1, Q1, l1, sv1, rv1, vs1, mv1, kv1, tv1, hx.aside ht fun k hk => ⟨by omega, fun e => by have := hlt k e; omega, fun e => by have := hSl k e; omega⟩⟩
theorem PT.row (h : PT w1 W bp bd F S p n bl vA vc) {j : Nat} {b : List UInt8} (hj : p.c.rows[j]? = some b) : ∃ g o A c, vA = some ⟨g, o, none⟩ ∧ W.cell? ⟨g, o + j, none⟩ = some (.slice A b.length c) ∧ Bs W A b.length c b := by
  obtain ⟨Q, ⟨vs, hrd, hrec, _⟩, _⟩ := h.cm
  obtain ⟨A, c, h1, h2, _⟩ := hrec.at_ j b hj
  obtain ⟨A', c', e, _, _, hA⟩ := hrd.form
  injection e with e1 e2 e3
  subst e1 e3
  rcases hA with ⟨_, h0, _⟩ | ⟨g, o, rfl⟩
  · have := (List.getElem?_eq_some_iff.1 hj).1
    omega
  · exact ⟨g, o, A, c, rfl, hrd.cell h1, h2⟩
theorem read_pt (h : PT w1 W bp bd F S p n bl vA vc) (hv : PInv p i T) (hi : i ≤ 200) (z : Int) : Calls Tryz.prog 27 #[.pointer (some ⟨bl, 0, none⟩), .int .i64 z] W (ReadRow W p.c z) := by
  obtain ⟨S1, R1, Q1, l1, sv1, rv1, vs1, mv1, kv1, tv1, hx⟩ := h
  obtain ⟨c1, c2, _, c4, _⟩ := hv.cn hi hx.pm.alk
  have := lreadR_any hx.pm.ld.lm (by omega) (fun b hb => by have := c4 b hb; omega) z
  rw [c1] at this
  exact this
/-- a round that spoils what it was handed, and counts -/
theorem rd_round {V V1 V2 V3 V4 : World} {v x : Value} {xs : List UInt8} {b15 Z : Nat} (hf : Fresh V V1) (hrow : Row V v xs) (hZ : ∀ k, v.ownBlock = some k → Z ≤ k) (ht : Touch (fun k => v.ownBlock = some k) V1 V2) (h3 : V3 = V2.setCell ⟨b15, 0, none⟩ x) (h4 : Fresh V3 V4) :
    KeepsOthers V V4 ∧ LKp (fun k => k = b15) Z V V4 := by
  have hr1 : Row V1 v xs := hrow.touch hf fun _ _ => id
  have hblk : ∀ k, v.ownBlock = some k → ∃ cur, V1.heap[k]? = some (.cells cur 5) := fun k hk => by
    rcases hr1.2 with ⟨e, _⟩ | ⟨g, cap, cur, e, _, hg, _⟩
    · rw [e] at hk; cases hk
    · rw [e] at hk
      injection hk with hk
      subst hk
      exact ⟨cur, hg⟩
  have k1 : KeepsOthers V1 V2 := ⟨ht.size, fun k o hk ho => ht.heap hk fun e => by
    obtain ⟨cur, hc⟩ := hblk k e
    rw [hc] at hk
    injection hk with hk
    subst hk
    simp [Obj.isCells] at ho⟩
  have l1 : LKp (fun k => k = b15) Z V1 V2 := ⟨fun k t cs _ hz hb => hb.touch ht fun e => by
    have h1 := hZ k e
    rcases hz with hz | hz
    · omega
    · obtain ⟨cur, hc⟩ := hblk k e
      have h2 : V1.heap[k]? = some (.cells cs t) := hb
      rw [hc] at h2
      injection h2 with h2
      injection h2 with _ h2
      exact hz h2.symm, fun q u _ hz hc => ht.cell hc fun e => by have := hZ _ e; omega⟩
  have t3 : Touch (fun k => k = b15) V2 V3 := by rw [h3]; exact (Touch.refl (fun k => k = b15) V2).setCell (p := ⟨b15, 0, none⟩) (.inr rfl) _
  have k3 : KeepsOthers V2 V3 := by rw [h3]; exact KeepsOthers.setCell _ _ _
  exact ⟨(((keepsF hf).trans k1).trans k3).trans (keepsF h4), (((LKp.fresh hf).trans_ l1).trans_ (LKp.touch t3)).trans_ (LKp.fresh h4)⟩
end
end Go.Proofs.YtlcmnihpfpmajaaGreat
