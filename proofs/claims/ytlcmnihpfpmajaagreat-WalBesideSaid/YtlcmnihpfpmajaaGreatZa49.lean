/- The wal claims' texts, several in one: Bgu, Wak, Clm, Dox, Dof, Do. Conditions stand with each theorem. -/
import Derived.Test.YtlcmnihpfpmajaaGreatZa47
import Derived.Lib.SlBytesConst
import Derived.Test.YtlcmnihpfpmajaaGreatZa48
import Derived.Test.YtlcmnihpfpmajaaGreatZa20
/- The law's begun and wakes. Conditions stand with each. -/
namespace Go.Proofs.YtlcmnihpfpmajaaGreat
open Go.RowKit
/-- a play that has just begun -/
def PS.new (base : Nat) : PS := ⟨Dk.new, openP [] base, ⟨0, []⟩, [], [], [], -1⟩
theorem new_shape (base : Nat) (A : Ct → Prop) : Shape ([] : List Fl) base [] ⟨0, []⟩ A :=
  ⟨⟨List.Pairwise.nil, by simp⟩, by simp, trivial, rfl, List.nodup_nil, by simp, by simp, by simp, by simp, by simp⟩
theorem open_nil (base : Nat) : openP [] base = ⟨base, [], ⟨0, []⟩, false, false⟩ := by
  unfold openP found lost tooMany
  simp [sortS, replayAll]
theorem PInv.new (base : Nat) : PInv (PS.new base) 1 0 := by
  unfold PS.new
  rw [open_nil]
  refine ⟨⟨[], ⟨new_shape base _, trivial, fun _ => ⟨by simp [Dk.new], by simp⟩⟩, Nat.zero_le _⟩, rfl, Nat.zero_le _, Nat.zero_le _, fun f hf => (by cases hf), Nat.zero_le _, Nat.zero_le _, Nat.zero_le _, Nat.zero_le _, fun r hr => (by cases hr), by simp, by simp, fun f hf => (by cases hf), fun s hs => (by cases hs), fun hs => (by cases hs), ?_⟩
  simp
/-- behind the law's begun -/
def BgnEnd (w : World) (n : Nat) (x : Ending) (w' : World) : Prop := ∃ bp bd F S, x = .returned (.pointer (some ⟨bp, 0, none⟩)) ∧ Fresh w w' ∧ PG w' w' bp bd F S (PS.new (n * 1048576)) n ∧ (∀ k, F k ∨ S k → w.heap.size ≤ k)
set_option maxRecDepth 100000 in
set_option maxHeartbeats 8000000 in
theorem begunL_any (w : World) {n : Nat} (hn : n < 16) : Calls Tryz.prog 11 #[.int .i64 (n : Int)] w (BgnEnd w n) := by
  have KD := Lib.hid (newDisk_mine w)
  go_enter Tryz.func11, Tryz.ntmps11
  go_wp2_with fail
  refine KD.out.mono ?_
  rintro e w1 ⟨bd, S, rfl, hm⟩
  have KO := Lib.hid (lopen_shape hm.1 new_small (by omega) (Nat.zero_le _) hn (new_shape (n * 1048576) fun _ => False))
  have HM := Lib.hid hm
  clear hm KD
  go_wp2_with fail
  refine KO.out.mono ?_
  rintro e w2 ⟨ht2, bl, R, sv, rv, vs, rfl, hld, hnew⟩
  have hm := HM.out
  have hs1 := hm.fresh.size
  have hs2 := ht2.size
  have hf2 : Fresh w w2 := hm.fresh.trans ht2 fun k hk hS => by have := hm.new k hS; omega
  have HEND := Lib.hid (show BgnEnd w n (.returned (.pointer (some ⟨w2.heap.size, 0, none⟩))) (w2.alloc (.cells #[.pointer (some ⟨bd, 0, none⟩), .pointer (some ⟨bl, 0, none⟩), .int .i64 (n : Int), .int .i64 0, .slice none 0 0, .slice none 0 0, .slice none 0 0, .slice none 0 0, .int .i64 (-1)] 38)) from by
    obtain ⟨w3, hw3⟩ : ∃ w3, w3 = w2.alloc (.cells #[.pointer (some ⟨bd, 0, none⟩), .pointer (some ⟨bl, 0, none⟩), .int .i64 (n : Int), .int .i64 0, .slice none 0 0, .slice none 0 0, .slice none 0 0, .slice none 0 0, .int .i64 (-1)] 38) := ⟨_, rfl⟩
    rw [← hw3]
    have hf3 : Fresh w2 w3 := by rw [hw3]; exact (Touch.refl (fun _ => False) w2).alloc _
    have hblk : Blk w3 w2.heap.size 38 #[.pointer (some ⟨bd, 0, none⟩), .pointer (some ⟨bl, 0, none⟩), .int .i64 (n : Int), .int .i64 0, .slice none 0 0, .slice none 0 0, .slice none 0 0, .slice none 0 0, .int .i64 (-1)] := by rw [hw3]; exact Blk.new _ _ _
    have hlt := hld.lt
    have hSlt := hld.dk.below
    have hpo : ∀ k, pown w2.heap.size (.slice none 0 0) (.slice none 0 0) (.slice none 0 0) k → k = w2.heap.size := fun k hk => by
      rcases hk with hk | hk | hk | hk
      · exact hk
      · cases hk
      · cases hk
      · cases hk
    have hpm : PM w3 w2.heap.size bd bl S R (fun _ => False) (PS.new (n * 1048576)) (openP [] (n * 1048576)) n sv rv vs (.slice none 0 0) (.slice none 0 0) (.slice none 0 0) (.slice none 0 0) := by
      refine ⟨hblk, hld.fresh hf3, Alk.refl _, CM.nil_ _ _, ⟨[], rfl, Ow.nil_ _ _ _, fun i c hi => by simp [PS.new] at hi⟩, Ow.nil_ _ _ _, Ow.nil_ _ _ _, fun k hk => (by cases hk), fun k hk => ?_, fun k hk => hk.elim, fun k hk => hk.elim⟩
      have hk2 := hk.elim (hpo k) fun e => e.elim
      exact ⟨fun e => by have := hlt k (.inl e); omega, fun e => by have := hlt k (.inr e); omega, fun e => by have := hSlt k e; omega⟩
    refine ⟨w2.heap.size, bd, pfoot w2.heap.size bl R (fun _ => False) sv rv (.slice none 0 0) (.slice none 0 0) (.slice none 0 0), S, rfl, hf2.trans hf3 fun _ _ => id, hpm.same.pg, fun k hk => ?_⟩
    rcases hk with (hk | hk | hk | hk) | hk
    · have := hnew k (.inl hk); omega
    · have := hnew k (.inr hk); omega
    · have := hpo k hk; omega
    · exact hk.elim
    · exact hm.new k hk)
  clear hm hs1 hs2 hf2 ht2 hld hnew KO HM
  go_wp2_with fail
  go_ret
  exact HEND.out
end Go.Proofs.YtlcmnihpfpmajaaGreat

/- The law's wakes: a record is there when the log is opened anew. No condition. -/
namespace Go.Proofs.YtlcmnihpfpmajaaGreat
open Go.RowKit
def wkP : PS := (PS.new 0).app [97]
theorem wk_append : (appendP Dk.new (openP [] 0) [97]).2.2.2 = 0 ∧ (appendP Dk.new (openP [] 0) [97]).2.2.1 = 0 ∧ PInv ({ PS.new 0 with d := (appendP Dk.new (openP [] 0) [97]).1, l := (appendP Dk.new (openP [] 0) [97]).2.1, c := ⟨0, [[97]]⟩ } : PS) 2 26 ∧ (appendP Dk.new (openP [] 0) [97]).2.1.base = 0 := by
  obtain ⟨h1, h2, h3, h4⟩ := (PInv.new 0).append (by omega) (by omega) (b := [97]) (by decide)
  have e : (PS.new 0).d = Dk.new ∧ (PS.new 0).l = openP [] 0 := ⟨rfl, rfl⟩
  have hb : (openP [] 0).base = 0 := by rw [open_nil]
  rw [e.1, e.2] at h1 h2 h4
  by_cases he : (appendP Dk.new (openP [] 0) [97]).2.2.2 = 0
  · obtain ⟨q1, q2, q3⟩ := h1 he
    exact ⟨he, q3, q1, h4.trans hb⟩
  · obtain ⟨_, _, _, _, q⟩ := h2 he
    have : hindered (PS.new 0) Dk.new.ops (appendP Dk.new (openP [] 0) [97]).1.ops = false := by unfold hindered PS.new; simp
    rw [this] at q
    cases q
set_option maxRecDepth 100000 in
set_option maxHeartbeats 8000000 in
theorem wakesL_any (w : World) : Calls Tryz.prog 16 #[] w fun e w' => e = .returned (.bool true) ∧ Fresh w w' := by
  obtain ⟨hw0, hw1, hpi, hbase⟩ := wk_append
  obtain ⟨p1, hp1⟩ : ∃ p1, p1 = ({ PS.new 0 with d := (appendP Dk.new (openP [] 0) [97]).1, l := (appendP Dk.new (openP [] 0) [97]).2.1, c := ⟨0, [[97]]⟩ } : PS) := ⟨_, rfl⟩
  obtain ⟨d1, hd1⟩ : ∃ d1, d1 = (appendP Dk.new (openP [] 0) [97]).1 := ⟨_, rfl⟩
  rw [← hp1] at hpi
  obtain ⟨hcr, hcc, hcf⟩ := hpi.crash (by omega) []
  have e1 : p1.d = d1 := by rw [hp1, hd1]
  have e2 : p1.l.base = 0 := by rw [hp1]; exact hbase
  have e3 : p1.c = ⟨0, [[97]]⟩ := by rw [hp1]
  have e4 : p1.maybe = [] ∧ p1.cuts = [] := by rw [hp1]; exact ⟨rfl, rfl⟩
  rw [e1, e2] at hcr hcc hcf
  have hcv : (openP (d1.crash []).fs 0).c = ⟨0, [[97]]⟩ := by
    rcases hcc with h | h | ⟨m, h, _⟩
    · exact h.trans e3
    · rw [e4.1] at h; cases h
    · rw [e4.2] at h; cases h
  have HP := Lib.hid hpi; have HC := Lib.hid hcr; have HCV := Lib.hid hcv; have HD1 := Lib.hid hd1; have E1 := Lib.hid e1
  have HW := Lib.hid (And.intro hw0 hw1)
  have KD := Lib.hid (newDisk_mine w)
  clear hpi hcr hcc hcf hcv e1 e2 e3 e4 hp1 hd1 hw0 hw1 hbase
  have kcb := fun (w : World) (C : Array Value) (n c : Nat) => Lib.run_convert_bytes_const (P := Tryz.prog) w 26 5 C n c Tryz.underlying26 Tryz.underlying5
  go_enter Tryz.func16, Tryz.ntmps16
  go_wp2_with fail
  refine KD.out.mono ?_
  rintro e w1 ⟨bd, S, rfl, hm⟩
  have KO := Lib.hid (lopen_shape hm.disk new_small (by omega) (Nat.zero_le _) (n := 0) (by omega) (new_shape (0 * 1048576) fun _ => False))
  have HM := Lib.hid hm
  clear hm KD
  go_wp2_with fail
  refine KO.out.mono ?_
  rintro e w2 ⟨ht2, bl, R, sv, rv, vs, rfl, hld, hnew⟩
  rw [Nat.zero_mul] at hld
  have hld : LD w2 bl bd S R (openP [] 0) Dk.new sv rv vs := hld
  have hf2 : Fresh w w2 := HM.out.fresh.trans ht2 fun k hk hS => by have := HM.out.new k hS; omega
  have hSn := HM.out.new
  have hs1 := HM.out.fresh.size
  obtain ⟨w3, hw3⟩ : ∃ w3, w3 = w2.alloc (.cells #[.int .u8 97] 5 (1, 2)) := ⟨_, rfl⟩
  have hf3 : Fresh w2 w3 := by rw [hw3]; exact (Touch.refl (fun _ => False) w2).alloc _
  have hrow : Bs w3 (some ⟨w2.heap.size, 0, none⟩) 1 1 [97] := by rw [hw3]; exact bytes_marked w2 [97] #[.int .u8 97] (1, 2) rfl (by decide)
  have hlt2 := hld.lt
  have hSl2 := hld.dk.below
  have KA := Lib.hid (show Calls Tryz.prog 19 #[.pointer (some ⟨bl, 0, none⟩), .slice (some ⟨w2.heap.size, 0, none⟩) 1 1] w3 fun e w4 => e = .returned (.tuple #[.int .i64 0, .int .i64 0]) ∧ ∃ S4, Fresh w w4 ∧ Disk w4 S4 bd d1 ∧ ∀ k, S4 k → w.heap.size ≤ k from by
    refine (lappend_any (xs := [97]) (K := 200000000) (hld.fresh hf3) hrow (fun a ha _ => ?_) ((PInv.new 0).begB (l := openP [] 0) (by omega) (by show (openP [] 0).base ≤ _; rw [open_nil]; exact Nat.zero_le _) (Alk.refl _) (by rw [open_nil]; decide) (by rw [open_nil]; decide) (by omega)) (by rw [open_nil]; decide) (by omega)).mono ?_
    · injection ha with ha
      subst ha
      dsimp only
      exact ⟨fun e => by have := hlt2 _ (.inl e); omega, fun e => by have := hSl2 _ e; omega, by rw [hw3, alloc_size]; omega⟩
    · rintro e w4 ⟨rfl, S4, R4, sv4, rv4, vs4, hlx⟩
      refine ⟨by rw [HW.out.1, HW.out.2]; rfl, S4, (hf2.trans hf3 fun _ _ => id).trans hlx.tch fun k hk e => ?_, by rw [HD1.out]; exact hlx.ld.dk, fun k hk => ?_⟩
      · rcases e with e | e
        · have := hnew k (.inl e); omega
        · have := hSn k e; omega
      · have h1 := hf2.size
        have h2 := hf3.size
        rcases hlx.sS k hk with e | e
        · exact hSn k e
        · omega)
  have HW3 := Lib.hid hw3
  clear hrow hf2 hf3 hw3 hld hnew ht2 hlt2 hSl2 hSn hs1 KO HM
  go_wp2_with fail
  rw [← HW3.out]
  refine KA.out.mono ?_
  rintro e w4 ⟨rfl, S4, hf4, hdk4, hS4⟩
  have hsm : d1.small 200000000 := by rw [← E1.out]; exact HP.out.small (by omega)
  have KC := Lib.hid (disk_crash hdk4 hsm (by omega) (A := none) (m := 0) (c := 0) (cuts := []) ⟨rfl, Nat.le_refl _, by simp [maxLen], fun h => by omega⟩ (by simp) (fun a ha => by cases ha))
  have HF4 := Lib.hid hf4; have HS4 := Lib.hid hS4; have HD4 := Lib.hid hdk4
  clear hf4 hS4 hdk4 hsm KA
  go_wp2_with fail
  refine KC.out.mono ?_
  rintro e w5 ⟨rfl, ht5, hdk5⟩
  obtain ⟨ss, hlive, _⟩ := HC.out.live
  unfold Live at hlive
  have KO := Lib.hid (lopen_shape (n := 0) hdk5 (HC.out.small (by omega)) (by omega) (by have := HC.out.files; dsimp only at this; omega) (by omega) (by rw [Nat.zero_mul]; exact hlive.shape))
  have hf5 : Fresh w w5 := HF4.out.trans ht5 fun k hk e => by have := HS4.out k e; omega
  have HF5 := Lib.hid hf5
  have HS5 := Lib.hid (show ∀ k, more S4 w4 w5 k → w.heap.size ≤ k from fun k hk => hk.elim (HS4.out k) fun e => by have := HF4.out.size; omega)
  clear ht5 hdk5 hlive hf5 KC
  go_wp2_with fail
  refine KO.out.mono ?_
  rintro e w6 ⟨ht6, bl2, R2, sv2, rv2, vs2, rfl, hld6, _⟩
  rw [Nat.zero_mul] at hld6
  have hf6 : Fresh w w6 := HF5.out.trans ht6 fun k hk e => by have := HS5.out k e; omega
  have KR := Lib.hid (lread_any hld6.lm (by rw [HCV.out]; decide) (by rw [HCV.out]; decide) 0)
  have HL6 := Lib.hid hld6; have HF6 := Lib.hid hf6
  clear ht6 hld6 hf6 KO
  go_wp2_with fail
  refine KR.out.mono ?_
  rintro e w7 ⟨hf7, hcase⟩
  have KN := Lib.hid (next_any (HL6.out.lm.fresh hf7) (by rw [HCV.out]; decide))
  rw [HCV.out] at KN hcase
  obtain ⟨B, k, rfl, hbs⟩ : ∃ B k, e = .returned (.tuple #[.slice B 1 k, .int .i64 0]) ∧ Bs w7 B 1 k [97] := by
    rcases hcase with ⟨h, _⟩ | ⟨j, b, B, k, h1, h2, h3, h4, _⟩
    · rcases h with h | h
      · exact absurd h (by decide)
      · exact absurd h (by decide)
    · have hj : j = 0 := by have : (0 : Int) = ((0 : Nat) : Int) + (j : Nat) := h1; omega
      subst hj
      injection h2 with h2
      subst h2
      exact ⟨B, k, h3, h4⟩
  have kc := run_convert_Bs (P := Tryz.prog) 26 9 Tryz.underlying26 Tryz.underlying5 Tryz.underlying9 hbs
  have HF7 := Lib.hid (HF6.out.trans hf7 fun _ _ => id)
  clear hcase hf7 hbs KR
  go_wp2_with fail
  refine KN.out.mono ?_
  rintro e w8 ⟨rfl, q, rfl⟩
  go_wp2_with fail
  go_ret
  exact ⟨rfl, HF7.out.drewN _⟩
end Go.Proofs.YtlcmnihpfpmajaaGreat

/- A play that nothing hinders; calls of the log itself beside the play. Conditions stand with each. -/
namespace Go.Proofs.YtlcmnihpfpmajaaGreat
open Go.RowKit
def Calm (p : PS) : Prop := p.struck = [] ∧ p.stop = -1 ∧ p.maybe = [] ∧ p.cuts = []
section
variable {p : PS} {i T : Nat}
theorem Calm.new (base : Nat) : Calm (PS.new base) := ⟨rfl, rfl, rfl, rfl⟩
theorem Calm.not (h : Calm p) (lo hi : Nat) : hindered p lo hi = false := by
  unfold hindered
  rw [h.1, h.2.1]
  simp
theorem PInv.app_calm (h : PInv p i T) (hi : i ≤ 200) (hT : T ≤ 900000) {b : List UInt8} (hb : b.length ≤ 50000) (hc : Calm p) :
    (appendP p.d p.l b).2.2.2 = 0 ∧ (appendP p.d p.l b).2.2.1 = p.c.next ∧ PInv (p.app b) (i + 1) (T + b.length + 25) ∧ Calm (p.app b) ∧ p.app b = { p with d := (appendP p.d p.l b).1, l := (appendP p.d p.l b).2.1, c := p.c.add b } ∧ (p.app b).l.base = p.l.base := by
  obtain ⟨h1, h2, h3, h4⟩ := h.append (by omega) hT hb
  obtain ⟨q1, q2, q3, q4, _⟩ := h.app hi hT hb
  have he : (appendP p.d p.l b).2.2.2 = 0 := by
    by_cases he : (appendP p.d p.l b).2.2.2 = 0
    · exact he
    · obtain ⟨_, _, _, _, q⟩ := h2 he
      rw [hc.not] at q
      cases q
  have heq : p.app b = { p with d := (appendP p.d p.l b).1, l := (appendP p.d p.l b).2.1, c := p.c.add b } := by
    unfold PS.app PS.called
    rw [if_pos he]
    dsimp only
    rw [hc.2.2.1, hc.2.2.2]
  refine ⟨he, q4 he, q1, ?_, heq, q3⟩
  rw [heq]
  exact hc
theorem PInv.cut_calm (h : PInv p i T) (hi : i ≤ 200) (hT : T ≤ 900000) (N : Int) (hc : Calm p) :
    (cutP p.d p.l N).2.2 = 0 ∧ PInv (p.cutS N) (i + 1) T ∧ Calm (p.cutS N) ∧ p.cutS N = { p with d := (cutP p.d p.l N).1, l := (cutP p.d p.l N).2.1, c := p.c.cut (min N p.c.next).toNat } ∧ (p.cutS N).l.base = p.l.base := by
  obtain ⟨h1, h2⟩ := h.cut (by omega) hT (before := N)
  obtain ⟨q1, q2, q3, q4, _⟩ := h.cutS hi hT N
  by_cases hle : min N p.c.next ≤ p.c.first
  · obtain ⟨z1, z2, z3⟩ := q3 hle
    have heq : p.cutS N = { p with d := (cutP p.d p.l N).1, l := (cutP p.d p.l N).2.1, c := p.c.cut (min N p.c.next).toNat } := by
      unfold PS.cutS
      rw [if_pos hle, z2, z3]
      have : p.c.cut (min N p.c.next).toNat = p.c := by unfold Ct.cut; rw [if_neg (by omega)]
      rw [this]
    refine ⟨z1, q1, ?_, heq, q2⟩
    rw [heq]
    exact hc
  · obtain ⟨g1, g2, g3, g4⟩ := h2 (by omega)
    have he : (cutP p.d p.l N).2.2 = 0 := by
      by_cases he : (cutP p.d p.l N).2.2 = 0
      · exact he
      · obtain ⟨_, _, _, q⟩ := g2 he
        rw [hc.not] at q
        cases q
    have heq : p.cutS N = { p with d := (cutP p.d p.l N).1, l := (cutP p.d p.l N).2.1, c := p.c.cut (min N p.c.next).toNat } := by
      unfold PS.cutS
      rw [if_neg hle]
      unfold PS.called
      rw [if_pos he]
      dsimp only
      rw [hc.2.2.1, hc.2.2.2]
    refine ⟨he, q1, ?_, heq, q2⟩
    rw [heq]
    exact hc
end
section
variable {w w' w'' : World} {bp bd bl n : Nat} {F S R Q S' R' Q' : Nat → Prop} {p p' : PS} {l l' : Lg} {sv rv cv mv kv tv sv' rv' cv' mv' kv' tv' : Value} {vs vs' : List Value} {i T : Nat}
theorem PG.trans {p3 : PS} (h : PX w w' bp bd F S bl S' R' Q' p' l' n sv' rv' vs' cv' mv' kv' tv') (h2 : PG w' w'' bp bd (pfoot bp bl R' Q' sv' rv' mv' kv' tv') S' p3 n) : PG w w'' bp bd F S p3 n := by
  obtain ⟨_, _, _, _, _, _, _, _, _, _, _, _, h3⟩ := h2
  exact (h.trans h3 (fun _ => id) fun _ => id).pg
/-- the content is stored -/
theorem PX.setc (h : PX w w' bp bd F S bl S' R' Q' p' l' n sv' rv' vs' cv' mv' kv' tv') {c2 : Ct} {v2 : Value} (hc : CM w' Q' v2 c2.rows) :
    PX w ((w'.setCell ⟨bp, 3, none⟩ (.int .i64 (c2.first : Int))).setCell ⟨bp, 4, none⟩ v2) bp bd F S bl S' R' Q' { p' with c := c2 } l' n sv' rv' vs' v2 mv' kv' tv' := by
  have hp := h.pm
  obtain ⟨w4, hw4⟩ : ∃ w4, w4 = (w'.setCell ⟨bp, 3, none⟩ (.int .i64 (c2.first : Int))).setCell ⟨bp, 4, none⟩ v2 := ⟨_, rfl⟩
  have hT : Touch (fun k => k = bp) w' w4 := by
    rw [hw4]
    exact ((Touch.refl (fun k => k = bp) w').setCell (p := ⟨bp, 3, none⟩) (.inr rfl) _).setCell (p := ⟨bp, 4, none⟩) (.inr rfl) _
  rw [← hw4]
  refine h.own (hT.mono fun k _ hk => .inl hk) rfl rfl ?_ (hc.touch hT fun k hk e => hp.nQ k hk (.inl e)) (hp.mb.touch hT (fun k hk e => ?_) fun k hk e => hp.nQ k hk (.inl e)) (hp.ks.touch hT fun k hk e => hp.ks.ne_blk hp.blk (by decide) (by rw [hk, e])) (hp.ts.touch hT fun k hk e => hp.ts.ne_blk hp.blk (by decide) (by rw [hk, e])) hp.ap (fun k hk => .inl (.inr hk)) fun k hk => .inl hk
  · rw [hw4]
    have := (hp.blk.set_ 3 (.int .i64 (c2.first : Int))).set_ 4 v2
    simpa using this
  · obtain ⟨vl, _, hmo, _⟩ := hp.mb
    exact hmo.ne_blk hp.blk (by decide) (by rw [hk, e])
/-- the log is cut -/
theorem cut_px (h : PM w bp bd bl S R Q p l n sv rv vs cv mv kv tv) (hv : PInv p i T) (hi : i ≤ 200) (hT : T ≤ 900000) (hb : p.l.base ≤ 16777216) (N : Int) :
    Calls Tryz.prog 23 #[.pointer (some ⟨bl, 0, none⟩), .int .i64 N] w fun e w4 => e = .returned (.int .i64 (cutP p.d p.l N).2.2) ∧ ∃ S4 R4 l4 sv4 rv4 vs4, PX w w4 bp bd (pfoot bp bl R Q sv rv mv kv tv) S bl S4 R4 Q { p with d := (cutP p.d p.l N).1, l := (cutP p.d p.l N).2.1 } l4 n sv4 rv4 vs4 cv mv kv tv := by
  have hcn := hv.cn hi h.alk
  refine (lcutw_any (K := 200000000) h.ld N (hv.begB hi hb h.alk (by omega) (by omega) (by omega)) (by omega) (fun b hb => by have := hcn.2.2.2.1 b hb; omega) (by have := hcn.2.2.2.2; omega)).mono ?_
  rintro e w4 ⟨rfl, S4, R4, sv4, rv4, vs4, hlx⟩
  have ak := cutM_alk (d := p.d) h.alk N
  rw [ak.d] at hlx
  exact ⟨by rw [ak.e], S4, R4, _, sv4, rv4, vs4, h.same.log hlx ak.l⟩
/-- a record is appended to the log -/
theorem append_px (h : PM w bp bd bl S R Q p l n sv rv vs cv mv kv tv) (hv : PInv p i T) (hi : i ≤ 200) (hb : p.l.base ≤ 16777216) {A : Option Addr} {m c : Nat} {x : List UInt8} (hx : Bs w A m c x) (hxb : ∀ a, A = some a → 0 < m → ¬ pfoot bp bl R Q sv rv mv kv tv a.block ∧ ¬ S a.block ∧ a.block < w.heap.size) (hm : m ≤ 1048576) :
    Calls Tryz.prog 19 #[.pointer (some ⟨bl, 0, none⟩), .slice A m c] w fun e w4 => e = .returned (.tuple #[.int .i64 ((appendP p.d p.l x).2.2.1 : Int), .int .i64 (appendP p.d p.l x).2.2.2]) ∧ ∃ S4 R4 l4 sv4 rv4 vs4, PX w w4 bp bd (pfoot bp bl R Q sv rv mv kv tv) S bl S4 R4 Q { p with d := (appendP p.d p.l x).1, l := (appendP p.d p.l x).2.1 } l4 n sv4 rv4 vs4 cv mv kv tv := by
  have hcn := hv.cn hi h.alk
  refine (lappend_any (K := 200000000) h.ld hx (fun a ha h0 => ⟨fun e => (hxb a ha h0).1 (.inl e), (hxb a ha h0).2.1, (hxb a ha h0).2.2⟩) (hv.begB hi hb h.alk (by have := hcn.2.1; unfold Ct.next at this; omega) (by omega) (by omega)) (by omega) hm).mono ?_
  rintro e w4 ⟨rfl, S4, R4, sv4, rv4, vs4, hlx⟩
  obtain ⟨a1, a2, a3⟩ := append_alk (d := p.d) h.alk x
  rw [a1] at hlx
  exact ⟨by rw [a3], S4, R4, _, sv4, rv4, vs4, h.same.log hlx a2⟩
end
end Go.Proofs.YtlcmnihpfpmajaaGreat

/- The law's does where the disk crashes, or the log is opened anew. Conditions stand with each. -/
namespace Go.Proofs.YtlcmnihpfpmajaaGreat
open Go.RowKit
section
variable {w w' w'' : World} {bp bd bl n : Nat} {F S R Q S' R' Q' : Nat → Prop} {p p' : PS} {l l' : Lg} {sv rv cv mv kv tv sv' rv' cv' mv' kv' tv' : Value} {vs vs' : List Value} {i T : Nat}
/-- an opening anew, if nothing was refused -/
def PS.reS (p : PS) : PS := if p.maybe = [] ∧ p.cuts = [] then p.openS else p
/-- no fault waits any more -/
theorem note_calm (h : PM w bp bd bl S R Q p l n sv rv vs cv mv kv tv) : PX w ((w.setCell ⟨bp, 7, none⟩ (.slice none 0 0)).setCell ⟨bp, 8, none⟩ (.int .i64 (-1))) bp bd (pfoot bp bl R Q sv rv mv kv tv) S bl S R Q { p with struck := [], stop := -1 } l n sv rv vs cv mv kv (.slice none 0 0) := by
  obtain ⟨w4, hw4⟩ : ∃ w4, w4 = (w.setCell ⟨bp, 7, none⟩ (.slice none 0 0)).setCell ⟨bp, 8, none⟩ (.int .i64 (-1)) := ⟨_, rfl⟩
  have hT : Touch (fun k => k = bp) w w4 := by rw [hw4]; exact ((Touch.refl (fun k => k = bp) w).setCell (p := ⟨bp, 7, none⟩) (.inr rfl) _).setCell (p := ⟨bp, 8, none⟩) (.inr rfl) _
  rw [← hw4]
  refine h.same.own (hT.mono fun k _ hk => .inl hk) rfl rfl ?_ (h.c.touch hT fun k hk e => h.nQ k hk (.inl e)) (h.mb.touch hT (fun k hk e => ?_) fun k hk e => h.nQ k hk (.inl e)) (h.ks.touch hT fun k hk e => h.ks.ne_blk h.blk (by decide) (by rw [hk, e])) (Ow.nil_ _ _ _) (fun k hk e => by cases e) (fun k hk => ?_) fun k hk => .inl hk
  · rw [hw4]
    have := (h.blk.set_ 7 (.slice none 0 0)).set_ 8 (.int .i64 (-1))
    simpa using this
  · obtain ⟨vl, _, hmo, _⟩ := h.mb
    exact hmo.ne_blk h.blk (by decide) (by rw [hk, e])
  · rcases hk with hk | hk | hk
    · exact .inl (.inr (.inl hk))
    · exact .inl (.inr (.inr (.inl hk)))
    · cases hk
/-- what opening the log anew asks, and what it leaves -/
theorem opened_px (h : PM w bp bd bl S R Q p l n sv rv vs cv mv kv tv) (hn : n < 16) {cr : Bool} {ss : List AS} {c0 : Ct} {A : Ct → Prop} (hsh : Shape p.d.fs (n * 1048576) ss c0 A) (hsm : p.d.small 200000000) (hfs : p.d.fs.length ≤ 200)
    (hal : (openP p.d.fs (n * 1048576)).c = p.c ∨ (cr = true ∧ Al p (openP p.d.fs (n * 1048576)).c)) (hfl : (openP p.d.fs (n * 1048576)).failed = false) (hnx : (openP p.d.fs (n * 1048576)).c.next ≤ 1000) (hrl : rowsOk (openP p.d.fs (n * 1048576)).c) (hpn : p.c.next ≤ 1000) (hmn : ∀ x ∈ p.maybe, x.next ≤ 1000) (hcn : ∀ m ∈ p.cuts, p.c.first < m ∧ m ≤ p.c.next) (hml : p.maybe.length ≤ 1000) (hkl : p.cuts.length ≤ 1000) :
    Calls Tryz.prog 15 #[.pointer (some ⟨bp, 0, none⟩), .bool cr] w (DoEnd w bp bd (pfoot bp bl R Q sv rv mv kv tv) S { p with c := (openP p.d.fs (n * 1048576)).c, l := openP p.d.fs (n * 1048576), maybe := [], cuts := [] } n) := by
  refine (opened_any h hn rfl (fun W hW => lopen_shape (h.ld.dk.fresh hW) hsm (by omega) (by omega) hn hsh) hal hfl (by omega) (fun b hb => by have := hrl b hb; omega) (by omega) (fun x hx => by have := hmn x hx; omega) hcn (by omega) (by omega)).mono ?_
  rintro e w' ⟨rfl, bl2, R2, cv', sv2, rv2, vs2, hx⟩
  exact ⟨rfl, hx.pg⟩
set_option maxRecDepth 200000 in
set_option maxHeartbeats 16000000 in
theorem doesX (h : PM w bp bd bl S R Q p l n sv rv vs cv mv kv tv) (hv : PInv p i T) (hi : i ≤ 150) (hn : n < 16) (hbase : p.l.base = n * 1048576) {Do N K : Int} (hDo : Do % 7 = 5) {BA CA : Option Addr} {bm bc cm cc : Nat} {cuts : List Int}
    (hz : IsInts w CA cm cc cuts) (hzw : ∀ x ∈ cuts, -9223372036854775808 ≤ x ∧ x ≤ 9223372036854775807) (hzb : ∀ a, CA = some a → 0 < cm → ¬ S a.block) :
    Calls Tryz.prog 12 #[.pointer (some ⟨bp, 0, none⟩), .agg #[.int .i64 Do, .int .i64 N, .int .i64 K, .slice BA bm bc, .slice CA cm cc]] w (DoEnd w bp bd (pfoot bp bl R Q sv rv mv kv tv) S (p.crashS cuts) n) := by
  obtain ⟨w1, hw1⟩ : ∃ w1, w1 = w.alloc (.cells #[.int .i64 Do, .int .i64 N, .int .i64 K, .slice BA bm bc, .slice CA cm cc] 29) := ⟨_, rfl⟩
  have hf1 : Fresh w w1 := by rw [hw1]; exact (Touch.refl (fun _ => False) w).alloc _
  have hb0 : Blk w1 w.heap.size 29 #[.int .i64 Do, .int .i64 N, .int .i64 K, .slice BA bm bc, .slice CA cm cc] := by rw [hw1]; exact Blk.new _ _ _
  have hx1 := h.same.fresh hf1
  have c0 : w1.cell? ⟨w.heap.size, 0, none⟩ = some (.int .i64 Do) := hb0.cell 0
  have c4 : w1.cell? ⟨w.heap.size, 4, none⟩ = some (.slice CA cm cc) := hb0.cell 4
  have d0 : w1.cell? ⟨bp, 0, none⟩ = some (.pointer (some ⟨bd, 0, none⟩)) := hx1.pm.blk.cell 0
  have KO := Lib.hid (disk_ops hx1.pm.ld.dk)
  have KW := Lib.hid (within_any Do 7 w1 (by omega) (by omega))
  rw [hDo] at KW
  have KS := Lib.hid (show ∀ W, Fresh w1 W → Calls Tryz.prog 14 #[.pointer (some ⟨bd, 0, none⟩), .slice CA cm cc] W fun e w2 => e = .returned (.tuple #[]) ∧ ∃ S2, PX w w2 bp bd (pfoot bp bl R Q sv rv mv kv tv) S bl S2 R Q { p with d := p.d.crash cuts } l n sv rv vs cv mv kv tv from fun W hW => by
    have hxW := hx1.fresh hW
    have hz2 : IsInts W CA cm cc cuts := ⟨hz.1, hz.2.1, hz.2.2.1, fun h0 => by
      obtain ⟨b, o, e, hc⟩ := hz.2.2.2 h0
      exact ⟨b, o, e, fun j x hx => (hf1.trans hW fun _ _ => id).cell (hc j x hx) id⟩⟩
    refine (disk_crash hxW.pm.ld.dk (hv.small (by omega)) (by omega) hz2 hzw hzb).mono ?_
    rintro e w2 ⟨rfl, ht2, hd2⟩
    exact ⟨rfl, _, hxW.disk ht2 hd2⟩)
  have HX1 := Lib.hid hx1; have HW1 := Lib.hid hw1; have HV := Lib.hid hv; have HB := Lib.hid hbase
  clear h hv hf1 hb0 hx1 hw1 hz hzw hzb hbase
  go_enter Tryz.func12, Tryz.ntmps12
  go_upto_region 1 with fail
  rw [← HW1.out]
  go_wp2_with fail
  refine KO.out.mono ?_
  rintro e w2 ⟨rfl, rfl⟩
  go_wp2_with fail
  refine KW.out.mono ?_
  rintro e w2 ⟨rfl, rfl⟩
  go_upto_region 29 with fail
  go_region_law (first
    | (go_simp; go_at_call 14; refine (KS.out _ (by first | exact (Touch.refl _ w1).drew | exact Touch.refl _ w1)).mono ?_; rintro e w2 ⟨rfl, S2, hx2⟩; have HX2 := Lib.hid hx2; clear hx2))
  all_goals
    have e7 : w2.cell? ⟨bp, 7, none⟩ = some tv := HX2.out.pm.blk.cell 7
    have f7 : w2.frozen? ⟨bp, 7, none⟩ = false := HX2.out.pm.blk.frozen 7
    have e8 : w2.cell? ⟨bp, 8, none⟩ = some (.int .i64 p.stop) := HX2.out.pm.blk.cell 8
    have f8 : w2.frozen? ⟨bp, 8, none⟩ = false := HX2.out.pm.blk.frozen 8
    have hx3 := HX2.out.trans (note_calm HX2.out.pm) (fun _ => id) fun _ => id
    obtain ⟨w3, hw3⟩ : ∃ w3, w3 = (w2.setCell ⟨bp, 7, none⟩ (.slice none 0 0)).setCell ⟨bp, 8, none⟩ (.int .i64 (-1)) := ⟨_, rfl⟩
    rw [← hw3] at hx3
    obtain ⟨hcr, hcc, hcf⟩ := HV.out.crash (by omega) cuts
    rw [HB.out] at hcr hcc hcf
    obtain ⟨ss, hlive, _⟩ := hcr.live
    unfold Live at hlive
    have hi1 := HV.out.next
    have hl := HV.out.lens
    have KOP := Lib.hid (opened_px (cr := true) hx3.pm hn hlive.shape (hcr.small (by omega)) (by have := hcr.files; dsimp only at this ⊢; omega) (hcc.imp id fun h => ⟨rfl, h⟩) hcf (by have := hcr.next; dsimp only at this ⊢; omega) hcr.rows (by dsimp only; omega) (fun x hx => by have := (HV.out.maybe x hx).1; omega) HV.out.cuts (by dsimp only; omega) (by dsimp only; omega))
    have HX3 := Lib.hid hx3; have HW3 := Lib.hid hw3
    clear hx3 hw3 hcr hcc hcf hlive hl KO KW KS c0 c4 d0
    go_upto_region 31 with fail
    rw [← HW3.out]
    go_wp2_with fail
    refine KOP.out.mono ?_
    rintro e w4 ⟨rfl, hpg⟩
    have HPG := Lib.hid hpg
    clear hpg KOP
    go_wp2_with fail
    go_ret
    refine ⟨rfl, ?_⟩
    obtain ⟨_, _, _, _, _, _, _, _, _, _, _, _, h9⟩ := HPG.out
    have hfin := (HX3.out.trans h9 (fun _ => id) fun _ => id).pg
    unfold PS.crashS
    rw [HB.out]
    exact hfin
set_option maxRecDepth 200000 in
set_option maxHeartbeats 16000000 in
theorem doesO (h : PM w bp bd bl S R Q p l n sv rv vs cv mv kv tv) (hv : PInv p i T) (hi : i ≤ 150) (hn : n < 16) (hbase : p.l.base = n * 1048576) {Do N K : Int} (hDo : Do % 7 = 6) {BA CA : Option Addr} {bm bc cm cc : Nat} :
    Calls Tryz.prog 12 #[.pointer (some ⟨bp, 0, none⟩), .agg #[.int .i64 Do, .int .i64 N, .int .i64 K, .slice BA bm bc, .slice CA cm cc]] w (DoEnd w bp bd (pfoot bp bl R Q sv rv mv kv tv) S p.reS n) := by
  obtain ⟨vl, _, hmo, _⟩ := h.mb
  obtain ⟨mA, mc, rfl, _⟩ := hmo.form
  obtain ⟨kA, kc, rfl, _⟩ := h.ks.form
  obtain ⟨w1, hw1⟩ : ∃ w1, w1 = w.alloc (.cells #[.int .i64 Do, .int .i64 N, .int .i64 K, .slice BA bm bc, .slice CA cm cc] 29) := ⟨_, rfl⟩
  have hf1 : Fresh w w1 := by rw [hw1]; exact (Touch.refl (fun _ => False) w).alloc _
  have hb0 : Blk w1 w.heap.size 29 #[.int .i64 Do, .int .i64 N, .int .i64 K, .slice BA bm bc, .slice CA cm cc] := by rw [hw1]; exact Blk.new _ _ _
  have hx1 := h.same.fresh hf1
  have c0 : w1.cell? ⟨w.heap.size, 0, none⟩ = some (.int .i64 Do) := hb0.cell 0
  have d0 : w1.cell? ⟨bp, 0, none⟩ = some (.pointer (some ⟨bd, 0, none⟩)) := hx1.pm.blk.cell 0
  have d5 : w1.cell? ⟨bp, 5, none⟩ = some (.slice mA p.maybe.length mc) := hx1.pm.blk.cell 5
  have d6 : w1.cell? ⟨bp, 6, none⟩ = some (.slice kA p.cuts.length kc) := hx1.pm.blk.cell 6
  have KO := Lib.hid (disk_ops hx1.pm.ld.dk)
  have KW := Lib.hid (within_any Do 7 w1 (by omega) (by omega))
  rw [hDo] at KW
  have HX1 := Lib.hid hx1; have HW1 := Lib.hid hw1; have HV := Lib.hid hv; have HB := Lib.hid hbase
  obtain ⟨ml, hml⟩ : ∃ ml, ml = p.maybe.length := ⟨_, rfl⟩
  obtain ⟨kl, hkl⟩ : ∃ kl, kl = p.cuts.length := ⟨_, rfl⟩
  rw [← hml] at d5
  rw [← hkl] at d6
  have hl := hv.lens
  have hi1 := hv.next
  by_cases hm0 : p.maybe = []
  · by_cases hk0 : p.cuts = []
    · obtain ⟨q1, q2, q3⟩ := hv.openS (by omega) hm0 hk0
      rw [hbase] at q2 q3
      obtain ⟨ss, hlive, _⟩ := hv.live
      unfold Live at hlive
      rw [hbase] at hlive
      have KOP := Lib.hid (opened_px (cr := false) hx1.pm hn hlive.shape (hv.small (by omega)) (by have := hv.files; omega) (.inl q2) q3 (by rw [q2]; omega) (by rw [q2]; exact hv.rows) (by omega) (fun x hx => by have := (hv.maybe x hx).1; omega) hv.cuts (by omega) (by omega))
      have hml0 : ml = 0 := by rw [hml, hm0]; rfl
      have hkl0 : kl = 0 := by rw [hkl, hk0]; rfl
      subst hml0 hkl0
      have HE := Lib.hid (show p.reS = p.openS from (if_pos ⟨hm0, hk0⟩ : p.reS = p.openS))
      clear h hv hf1 hb0 hx1 hw1 hbase hmo hml hkl hl hm0 hk0 q1 q2 q3 hlive
      go_enter Tryz.func12, Tryz.ntmps12
      go_upto_region 1 with fail
      rw [← HW1.out]
      go_wp2_with fail
      refine KO.out.mono ?_
      rintro e w2 ⟨rfl, rfl⟩
      go_wp2_with fail
      refine KW.out.mono ?_
      rintro e w2 ⟨rfl, rfl⟩
      go_wp2_with fail
      refine KOP.out.mono ?_
      rintro e w4 ⟨rfl, hpg⟩
      have HPG := Lib.hid hpg
      clear hpg KOP
      go_wp2_with fail
      go_ret
      refine ⟨rfl, ?_⟩
      obtain ⟨_, _, _, _, _, _, _, _, _, _, _, _, h9⟩ := HPG.out
      have hfin := (HX1.out.trans h9 (fun _ => id) fun _ => id).pg
      rw [HE.out]
      unfold PS.openS
      rw [HB.out]
      exact hfin
    · have hkn : ¬ kl = 0 := fun e => hk0 (List.eq_nil_of_length_eq_zero (by omega))
      have hml0 : ml = 0 := by rw [hml, hm0]; rfl
      subst hml0
      have hkb : ((kl : Int) == 0) = false := by simp; omega
      have hkd : decide ((kl : Int) = 0) = false := by simp; omega
      have HE := Lib.hid (show p.reS = p from (if_neg fun h => hk0 h.2 : p.reS = p))
      clear h hv hf1 hb0 hx1 hw1 hbase hmo hml hkl hl hm0 hk0
      go_enter Tryz.func12, Tryz.ntmps12
      go_upto_region 1 with fail
      rw [← HW1.out]
      go_wp2_with fail
      refine KO.out.mono ?_
      rintro e w2 ⟨rfl, rfl⟩
      go_wp2_with fail
      refine KW.out.mono ?_
      rintro e w2 ⟨rfl, rfl⟩
      go_wp2_with fail
      go_ret
      exact ⟨rfl, by rw [HE.out]; exact HX1.out.pg⟩
  · have hmn : ¬ ml = 0 := fun e => hm0 (List.eq_nil_of_length_eq_zero (by omega))
    have hkb : ((ml : Int) == 0) = false := by simp; omega
    have hkd : decide ((ml : Int) = 0) = false := by simp; omega
    have HE := Lib.hid (show p.reS = p from (if_neg fun h => hm0 h.1 : p.reS = p))
    clear h hv hf1 hb0 hx1 hw1 hbase hmo hml hkl hl hm0
    go_enter Tryz.func12, Tryz.ntmps12
    go_upto_region 1 with fail
    rw [← HW1.out]
    go_wp2_with fail
    refine KO.out.mono ?_
    rintro e w2 ⟨rfl, rfl⟩
    go_wp2_with fail
    refine KW.out.mono ?_
    rintro e w2 ⟨rfl, rfl⟩
    go_wp2_with fail
    go_ret
    exact ⟨rfl, by rw [HE.out]; exact HX1.out.pg⟩
end
end Go.Proofs.YtlcmnihpfpmajaaGreat

/- The law's does where a fault is laid, or the disk is to stop. Conditions stand with each. -/
namespace Go.Proofs.YtlcmnihpfpmajaaGreat
open Go.RowKit
section
variable {w w' w'' : World} {bp bd bl n : Nat} {F S R Q S' R' Q' : Nat → Prop} {p p' : PS} {l l' : Lg} {sv rv cv mv kv tv sv' rv' cv' mv' kv' tv' : Value} {vs vs' : List Value} {i T : Nat}
/-- a struck operation is noted -/
theorem note_hit (h : PM w bp bd bl S R Q p l n sv rv vs cv mv kv tv) {w3 : World} {o : Obj} {x : Int} {B : Option Addr} {c : Nat} (hg : (w.alloc o).grownBy w3 tv.ownBlock) (ho : Ow w3 3 1 (.slice B (p.struck.length + 1) c) (p.struck.length + 1) (intsV p.struck ++ [.int .i64 x]))
    (hb : (Value.slice B (p.struck.length + 1) c).ownBlock = tv.ownBlock ∨ (Value.slice B (p.struck.length + 1) c).ownBlock = some (w.alloc o).heap.size) :
    PX w (w3.setCell ⟨bp, 7, none⟩ (.slice B (p.struck.length + 1) c)) bp bd (pfoot bp bl R Q sv rv mv kv tv) S bl S R Q { p with struck := p.struck ++ [x] } l n sv rv vs cv mv kv (.slice B (p.struck.length + 1) c) := by
  have hx := h.same
  have hlt := h.lt
  have hbA := h.blk.alloc o
  have hb3 := hbA.grown hg fun e => h.ts.ne_blk h.blk (by decide) e.symm
  have hT3 : Touch (fun k => tv.ownBlock = some k) w w3 := ((Touch.refl (fun k => tv.ownBlock = some k) w).alloc o).grown hg fun k hk => .inr hk
  obtain ⟨w4, hw4⟩ : ∃ w4, w4 = w3.setCell ⟨bp, 7, none⟩ (.slice B (p.struck.length + 1) c) := ⟨_, rfl⟩
  have hT4 : Touch (fun k => k = bp) w3 w4 := by rw [hw4]; exact (Touch.refl (fun k => k = bp) w3).setCell (p := ⟨bp, 7, none⟩) (.inr rfl) _
  rw [← hw4]
  have hT : Touch (fun k => tv.ownBlock = some k ∨ k = bp) w w4 := (hT3.mono fun k _ hk => .inl hk).trans hT4 fun k _ hk => .inr hk
  have hkb : ∀ k, tv.ownBlock = some k ∨ k = bp → pown bp mv kv tv k := fun k hk => hk.elim (fun e => .inr (.inr (.inr e))) .inl
  refine hx.own (hT.mono fun k _ hk => hkb k hk) rfl rfl ?_ (h.c.touch hT fun k hk e => h.nQ k hk (hkb k e)) (h.mb.touch hT (fun k hk e => ?_) fun k hk e => h.nQ k hk (hkb k e)) (h.ks.touch hT fun k hk e => ?_) ?_ (fun k hk e => ?_) (fun k hk => ?_) fun k hk => .inl hk
  · rw [hw4]
    have := hb3.set_ 7 (.slice B (p.struck.length + 1) c)
    simpa using this
  · obtain ⟨vl, _, hmo, _⟩ := h.mb
    rcases e with e | e
    · exact hmo.ne_ow h.ts (by decide) k hk e
    · exact hmo.ne_blk h.blk (by decide) (by rw [hk, e])
  · rcases e with e | e
    · exact h.ap k hk e
    · exact h.ks.ne_blk h.blk (by decide) (by rw [hk, e])
  · have h9 := ho.touch hT4 fun k hk e => ho.ne_blk hb3 (by decide) (by rw [hk, e])
    dsimp only
    rw [List.length_append, List.length_singleton]
    have h7 : intsV (p.struck ++ [x]) = intsV p.struck ++ [.int .i64 x] := by simp [intsV]
    rw [h7]
    exact h9
  · rcases hb with hb | hb
    · exact h.ap k hk (hb.symm.trans e)
    · rw [e] at hb
      injection hb with hb
      have := h.ks.lt k hk
      rw [alloc_size] at hb
      omega
  · rcases hk with hk | hk | hk
    · exact .inl (.inr (.inl hk))
    · exact .inl (.inr (.inr (.inl hk)))
    · rcases hb with hb | hb
      · exact .inl (.inr (.inr (.inr (hb.symm.trans hk))))
      · rw [hk] at hb
        injection hb with hb
        rw [alloc_size] at hb
        exact .inr ⟨by omega, fun hq => by have := h.Qlt k hq; omega⟩
/-- the stop is noted -/
theorem note_stop (h : PM w bp bd bl S R Q p l n sv rv vs cv mv kv tv) (x : Int) : PX w (w.setCell ⟨bp, 8, none⟩ (.int .i64 x)) bp bd (pfoot bp bl R Q sv rv mv kv tv) S bl S R Q { p with stop := x } l n sv rv vs cv mv kv tv := by
  obtain ⟨w4, hw4⟩ : ∃ w4, w4 = w.setCell ⟨bp, 8, none⟩ (.int .i64 x) := ⟨_, rfl⟩
  have hT : Touch (fun k => k = bp) w w4 := by rw [hw4]; exact (Touch.refl (fun k => k = bp) w).setCell (p := ⟨bp, 8, none⟩) (.inr rfl) _
  rw [← hw4]
  refine h.same.own (hT.mono fun k _ hk => .inl hk) rfl rfl ?_ (h.c.touch hT fun k hk e => h.nQ k hk (.inl e)) (h.mb.touch hT (fun k hk e => ?_) fun k hk e => h.nQ k hk (.inl e)) (h.ks.touch hT fun k hk e => h.ks.ne_blk h.blk (by decide) (by rw [hk, e])) (h.ts.touch hT fun k hk e => h.ts.ne_blk h.blk (by decide) (by rw [hk, e])) h.ap (fun k hk => .inl (.inr hk)) fun k hk => .inl hk
  · rw [hw4]
    have := h.blk.set_ 8 (.int .i64 x)
    simpa using this
  · obtain ⟨vl, _, hmo, _⟩ := h.mb
    exact hmo.ne_blk h.blk (by decide) (by rw [hk, e])
set_option maxRecDepth 200000 in
set_option maxHeartbeats 16000000 in
theorem doesS (h : PM w bp bd bl S R Q p l n sv rv vs cv mv kv tv) (hv : PInv p i T) (hi : i ≤ 200) {Do N K : Int} (hDo : Do % 7 = 4) {BA CA : Option Addr} {bm bc cm cc : Nat} :
    Calls Tryz.prog 12 #[.pointer (some ⟨bp, 0, none⟩), .agg #[.int .i64 Do, .int .i64 N, .int .i64 K, .slice BA bm bc, .slice CA cm cc]] w (DoEnd w bp bd (pfoot bp bl R Q sv rv mv kv tv) S (p.haltS (N % 12).toNat) n) := by
  obtain ⟨w1, hw1⟩ : ∃ w1, w1 = w.alloc (.cells #[.int .i64 Do, .int .i64 N, .int .i64 K, .slice BA bm bc, .slice CA cm cc] 29) := ⟨_, rfl⟩
  have hf1 : Fresh w w1 := by rw [hw1]; exact (Touch.refl (fun _ => False) w).alloc _
  have hb0 : Blk w1 w.heap.size 29 #[.int .i64 Do, .int .i64 N, .int .i64 K, .slice BA bm bc, .slice CA cm cc] := by rw [hw1]; exact Blk.new _ _ _
  obtain ⟨m, hm⟩ : ∃ m : Nat, N % 12 = (m : Int) := ⟨(N % 12).toNat, by have := Int.emod_nonneg N (show (12 : Int) ≠ 0 by omega); omega⟩
  have hm12 : m < 12 := by have := Int.emod_lt_of_pos N (show (0 : Int) < 12 by omega); omega
  have HMN := Lib.hid (show (N % 12).toNat = m by omega)
  have hx1 := h.same.fresh hf1
  have c0 : w1.cell? ⟨w.heap.size, 0, none⟩ = some (.int .i64 Do) := hb0.cell 0
  have c1 : w1.cell? ⟨w.heap.size, 1, none⟩ = some (.int .i64 N) := hb0.cell 1
  have d0 : w1.cell? ⟨bp, 0, none⟩ = some (.pointer (some ⟨bd, 0, none⟩)) := hx1.pm.blk.cell 0
  have KO := Lib.hid (disk_ops hx1.pm.ld.dk)
  have KW := Lib.hid (within_any Do 7 w1 (by omega) (by omega))
  have KW2 := Lib.hid (within_any N 12 w1 (by omega) (by omega))
  rw [hm] at KW2
  rw [hDo] at KW
  have KS := Lib.hid (disk_stop hx1.pm.ld.dk (hv.small hi) (by omega) (after := (m : Int)) (by omega))
  obtain ⟨lo, hlo⟩ : ∃ lo, lo = p.d.ops := ⟨_, rfl⟩
  have hlob : lo ≤ 200000 := by rw [hlo]; have := hv.ops; omega
  have hwl : IntKind.i64.wrap ((lo : Int) + (m : Int)) = (lo : Int) + (m : Int) := IntWalk.i64_in _ (by omega)
  rw [← hlo] at KO
  have HX1 := Lib.hid hx1; have HW1 := Lib.hid hw1; have HLO := Lib.hid hlo
  clear h hv hf1 hb0 hx1 hw1 hlo hm
  go_enter Tryz.func12, Tryz.ntmps12
  go_upto_region 1 with fail
  rw [← HW1.out]
  go_wp2_with fail
  refine KO.out.mono ?_
  rintro e w2 ⟨rfl, rfl⟩
  go_wp2_with fail
  refine KW.out.mono ?_
  rintro e w2 ⟨rfl, rfl⟩
  go_wp2_with fail
  refine KW2.out.mono ?_
  rintro e w2 ⟨rfl, rfl⟩
  go_wp2_with fail
  refine KS.out.mono ?_
  rintro e w2 ⟨rfl, ht2, hd2⟩
  have hx2 := HX1.out.disk ht2 hd2
  have e8 : w2.cell? ⟨bp, 8, none⟩ = some (.int .i64 p.stop) := hx2.pm.blk.cell 8
  have f8 : w2.frozen? ⟨bp, 8, none⟩ = false := hx2.pm.blk.frozen 8
  have hx3 := hx2.trans (note_stop hx2.pm ((lo : Int) + (m : Int))) (fun _ => id) fun _ => id
  have HX3 := Lib.hid hx3
  clear ht2 hd2 hx2 hx3 KO KW KW2 KS c0 c1 d0
  go_wp2_with fail
  go_ret
  refine ⟨rfl, ?_⟩
  unfold PS.haltS
  rw [HMN.out, ← HLO.out]
  exact HX3.out.pg
set_option maxRecDepth 200000 in
set_option maxHeartbeats 16000000 in
theorem doesF (h : PM w bp bd bl S R Q p l n sv rv vs cv mv kv tv) (hv : PInv p i T) (hi : i ≤ 200) {Do N K : Int} (hDo : Do % 7 = 3) {BA CA : Option Addr} {bm bc cm cc : Nat} :
    Calls Tryz.prog 12 #[.pointer (some ⟨bp, 0, none⟩), .agg #[.int .i64 Do, .int .i64 N, .int .i64 K, .slice BA bm bc, .slice CA cm cc]] w (DoEnd w bp bd (pfoot bp bl R Q sv rv mv kv tv) S (p.fault (N % 12).toNat K) n) := by
  obtain ⟨tA, tc, rfl, _⟩ := h.ts.form
  obtain ⟨w1, hw1⟩ : ∃ w1, w1 = w.alloc (.cells #[.int .i64 Do, .int .i64 N, .int .i64 K, .slice BA bm bc, .slice CA cm cc] 29) := ⟨_, rfl⟩
  have hf1 : Fresh w w1 := by rw [hw1]; exact (Touch.refl (fun _ => False) w).alloc _
  have hb0 : Blk w1 w.heap.size 29 #[.int .i64 Do, .int .i64 N, .int .i64 K, .slice BA bm bc, .slice CA cm cc] := by rw [hw1]; exact Blk.new _ _ _
  obtain ⟨m, hm⟩ : ∃ m : Nat, N % 12 = (m : Int) := ⟨(N % 12).toNat, by have := Int.emod_nonneg N (show (12 : Int) ≠ 0 by omega); omega⟩
  have hm12 : m < 12 := by have := Int.emod_lt_of_pos N (show (0 : Int) < 12 by omega); omega
  have HMN := Lib.hid (show (N % 12).toNat = m by omega)
  have hx1 := h.same.fresh hf1
  have c0 : w1.cell? ⟨w.heap.size, 0, none⟩ = some (.int .i64 Do) := hb0.cell 0
  have c1 : w1.cell? ⟨w.heap.size, 1, none⟩ = some (.int .i64 N) := hb0.cell 1
  have c2 : w1.cell? ⟨w.heap.size, 2, none⟩ = some (.int .i64 K) := hb0.cell 2
  have d0 : w1.cell? ⟨bp, 0, none⟩ = some (.pointer (some ⟨bd, 0, none⟩)) := hx1.pm.blk.cell 0
  have KO := Lib.hid (disk_ops hx1.pm.ld.dk)
  have KW := Lib.hid (within_any Do 7 w1 (by omega) (by omega))
  have KW2 := Lib.hid (within_any N 12 w1 (by omega) (by omega))
  rw [hm] at KW2
  rw [hDo] at KW
  have KS := Lib.hid (show ∀ W, Fresh w1 W → Calls Tryz.prog 36 #[.pointer (some ⟨bd, 0, none⟩), .int .i64 (m : Int), .int .i64 K] W fun e w2 => e = .returned (.tuple #[]) ∧ ∃ S2, PX w w2 bp bd (pfoot bp bl R Q sv rv mv kv (.slice tA p.struck.length tc)) S bl S2 R Q { p with d := p.d.fail m K } l n sv rv vs cv mv kv (.slice tA p.struck.length tc) from fun W hW => by
    have hxW := hx1.fresh hW
    refine (disk_fail hxW.pm.ld.dk (hv.small hi) (by omega) (after := (m : Int)) K (by omega)).mono ?_
    rintro e w2 ⟨rfl, ht2, hd2⟩
    exact ⟨rfl, _, hxW.disk ht2 hd2⟩)
  obtain ⟨lo, hlo⟩ : ∃ lo, lo = p.d.ops := ⟨_, rfl⟩
  have hlob : lo ≤ 200000 := by rw [hlo]; have := hv.ops; omega
  have hslen : p.struck.length ≤ 200 := by have := hv.lens; omega
  have hwl : IntKind.i64.wrap ((lo : Int) + (m : Int)) = (lo : Int) + (m : Int) := IntWalk.i64_in _ (by omega)
  rw [← hlo] at KO
  have HX1 := Lib.hid hx1; have HW1 := Lib.hid hw1; have HLO := Lib.hid hlo
  clear h hv hf1 hb0 hx1 hw1 hlo hm
  go_enter Tryz.func12, Tryz.ntmps12
  go_upto_region 1 with fail
  rw [← HW1.out]
  go_wp2_with fail
  refine KO.out.mono ?_
  rintro e w2 ⟨rfl, rfl⟩
  go_wp2_with fail
  refine KW.out.mono ?_
  rintro e w2 ⟨rfl, rfl⟩
  go_wp2_with fail
  refine KW2.out.mono ?_
  rintro e w2 ⟨rfl, rfl⟩
  go_upto_region 22 with fail
  go_region_law (first
    | (go_simp; go_at_call 36; refine (KS.out _ (by first | exact (Touch.refl _ w1).drew | exact Touch.refl _ w1)).mono ?_; rintro e w2 ⟨rfl, S2, hx2⟩; have HX2 := Lib.hid hx2; clear hx2))
  all_goals
    have e7 : w2.cell? ⟨bp, 7, none⟩ = some (.slice tA p.struck.length tc) := HX2.out.pm.blk.cell 7
    have f7 : w2.frozen? ⟨bp, 7, none⟩ = false := HX2.out.pm.blk.frozen 7
    have HTS := Lib.hid HX2.out.pm.ts
    have HBK := Lib.hid HX2.out.pm.blk
    clear KO KW KW2 KS c0 c1 c2 d0
    go_wp2_with (at_builtin; refine wpList_ow_src _ rfl _ _ 27 27 rfl 3 (.int .i64 0) 1 8 Tryz.info3 Tryz.underlying27 rfl (.slice tA p.struck.length tc) p.struck.length (intsV p.struck) rfl (HTS.out.alloc _) (intsV_one _) (.slice (some ⟨w2.heap.size, 0, none⟩) 1 1) 1 [.int .i64 ((lo : Int) + (m : Int))] rfl (src_one Tryz.underlying27 (by exact box_new w2 (.int .i64 ((lo : Int) + (m : Int))) 3) rfl) (by unfold maxLen; omega) (by omega) ?_; intro B6 c6 w6 o6 g6 b6; have hb6 := blk_ow_grow (HBK.out.alloc _) g6 (HTS.out.alloc _) (by decide); have e6 : w6.cell? ⟨bp, 7, none⟩ = some (.slice tA p.struck.length tc) := hb6.cell 7; have f6 : w6.frozen? ⟨bp, 7, none⟩ = false := hb6.frozen 7; have HO6 := Lib.hid o6; have HG6 := Lib.hid g6; have HB6 := Lib.hid b6; clear o6 g6 b6 hb6)
    go_ret
    refine ⟨rfl, ?_⟩
    unfold PS.fault
    rw [HMN.out, ← HLO.out]
    exact (HX2.out.trans (note_hit HX2.out.pm HG6.out HO6.out HB6.out) (fun _ => id) fun _ => id).pg
end
end Go.Proofs.YtlcmnihpfpmajaaGreat

/- The law's does, whichever operation it is; a play through its operations. Conditions stand with it. -/
namespace Go.Proofs.YtlcmnihpfpmajaaGreat
open Go.RowKit
/-- an Op as data, with the slices that it holds -/
structure OpD where
  Do : Int
  N : Int
  K : Int
  A : Option Addr
  m : Nat
  c : Nat
  xs : List UInt8
  C : Option Addr
  nc : Nat
  cc : Nat
  cuts : List Int
def OpD.cells (o : OpD) : List Value := [.int .i64 o.Do, .int .i64 o.N, .int .i64 o.K, .slice o.A o.m o.c, .slice o.C o.nc o.cc]
theorem IsInts.touch2 {w w' : World} {A : Option Addr} {n c : Nat} {xs : List Int} {S : Nat → Prop} (h : IsInts w A n c xs) (ht : Touch S w w') (hn : ∀ a, A = some a → 0 < n → ¬ S a.block) : IsInts w' A n c xs :=
  ⟨h.1, h.2.1, h.2.2.1, fun h0 => by
    obtain ⟨b, o, e, hc⟩ := h.2.2.2 h0
    exact ⟨b, o, e, fun j x hx => ht.cell (hc j x hx) (hn ⟨b, o, none⟩ e h0)⟩⟩
/-- what an Op holds lies below B -/
structure OpAt (B : Nat) (w : World) (o : OpD) : Prop where
  bs : Bs w o.A o.m o.c o.xs
  bsB : ∀ a, o.A = some a → 0 < o.m → a.block < B
  cs : IsInts w o.C o.nc o.cc o.cuts
  csB : ∀ a, o.C = some a → 0 < o.nc → a.block < B
  rng : ∀ x ∈ o.cuts, -9223372036854775808 ≤ x ∧ x ≤ 9223372036854775807
theorem OpAt.touch {B : Nat} {w w' : World} {o : OpD} {S : Nat → Prop} (h : OpAt B w o) (ht : Touch S w w') (hS : ∀ k, S k → B ≤ k) : OpAt B w' o :=
  ⟨h.bs.touch ht fun a ha h0 e => by have := h.bsB a ha h0; have := hS _ e; omega, h.bsB, h.cs.touch2 ht fun a ha h0 e => by have := h.csB a ha h0; have := hS _ e; omega, h.csB, h.rng⟩
/-- the Ops that came in -/
structure OpsAt (w : World) (A : Option Addr) (n c : Nat) (ops : List OpD) : Prop where
  vs : Vs w 5 A n c (ops.flatMap OpD.cells)
  lt : ∀ a, A = some a → 0 < n → a.block < w.heap.size
  op : ∀ o ∈ ops, OpAt w.heap.size w o
theorem OpsAt.len {w : World} {A : Option Addr} {n c : Nat} {ops : List OpD} (h : OpsAt w A n c ops) : ops.length = n := by
  have := h.vs.1
  rw [flat_length OpD.cells 5 (fun _ => rfl)] at this
  omega
def PS.doS (p : PS) (o : OpD) : PS :=
  if o.Do % 7 = 0 ∨ o.Do % 7 = 1 then p.app (o.xs.take (min o.m 200))
  else if o.Do % 7 = 2 then p.cutS o.N
  else if o.Do % 7 = 3 then p.fault (o.N % 12).toNat o.K
  else if o.Do % 7 = 4 then p.haltS (o.N % 12).toNat
  else if o.Do % 7 = 5 then p.crashS o.cuts
  else p.reS
section
variable {w w' w'' : World} {bp bd bl n : Nat} {F S R Q S' R' Q' : Nat → Prop} {p p' : PS} {l l' : Lg} {sv rv cv mv kv tv sv' rv' cv' mv' kv' tv' : Value} {vs vs' : List Value} {i T : Nat}
theorem PInv.mono (h : PInv p i T) {i' T' : Nat} (hi : i ≤ i') (hT : T ≤ T') : PInv p i' T' := by
  obtain ⟨ss, h1, h2⟩ := h.live
  have hl := h.lens
  refine ⟨⟨ss, h1, by omega⟩, h.c, Nat.le_trans h.files hi, Nat.le_trans h.segs hi, fun f hf => ?_, ?_, Nat.le_trans h.flt hi, Nat.le_trans h.next hi, Nat.le_trans h.size hT, h.rows, fun x hx => ?_, h.cuts, h.struck, h.near, h.stop, by omega⟩
  · exact Nat.le_trans (h.raws f hf) (Nat.mul_le_mul_right _ hi)
  · exact Nat.le_trans h.ops (Nat.mul_le_mul_right _ hi)
  · obtain ⟨a1, a2, a3, a4⟩ := h.maybe x hx
    exact ⟨Nat.le_trans a1 hi, Nat.le_trans a2 hT, a3, a4⟩
theorem PInv.doS (h : PInv p i T) (hi : i ≤ 150) (hT : T ≤ 900000) (o : OpD) : PInv (p.doS o) (i + 1) (T + 225) ∧ (p.doS o).l.base = p.l.base := by
  have h12 := Int.emod_nonneg o.N (show (12 : Int) ≠ 0 by omega)
  have h12' := Int.emod_lt_of_pos o.N (show (0 : Int) < 12 by omega)
  unfold PS.doS
  split
  · have hl : (o.xs.take (min o.m 200)).length ≤ 200 := by rw [List.length_take]; omega
    obtain ⟨q1, _, q3, _⟩ := h.app (by omega) hT (b := o.xs.take (min o.m 200)) (by omega)
    exact ⟨q1.mono (Nat.le_refl _) (by omega), q3⟩
  split
  · obtain ⟨q1, q2, _⟩ := h.cutS (by omega) hT o.N
    exact ⟨q1.mono (Nat.le_refl _) (by omega), q2⟩
  split
  · exact ⟨(h.fail (by omega) (by omega)).mono (Nat.le_refl _) (by omega), rfl⟩
  split
  · exact ⟨(h.halt (by omega) (by omega)).mono (Nat.le_refl _) (by omega), rfl⟩
  split
  · exact ⟨(h.crash (by omega) o.cuts).1.mono (Nat.le_refl _) (by omega), rfl⟩
  unfold PS.reS
  split
  · rename_i hc
    exact ⟨(h.openS (by omega) hc.1 hc.2).1.mono (Nat.le_refl _) (by omega), rfl⟩
  · exact ⟨h.mono (Nat.le_succ _) (by omega), rfl⟩
theorem does_any (h : PM w bp bd bl S R Q p l n sv rv vs cv mv kv tv) (hv : PInv p i T) (hi : i ≤ 150) (hT : T ≤ 900000) (hn : n < 16) (hbase : p.l.base = n * 1048576) {B : Nat} {o : OpD} (ho : OpAt B w o) (hB : ∀ k, pfoot bp bl R Q sv rv mv kv tv k ∨ S k → B ≤ k) (hBw : B ≤ w.heap.size) :
    Calls Tryz.prog 12 #[.pointer (some ⟨bp, 0, none⟩), .agg #[.int .i64 o.Do, .int .i64 o.N, .int .i64 o.K, .slice o.A o.m o.c, .slice o.C o.nc o.cc]] w (DoEnd w bp bd (pfoot bp bl R Q sv rv mv kv tv) S (p.doS o) n) := by
  have h0 := Int.emod_nonneg o.Do (show (7 : Int) ≠ 0 by omega)
  have h1 := Int.emod_lt_of_pos o.Do (show (0 : Int) < 7 by omega)
  unfold PS.doS
  by_cases e1 : o.Do % 7 = 0 ∨ o.Do % 7 = 1
  · rw [if_pos e1]
    exact doesA h hv (by omega) hT (by omega) e1 ho.bs fun a ha hp => by
      have := ho.bsB a ha hp
      exact ⟨fun e => by have := hB _ (.inl e); omega, fun e => by have := hB _ (.inr e); omega, by omega⟩
  rw [if_neg e1]
  by_cases e2 : o.Do % 7 = 2
  · rw [if_pos e2]
    exact doesC h hv (by omega) hT (by omega) e2
  rw [if_neg e2]
  by_cases e3 : o.Do % 7 = 3
  · rw [if_pos e3]
    exact doesF h hv (by omega) e3
  rw [if_neg e3]
  by_cases e4 : o.Do % 7 = 4
  · rw [if_pos e4]
    exact doesS h hv (by omega) e4
  rw [if_neg e4]
  by_cases e5 : o.Do % 7 = 5
  · rw [if_pos e5]
    exact doesX h hv hi hn hbase e5 ho.cs ho.rng fun a ha hp e => by have := ho.csB a ha hp; have := hB _ (.inr e); omega
  rw [if_neg e5]
  exact doesO h hv hi hn hbase (by omega)
/-- blocks of a play that began behind B -/
def LoF (B : Nat) (w1 : World) (F S : Nat → Prop) : Prop := B ≤ w1.heap.size ∧ ∀ k, F k ∨ S k → B ≤ k
theorem PX.lo {w1 : World} {B : Nat} (h : PX w1 w' bp bd F S bl S' R' Q' p' l' n sv' rv' vs' cv' mv' kv' tv') (hl : LoF B w1 F S) : ∀ k, pfoot bp bl R' Q' sv' rv' mv' kv' tv' k ∨ S' k → B ≤ k := fun k hk => by
  have h1 := hl.1
  rcases hk with hk | hk
  · exact (h.sF k hk).elim (fun e => hl.2 k (.inl e)) (by omega)
  · exact (h.sS k hk).elim (fun e => hl.2 k (.inr e)) (by omega)
theorem does_pg {w1 : World} {B : Nat} (hp : PG w1 w bp bd F S p n) (hl : LoF B w1 F S) (hv : PInv p i T) (hi : i ≤ 150) (hT : T ≤ 900000) (hn : n < 16) (hbase : p.l.base = n * 1048576) {o : OpD} (ho : OpAt B w o) :
    Calls Tryz.prog 12 #[.pointer (some ⟨bp, 0, none⟩), .agg #[.int .i64 o.Do, .int .i64 o.N, .int .i64 o.K, .slice o.A o.m o.c, .slice o.C o.nc o.cc]] w fun e w' => e = .returned (.bool true) ∧ PG w1 w' bp bd F S (p.doS o) n := by
  obtain ⟨bl, S1, R1, Q1, l1, sv1, rv1, vs1, cv1, mv1, kv1, tv1, hx⟩ := hp
  have hs := hx.tch.size
  have hl1 := hl.1
  refine (does_any hx.pm hv hi hT hn hbase ho (hx.lo hl) (by omega)).mono ?_
  rintro e w' ⟨rfl, hpg⟩
  exact ⟨rfl, PG.trans hx hpg⟩
theorem PG.fresh {w1 : World} (hp : PG w1 w bp bd F S p n) (hf : Fresh w w') : PG w1 w' bp bd F S p n := by
  obtain ⟨bl, S1, R1, Q1, l1, sv1, rv1, vs1, cv1, mv1, kv1, tv1, hx⟩ := hp
  exact (hx.fresh hf).pg
theorem PG.tch {w1 : World} (hp : PG w1 w bp bd F S p n) : Touch (fun k => F k ∨ S k) w1 w := by
  obtain ⟨bl, S1, R1, Q1, l1, sv1, rv1, vs1, cv1, mv1, kv1, tv1, hx⟩ := hp
  exact hx.tch
/-- a play tells its content -/
theorem tells_px (h : PM w bp bd bl S R Q p l n sv rv vs cv mv kv tv) (hv : PInv p i T) (hi : i ≤ 200) :
    Calls Tryz.prog 13 #[.pointer (some ⟨bl, 0, none⟩), .agg #[.int .i64 (p.c.first : Int), cv]] w fun e w' => Fresh w w' ∧ e = .returned (.bool true) := by
  obtain ⟨c1, c2, _, c4, _⟩ := hv.cn hi h.alk
  have := tells_any h.ld.lm (by omega) (fun b hb => by have := c4 b hb; omega) (fun k hk => h.lt k (.inr (.inl hk))) h.c h.Qlt (by rw [← c1]; omega)
  rw [c1, telB_self] at this
  exact this
end
end Go.Proofs.YtlcmnihpfpmajaaGreat
