/- What WalResumes asks: the greatest number of a list; operations that a call costs; a play where all faults are over. Conditions stand with each. -/
import Derived.Test.YtlcmnihpfpmajaaGreatPgkZ
namespace Go.Proofs.YtlcmnihpfpmajaaGreat
open Go.RowKit
def lastI (l : List Int) : Int := l.foldl (fun n x => if n < x then x else n) (-1)
theorem lastI_snoc (l : List Int) (s : Int) : lastI (l ++ [s]) = if lastI l < s then s else lastI l := by
  unfold lastI
  rw [List.foldl_append]
  rfl
theorem foldl_ge : ∀ (l : List Int) (n : Int), n ≤ l.foldl (fun n x => if n < x then x else n) n ∧ ∀ s ∈ l, s ≤ l.foldl (fun n x => if n < x then x else n) n
  | [], n => ⟨Int.le_refl n, fun s hs => by cases hs⟩
  | x :: r, n => by
    obtain ⟨h1, h2⟩ := foldl_ge r (if n < x then x else n)
    rw [List.foldl_cons]
    have h3 : n ≤ (if n < x then x else n) ∧ x ≤ (if n < x then x else n) := by split <;> omega
    refine ⟨by omega, fun s hs => ?_⟩
    rcases List.mem_cons.1 hs with rfl | hs
    · omega
    · exact h2 s hs
theorem lastI_ge (l : List Int) : ∀ s ∈ l, s ≤ lastI l := (foldl_ge l (-1)).2
theorem foldl_le {m : Int} : ∀ (l : List Int) (n : Int), n ≤ m → (∀ s ∈ l, s ≤ m) → l.foldl (fun n x => if n < x then x else n) n ≤ m
  | [], n, h, _ => h
  | x :: r, n, h, hs => by
    rw [List.foldl_cons]
    refine foldl_le r _ ?_ fun s h' => hs s (List.mem_cons_of_mem _ h')
    have := hs x (List.mem_cons_self ..)
    split <;> omega
theorem lastI_le {m : Int} (l : List Int) (h : -1 ≤ m) (hs : ∀ s ∈ l, s ≤ m) : lastI l ≤ m := foldl_le l (-1) h hs
theorem dk_app_ops (d : Dk) (n : Int) (b : List UInt8) : (d.append n b).ops = d.ops + 1 := by
  unfold Dk.append
  split
  · rfl
  · split <;> rfl
theorem dk_sync_ops (d : Dk) (n : Int) : (d.sync n).ops = d.ops + 1 := by unfold Dk.sync; split <;> rfl
theorem dk_del_ops (d : Dk) (n : Int) : (d.delete n).ops = d.ops + 1 := by unfold Dk.delete; split <;> rfl
theorem dk_lay_ops (d : Dk) (n : Int) (b : List UInt8) : d.ops + 1 ≤ (layP d n b).1.ops := by
  unfold layP
  split
  · show _ ≤ ((d.append n b).sync n).ops
    rw [dk_sync_ops, dk_app_ops]; omega
  · show _ ≤ (d.append n b).ops
    rw [dk_app_ops]; omega
theorem dk_delAll_ops : ∀ (l : List Int) (d : Dk), d.ops ≤ (delAll d l).1.ops ∧ ((delAll d l).2 ≠ 0 → d.ops + 1 ≤ (delAll d l).1.ops)
  | [], d => ⟨Nat.le_refl _, fun h => absurd rfl h⟩
  | n :: r, d => by
    unfold delAll
    split
    · obtain ⟨h1, _⟩ := dk_delAll_ops r (d.delete n)
      rw [dk_del_ops] at h1
      exact ⟨by omega, fun _ => by omega⟩
    · show d.ops ≤ (d.delete n).ops ∧ ((d.why n ≠ 0) → d.ops + 1 ≤ (d.delete n).ops)
      rw [dk_del_ops]
      exact ⟨by omega, fun _ => by omega⟩
theorem dk_begin_ops (d : Dk) (l : Lg) (whole : Bool) (first next : Nat) (xs : List UInt8) : d.ops + 1 ≤ (beginP d l whole first next xs).1.ops := by
  obtain ⟨h1, h2⟩ := dk_delAll_ops (strangeN d.fs l.base l.segs) d
  unfold beginP
  split
  · rename_i h
    exact h2 h
  · split
    all_goals
      refine Nat.le_trans ?_ (dk_lay_ops _ _ _)
      omega
theorem dk_write_ops (d : Dk) (l : Lg) (xs : List UInt8) : d.ops + 1 ≤ (writeP d l xs).1.ops := by
  unfold writeP
  split
  · split
    · split
      · exact dk_lay_ops _ _ _
      · exact dk_lay_ops _ _ _
    · exact dk_begin_ops _ _ _ _ _ _
  · exact dk_begin_ops _ _ _ _ _ _
theorem dk_append_ops (d : Dk) (l : Lg) {b : List UInt8} (hb : b.length ≤ 1048576) : d.ops + 1 ≤ (appendP d l b).1.ops := by
  have h := dk_write_ops d l (It.put l.c.next b).enc
  unfold appendP
  rw [if_neg (by omega)]
  split
  · exact h
  · exact Nat.le_trans h (tidy_use _ _ _).1.lo
section
variable {p : PS} {i T : Nat}
/-- all faults are over -/
def Over (p : PS) : Prop := (∀ s ∈ p.struck, s < (p.d.ops : Int)) ∧ p.stop < 0
theorem Over.not (h : Over p) (hi : Nat) : hindered p p.d.ops hi = false := by
  unfold hindered
  rw [Bool.or_eq_false_iff]
  refine ⟨?_, by rw [Bool.and_eq_false_iff]; exact .inl (decide_eq_false (by have := h.2; omega))⟩
  rw [List.any_eq_false]
  intro s hs
  have := h.1 s hs
  rw [Bool.and_eq_true]
  rintro ⟨h1, _⟩
  have := of_decide_eq_true h1
  omega
theorem PInv.app_over (h : PInv p i T) (hi : i ≤ 200) (hT : T ≤ 900000) {b : List UInt8} (hb : b.length ≤ 50000) (ho : Over p) {q : PS} (hq : q = { p with d := (appendP p.d p.l b).1, l := (appendP p.d p.l b).2.1, c := p.c.add b }) :
    (appendP p.d p.l b).2.2.2 = 0 ∧ (appendP p.d p.l b).2.2.1 = p.c.next ∧ PInv q (i + 1) (T + b.length + 25) ∧ Over q ∧ q.l.base = p.l.base := by
  obtain ⟨h1, h2, h3, h4⟩ := h.append (by omega) hT hb
  have he : (appendP p.d p.l b).2.2.2 = 0 := by
    by_cases he : (appendP p.d p.l b).2.2.2 = 0
    · exact he
    · obtain ⟨_, _, _, _, q⟩ := h2 he
      rw [ho.not] at q
      cases q
  obtain ⟨q1, q2, q3⟩ := h1 he
  have hl := h.lens
  subst hq
  refine ⟨he, q3, ⟨?_, q1.c, q1.files, q1.segs, q1.raws, q1.ops, q1.flt, q1.next, q1.size, q1.rows, fun x hx => ?_, fun m hm => ?_, q1.struck, q1.near, q1.stop, ?_⟩, ⟨fun s hs => ?_, ho.2⟩, h4⟩
  · obtain ⟨ss, g1, g2⟩ := q1.live
    refine ⟨ss, ?_, g2⟩
    unfold Live at g1 ⊢
    refine ⟨g1.shape.weak ?_, g1.segs, g1.clean⟩
    rintro x (hx | ⟨_, hx, _⟩) <;> cases hx
  · obtain ⟨m1, m2, m3, m4⟩ := h.maybe x hx
    exact ⟨by omega, by omega, m3, m4⟩
  · have := h.cuts m hm
    show p.c.first < m ∧ m ≤ (p.c.add b).next
    rw [Ct.next_add]
    omega
  · have := q1.lens
    dsimp only at this ⊢
    omega
  · have := ho.1 s hs
    show s < ((appendP p.d p.l b).1.ops : Int)
    omega
/-- a cut where all faults are over: the log is the content's, cut -/
theorem PInv.cut_over (h : PInv p i T) (hi : i ≤ 200) (hT : T ≤ 900000) (N : Int) (ho : Over p) :
    (cutP p.d p.l N).2.2 = 0 ∧ ∃ q : PS, q.l = (cutP p.d p.l N).2.1 ∧ q.c = p.c.cut (min N (p.c.next : Int)).toNat ∧ PInv q (i + 1) T := by
  obtain ⟨h1, h2⟩ := h.cut (by omega) hT (before := N)
  by_cases hle : min N p.c.next ≤ p.c.first
  · obtain ⟨z1, z2, z3⟩ := h1 hle
    refine ⟨z1, { p with l := { p.l with failed := false } }, z3.symm, ?_, h.idle⟩
    unfold Ct.cut
    rw [if_neg (by omega)]
  · obtain ⟨g1, g2, g3, g4⟩ := h2 (by omega)
    have he : (cutP p.d p.l N).2.2 = 0 := by
      by_cases he : (cutP p.d p.l N).2.2 = 0
      · exact he
      · obtain ⟨_, _, _, q⟩ := g2 he
        rw [ho.not] at q
        cases q
    exact ⟨he, _, rfl, rfl, (g1 he).1⟩
end
section
variable {w w' w1 W : World} {bp bd bl n : Nat} {F S : Nat → Prop} {p q : PS} {vA : Option Addr} {vc i T : Nat}
/-- the play's log beside any content, where the play itself is behind -/
theorem PT.telq (h : PT w1 W bp bd F S p n bl vA vc) (hv : PInv q i T) (hq : q.l = p.l) (hi : i ≤ 200) {c2 : Ct} {v2 : Value} (hc : CMx W v2 c2.rows) (hn : c2.next ≤ 1000000000) :
    Calls Tryz.prog 13 #[.pointer (some ⟨bl, 0, none⟩), .agg #[.int .i64 (c2.first : Int), v2]] W fun e w' => Fresh W w' ∧ e = .returned (.bool (telB q.c c2)) := by
  obtain ⟨S1, R1, Q1, l1, sv1, rv1, vs1, mv1, kv1, tv1, hx⟩ := h
  obtain ⟨Q2, hc, hQ⟩ := hc
  obtain ⟨c1, c2', _, c4, _⟩ := hv.cn hi (by rw [hq]; exact hx.pm.alk)
  have := tells_any hx.pm.ld.lm (by omega) (fun b hb => by have := c4 b hb; omega) (fun k hk => hx.pm.lt k (.inr (.inl hk))) hc hQ hn
  rw [c1] at this
  exact this
/-- what is struck lies in memory; how many operations there were -/
theorem PT.struck (h : PT w1 W bp bd F S p n bl vA vc) : ∃ tA tc, W.cell? ⟨bp, 7, none⟩ = some (.slice tA p.struck.length tc) ∧ W.cell? ⟨bp, 8, none⟩ = some (.int .i64 p.stop) ∧ Ow W 3 1 (.slice tA p.struck.length tc) p.struck.length (intsV p.struck) := by
  obtain ⟨S1, R1, Q1, l1, sv1, rv1, vs1, mv1, kv1, tv1, hx⟩ := h
  obtain ⟨tA, tc, rfl, _⟩ := hx.pm.ts.form
  exact ⟨tA, tc, hx.pm.blk.cell 7, hx.pm.blk.cell 8, hx.pm.ts⟩
theorem PT.ops (h : PT w1 W bp bd F S p n bl vA vc) : Calls Tryz.prog 17 #[.pointer (some ⟨bd, 0, none⟩)] W fun e w' => W = w' ∧ e = .returned (.int .i64 (p.d.ops : Int)) := by
  obtain ⟨S1, R1, Q1, l1, sv1, rv1, vs1, mv1, kv1, tv1, hx⟩ := h
  exact disk_ops hx.pm.ld.dk
theorem app_same (p : PS) (b : List UInt8) : (p.app b).struck = p.struck ∧ (p.app b).stop = p.stop ∧ (p.app b).d = (appendP p.d p.l b).1 := by
  unfold PS.app PS.called
  split
  · exact ⟨rfl, rfl, rfl⟩
  · split <;> exact ⟨rfl, rfl, rfl⟩
/-- does, where a record that the law has just made is appended -/
theorem doesB_pg {B : Nat} {W2 : World} (h : PG w1 W bp bd F S p n) (hl : LoF B w1 F S) (hv : PInv p i T) (hi : i ≤ 200) (hT : T ≤ 900000) (hb : p.l.base ≤ 16777216) (hf : Fresh W W2) {A : Option Addr} {m c : Nat} {xs : List UInt8} (hx : Bs W2 A m c xs) (hxb : ∀ a, A = some a → 0 < m → (W.heap.size ≤ a.block ∨ a.block < B) ∧ a.block < W2.heap.size) :
    Calls Tryz.prog 12 #[.pointer (some ⟨bp, 0, none⟩), .agg #[.int .i64 0, .int .i64 0, .int .i64 0, .slice A m c, .slice none 0 0]] W2 fun e w' => e = .returned (.bool true) ∧ PG w1 w' bp bd F S (p.app (xs.take (min m 200))) n := by
  obtain ⟨bl, S1, R1, Q1, l1, sv1, rv1, vs1, cv1, mv1, kv1, tv1, hx1⟩ := h
  have h2 := hx1.fresh hf
  have hlt := hx1.pm.lt
  have hSl := hx1.pm.ld.dk.below
  have hlo := hx1.lo hl
  refine (doesA (N := 0) (K := 0) (CA := none) (cm := 0) (cc := 0) h2.pm hv hi hT hb (Do := 0) (.inl rfl) hx fun a ha h0 => ?_).mono ?_
  · obtain ⟨q1, q2⟩ := hxb a ha h0
    refine ⟨fun e => ?_, fun e => ?_, q2⟩
    · have := hlt _ e; have := hlo _ (.inl e); omega
    · have := hSl _ e; have := hlo _ (.inr e); omega
  · rintro e w' ⟨rfl, hpg⟩
    exact ⟨rfl, PG.trans h2 hpg⟩
set_option maxRecDepth 20000 in
set_option maxHeartbeats 4000000 in
theorem last_any (w : World) (tA : Option Addr) (tc : Nat) (ts : List Int) (h : Ow w 3 1 (.slice tA ts.length tc) ts.length (intsV ts)) (hs : ts.length ≤ 1000000) :
    Calls Tryz.prog 18 #[.slice tA ts.length tc] w fun e w' => e = .returned (.int .i64 (lastI ts)) ∧ w' = w := by
  obtain ⟨m, hm⟩ : ∃ m, m = ts.length := ⟨_, rfl⟩
  obtain ⟨tA', tc', htv, _, _, htA⟩ := h.form
  injection htv with e1 e2 e3
  subst e1 e3
  rw [← hm] at h htA ⊢
  have HTS := Lib.hid h; have HM := Lib.hid hm
  have hmb : m ≤ 1000000 := by omega
  clear h hm hs e2
  go_enter Tryz.func18, Tryz.ntmps18
  go_wp2_with fail
  go_loopw [3, 4] (fun x i wr => ∃ k : Nat, k ≤ m ∧ i = .int .i64 k ∧ wr = w ∧ x = .int .i64 (lastI (ts.take k))) (fun _ i _ => m - (intOf i).toNat)
  case atStart => exact ⟨0, Nat.zero_le _, rfl, rfl, rfl⟩
  case round =>
    obtain ⟨k, hk, rfl, rfl, rfl⟩ := hrel
    by_cases hlt : k < m
    · obtain ⟨g, o, rfl⟩ : ∃ g o, tA = some ⟨g, o, none⟩ := by
        rcases htA with ⟨_, h2, _⟩ | ⟨g, o, e⟩
        · omega
        · exact ⟨g, _, e⟩
      obtain ⟨s, hsk⟩ : ∃ s, ts[k]? = some s := ⟨_, List.getElem?_eq_getElem (by rw [← HM.out]; exact hlt)⟩
      have ck : wr.cell? ⟨g, o + k, none⟩ = some (.int .i64 s) := by
        rw [HTS.out.cell (j := k) (by omega), intsV_get, hsk]
        rfl
      have HSUC := Lib.hid (show lastI (ts.take (k + 1)) = if lastI (ts.take k) < s then s else lastI (ts.take k) by
        rw [List.take_add_one, hsk]
        exact lastI_snoc _ _)
      have hwk : IntKind.i64.wrap ((k : Int) + 1) = (k : Int) + 1 := IntWalk.i64_in _ (by omega)
      obtain ⟨z, hz⟩ : ∃ z, z = lastI (ts.take k) := ⟨_, rfl⟩
      rw [← hz] at HSUC ⊢
      clear hsk htA hz
      by_cases h1 : z < s
      · have h1d : decide (z < s) = true := decide_eq_true h1
        have h2d : decide (s > z) = true := decide_eq_true h1
        go_wp2_with fail
        go_roundw
        case rel => exact ⟨k + 1, by omega, by go_num, by first | rfl | trivial, by rw [HSUC.out, if_pos h1]⟩
        case measure => simp [intOf] <;> omega
      · have h1d : decide (z < s) = false := decide_eq_false h1
        have h2d : decide (s > z) = false := decide_eq_false h1
        go_wp2_with fail
        go_roundw
        case rel => exact ⟨k + 1, by omega, by go_num, by first | rfl | trivial, by rw [HSUC.out, if_neg h1]⟩
        case measure => simp [intOf] <;> omega
    · obtain rfl : k = m := by omega
      have hta : ts.take k = ts := by rw [HM.out, List.take_length]
      have HTA := Lib.hid hta
      clear hta htA
      go_wp2_with fail
      go_ret
      exact ⟨by first | rfl | (rw [HTA.out]; rfl) | exact (congrArg (fun x => Ending.returned (.int .i64 x)) (congrArg lastI HTA.out)), rfl⟩
end
end Go.Proofs.YtlcmnihpfpmajaaGreat
