/- The wal claims' texts, several in one: Mem. Conditions stand with each theorem. -/
import Derived.Test.YtlcmnihpfpmajaaGreatZa18
import Derived.Test.YtlcmnihpfpmajaaGreatZa20
/- A log in memory: its block, its rows of segments and of records. First, Next, Failed, lay, kept, Read, cut. Conditions stand with each. -/
namespace Go.Proofs.YtlcmnihpfpmajaaGreat
open Go.RowKit

theorem Tryz.info91 : (Tryz.prog.info? 91).map (fun i => (i.zero, i.size, i.bytes)) = some (some (.agg #[.int .i64 0, .int .i64 0, .int .i64 0, .int .i64 0, .bool false, .int .i64 0, .int .i64 0, .int .i64 0]), 8, 64) := by kernel_rfl
theorem Tryz.info26 : (Tryz.prog.info? 26).map (fun i => (i.zero, i.size, i.bytes)) = some (some (.slice none 0 0), 1, 24) := by kernel_rfl
/-- a segment's cells -/
def segC (s : Seg) : List Value := [.int .i64 (s.number : Int), .int .i64 (s.ahead : Int), .int .i64 (s.first : Int), .int .i64 (s.next : Int), .bool s.whole, .int .i64 (s.file : Int), .int .i64 (s.size : Int), .int .i64 (s.last : Int)]
theorem segC_len (s : Seg) : (segC s).length = 8 := rfl
def segsC (l : List Seg) : List Value := l.flatMap segC
theorem segsC_one (l : List Seg) : ∀ u ∈ segsC l, u.oneCell' = true := by
  intro u hu
  obtain ⟨s, _, hs⟩ := List.mem_flatMap.1 hu
  simp only [segC, List.mem_cons, List.not_mem_nil, or_false] at hs
  rcases hs with rfl | rfl | rfl | rfl | rfl | rfl | rfl | rfl <;> rfl
theorem segsC_len (l : List Seg) : (segsC l).length = l.length * 8 := flat_length segC 8 segC_len l
theorem segsC_append (a b : List Seg) : segsC (a ++ b) = segsC a ++ segsC b := by simp [segsC]
theorem segsC_drop : ∀ (l : List Seg) (k : Nat), (segsC l).drop (k * 8) = segsC (l.drop k)
  | _, 0 => by simp [segsC]
  | [], k + 1 => by simp [segsC]
  | a :: l, k + 1 => by
    have ih := segsC_drop l k
    unfold segsC at *
    rw [List.drop_succ_cons, List.flatMap_cons, show (k + 1) * 8 = 8 + k * 8 by omega, ← List.drop_drop, List.drop_left' (segC_len a), ih]
/-- records as slices that lie in blocks of R -/
structure RecsOf (w : World) (R : Nat → Prop) (vs : List Value) (rows : List (List UInt8)) : Prop where
  len : vs.length = rows.length
  at_ : ∀ (i : Nat) (b : List UInt8), rows[i]? = some b → ∃ A c, vs[i]? = some (Value.slice A b.length c) ∧ Bs w A b.length c b ∧ ∀ a, A = some a → 0 < b.length → R a.block ∧ a.block < w.heap.size
  one : ∀ u ∈ vs, u.oneCell' = true
theorem RecsOf.touch {w w' : World} {R S : Nat → Prop} {vs : List Value} {rows : List (List UInt8)} (h : RecsOf w R vs rows) (ht : Touch S w w') (hn : ∀ k, R k → ¬ S k) : RecsOf w' R vs rows :=
  ⟨h.len, fun i b hb => by
    obtain ⟨A, c, h1, h2, h3⟩ := h.at_ i b hb
    exact ⟨A, c, h1, h2.touch ht fun a ha h0 => hn _ (h3 a ha h0).1, fun a ha h0 => ⟨(h3 a ha h0).1, Nat.lt_of_lt_of_le (h3 a ha h0).2 ht.size⟩⟩, h.one⟩
theorem RecsOf.weak {w : World} {R R' : Nat → Prop} {vs : List Value} {rows : List (List UInt8)} (h : RecsOf w R vs rows) (hr : ∀ k, R k → R' k) : RecsOf w R' vs rows :=
  ⟨h.len, fun i b hb => by
    obtain ⟨A, c, h1, h2, h3⟩ := h.at_ i b hb
    exact ⟨A, c, h1, h2, fun a ha h0 => ⟨hr _ (h3 a ha h0).1, (h3 a ha h0).2⟩⟩, h.one⟩
theorem nat_wf {n : Nat} (h : n < 9223372036854775808) : (Lit.int .i64 (n : Int)).wf = true := by
  simp only [Lit.wf, Bool.and_eq_true, decide_eq_true_eq]
  have h1 : IntKind.i64.min = -9223372036854775808 := rfl
  have h2 : IntKind.i64.max = 9223372036854775807 := rfl
  omega
theorem more_more {S : Nat → Prop} {w w1 w2 : World} (h1 : w.heap.size ≤ w1.heap.size) (h2 : w1.heap.size ≤ w2.heap.size) : more (more S w w1) w1 w2 = more S w w2 := by
  funext k
  refine propext ⟨?_, ?_⟩
  · rintro ((h | h) | h)
    · exact .inl h
    · exact .inr ⟨h.1, by omega⟩
    · exact .inr ⟨by omega, h.2⟩
  · rintro (h | h)
    · exact .inl (.inl h)
    · by_cases hk : k < w1.heap.size
      · exact .inl (.inr ⟨h.1, hk⟩)
      · exact .inr ⟨by omega, h.2⟩
/-- two calls of the disk, one behind the other -/
theorem Touch.then_ {S : Nat → Prop} {w w1 w2 : World} (h1 : Touch S w w1) (h2 : Touch (more S w w1) w1 w2) : Touch S w w2 :=
  h1.trans h2 fun k hk hm => by
    rcases hm with hm | hm
    · exact hm
    · omega
/-- the blocks that a log writes into -/
def lfoot (bl : Nat) (sv rv : Value) (k : Nat) : Prop := k = bl ∨ sv.ownBlock = some k ∨ rv.ownBlock = some k
/-- a log in memory -/
structure LM (w : World) (bl bd : Nat) (R : Nat → Prop) (l : Lg) (sv rv : Value) (vs : List Value) : Prop where
  blk : Blk w bl 85 #[.pointer (some ⟨bd, 0, none⟩), .int .i64 (l.base : Int), sv, .int .i64 (l.c.first : Int), rv, .bool l.failed, .bool l.dirty]
  segs : Ow w 91 8 sv l.segs.length (segsC l.segs)
  rows : Ow w 26 1 rv l.c.rows.length vs
  recs : RecsOf w R vs l.c.rows
section
variable {w w' : World} {bl bd : Nat} {R : Nat → Prop} {l : Lg} {sv rv : Value} {vs : List Value}
theorem LM.touch {S : Nat → Prop} (h : LM w bl bd R l sv rv vs) (ht : Touch S w w') (hn : ∀ k, lfoot bl sv rv k ∨ R k → ¬ S k) : LM w' bl bd R l sv rv vs :=
  ⟨h.blk.touch ht (hn bl (.inl (.inl rfl))), h.segs.touch ht fun k hk => hn k (.inl (.inr (.inl hk))), h.rows.touch ht fun k hk => hn k (.inl (.inr (.inr hk))), h.recs.touch ht fun k hk => hn k (.inr hk)⟩
theorem LM.fresh (h : LM w bl bd R l sv rv vs) (ht : Fresh w w') : LM w' bl bd R l sv rv vs := h.touch ht fun _ _ => id
theorem LM.lt (h : LM w bl bd R l sv rv vs) : ∀ k, lfoot bl sv rv k → k < w.heap.size := by
  rintro k (rfl | hk | hk)
  · exact h.blk.lt
  · exact h.segs.lt k hk
  · exact h.rows.lt k hk

set_option maxRecDepth 20000 in
theorem first_any (h : LM w bl bd R l sv rv vs) : Calls Tryz.prog 31 #[.pointer (some ⟨bl, 0, none⟩)] w fun e w' => e = .returned (.int .i64 (l.c.first : Int)) ∧ w' = w := by
  have c3 : w.cell? ⟨bl, 3, none⟩ = some (.int .i64 (l.c.first : Int)) := h.blk.cell 3
  clear h
  go_enter Tryz.func31, Tryz.ntmps31
  go_wp2_with fail
  go_ret
  exact ⟨rfl, rfl⟩
set_option maxRecDepth 20000 in
theorem failed_any (h : LM w bl bd R l sv rv vs) : Calls Tryz.prog 40 #[.pointer (some ⟨bl, 0, none⟩)] w fun e w' => e = .returned (.bool l.failed) ∧ w' = w := by
  have c5 : w.cell? ⟨bl, 5, none⟩ = some (.bool l.failed) := h.blk.cell 5
  clear h
  go_enter Tryz.func40, Tryz.ntmps40
  go_wp2_with fail
  go_ret
  exact ⟨rfl, rfl⟩
set_option maxRecDepth 20000 in
theorem next_any (h : LM w bl bd R l sv rv vs) (hb : l.c.next ≤ 1000000000) : Calls Tryz.prog 32 #[.pointer (some ⟨bl, 0, none⟩)] w fun e w' => e = .returned (.int .i64 (l.c.next : Int)) ∧ ∃ q, w' = w.drewN q := by
  have c3 : ∀ q, (w.drewN q).cell? ⟨bl, 3, none⟩ = some (.int .i64 (l.c.first : Int)) := fun _ => h.blk.cell 3
  obtain ⟨A, c, rfl, _⟩ := h.rows.form
  have c4 : ∀ q, (w.drewN q).cell? ⟨bl, 4, none⟩ = some (.slice A l.c.rows.length c) := fun _ => h.blk.cell 4
  have HE := Lib.hid (show (l.c.next : Int) = (l.c.first : Int) + (l.c.rows.length : Int) by unfold Ct.next; omega)
  have hwr : IntKind.i64.wrap ((l.c.first : Int) + (l.c.rows.length : Int)) = (l.c.first : Int) + (l.c.rows.length : Int) := IntWalk.i64_in _ (by unfold Ct.next at hb; omega)
  clear h hb
  go_enter Tryz.func32, Tryz.ntmps32
  go_wp2_with fail
  go_quiet (fail)
  go_wp2_with fail
  go_ret
  exact ⟨by rw [HE.out]; rfl, _, rfl⟩

set_option maxRecDepth 20000 in
set_option maxHeartbeats 1000000 in
theorem lay_any {S : Nat → Prop} {d : Dk} {K : Nat} (h : LM w bl bd R l sv rv vs) (hD : Disk w S bd d) (hs : d.small K) (hK : K ≤ 400000000) (hdis : ∀ k, lfoot bl sv rv k ∨ R k → ¬ S k) {n : Nat} (hn : n < 9223372036854775808) {A : Option Addr} {m c : Nat} {xs : List UInt8} (hx : Bs w A m c xs) (hxb : ∀ a, A = some a → 0 < m → ¬ S a.block ∧ a.block < w.heap.size) (hm : xs.length ≤ 400000000) :
    Calls Tryz.prog 61 #[.pointer (some ⟨bl, 0, none⟩), .int .i64 (n : Int), .slice A m c] w fun e w' => e = .returned (.int .i64 (layP d n xs).2) ∧ Touch S w w' ∧ Disk w' (more S w w') bd (layP d n xs).1 := by
  have hnw := nat_wf hn
  have c0 : w.cell? ⟨bl, 0, none⟩ = some (.pointer (some ⟨bd, 0, none⟩)) := h.blk.cell 0
  have KA := Lib.hid (disk_append hD hs (by omega) hnw hx hxb (by omega))
  have HB := Lib.hid h.blk
  have HS := Lib.hid hs
  have HN := Lib.hid (hdis bl (.inl (.inl rfl)))
  clear h hD hs hx hxb hdis
  have hwc := whyN_cases (d := d) (n := (n : Int)) (by omega)
  unfold layP
  by_cases hw : d.why n = 0
  · rw [if_pos hw]
    rw [hw] at KA
    have KS := Lib.hid (fun (w1 : World) (h : Disk w1 (more S w w1) bd (d.append n xs)) => disk_sync h (append_small HS.out) (by omega) hnw)
    go_enter Tryz.func61, Tryz.ntmps61
    go_wp2_with fail
    refine KA.out.mono ?_
    rintro e w1 ⟨rfl, ht1, hd1⟩
    have c1 : w1.cell? ⟨bl, 0, none⟩ = some (.pointer (some ⟨bd, 0, none⟩)) := (HB.out.touch ht1 HN.out).cell 0
    have HT := Lib.hid ht1
    have KS1 := Lib.hid (KS.out w1 hd1)
    clear ht1 hd1 KA KS c0
    go_wp2_with fail
    refine KS1.out.mono ?_
    rintro e w2 ⟨rfl, ht2, hd2⟩
    have HT2 := Lib.hid (HT.out.then_ ht2)
    rw [more_more HT.out.size ht2.size] at hd2
    have HD2 := Lib.hid hd2
    clear ht2 hd2 KS1
    go_wp2_with fail
    go_ret
    exact ⟨rfl, HT2.out, HD2.out⟩
  · rw [if_neg hw]
    generalize d.why n = y at *
    go_enter Tryz.func61, Tryz.ntmps61
    go_wp2_with fail
    refine KA.out.mono ?_
    rintro e w1 ⟨rfl, ht1, hd1⟩
    have HT := Lib.hid ht1; have HD := Lib.hid hd1
    clear ht1 hd1 KA c0
    go_wp2_with fail
    go_ret
    exact ⟨rfl, HT.out, HD.out⟩
end
end Go.Proofs.YtlcmnihpfpmajaaGreat
