/- The contract of tillerkeep.State at two states of one content (printed by gen_stak.py). Conditions stand with it. -/
import Derived.Test.YtdfhdanfigpbpaaStaW
import Derived.Laws.StructEq
namespace Go.Proofs.Ytdfhdanfigpbpaa
open Go.RowKit

theorem neq_nd (a b : Int) (g : ByteArray) (w : World) : (binOp .neq 127 (.agg #[.int .i64 a, .int .i64 b, .string g]) (.agg #[.int .i64 a, .int .i64 b, .string g])).run Try.prog w = .ok (.bool false) w := by
  have hS : Try.prog.underlying 127 = some (.struct (Try.prog.fieldsOf 127)) := by kernel_rfl
  have hP : Try.prog.stoodInHeld 127 = false := by kernel_rfl
  rw [run_neq_struct, run_equalIn_struct w 9999 127 _ _ hS hP]
  simp only [Program.fieldsOf, Try.underlying127]
  simp [Op.eqFields, go_sem]
theorem neq_sg (a b : ByteArray) (w : World) : (binOp .neq 129 (.agg #[.string a, .string b]) (.agg #[.string a, .string b])).run Try.prog w = .ok (.bool false) w := by
  have hS : Try.prog.underlying 129 = some (.struct (Try.prog.fieldsOf 129)) := by kernel_rfl
  have hP : Try.prog.stoodInHeld 129 = false := by kernel_rfl
  rw [run_neq_struct, run_equalIn_struct w 9999 129 _ _ hS hP]
  simp only [Program.fieldsOf, Try.underlying129]
  simp [Op.eqFields, go_sem]

set_option maxRecDepth 100000 in
set_option maxHeartbeats 4000000 in
theorem keepsta_any (s : Dec.Sta) (A : Option Addr) (c : Nat) (B : Option Addr) (d : Nat) (A' : Option Addr) (c' : Nat) (B' : Option Addr) (d' : Nat) (w : World) (ha : StaAt w s A c B d) (hb : StaAt w s A' c' B' d') (hn : s.nd.length ≤ 3000000000000) (hm : s.sg.length ≤ 3000000000000) :
    Calls Try.prog 46 #[.agg #[.string ⟨s.df.toArray⟩, .string ⟨s.id.toArray⟩, .string ⟨s.pa.toArray⟩, .string ⟨s.pn.toArray⟩, .int .i64 s.st, .string ⟨s.tx.toArray⟩, .slice A s.nd.length c, .slice B s.sg.length d, .int .i64 s.ev], .agg #[.string ⟨s.df.toArray⟩, .string ⟨s.id.toArray⟩, .string ⟨s.pa.toArray⟩, .string ⟨s.pn.toArray⟩, .int .i64 s.st, .string ⟨s.tx.toArray⟩, .slice A' s.nd.length c', .slice B' s.sg.length d', .int .i64 s.ev]] w fun e w' => e = .returned (.bool true) ∧ Fresh w w' := by
  obtain ⟨w0, hw0⟩ : ∃ w0, w0 = (w.alloc (.cells #[.string ⟨s.df.toArray⟩, .string ⟨s.id.toArray⟩, .string ⟨s.pa.toArray⟩, .string ⟨s.pn.toArray⟩, .int .i64 s.st, .string ⟨s.tx.toArray⟩, .slice A s.nd.length c, .slice B s.sg.length d, .int .i64 s.ev] 67)).alloc (.cells #[.string ⟨s.df.toArray⟩, .string ⟨s.id.toArray⟩, .string ⟨s.pa.toArray⟩, .string ⟨s.pn.toArray⟩, .int .i64 s.st, .string ⟨s.tx.toArray⟩, .slice A' s.nd.length c', .slice B' s.sg.length d', .int .i64 s.ev] 67) := ⟨_, rfl⟩
  have HT0 := Lib.hid (show Fresh w w0 by rw [hw0]; exact ((Touch.refl _ w).alloc _).alloc _)
  have hE1 : Blk w0 w.heap.size 67 #[.string ⟨s.df.toArray⟩, .string ⟨s.id.toArray⟩, .string ⟨s.pa.toArray⟩, .string ⟨s.pn.toArray⟩, .int .i64 s.st, .string ⟨s.tx.toArray⟩, .slice A s.nd.length c, .slice B s.sg.length d, .int .i64 s.ev] := by rw [hw0]; exact (Blk.new w _ _).alloc _
  have hE2 : Blk w0 (w.heap.size + 1) 67 #[.string ⟨s.df.toArray⟩, .string ⟨s.id.toArray⟩, .string ⟨s.pa.toArray⟩, .string ⟨s.pn.toArray⟩, .int .i64 s.st, .string ⟨s.tx.toArray⟩, .slice A' s.nd.length c', .slice B' s.sg.length d', .int .i64 s.ev] := by
    rw [hw0]
    have := Blk.new (w.alloc (.cells #[.string ⟨s.df.toArray⟩, .string ⟨s.id.toArray⟩, .string ⟨s.pa.toArray⟩, .string ⟨s.pn.toArray⟩, .int .i64 s.st, .string ⟨s.tx.toArray⟩, .slice A s.nd.length c, .slice B s.sg.length d, .int .i64 s.ev] 67)) 67 #[.string ⟨s.df.toArray⟩, .string ⟨s.id.toArray⟩, .string ⟨s.pa.toArray⟩, .string ⟨s.pn.toArray⟩, .int .i64 s.st, .string ⟨s.tx.toArray⟩, .slice A' s.nd.length c', .slice B' s.sg.length d', .int .i64 s.ev]
    simpa using this
  have HA := Lib.hid (ha.fresh HT0.out)
  have HB := Lib.hid (hb.fresh HT0.out)
  have HW0 := Lib.hid hw0
  have f0 := hE1.cell 0
  have g0 := hE2.cell 0
  have f1 := hE1.cell 1
  have g1 := hE2.cell 1
  have f2 := hE1.cell 2
  have g2 := hE2.cell 2
  have f3 := hE1.cell 3
  have g3 := hE2.cell 3
  have f4 := hE1.cell 4
  have g4 := hE2.cell 4
  have f5 := hE1.cell 5
  have g5 := hE2.cell 5
  have f6 := hE1.cell 6
  have g6 := hE2.cell 6
  have f7 := hE1.cell 7
  have g7 := hE2.cell 7
  have f8 := hE1.cell 8
  have g8 := hE2.cell 8
  simp only [List.getElem?_toArray, List.getElem?_cons_zero, List.getElem?_cons_succ] at f0 g0 f1 g1 f2 g2 f3 g3 f4 g4 f5 g5 f6 g6 f7 g7 f8 g8
  rw [HW0.out] at f0 g0 f1 g1 f2 g2 f3 g3 f4 g4 f5 g5 f6 g6 f7 g7 f8 g8
  have hnot : ∀ (x : Bool) (w : World), (Op.unary .not (.bool x)).run Try.prog w = .ok (.bool (!x)) w := fun _ _ => rfl
  clear ha hb hw0 hE1 hE2
  go_enter Try.func46, Try.ntmps46
  go_wp2_with fail
  rw [← HW0.out]
  rw [← HW0.out] at f0 g0 f1 g1 f2 g2 f3 g3 f4 g4 f5 g5 f6 g6 f7 g7 f8 g8
  go_loopw [5] (fun i wr => ∃ k : Nat, k ≤ s.nd.length ∧ i = .int .i64 k ∧ ∃ q, wr = w0.drewN q) (fun i _ => s.nd.length - (intOf i).toNat)
  case atStart => exact ⟨0, Nat.zero_le _, rfl, 0, rfl⟩
  case round =>
    obtain ⟨k, hk, rfl, qnd, rfl⟩ := hrel
    by_cases hlt : k < s.nd.length
    · obtain ⟨b, off, rfl⟩ := HA.out.nd.at_ (by omega)
      obtain ⟨b', off', rfl⟩ := HB.out.nd.at_ (by omega)
      obtain ⟨o, ho⟩ : ∃ o, s.nd[k]? = some o := ⟨s.nd[k], List.getElem?_eq_getElem hlt⟩
      have hk0 : w0.cell? ⟨b, off + k * 3, none⟩ = some (.int .i64 o.s) := HA.out.nd.cellAt (ndsV_at ho 0 (by omega))
      have hj0 : w0.cell? ⟨b', off' + k * 3, none⟩ = some (.int .i64 o.s) := HB.out.nd.cellAt (ndsV_at ho 0 (by omega))
      have hk1 : w0.cell? ⟨b, off + k * 3 + 1, none⟩ = some (.int .i64 o.t) := HA.out.nd.cellAt (ndsV_at ho 1 (by omega))
      have hj1 : w0.cell? ⟨b', off' + k * 3 + 1, none⟩ = some (.int .i64 o.t) := HB.out.nd.cellAt (ndsV_at ho 1 (by omega))
      have hk2 : w0.cell? ⟨b, off + k * 3 + 2, none⟩ = some (.string ⟨o.x.toArray⟩) := HA.out.nd.cellAt (ndsV_at ho 2 (by omega))
      have hj2 : w0.cell? ⟨b', off' + k * 3 + 2, none⟩ = some (.string ⟨o.x.toArray⟩) := HB.out.nd.cellAt (ndsV_at ho 2 (by omega))
      have hne : ∀ w, (binOp .neq 127 (.agg #[.int .i64 o.s, .int .i64 o.t, .string ⟨o.x.toArray⟩]) (.agg #[.int .i64 o.s, .int .i64 o.t, .string ⟨o.x.toArray⟩])).run Try.prog w = .ok (.bool false) w := fun w => neq_nd _ _ _ w
      go_wp2_with fail
      go_quiet (fail)
      go_wp2_with fail
      go_roundw
      case rel => exact ⟨k + 1, by omega, by go_num, _, rfl⟩
      case measure => simp [intOf] <;> omega
    · obtain rfl : k = s.nd.length := by omega
      go_wp2_with fail
      go_loopw [6] (fun i wr => ∃ k : Nat, k ≤ s.sg.length ∧ i = .int .i64 k ∧ ∃ q, wr = w0.drewN q) (fun i _ => s.sg.length - (intOf i).toNat)
      case atStart => exact ⟨0, Nat.zero_le _, rfl, _, rfl⟩
      case round =>
        obtain ⟨k, hk, rfl, qsg, rfl⟩ := hrel
        by_cases hlt : k < s.sg.length
        · obtain ⟨b, off, rfl⟩ := HA.out.sg.at_ (by omega)
          obtain ⟨b', off', rfl⟩ := HB.out.sg.at_ (by omega)
          obtain ⟨o, ho⟩ : ∃ o, s.sg[k]? = some o := ⟨s.sg[k], List.getElem?_eq_getElem hlt⟩
          have hk0 : w0.cell? ⟨b, off + k * 2, none⟩ = some (.string ⟨o.n.toArray⟩) := HA.out.sg.cellAt (sgsV_at ho 0 (by omega))
          have hj0 : w0.cell? ⟨b', off' + k * 2, none⟩ = some (.string ⟨o.n.toArray⟩) := HB.out.sg.cellAt (sgsV_at ho 0 (by omega))
          have hk1 : w0.cell? ⟨b, off + k * 2 + 1, none⟩ = some (.string ⟨o.x.toArray⟩) := HA.out.sg.cellAt (sgsV_at ho 1 (by omega))
          have hj1 : w0.cell? ⟨b', off' + k * 2 + 1, none⟩ = some (.string ⟨o.x.toArray⟩) := HB.out.sg.cellAt (sgsV_at ho 1 (by omega))
          have hne : ∀ w, (binOp .neq 129 (.agg #[.string ⟨o.n.toArray⟩, .string ⟨o.x.toArray⟩]) (.agg #[.string ⟨o.n.toArray⟩, .string ⟨o.x.toArray⟩])).run Try.prog w = .ok (.bool false) w := fun w => neq_sg _ _ w
          go_wp2_with fail
          go_quiet (fail)
          go_wp2_with fail
          go_roundw
          case rel => exact ⟨k + 1, by omega, by go_num, _, rfl⟩
          case measure => simp [intOf] <;> omega
        · obtain rfl : k = s.sg.length := by omega
          go_wp2_with fail
          go_ret
          exact ⟨rfl, HT0.out.drewN _⟩
end Go.Proofs.Ytdfhdanfigpbpaa
