/- The contract of tillerkeep.Ops at two batches of one content. Conditions stand with it. -/
import Derived.Test.YtdfhdanfigpbpaaOpsW
import Derived.Laws.StructEq
namespace Go.Proofs.Ytdfhdanfigpbpaa
open Go.RowKit

theorem neq_op (a b : ByteArray) (g : Bool) (w : World) : (binOp .neq 114 (.agg #[.string a, .string b, .bool g]) (.agg #[.string a, .string b, .bool g])).run Try.prog w = .ok (.bool false) w := by
  have hS : Try.prog.underlying 114 = some (.struct (Try.prog.fieldsOf 114)) := by kernel_rfl
  have hP : Try.prog.stoodInHeld 114 = false := by kernel_rfl
  rw [run_neq_struct, run_equalIn_struct w 9999 114 _ _ hS hP]
  simp only [Program.fieldsOf, Try.underlying114]
  simp [Op.eqFields, go_sem]

set_option maxRecDepth 100000 in
set_option maxHeartbeats 2000000 in
theorem keepops_any (A B : Option Addr) (n c d : Nat) (l : List Dec.Op) (w : World) (ha : Vs w 3 A n c (opsV l)) (hb : Vs w 3 B n d (opsV l)) (hn : n ≤ 3000000000000) :
    Calls Try.prog 37 #[.slice A n c, .slice B n d] w fun e w' => e = .returned (.bool true) ∧ Fresh w w' := by
  have hln : l.length = n := by have := ha.1; rw [opsV_length] at this; omega
  have HA := Lib.hid ha
  have HB := Lib.hid hb
  clear ha hb
  have hnot : ∀ (x : Bool) (w : World), (Op.unary .not (.bool x)).run Try.prog w = .ok (.bool (!x)) w := fun _ _ => rfl
  go_enter Try.func37, Try.ntmps37
  go_wp2_with fail
  go_loopw [5] (fun i wr => ∃ k : Nat, k ≤ n ∧ i = .int .i64 k ∧ ∃ q, wr = w.drewN q) (fun i _ => n - (intOf i).toNat)
  case atStart => exact ⟨0, Nat.zero_le _, rfl, 0, rfl⟩
  case round =>
    obtain ⟨k, hk, rfl, q, rfl⟩ := hrel
    by_cases hlt : k < n
    · obtain ⟨b, off, rfl⟩ := HA.out.at_ (by omega)
      obtain ⟨b', off', rfl⟩ := HB.out.at_ (by omega)
      obtain ⟨o, ho⟩ : ∃ o, l[k]? = some o := ⟨l[k], List.getElem?_eq_getElem (by omega)⟩
      have hk0 : w.cell? ⟨b, off + k * 3, none⟩ = some (.string ⟨o.k.toArray⟩) := HA.out.cellAt (opsV_at ho 0 (by omega))
      have hk1 : w.cell? ⟨b, off + k * 3 + 1, none⟩ = some (.string ⟨o.v.toArray⟩) := HA.out.cellAt (opsV_at ho 1 (by omega))
      have hk2 : w.cell? ⟨b, off + k * 3 + 2, none⟩ = some (.bool o.g) := HA.out.cellAt (opsV_at ho 2 (by omega))
      have hj0 : w.cell? ⟨b', off' + k * 3, none⟩ = some (.string ⟨o.k.toArray⟩) := HB.out.cellAt (opsV_at ho 0 (by omega))
      have hj1 : w.cell? ⟨b', off' + k * 3 + 1, none⟩ = some (.string ⟨o.v.toArray⟩) := HB.out.cellAt (opsV_at ho 1 (by omega))
      have hj2 : w.cell? ⟨b', off' + k * 3 + 2, none⟩ = some (.bool o.g) := HB.out.cellAt (opsV_at ho 2 (by omega))
      have hne : ∀ w, (binOp .neq 114 (.agg #[.string ⟨o.k.toArray⟩, .string ⟨o.v.toArray⟩, .bool o.g]) (.agg #[.string ⟨o.k.toArray⟩, .string ⟨o.v.toArray⟩, .bool o.g])).run Try.prog w = .ok (.bool false) w := fun w => neq_op _ _ _ w
      go_wp2_with fail
      go_quiet (fail)
      go_wp2_with fail
      go_roundw
      case rel => exact ⟨k + 1, by omega, by go_num, _, rfl⟩
      case measure => simp [intOf] <;> omega
    · obtain rfl : k = n := by omega
      go_wp2_with fail
      go_ret
      exact ⟨rfl, (Touch.refl _ w).drewN q⟩
theorem keepops2_any (A B : Option Addr) (n n' c d : Nat) (l : List Dec.Op) (w : World) (ha : Vs w 3 A n c (opsV l)) (hb : Vs w 3 B n' d (opsV l)) (hn : n ≤ 3000000000000) :
    Calls Try.prog 37 #[.slice A n c, .slice B n' d] w fun e w' => e = .returned (.bool true) ∧ Fresh w w' := by
  obtain rfl : n = n' := by have h1 := ha.1; have h2 := hb.1; omega
  exact keepops_any A B n c d l w ha hb hn
end Go.Proofs.Ytdfhdanfigpbpaa
