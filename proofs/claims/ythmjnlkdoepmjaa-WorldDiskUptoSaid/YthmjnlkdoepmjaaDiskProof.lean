/- The law WorldDisk of tillerlaw01: for every list of calls that holds at most 1048576 values it answers true, and the list reads as it did. No condition beyond the given statement's own. -/
import Derived.Test.YthmjnlkdoepmjaaLawDisk
import Derived.Test.YthmjnlkdoepmjaaOpen
import Derived.Test.YthmjnlkdoepmjaaFrame
import Derived.Lib.SmallJoins
import Derived.JoinedCond
namespace Go.Proofs.Ythmjnlkdoepmjaa
open Go.ChangeShapes Go.WideShapes Go.ChangeAt Go.RowKit
open Go.ChangeMaps (open_string shut_string)

set_option maxRecDepth 100000 in
theorem worldDisk_lifted (os : Os) (started : os.Started) (H : Type) (enc : TypeId × Value → H) (F : Stop.Interp) :
    ReturnsInHanded {} Try.checked os 7 .any ((Rows.OpenSpec.upto Rows.worldDiskSpec).pre6 enc Try.prog Try.f7 Rows.worldDiskUptoRow.domain false) (((Rows.OpenSpec.upto Rows.worldDiskSpec).at F).post enc Try.prog Try.f7 false true false false) := by
  refine returnsInHanded_of_cond (C := Try.checked) (s := Rows.OpenSpec.upto Rows.worldDiskSpec) (k := Rows.uptoSmall) rfl own started (by kernel_rfl) Try.func7
    (OpenSpec.witness (enc := enc) (C := Try.checked) (s := Rows.OpenSpec.upto Rows.worldDiskSpec) (k := Rows.uptoSmall) rfl false ⟨#[], #[.slice none 0 0], []⟩ 8 (by kernel_rfl) (by kernel_rfl) (by kernel_rfl)
      (x := ([.nil], [], [])) (by kernel_rfl) rfl (by kernel_rfl)) ?_
  intro W base args ds gs before hval0 hW hcnd hk _
  have hbnd0 := of_decide_eq_true hk
  have hval : ∀ (j : Nat) t v, Try.f7.params[j]? = some t → args[j]? = some v → Value.okWide Try.prog W .any base t v := hval0
  have hW' := hW
  obtain ⟨p, q, hA0, hV, rfl, hfz, hnd⟩ := hW
  have hA : DataW.TrodAll enc Try.prog W 0 (fun _ => true) true Try.f7.params.toList args.toList ds p := hA0
  rw [Try.params7] at hA hval
  obtain ⟨v0, vs0, d0, ds0, p0, q0, hargs, rfl, rfl, h0, r0⟩ := trodAll_cons hA
  obtain ⟨rfl, rfl, rfl⟩ := trodAll_nil r0
  obtain rfl : args = #[v0] := by cases args; simp_all
  obtain ⟨rfl, rfl⟩ := trodVars_none hV
  obtain ⟨a0, len0, cap0, rfl⟩ := okWide_slice Try.underlying47 (hval 0 47 v0 rfl rfl)
  have k0 := h0
  have lt0 : ∀ x ∈ p0, x.block < W.heap.size := by obtain ⟨m, hm⟩ := k0; exact DataW.trod_lt m _ _ _ hm
  have hb0 : Rows.uptoBulk d0 ≤ 1048576 := Nat.le_trans (bulk_mem (by simp)) hbnd0
  obtain ⟨A0, n0, c0, l0, hcs0, hv0⟩ := (show ∃ (A : Option Addr) (n c : Nat) (l : List OpD), (Value.slice a0 len0 cap0).cells.toList = [.slice A n c] ∧ OpsAt W A n c l by
    obtain ⟨fuel, hf⟩ := h0
    exact open_ops hf hb0)
  simp [Value.cells] at hcs0
  obtain ⟨rfl, rfl, rfl⟩ := hcs0
  clear hA0 hval0
  refine (law_disk W a0 len0 cap0 l0 hv0).mono fun e W' ⟨he, hf⟩ => ?_
  have bel := hf.bel
  subst he
  exact ⟨_, rfl, _, _, _, [], _, [], hW', trodAll_mk1 (shut_bool Try.underlying4 _), (trodAll_cons_mk (Below.trod laidOut (by kernel_rfl) (of_decide_eq_true (by kernel_rfl)) k0 bel lt0) trodAll_mk0), rfl, bel.frame _, fun h => by cases h⟩

theorem worldDisk_over : Rows.worldDiskUptoRow.holds Try.pinned (Rows.OpenSpec.upto Rows.worldDiskSpec) :=
  OpenClaim.holds_of_cond 7 Try.f7 rfl rfl rfl rfl rfl rfl rfl ⟨rfl, rfl, rfl, rfl, rfl⟩ rfl rfl rfl rfl rfl (by kernel_rfl) Try.func7 (by kernel_rfl)
    (of_decide_eq_true (by kernel_rfl)) (by unfold Func.isWrapper; first | (rw [if_pos (by decide +kernel)]; kernel_rfl) | (rw [if_neg (by decide +kernel)]; exact ⟨rfl, rfl⟩))
    (fun os started H enc _ F => worldDisk_lifted os started H enc F)

theorem worldDisk_proved : Rows.WorldDiskUptoSaid := worldDisk_over
#print axioms worldDisk_proved
end Go.Proofs.Ythmjnlkdoepmjaa
