/- The law WalTorn of tillerlaw03: for every Torn it answers true, and it reads as it did. No condition beyond the given statement's own. -/
import Derived.Test.YtlcmnihpfpmajaaGreatLawTZ
import Derived.Test.YtlcmnihpfpmajaaGreatZa50
import Derived.Test.YtlcmnihpfpmajaaGreatOpenTZ
import Derived.Lib.SmallJoins
namespace Go.Proofs.YtlcmnihpfpmajaaGreat
open Go.ChangeShapes Go.WideShapes Go.ChangeAt Go.RowKit
open Go.ChangeMaps (open_string shut_string)

set_option maxRecDepth 100000 in
theorem walTorn_lifted (os : Os) (started : os.Started) (H : Type) (enc : TypeId × Value → H) :
    ReturnsInHanded {} Tryz.checked os 8 .any (Rows.walTornSpec.pre6 enc Tryz.prog Tryz.f8 Rows.walTornRow.domain false) (Rows.walTornSpec.post enc Tryz.prog Tryz.f8 false true false false) := by
  refine returnsInHanded_of_change (C := Tryz.checked) own started (by kernel_rfl) Tryz.func8
    (ChangeSpec.witness6 (enc := enc) (C := Tryz.checked) false ⟨#[], #[.agg #[.slice none 0 0, .slice none 0 0, .int .i64 0, .slice none 0 0]], []⟩ 8 (by kernel_rfl) (by kernel_rfl) (by kernel_rfl) (by kernel_rfl)) ?_
  intro W base args ds gs before hval0 hW hcnd _
  have hval : ∀ (j : Nat) t v, Tryz.f8.params[j]? = some t → args[j]? = some v → Value.okWide Tryz.prog W .any base t v := hval0
  have hW' := hW
  obtain ⟨p, q, hA0, hV, rfl, hfz, hnd⟩ := hW
  have hA : DataW.TrodAll enc Tryz.prog W 0 (fun _ => true) true Tryz.f8.params.toList args.toList ds p := hA0
  rw [Tryz.params8] at hA hval
  obtain ⟨v0, vs0, d0, ds0, p0, q0, hargs, rfl, rfl, h0, r0⟩ := trodAll_cons hA
  obtain ⟨rfl, rfl, rfl⟩ := trodAll_nil r0
  obtain rfl : args = #[v0] := by cases args; simp_all
  obtain ⟨rfl, rfl⟩ := trodVars_none hV
  have k0 := h0
  have lt0 : ∀ x ∈ p0, x.block < W.heap.size := by obtain ⟨m, hm⟩ := k0; exact DataW.trod_lt m _ _ _ hm
  obtain ⟨c0, c1, c2, c3, y0, y1, y2, y3, m0, rfl, rfl, rfl, hy0, hy1, hy2, hy3⟩ := Joins.open_agg4 Tryz.underlying67 (by kernel_rfl) (by kernel_rfl) (hval 0 67 v0 rfl rfl) h0
  obtain ⟨RA, rn, rc, recs, e0, s0⟩ := open_bss hy0
  simp at e0
  subst e0
  obtain ⟨y, e1, _⟩ := open_bsx _ _ _ hy1
  simp [BsD.cells] at e1
  subst e1
  obtain ⟨b2, e2, rfl, _⟩ := DataW.trod_int Tryz.underlying3 hy2
  simp at e2
  subst e2
  obtain ⟨a3, len3, cap3, z3, e3, s3, _⟩ := open_row Tryz.underlying27 Tryz.underlying3 (by kernel_rfl) hy3
  simp at e3
  subst e3
  clear hA0 hval0
  refine (law_torn W RA rn rc recs s0 y.x y.bs y.lt b2 a3 len3 cap3 _ s3.ints.1 s3.ints.2.1 s3.ints.2.2).mono fun e W' ⟨he, hf⟩ => ?_
  have bel := hf.bel
  subst he
  exact ⟨_, rfl, _, _, _, [], _, [], hW', trodAll_mk1 (shut_bool Tryz.underlying4 _), (trodAll_cons_mk (Below.trod laidOut (by kernel_rfl) (of_decide_eq_true (by kernel_rfl)) k0 bel lt0) trodAll_mk0), rfl, bel.frame _, fun h => by cases h⟩

theorem walTorn_over : Rows.walTornRow.holds Tryz.pinned (OpenSpec.ofChange Rows.walTornSpec) :=
  OpenClaim.holds_of_wide 8 Tryz.f8 rfl rfl rfl rfl rfl rfl rfl ⟨rfl, rfl, rfl, rfl, rfl⟩ rfl rfl rfl rfl rfl (by kernel_rfl) Tryz.func8 (by kernel_rfl)
    (of_decide_eq_true (by kernel_rfl)) (by unfold Func.isWrapper; first | (rw [if_pos (by decide +kernel)]; kernel_rfl) | (rw [if_neg (by decide +kernel)]; exact ⟨rfl, rfl⟩))
    (fun os started H enc _ => walTorn_lifted os started H enc)

theorem walTorn_proved : Rows.WalTornSaid := walTorn_over
#print axioms walTorn_proved
end Go.Proofs.YtlcmnihpfpmajaaGreat
