/- The law KvExact of tillerlaw04: for every list of operations it answers true, and the list reads as it did. No condition beyond the given statement's own. -/
import Derived.Test.YtjehlgblkfofpaaGreatLawXZ
import Derived.Test.YtjehlgblkfofpaaGreatZa41
import Derived.Lib.SmallJoins
namespace Go.Proofs.YtjehlgblkfofpaaGreat
open Go.ChangeShapes Go.WideShapes Go.ChangeAt Go.RowKit
open Go.ChangeMaps (open_string shut_string)
set_option maxRecDepth 100000 in
theorem kvExact_lifted(os:Os)(started:os.Started)(H:Type)(enc:TypeId×Value->H):
  ReturnsInHanded {} Tryz.checked os 6 .any (Rows.kvExactSpec.pre6 enc Tryz.prog Tryz.f6 Rows.kvExactRow.domain false) (Rows.kvExactSpec.post enc Tryz.prog Tryz.f6 false true false false):=by
 refine returnsInHanded_of_change (C:=Tryz.checked) own started (by kernel_rfl) Tryz.func6
  (ChangeSpec.witness6 (enc:=enc) (C:=Tryz.checked) false ⟨#[], #[.slice none 0 0], []⟩ 8 (by kernel_rfl) (by kernel_rfl) (by kernel_rfl) (by kernel_rfl)) ?_
 intro W base args ds gs before hval0 hW hcnd _
 have hval:∀(j:Nat) t v,Tryz.f6.params[j]? =some t->args[j]? =some v->Value.okWide Tryz.prog W .any base t v:=hval0
 have hW':=hW
 obtain⟨p,q,hA0,hV,rfl,hfz,hnd⟩:=hW
 have hA:DataW.TrodAll enc Tryz.prog W 0 (fun _=>true) true Tryz.f6.params.toList args.toList ds p:=hA0
 rw[Tryz.params6]at hA hval
 obtain⟨v0,vs0,d0,ds0,p0,q0,hargs,rfl,rfl,h0,r0⟩:=trodAll_cons hA
 obtain⟨rfl,rfl,rfl⟩:=trodAll_nil r0
 obtain rfl:args= #[v0]:=by cases args;simp_all
 obtain⟨rfl,rfl⟩:=trodVars_none hV
 obtain⟨a0,len0,cap0,rfl⟩:=okWide_slice Tryz.underlying70 (hval 0 70 v0 rfl rfl)
 have k0:=h0
 have lt0:∀x∈p0,x.block<W.heap.size:=by obtain⟨m,hm⟩:=k0;exact DataW.trod_lt m _ _ _ hm
 obtain⟨A0,n0,c0,l0,hcs0,hv0⟩:=(show∃(A:Option Addr) (n c:Nat) (l:List OpK),(Value.slice a0 len0 cap0).cells.toList= [.slice A n c]/\(OpsKt W A n c l) by
  obtain⟨fuel,hf⟩:=h0
  exact open_kops hf)
 simp[Value.cells]at hcs0
 obtain⟨rfl,rfl,rfl⟩:=hcs0
 clear hA0 hval0
 refine(law_exact wakes_any W a0 len0 cap0 l0 hv0).mono fun e W' ⟨he,hf⟩=> ?_
 have bel:=hf.bel
 subst he
 exact⟨_,rfl,_,_,_, [],_, [],hW',trodAll_mk1 (shut_bool Tryz.underlying4 _),(trodAll_cons_mk (Below.trod laidOut (by kernel_rfl) (of_decide_eq_true (by kernel_rfl)) k0 bel lt0) trodAll_mk0),rfl,bel.frame _,fun h=>by cases h⟩
theorem kvExact_over:Rows.kvExactRow.holds Tryz.pinned (OpenSpec.ofChange Rows.kvExactSpec):=
 OpenClaim.holds_of_wide 6 Tryz.f6 rfl rfl rfl rfl rfl rfl rfl ⟨rfl,rfl,rfl,rfl,rfl⟩ rfl rfl rfl rfl rfl (by kernel_rfl) Tryz.func6 (by kernel_rfl)
  (of_decide_eq_true (by kernel_rfl)) (by unfold Func.isWrapper;first | (rw[if_pos (by decide+kernel)];kernel_rfl) | (rw[if_neg (by decide+kernel)];exact⟨rfl,rfl⟩))
  (fun os started H enc _=>kvExact_lifted os started H enc)
theorem kvExact_proved:Rows.KvExactSaid:=kvExact_over
#print axioms kvExact_proved
end Go.Proofs.YtjehlgblkfofpaaGreat
