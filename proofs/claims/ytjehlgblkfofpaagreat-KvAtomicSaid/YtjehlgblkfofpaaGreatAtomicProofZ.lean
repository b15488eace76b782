/- The law KvAtomic of tillerlaw04: for every Atom it answers true, and it reads as it did. No condition beyond the given statement's own. -/
import Derived.Test.YtjehlgblkfofpaaGreatLawMZ
import Derived.Test.YtjehlgblkfofpaaGreatZa41
import Derived.Lib.SmallJoins
namespace Go.Proofs.YtjehlgblkfofpaaGreat
open Go.ChangeShapes Go.WideShapes Go.ChangeAt Go.RowKit
open Go.ChangeMaps (open_string shut_string)
set_option maxRecDepth 100000 in
theorem kvAtomic_lifted(os:Os)(started:os.Started)(H:Type)(enc:TypeId×Value->H):
  ReturnsInHanded {} Tryz.checked os 3 .any (Rows.kvAtomicSpec.pre6 enc Tryz.prog Tryz.f3 Rows.kvAtomicRow.domain false) (Rows.kvAtomicSpec.post enc Tryz.prog Tryz.f3 false true false false):=by
 refine returnsInHanded_of_change (C:=Tryz.checked) own started (by kernel_rfl) Tryz.func3
  (ChangeSpec.witness6 (enc:=enc) (C:=Tryz.checked) false ⟨#[], #[.agg #[.int .i64 0, .int .i64 0, .int .i64 0, .bool false, .slice none 0 0]], []⟩ 8 (by kernel_rfl) (by kernel_rfl) (by kernel_rfl) (by kernel_rfl)) ?_
 intro W base args ds gs before hval0 hW hcnd _
 have hval:∀(j:Nat) t v,Tryz.f3.params[j]? =some t->args[j]? =some v->Value.okWide Tryz.prog W .any base t v:=hval0
 have hW':=hW
 obtain⟨p,q,hA0,hV,rfl,hfz,hnd⟩:=hW
 have hA:DataW.TrodAll enc Tryz.prog W 0 (fun _=>true) true Tryz.f3.params.toList args.toList ds p:=hA0
 rw[Tryz.params3]at hA hval
 obtain⟨v0,vs0,d0,ds0,p0,q0,hargs,rfl,rfl,h0,r0⟩:=trodAll_cons hA
 obtain⟨rfl,rfl,rfl⟩:=trodAll_nil r0
 obtain rfl:args= #[v0]:=by cases args;simp_all
 obtain⟨rfl,rfl⟩:=trodVars_none hV
 have k0:=h0
 have lt0:∀x∈p0,x.block<W.heap.size:=by obtain⟨m,hm⟩:=k0;exact DataW.trod_lt m _ _ _ hm
 obtain⟨c0,c1,c2,c3,c4,y0,y1,y2,y3,y4,m0,rfl,rfl,rfl,hy0,hy1,hy2,hy3,hy4⟩:=open_agg5 Tryz.underlying24 (by kernel_rfl) (by kernel_rfl) (hval 0 24 v0 rfl rfl) h0
 obtain⟨b0,e0,rfl,_⟩:=DataW.trod_int Tryz.underlying3 hy0
 simp at e0
 subst e0
 obtain⟨b1,e1,rfl,_⟩:=DataW.trod_int Tryz.underlying3 hy1
 simp at e1
 subst e1
 obtain⟨b2,e2,rfl,_⟩:=DataW.trod_int Tryz.underlying3 hy2
 simp at e2
 subst e2
 obtain⟨b3,e3,rfl⟩:=DataW.trod_bool Tryz.underlying4 hy3
 simp at e3
 subst e3
 obtain⟨a4,len4,cap4,z4,e4,s4,_⟩:=open_row Tryz.underlying22 Tryz.underlying3 (by kernel_rfl) hy4
 simp at e4
 subst e4
 clear hA0 hval0
 refine(law_atomic wakes_any W b0 b1 b2 b3 a4 len4 cap4 _ s4.ints.1 s4.ints.2.1 s4.ints.2.2).mono fun e W' ⟨he,hf⟩=> ?_
 have bel:=hf.bel
 subst he
 exact⟨_,rfl,_,_,_, [],_, [],hW',trodAll_mk1 (shut_bool Tryz.underlying4 _),(trodAll_cons_mk (Below.trod laidOut (by kernel_rfl) (of_decide_eq_true (by kernel_rfl)) k0 bel lt0) trodAll_mk0),rfl,bel.frame _,fun h=>by cases h⟩
theorem kvAtomic_over:Rows.kvAtomicRow.holds Tryz.pinned (OpenSpec.ofChange Rows.kvAtomicSpec):=
 OpenClaim.holds_of_wide 3 Tryz.f3 rfl rfl rfl rfl rfl rfl rfl ⟨rfl,rfl,rfl,rfl,rfl⟩ rfl rfl rfl rfl rfl (by kernel_rfl) Tryz.func3 (by kernel_rfl)
  (of_decide_eq_true (by kernel_rfl)) (by unfold Func.isWrapper;first | (rw[if_pos (by decide+kernel)];kernel_rfl) | (rw[if_neg (by decide+kernel)];exact⟨rfl,rfl⟩))
  (fun os started H enc _=>kvAtomic_lifted os started H enc)
theorem kvAtomic_proved:Rows.KvAtomicSaid:=kvAtomic_over
#print axioms kvAtomic_proved
end Go.Proofs.YtjehlgblkfofpaaGreat
