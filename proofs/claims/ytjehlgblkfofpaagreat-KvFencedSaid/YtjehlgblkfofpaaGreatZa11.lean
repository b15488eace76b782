/- The claims' texts, several in one: OpsRd, ReadNum, RefW, RefWs, OpsR. Conditions stand with each theorem. -/
import Derived.Test.YtjehlgblkfofpaaGreatZa10
import Derived.Test.YtjehlgblkfofpaaGreatZa09
set_option maxHeartbeats 4000000
set_option maxRecDepth 100000
namespace Go.Proofs.YtjehlgblkfofpaaGreat
open Go.RowKit
theorem Tryz.infoOp:(Tryz.prog.info? 31).map (fun i=>(i.zero,i.size,i.bytes))=some (some (.agg #[.string ⟨#[]⟩, .string ⟨#[]⟩, .bool false]),3,40):=by kernel_rfl
theorem op_go{xs:List UInt8}{p q:Nat}{o:Dec.Op}(h:Dec.op xs p= .ok (o,q))(hp:p<=xs.length):p<q/\q<=xs.length:=by
 obtain⟨ys,he,hd,hq⟩:=Plain.op_dec h
 have hl:=congrArg List.length hd
 simp only[List.length_drop,List.length_append]at hl
 have h1:0<ys.length:=by
  obtain⟨y1,y3,h1,_,rfl⟩:=Plain.cat_inv he
  obtain⟨y0,y2,_,h2,rfl⟩:=Plain.cat_inv h1
  simp only[Enc.flag,Option.some.injEq]at h2
  subst h2
  simp
  omega
 omega
def OpsGood(B:Nat)(xs:List UInt8)(x:Option Addr×Nat×Nat)(q:Nat)(w2:World):Prop:=
 ∃l,Dec.ops xs 0= .ok (l,q)/\VRow w2 31 3 (slV x) l.length (opsV l)/\∀k,(slV x).ownBlock=some k->B<=k
theorem own_none{k:Nat}{B:Nat}(h:(Value.slice none 0 0).ownBlock=some k):B<=k:=by cases h
theorem opsV_snoc(l:List Dec.Op)(o:Dec.Op):opsV (l++ [o])=opsV l++opV o:=by simp[opsV]
theorem ops1_read(be B:Nat)(A:Option Addr)(n c:Nat)(xs:List UInt8)(w:World)(he:Eye w be A n c xs 0)(hB:B<=w.heap.size)(hn:n<=3000000000000):
  Calls Tryz.prog 92 #[.pointer (some ⟨be,0,none⟩)] w (RecG slV be (fun _=>False) A n c xs (fun a=>Dec.ops xs 0= .error a) (OpsGood B xs) w):=by
 have hxl:xs.length=n:=he.2.1.1
 have hbe:=he.1.lt
 have HK:=zh (eplain_any be A n c xs 0 w he)
 have HN:=zh he.2.2.2
 clear he
 go_enter Tryz.func92,Tryz.ntmps92
 go_wp2_with fail
 refine HK.out.mono ?_
 intro e w1 h
 rcases h.cases with⟨a,hr,rfl,ht⟩ | ⟨N,p1,hr,rfl,he,ht⟩
 ·exact⟨rfl, .inl ⟨a,rfl,by unfold Dec.ops Dec.bind;rw[hr],ht.mono fun _ _ h=> .inl h⟩⟩
 have hN0:0<=N:=(Dec.number_ok hr).2.2.2.2.2
 have hN1:N<=4503599627370496:=(Dec.number_ok hr).2.2.2.2.1
 have HR:=zh hr;clear hr h
 have HE1:=zh he;clear he
 have HT1:=zh ht;clear ht
 go_wp2_with fail
 go_loopw [2,6] (fun lv i wr=>∃k:Nat,(k:Int)<=N/\i= .int .i64 k/\∃(lst:List Dec.Op) (p:Nat),lst.length=k/\k<=p/\VRow wr 31 3 lv k (opsV lst)/\(∀j,lv.ownBlock=some j->B<=j/\w.heap.size<=j)/\
   Dec.ops xs 0=Dec.pre lst (Dec.many Dec.op xs (N.toNat-k) p)/\Eye wr be A n c xs p/\Touch (·=be) w wr) (fun _ i _=>N.toNat-(intOf i).toNat)
 case atStart=>
  refine⟨0,by omega,rfl, [],p1,rfl,by omega,VRow.nil_ _ _ _,fun j h=>⟨own_none h,own_none h⟩, ?_,HE1.out,HT1.out⟩
  rw[Dec.pre_nil]
  unfold Dec.ops Dec.bind
  rw[HR.out]
  rfl
 case round=>
  obtain⟨k,hk,rfl,lst,p,hlk,hkp,hvr,hown,hsp,he,ht⟩:=hrel
  have hpn:=he.2.2.1
  have HVR:=zh hvr;clear hvr
  have HOWN:=zh hown;clear hown
  have HSP:=zh hsp;clear hsp
  have HE:=zh he;clear he
  have HT:=zh ht;clear ht
  by_cases hlt:(k:Int)<N
  ·have hm:N.toNat-k=(N.toNat-(k+1))+1:=by omega
   go_wp2_with fail
   refine(etext_any be A n c xs p wr HE.out).mono ?_
   intro e w2 h
   rcases h.cases with⟨a,hr,rfl,ht⟩ | ⟨x1,p2,hr,rfl,he,ht⟩
   ·exact⟨rfl, .inl ⟨a,rfl,by rw[HSP.out,hm];exact Dec.pre_bad (by unfold Dec.op Dec.bind;rw[hr]),(HT.out.trans ht fun _ _ h=>h).mono fun _ _ h=> .inl h⟩⟩
   have HR1:=zh hr
   obtain⟨ob,hob⟩:∃ob,ob=w2.heap.size:=⟨_,rfl⟩
   obtain⟨S2,hS2⟩:∃S2,S2=w2.alloc (.cells #[.string ⟨x1.toArray⟩, .string ⟨#[]⟩, .bool false] 31):=⟨_,rfl⟩
   have HBO2:=zh (show Blk S2 ob 31 #[.string ⟨x1.toArray⟩, .string ⟨#[]⟩, .bool false] by rw[hS2,hob];exact Blk.new _ _ _)
   have HE2:=zh (show Eye S2 be A n c xs p2 by rw[hS2];exact⟨he.1.alloc _,he.2.1.alloc _,he.2.2.1,he.2.2.2⟩)
   have HTR2:=zh (show Touch (·=be) wr S2 by rw[hS2];exact ht.alloc _)
   have HT2:=zh (show Touch (·=be) w S2 from HT.out.trans HTR2.out fun _ _ h=>h)
   have hobw:wr.heap.size<=ob:=by rw[hob];exact ht.size
   have hobe:ob≠be:=by have:=HE.out.1.lt;omega
   have hnb:∀j,u2.ownBlock=some j->¬(j=be):=fun j hj e=>HVR.out.ne_blk HE.out.1 (by decide) (by rw[hj,e])
   have HNB:=zh hnb
   have hww:w.heap.size<=wr.heap.size:=HT.out.size
   have HOB:=zh hob
   have HS2:=zh hS2
   clear hr h he ht hnb hS2 hob
   go_wp2_with fail
   rw[<- HS2.out,<- HOB.out]
   refine(eflag_any be A n c xs p2 S2 HE2.out).mono ?_
   intro e w3 h
   rcases h.cases with⟨a,hr,rfl,ht⟩ | ⟨g,p3,hr,rfl,he,ht⟩
   ·exact⟨rfl, .inl ⟨a,rfl,by rw[HSP.out,hm];exact Dec.pre_bad (by unfold Dec.op Dec.bind;simp only[HR1.out];simp only[hr]),(HT2.out.trans ht fun _ _ h=>h).mono fun _ _ h=> .inl h⟩⟩
   have HR2:=zh hr
   have hbo:=HBO2.out.touch ht hobe
   have hc2:=hbo.cell 2
   have hf2:=hbo.frozen 2
   simp only[List.getElem?_toArray,List.getElem?_cons_zero,List.getElem?_cons_succ]at hc2
   obtain⟨S3,hS3⟩:∃S3,S3=w3.setCell ⟨ob,2,none⟩ (.bool g):=⟨_,rfl⟩
   have HBO3:=zh (show Blk S3 ob 31 #[.string ⟨x1.toArray⟩, .string ⟨#[]⟩, .bool g] by rw[hS3];exact hbo.set_ 2 (.bool g))
   have HSTEP:Hid (∀(wa:World) (i:Nat) (u:Value) (q:Nat),Eye wa be A n c xs q->Eye (wa.setCell ⟨ob,i,none⟩ u) be A n c xs q):=zh (by
    intro wa i u q h
    refine⟨h.1.far (p:=⟨ob,i,none⟩) (fun e=>hobe e.symm) _,h.2.1.keep fun h0 p v hp ⟨a,ha,e⟩=> ?_,h.2.2.1,h.2.2.2⟩
    have:=HN.out a ha h0
    rw[World.cell?_setCell_other _ _ _ _ (by intro h9;rw[<- h9]at e;simp at e;omega)]
    exact hp)
   have HE3:=zh (show Eye S3 be A n c xs p3 by rw[hS3];exact HSTEP.out _ _ _ _ he)
   have HTR3:=zh (show Touch (·=be) wr S3 by rw[hS3];exact(HTR2.out.trans ht fun _ _ h=>h).setCell (p:=⟨ob,2,none⟩) (.inl hobw) _)
   have HT3:=zh (show Touch (·=be) w S3 from HT.out.trans HTR3.out fun _ _ h=>h)
   have HS3:=zh hS3
   clear hr h he ht hbo hS3
   obtain⟨ii,hi,hz,hi3,hi40⟩:=info_parts Tryz.infoOp
   have hc3:=HBO3.out.cell 2
   simp only[List.getElem?_toArray,List.getElem?_cons_zero,List.getElem?_cons_succ]at hc3
   rw[HS3.out]at hc3
   cases hg:g with
   | true=>
    subst hg
    have hd0:=HBO3.out.cell 0
    have hd1:=HBO3.out.cell 1
    have hd2:=HBO3.out.cell 2
    simp only[List.getElem?_toArray,List.getElem?_cons_zero,List.getElem?_cons_succ]at hd0 hd1 hd2
    rw[HS3.out]at hd0 hd1 hd2
    have HVR2:=zh (show VRow ((w3.setCell ⟨ob,2,none⟩ (.bool true)).alloc (.cells #[.string ⟨x1.toArray⟩, .string ⟨#[]⟩, .bool true] 31)) 31 3 u2 k (opsV lst) from by
     rw[<- HS3.out]
     exact(HVR.out.touch HTR3.out (fun j hj=>HNB.out j hj)).alloc _)
    have HNC:Hid (∀j u, [.string ⟨x1.toArray⟩, .string ⟨#[]⟩, .bool true][j]? =some u->((w3.setCell ⟨ob,2,none⟩ (.bool true)).alloc (.cells #[.string ⟨x1.toArray⟩, .string ⟨#[]⟩, .bool true] 31)).cell? ((⟨w3.heap.size,0,none⟩:Addr).add j)=some u):=zh (by
     have h:=new_cells (w3.setCell ⟨ob,2,none⟩ (.bool true)) 31 [.string ⟨x1.toArray⟩, .string ⟨#[]⟩, .bool true]
     rw[show (w3.setCell ⟨ob,2,none⟩ (.bool true)).heap.size=w3.heap.size from by simp]at h
     exact h)
    have HSP2:=zh (show Dec.ops xs 0=Dec.pre (lst++ [⟨x1, [],true⟩]) (Dec.many Dec.op xs (N.toNat-(k+1)) p3) from HSP.out.trans (by rw[hm];exact Dec.pre_step (show Dec.op xs p= .ok (⟨x1, [],true⟩,p3) by unfold Dec.op Dec.bind;simp only[HR1.out];simp only[HR2.out];rfl)))
    have hgo:=op_go (show Dec.op xs p= .ok (⟨x1, [],true⟩,p3) by unfold Dec.op Dec.bind;simp only[HR1.out];simp only[HR2.out];rfl) (by rw[hxl];exact hpn)
    have hsz:w.heap.size<=w3.heap.size:=by have h:=HT3.out.size;rw[HS3.out]at h;simpa using h
    go_wp2_with (at_builtin;(refine wpList_append_lies _ rfl _ _ 28 rfl 0 31 ii (.agg #[.string ⟨#[]⟩, .string ⟨#[]⟩, .bool false]) 3 40 Tryz.underlying28 hi hz hi3 hi40 rfl (by decide) u2 k (opsV lst) rfl HVR2.out ⟨w3.heap.size,0,none⟩ 1 1 [.string ⟨x1.toArray⟩, .string ⟨#[]⟩, .bool true] rfl rfl HNC.out (by intro u hu;simp only[List.mem_cons,List.not_mem_nil,or_false]at hu;rcases hu with rfl | rfl | rfl<;>rfl) (by omega) (by unfold maxLen;omega) (by omega) (Nat.zero_le _) _ rfl ?_);intro g9 c9 w9 hr9 hg9 ho9 hl9)
    have hend9:Eye w9 be A n c xs p3/\Touch (·=be) w w9:=by
     rw[<- HS3.out]at hg9
     have h1:Touch (·=be) w (S3.alloc (.cells #[.string ⟨x1.toArray⟩, .string ⟨#[]⟩, .bool true] 31)):=HT3.out.alloc _
     have h2:Eye (S3.alloc (.cells #[.string ⟨x1.toArray⟩, .string ⟨#[]⟩, .bool true] 31)) be A n c xs p3:=⟨HE3.out.1.alloc _,HE3.out.2.1.alloc _,HE3.out.2.2.1,HE3.out.2.2.2⟩
     refine⟨⟨h2.1.grown hg9 (fun e=>HNB.out be e.symm rfl), ?_,h2.2.2.1,h2.2.2.2⟩,h1.grown hg9 (fun j hj=> .inl (HOWN.out j hj).2)⟩
     refine h2.2.1.keep fun h0 p v hp ⟨a,ha,e⟩=> ?_
     have h4:=HN.out a ha h0
     have h6:a.block<w.heap.size:=by omega
     refine(World.cell?_of_block (hg9.block p.block ?_ ?_)).trans hp
     ·rw[e]
      exact Nat.lt_of_lt_of_le h6 h1.size
     ·intro e5
      rw[e]at e5
      have:=(HOWN.out _ e5.symm).2
      omega
    have hown9:∀j,(Value.slice (some ⟨g9,0,none⟩) (k+1) c9).ownBlock=some j->B<=j/\w.heap.size<=j:=by
     intro j hj
     have hj':g9=j:=by simpa [Value.ownBlock] using hj
     subst hj'
     rcases ho9 with h | h
     ·exact HOWN.out _ h
     ·have:w.heap.size<=g9:=by rw[h];simp;omega
      exact⟨by omega,this⟩
    have HEND9:=zh hend9
    have HOWN9:=zh hown9
    have HR9:=zh (show VRow w9 31 3 (.slice (some ⟨g9,0,none⟩) (k+1) c9) (k+1) (opsV (lst++ [⟨x1, [],true⟩])) from by rw[opsV_snoc];exact hr9)
    clear hend9 hown9 hr9 hg9 ho9 hl9
    go_roundw
    case rel=>exact⟨k+1,by omega,by go_num,lst++ [⟨x1, [],true⟩],p3,by simp[hlk],by omega,HR9.out,HOWN9.out,HSP2.out,HEND9.out.1,HEND9.out.2⟩
    case measure=>simp[intOf]<;>omega
   | false=>
    subst hg
    go_wp2_with fail
    rw[<- HS3.out]
    refine(etext_any be A n c xs p3 S3 HE3.out).mono ?_
    intro e w4 h
    rcases h.cases with⟨a,hr,rfl,ht⟩ | ⟨x2,p4,hr,rfl,he,ht⟩
    ·exact⟨rfl, .inl ⟨a,rfl,by rw[HSP.out,hm];exact Dec.pre_bad (by unfold Dec.op Dec.bind;simp only[HR1.out];simp only[HR2.out];simp only[hr];rfl),(HT3.out.trans ht fun _ _ h=>h).mono fun _ _ h=> .inl h⟩⟩
    have HR3:=zh hr
    have hbo:=HBO3.out.touch ht hobe
    have hc1:=hbo.cell 1
    have hf1:=hbo.frozen 1
    simp only[List.getElem?_toArray,List.getElem?_cons_zero,List.getElem?_cons_succ]at hc1
    obtain⟨S4,hS4⟩:∃S4,S4=w4.setCell ⟨ob,1,none⟩ (.string ⟨x2.toArray⟩):=⟨_,rfl⟩
    have HBO4:=zh (show Blk S4 ob 31 #[.string ⟨x1.toArray⟩, .string ⟨x2.toArray⟩, .bool false] by rw[hS4];exact hbo.set_ 1 (.string ⟨x2.toArray⟩))
    have HE4:=zh (show Eye S4 be A n c xs p4 by rw[hS4];exact HSTEP.out _ _ _ _ he)
    have HTR4:=zh (show Touch (·=be) wr S4 by rw[hS4];exact(HTR3.out.trans ht fun _ _ h=>h).setCell (p:=⟨ob,1,none⟩) (.inl hobw) _)
    have HT4:=zh (show Touch (·=be) w S4 from HT.out.trans HTR4.out fun _ _ h=>h)
    have HS4:=zh hS4
    clear hr h he ht hbo hS4
    have hd0:=HBO4.out.cell 0
    have hd1:=HBO4.out.cell 1
    have hd2:=HBO4.out.cell 2
    simp only[List.getElem?_toArray,List.getElem?_cons_zero,List.getElem?_cons_succ]at hd0 hd1 hd2
    rw[HS4.out]at hd0 hd1 hd2
    have HVR2:=zh (show VRow ((w4.setCell ⟨ob,1,none⟩ (.string ⟨x2.toArray⟩)).alloc (.cells #[.string ⟨x1.toArray⟩, .string ⟨x2.toArray⟩, .bool false] 31)) 31 3 u2 k (opsV lst) from by
     rw[<- HS4.out]
     exact(HVR.out.touch HTR4.out (fun j hj=>HNB.out j hj)).alloc _)
    have HNC:Hid (∀j u, [.string ⟨x1.toArray⟩, .string ⟨x2.toArray⟩, .bool false][j]? =some u->((w4.setCell ⟨ob,1,none⟩ (.string ⟨x2.toArray⟩)).alloc (.cells #[.string ⟨x1.toArray⟩, .string ⟨x2.toArray⟩, .bool false] 31)).cell? ((⟨w4.heap.size,0,none⟩:Addr).add j)=some u):=zh (by
     have h:=new_cells (w4.setCell ⟨ob,1,none⟩ (.string ⟨x2.toArray⟩)) 31 [.string ⟨x1.toArray⟩, .string ⟨x2.toArray⟩, .bool false]
     rw[show (w4.setCell ⟨ob,1,none⟩ (.string ⟨x2.toArray⟩)).heap.size=w4.heap.size from by simp]at h
     exact h)
    have HSP2:=zh (show Dec.ops xs 0=Dec.pre (lst++ [⟨x1,x2,false⟩]) (Dec.many Dec.op xs (N.toNat-(k+1)) p4) from HSP.out.trans (by rw[hm];exact Dec.pre_step (show Dec.op xs p= .ok (⟨x1,x2,false⟩,p4) by unfold Dec.op Dec.bind;simp only[HR1.out];simp only[HR2.out];simp only[HR3.out];rfl)))
    have hgo:=op_go (show Dec.op xs p= .ok (⟨x1,x2,false⟩,p4) by unfold Dec.op Dec.bind;simp only[HR1.out];simp only[HR2.out];simp only[HR3.out];rfl) (by rw[hxl];exact hpn)
    have hsz:w.heap.size<=w4.heap.size:=by have h:=HT4.out.size;rw[HS4.out]at h;simpa using h
    go_wp2_with (at_builtin;(refine wpList_append_lies _ rfl _ _ 28 rfl 0 31 ii (.agg #[.string ⟨#[]⟩, .string ⟨#[]⟩, .bool false]) 3 40 Tryz.underlying28 hi hz hi3 hi40 rfl (by decide) u2 k (opsV lst) rfl HVR2.out ⟨w4.heap.size,0,none⟩ 1 1 [.string ⟨x1.toArray⟩, .string ⟨x2.toArray⟩, .bool false] rfl rfl HNC.out (by intro u hu;simp only[List.mem_cons,List.not_mem_nil,or_false]at hu;rcases hu with rfl | rfl | rfl<;>rfl) (by omega) (by unfold maxLen;omega) (by omega) (Nat.zero_le _) _ rfl ?_);intro g9 c9 w9 hr9 hg9 ho9 hl9)
    have hend9:Eye w9 be A n c xs p4/\Touch (·=be) w w9:=by
     rw[<- HS4.out]at hg9
     have h1:Touch (·=be) w (S4.alloc (.cells #[.string ⟨x1.toArray⟩, .string ⟨x2.toArray⟩, .bool false] 31)):=HT4.out.alloc _
     have h2:Eye (S4.alloc (.cells #[.string ⟨x1.toArray⟩, .string ⟨x2.toArray⟩, .bool false] 31)) be A n c xs p4:=⟨HE4.out.1.alloc _,HE4.out.2.1.alloc _,HE4.out.2.2.1,HE4.out.2.2.2⟩
     refine⟨⟨h2.1.grown hg9 (fun e=>HNB.out be e.symm rfl), ?_,h2.2.2.1,h2.2.2.2⟩,h1.grown hg9 (fun j hj=> .inl (HOWN.out j hj).2)⟩
     refine h2.2.1.keep fun h0 p v hp ⟨a,ha,e⟩=> ?_
     have h4:=HN.out a ha h0
     have h6:a.block<w.heap.size:=by omega
     refine(World.cell?_of_block (hg9.block p.block ?_ ?_)).trans hp
     ·rw[e]
      exact Nat.lt_of_lt_of_le h6 h1.size
     ·intro e5
      rw[e]at e5
      have:=(HOWN.out _ e5.symm).2
      omega
    have hown9:∀j,(Value.slice (some ⟨g9,0,none⟩) (k+1) c9).ownBlock=some j->B<=j/\w.heap.size<=j:=by
     intro j hj
     have hj':g9=j:=by simpa [Value.ownBlock] using hj
     subst hj'
     rcases ho9 with h | h
     ·exact HOWN.out _ h
     ·have:w.heap.size<=g9:=by rw[h];simp;omega
      exact⟨by omega,this⟩
    have HEND9:=zh hend9
    have HOWN9:=zh hown9
    have HR9:=zh (show VRow w9 31 3 (.slice (some ⟨g9,0,none⟩) (k+1) c9) (k+1) (opsV (lst++ [⟨x1,x2,false⟩])) from by rw[opsV_snoc];exact hr9)
    clear hend9 hown9 hr9 hg9 ho9 hl9
    go_roundw
    case rel=>exact⟨k+1,by omega,by go_num,lst++ [⟨x1,x2,false⟩],p4,by simp[hlk],by omega,HR9.out,HOWN9.out,HSP2.out,HEND9.out.1,HEND9.out.2⟩
    case measure=>simp[intOf]<;>omega
  ·obtain rfl:(k:Int)=N:=by omega
   obtain⟨A',c',rfl,_⟩:=HVR.out.form
   go_wp2_with fail
   refine bodyPost_ret (v:= .slice A' k c') (by simp[results,Tryz.results92,go_sem]) rfl ?_
   have h0:((k:Int).toNat-k)=0:=by omega
   have hfin:=HSP.out
   rw[h0,Dec.pre_done]at hfin
   exact .inr ⟨(A',k,c'),p,rfl,⟨lst,hfin,by rw[hlk];exact HVR.out,fun j hj=>(HOWN.out j hj).1⟩,HE.out,HT.out.mono fun _ _ h=> .inl h⟩
def OpsEnd(w:World)(r:Except Nat (List Dec.Op))(e:Ending)(w':World):Prop:=
 Fresh w w'/\match r with
 | .ok l=>∃A c,e= .returned (.tuple #[.slice A l.length c, .int .i64 0, .int .i64 0])/\VRow w' 31 3 (.slice A l.length c) l.length (opsV l)/\∀k,(Value.slice A l.length c).ownBlock=some k->w.heap.size<=k
 | .error a=>e= .returned (.tuple #[.slice none 0 0, .int .i64 (a:Nat), .int .i64 2])
theorem OpsEnd.cases{w:World}{r:Except Nat (List Dec.Op)}{e:Ending}{w':World}(h:OpsEnd w r e w'):
  (∃a,r= .error a/\e= .returned (.tuple #[.slice none 0 0, .int .i64 a, .int .i64 2])/\Fresh w w')\/
  (∃l A c,r= .ok l/\e= .returned (.tuple #[.slice A l.length c, .int .i64 0, .int .i64 0])/\VRow w' 31 3 (.slice A l.length c) l.length (opsV l)/\(∀k,(Value.slice A l.length c).ownBlock=some k->w.heap.size<=k)/\Fresh w w'):=by
 cases r with
 | error a=>exact .inl ⟨a,rfl,h.2,h.1⟩
 | ok l=>
  obtain⟨ht,A,c,h1,h2,h3⟩:=h
  exact .inr ⟨l,A,c,rfl,h1,h2,h3,ht⟩
theorem OpsEnd.bad{w w':World}{r:Except Nat (List Dec.Op)}{a:Nat}(hr:r= .error a)(h:Fresh w w'):OpsEnd w r (.returned (.tuple #[.slice none 0 0, .int .i64 a, .int .i64 2])) w':=hr ▸ ⟨h,rfl⟩
theorem OpsEnd.good{w w':World}{r:Except Nat (List Dec.Op)}{l:List Dec.Op}{A:Option Addr}{m c:Nat}(hr:r= .ok l)(hm:m=l.length)(h1:VRow w' 31 3 (.slice A m c) m (opsV l))(h2:∀k,(Value.slice A m c).ownBlock=some k->w.heap.size<=k)(h:Fresh w w'):
  OpsEnd w r (.returned (.tuple #[.slice A m c, .int .i64 0, .int .i64 0])) w':=by subst hm;exact hr ▸ ⟨h,A,c,rfl,h1,h2⟩
theorem ops_read(A:Option Addr)(n c:Nat)(xs:List UInt8)(w:World)(hbs:Bs w A n c xs)(hA:∀a,A=some a->0<n->a.block<w.heap.size)(hn:n<=3000000000000):
  Calls Tryz.prog 53 #[.slice A n c] w (OpsEnd w (Dec.whole (Dec.ops xs 0) n)):=by
 have HK:=zh (record_ops_g 92 #[] (fun _=>False) A n c xs (fun a=>Dec.ops xs 0= .error a) (OpsGood (w.heap.size+1+1+1) xs) w hbs hA
  (fun k hk=>hk.elim) (fun args w=>by simp[go_sem]) (fun x q w2 w3 _ ⟨l,h1,h2,h3⟩ ht=>⟨l,h1,h2.touch ht (fun k hk=>by have:=h3 k hk;omega),h3⟩)
  (fun w1 be hf hbe he=>by simpa using ops1_read be (w.heap.size+1+1+1) A n c xs w1 he (by have:=he.1.lt;omega) hn))
 clear hbs hA
 go_enter Tryz.func53,Tryz.ntmps53
 go_wp2_with fail
 refine HK.out.mono ?_
 rintro e w1 ⟨ht,h⟩
 have HT:=zh (show Fresh w w1 from ht)
 rcases h with⟨a,hbad,rfl⟩ | ⟨x,q,w2,⟨l,hl,hvr,hown⟩,h⟩
 ·have HE:=zh (show OpsEnd w (Dec.whole (Dec.ops xs 0) n) (.returned (.tuple #[.slice none 0 0, .int .i64 a, .int .i64 2])) w1 from OpsEnd.bad (by unfold Dec.whole;simp only[hbad]) HT.out)
  clear hbad
  go_wp2_with fail
  exact bodyPost_ret (v:= .tuple #[.slice none 0 0, .int .i64 a, .int .i64 2]) (by simp[results,Tryz.results53,go_sem]) rfl HE.out
 ·rcases h with⟨hq,rfl⟩ | ⟨hq,rfl,rfl⟩
  ·have HE:=zh (show OpsEnd w (Dec.whole (Dec.ops xs 0) n) (.returned (.tuple #[.slice none 0 0, .int .i64 q, .int .i64 2])) w1 from OpsEnd.bad (by rw[hl];exact if_pos hq) HT.out)
   clear hl hvr hown
   go_wp2_with fail
   exact bodyPost_ret (v:= .tuple #[.slice none 0 0, .int .i64 q, .int .i64 2]) (by simp[results,Tryz.results53,go_sem]) rfl HE.out
  ·obtain⟨A',m',c'⟩:=x
   have hm:m'=l.length:=by
    obtain⟨A2,c2,e2,_⟩:=hvr.form
    injection e2
   subst hm
   have HE:=zh (show OpsEnd w (Dec.whole (Dec.ops xs 0) n) (.returned (.tuple #[.slice A' l.length c', .int .i64 0, .int .i64 0])) w2 from OpsEnd.good (by rw[hl];exact if_neg (by omega)) rfl hvr (fun k hk=>by have:=hown k hk;omega) HT.out)
   clear hl hvr hown
   unfold slV
   go_wp2_with fail
   exact bodyPost_ret (v:= .tuple #[.slice A' l.length c', .int .i64 0, .int .i64 0]) (by simp[results,Tryz.results53,go_sem]) rfl HE.out
def NumEnd(w:World)(r:Dec.Rd Int)(e:Ending)(w':World):Prop:=
 Fresh w w'/\match r with
 | .error a=>e= .returned (.tuple #[.int .i64 0, .int .i64 (a:Nat), .int .i64 2])
 | .ok (x,s)=>e= .returned (.tuple #[.int .i64 x, .int .i64 (s:Nat), .int .i64 0])
def numBad(xs:List UInt8)(a:Nat):Prop:=Dec.plain xs 0= .error a
def numGood(xs:List UInt8)(n g:Nat)(x:Int)(q:Nat)(w2:World):Prop:=q=n/\∃s:Nat,Dec.plain xs 0= .ok (x,s)/\Blk w2 g 3 #[.int .i64 s]
theorem readnum1_any(be g:Nat)(A:Option Addr)(n c:Nat)(xs:List UInt8)(v0:Value)(w:World)(he:Eye w be A n c xs 0)(hg:Blk w g 3 #[v0])(hAg:∀a,A=some a->0<n->a.block<g):
  Calls Tryz.prog 97 #[.pointer (some ⟨be,0,none⟩), .pointer (some ⟨g,0,none⟩)] w (RecG intV be (·=g) A n c xs (numBad xs) (numGood xs n g) w):=by
 have HK:=zh (eplain_any be A n c xs 0 w he)
 have hne:be≠g:=he.1.ne_ hg (by decide)
 have HG:=zh hg
 have hm:=he.2.1.2.2.1
 have hnc:=he.2.1.2.1
 unfold maxLen at hm
 have HAB:=zh he.2.2.2
 have HAG:=zh hAg
 clear he hg hAg
 go_enter Tryz.func97,Tryz.ntmps97
 go_wp2_with fail
 refine HK.out.mono ?_
 intro e w1 h
 rcases h.cases with⟨a,hr,rfl,ht⟩ | ⟨x,p,hr,rfl,he,ht⟩
 ·exact⟨rfl, .inl ⟨a,rfl,hr,ht.mono (fun _ _ h=> .inl h)⟩⟩
 ·have hb:=he.1
  have hg1:=HG.out.touch ht (fun h=>hne h.symm)
  have hc0:=hb.cell 0
  have hc1:=hb.cell 1
  have hf1:=hb.frozen 1
  have hcg:=hg1.cell 0
  have hfg:=hg1.frozen 0
  simp only[List.getElem?_toArray,List.getElem?_cons_zero,List.getElem?_cons_succ]at hc0 hc1 hcg
  obtain⟨W,hW⟩:∃W,W=(w1.setCell ⟨g,0,none⟩ (.int .i64 p)).setCell ⟨be,1,none⟩ (.int .i64 n):=⟨_,rfl⟩
  have hT:Touch (fun k=>k=be\/k=g) w W:=by
   rw[hW]
   exact((ht.mono (fun _ _ h=> .inl h)).setCell (p:=⟨g,0,none⟩) (.inr (.inr rfl)) _).setCell (p:=⟨be,1,none⟩) (.inr (.inl rfl)) _
  have hGW:Blk W g 3 #[.int .i64 p]:=by
   rw[hW]
   exact(hg1.set_ 0 (.int .i64 p)).far (p:=⟨be,1,none⟩) (fun h=>hne h.symm) (.int .i64 n)
  have hEW:Eye W be A n c xs n:=by
   refine⟨?_, ?_,Nat.le_refl _,HAB.out⟩
   ·rw[hW]
    exact(hb.far (p:=⟨g,0,none⟩) hne (.int .i64 p)).set_ 1 (.int .i64 n)
   ·rw[hW]
    exact(he.2.1.touch ((Touch.refl (fun k=>k=be\/k=g) w1).setCell (p:=⟨g,0,none⟩) (.inr (.inr rfl)) (.int .i64 p) |>.setCell (p:=⟨be,1,none⟩) (.inr (.inl rfl)) (.int .i64 n)) (fun a ha h0 h=>by
     have h1:=HAB.out a ha h0
     have h2:=HAG.out a ha h0
     omega))
  have HR:=zh hr
  have HT:=zh hT;have HGW:=zh hGW;have HEW:=zh hEW;have HW:=zh hW
  clear hr h he ht hb hg1 hT hGW hEW hW
  go_wp2_with fail
  rw[<- HW.out]
  go_ret
  exact .inr ⟨x,n,rfl,⟨rfl,p,HR.out,HGW.out⟩,HEW.out,HT.out⟩
theorem readnum_any(A:Option Addr)(n c:Nat)(xs:List UInt8)(w:World)(hbs:Bs w A n c xs)(hA:∀a,A=some a->0<n->a.block<w.heap.size):
  Calls Tryz.prog 54 #[.slice A n c] w (NumEnd w (Dec.plain xs 0)):=by
 obtain⟨w0,hw0⟩:∃w0,w0=w.alloc (.cells #[.int .i64 0] 3):=⟨_,rfl⟩
 have hT0:Fresh w w0:=by rw[hw0];exact(Touch.refl _ w).alloc _
 have hB0:Blk w0 w.heap.size 3 #[.int .i64 0]:=by rw[hw0];exact Blk.new _ _ _
 have hsz:w.heap.size<w0.heap.size:=hB0.lt
 have HK:=zh (record_int_g 97 #[.pointer (some ⟨w.heap.size,0,none⟩)] (·=w.heap.size) A n c xs (numBad xs) (numGood xs n w.heap.size) w0 (hbs.fresh hT0) (fun a ha h0=>by have:=hA a ha h0;omega)
  (fun k hk=>by omega) (fun args w=>by simp[go_sem]) (fun x q w2 w3 _ ⟨h1,s,h2,h3⟩ ht=>⟨h1,s,h2,h3.touch ht (by omega)⟩)
  (fun w1 be hf hbe he=>readnum1_any be w.heap.size A n c xs (.int .i64 0) w1 he (hB0.touch hf id) hA))
 have hmf:∀(fn:Fn) (first cap:Array Value) (w:World),(Instr.makeFunc fn first cap).run Tryz.prog w= .ok (.func fn first cap) w:=fun _ _ _ _=>rfl
 have HT0:=zh hT0
 have HW0:=zh hw0
 clear hT0 hw0 hbs hA hB0
 go_enter Tryz.func54,Tryz.ntmps54
 go_wp2_with fail
 rw[<- HW0.out]
 refine HK.out.mono ?_
 rintro e w1 ⟨ht,⟨a,hbad,rfl⟩ | ⟨x,q,w2,⟨hq,s,hr,hb⟩,⟨hlt,rfl⟩ | ⟨hle,hww,rfl⟩⟩⟩
 ·have HF:=zh (HT0.out.trans ht (fun i hi hs=>by omega))
  have HR:=zh hbad
  clear ht hbad
  go_wp2_with fail
  unfold numBad at HR
  refine bodyPost_ret (v:= .tuple #[.int .i64 0, .int .i64 (a:Nat), .int .i64 2]) (by simp[results,Tryz.results54,go_sem]) rfl ⟨HF.out, ?_⟩
  rw[HR.out]
 ·omega
 ·subst hww
  have HF:Hid (Fresh w w2):=zh (HT0.out.trans ht (fun i hi hs=>by omega))
  have HR:=zh hr
  have hc:=hb.cell 0
  simp only[List.getElem?_toArray,List.getElem?_cons_zero]at hc
  clear ht hb hr
  unfold intV
  go_wp2_with fail
  go_quiet (fail)
  go_wp2_with fail
  refine bodyPost_ret (v:= .tuple #[.int .i64 x, .int .i64 (s:Nat), .int .i64 0]) (by simp[results,Tryz.results54,go_sem]) rfl ⟨HF.out.drewN _, ?_⟩
  rw[HR.out]
theorem Row.lit1(w:World)(n:Int)(y:UInt8)(h:n=(y.toNat:Int)):Row (w.alloc (.cells #[.int .u8 n] 5)) (.slice (some ⟨w.heap.size,0,none⟩) 1 1) [y]:=by
 have:=World.ownsRow_lit (base:=0) (e:=5) (size:=1) w #[.int .u8 n] 1 (Nat.zero_le _) (by simp[maxLen]) rfl
 unfold Row
 simpa [u8s,h] using this
section
variable {P:Program}(w:World)
theorem wp_row_bsX{o:Oper}{a:Act}{K:Act->World->Prop}{Q:Exit->Act->World->Prop}(s x:Operand)(t:TypeId)
  (ho:o.op= .call { callee:= .builtin .append,args:= #[s,x],argTypes:= #[t,t] })
  (hinfo:(P.info? 5).map (fun i=>(i.zero,i.size,i.bytes))=some (some (.int .u8 0),1,1)) (ht:P.underlying t=some (.slice 5))
  (v:Value) (xs:List UInt8) (hs:a.eval s=v) (hown:Row w v xs) (A:Option Addr) (m c:Nat) (ys:List UInt8) (hx:a.eval x= .slice A m c) (hbs:Bs w A m c ys)
  (hb:xs.length+ys.length<=140737488355328)
  (h:∀A' c' w',Row w' (.slice A' (xs.length+ys.length) c') (xs++ys)->w.grownBy w' v.ownBlock->((Value.slice A' (xs.length+ys.length) c').ownBlock=v.ownBlock\/(Value.slice A' (xs.length+ys.length) c').ownBlock=some w.heap.size)->K (a.put o.dst (.slice A' (xs.length+ys.length) c')) w'):o.wp P a w K Q:=by
 obtain⟨i,hi,hz,hs1,hb1⟩:=info_parts hinfo
 have hl:=hbs.1
 subst hl
 have hrun:∃v' w',(Builtin.append_ #[t,t] o.type #[v, .slice A ys.length c]).run P w= .ok v' w'/\Row w' v' (xs++ys)/\w.grownBy w' v.ownBlock/\(v'.ownBlock=v.ownBlock\/v'.ownBlock=some w.heap.size):=by
  have main:∀(ad:Addr),A=some ad->(∀j u,(u8s ys)[j]? =some u->w.cell? (ad.add j)=some u)->
    ∃v' w',(Builtin.append_ #[t,t] o.type #[v, .slice A ys.length c]).run P w= .ok v' w'/\Row w' v' (xs++ys)/\w.grownBy w' v.ownBlock/\(v'.ownBlock=v.ownBlock\/v'.ownBlock=some w.heap.size):=fun ad hA hnews'=>by
   obtain⟨v',w',hr,h1,h2,_,h4⟩:=run_append_own_at (P:=P) w 0 t o.type 5 i (.int .u8 0) 1 1 ht hi hz hs1 hb1 rfl (by decide) v xs.length (u8s xs) hown ad ys.length c (u8s ys) (by rw[u8s_length];omega) hnews' (u8s_one ys) (by unfold maxLen;omega) (by omega) (Nat.zero_le _)
   have hrow:Row w' v' (xs++ys):=by
    unfold Row
    rw[List.length_append,u8s_append]
    exact h1
   exact⟨v',w',by rw[hA];exact hr,hrow,h2,h4⟩
  rcases Nat.eq_zero_or_pos ys.length with h0 | h0
  ·have hnil:ys= []:=List.eq_nil_of_length_eq_zero h0
   subst hnil
   cases A with
   | none=>
    refine⟨v,w, ?_,by rw[List.append_nil];exact hown,⟨rfl,rfl,rfl,Nat.le_refl _,fun _ _ _=>rfl⟩, .inl rfl⟩
    rcases hown.2 with⟨rfl,_⟩ | ⟨g,cap,cur,rfl,_,_,hnc,_⟩
    ·simp[Builtin.append_,run_underlying ht,sizeOf,typeInfo,hi,Builtin.lenOf,Builtin.firstCells]
    ·simp[Builtin.append_,run_underlying ht,sizeOf,typeInfo,hi,Builtin.lenOf,Builtin.firstCells,hnc,storeCells]
   | some ad=>exact main ad rfl (by intro j u hu;simp[u8s]at hu)
  ·obtain⟨b,off,rfl,hc⟩:=hbs.2.2.2 h0
   refine main _ rfl ?_
   intro j u hu
   rw[u8s_get]at hu
   obtain⟨y,hy,rfl⟩:=Option.map_eq_some_iff.1 hu
   have hadd:(⟨b,off,none⟩:Addr).add j=⟨b,off+j,none⟩:=by unfold Addr.add;split<;>simp_all
   rw[hadd]
   exact hc j y hy
 obtain⟨v',w',hr,hrow,h2,h4⟩:=hrun
 obtain⟨A',c',hv,_⟩:=hrow.form
 rw[List.length_append]at hv
 subst hv
 unfold Oper.wp execOp
 simp only[ho,resolve,invoke,builtin,Sem.run_bind,Sem.run_pure,Result.andThen_ok,List.map_toArray,List.map_cons,List.map_nil,hs,hx,hr]
 exact h A' c' w' hrow h2 h4
theorem wpList_row_bsX{ops:Array Oper}{rest:List Oper}{o:Oper}{a:Act}{Q:Exit->Act->World->Prop}(hgd:o.guard=none)(s x:Operand)(t:TypeId)
  (ho:o.op= .call { callee:= .builtin .append,args:= #[s,x],argTypes:= #[t,t] })
  (hinfo:(P.info? 5).map (fun i=>(i.zero,i.size,i.bytes))=some (some (.int .u8 0),1,1)) (ht:P.underlying t=some (.slice 5))
  (v:Value) (xs:List UInt8) (hs:a.eval s=v) (hown:Row w v xs) (A:Option Addr) (m c:Nat) (ys:List UInt8) (hx:a.eval x= .slice A m c) (hbs:Bs w A m c ys)
  (hb:xs.length+ys.length<=140737488355328)
  (h:∀A' c' w',Row w' (.slice A' (xs.length+ys.length) c') (xs++ys)->w.grownBy w' v.ownBlock->((Value.slice A' (xs.length+ys.length) c').ownBlock=v.ownBlock\/(Value.slice A' (xs.length+ys.length) c').ownBlock=some w.heap.size)->wpList P ops Q rest (a.put o.dst (.slice A' (xs.length+ys.length) c')) w'):wpList P ops Q (o :: rest) a w:=
 wpList_plain hgd fun _ hK=>wp_row_bsX w s x t ho hinfo ht v xs hs hown A m c ys hx hbs hb fun A' c' w' h1 h2 h3=>hK _ _ (h A' c' w' h1 h2 h3)
end
theorem Bs.grown{w w':World}{A:Option Addr}{n c:Nat}{xs:List UInt8}{row:Option Nat}(h:Bs w A n c xs)(hg:w.grownBy w' row)(hn:∀a,A=some a->row≠some a.block):Bs w' A n c xs:=
 h.keep fun _ p v hp ⟨a,ha,e⟩=>hg.cell hp (fun e'=>hn a ha (by rw[<- e',e]))
def slen:Value->Nat
 | .slice _ n _=>n
 | _=>0
def Wr(w:World)(bw:Nat)(v:Value)(xs:List UInt8)(bad:Bool):Prop:=Blk w bw 194 #[v, .bool bad]/\Row w v xs
def toEnc(bad:Bool)(xs:List UInt8):Enc.Enc:=if bad then none else some xs
def WrEnd(bw:Nat)(v:Value)(xs:List UInt8)(bad:Bool)(w:World)(more:Nat)(r:Enc.Enc)(e:Ending)(w':World):Prop:=
 e= .returned (.tuple #[])/\∃v' xs' bad',Wr w' bw v' xs' bad'/\toEnc bad' xs'=Enc.cat (toEnc bad xs) r/\xs'.length<=xs.length+more/\PenGo bw v w v' w'
theorem toEnc_none(xs xs':List UInt8)(bad:Bool):toEnc true xs'=Enc.cat (toEnc bad xs) none:=by rw[Enc.cat_none_r];rfl
theorem toEnc_some(xs ys:List UInt8)(bad:Bool):toEnc bad (xs++ys)=Enc.cat (toEnc bad xs) (some ys):=by cases bad<;>rfl
theorem wnumber_no(bw:Nat)(v:Value)(xs:List UInt8)(bad:Bool)(n lo hi:Int)(w:World)(h:n<lo\/hi<n)(hp:Wr w bw v xs bad):
  Calls Tryz.prog 135 #[.pointer (some ⟨bw,0,none⟩), .int .i64 n, .int .i64 lo, .int .i64 hi] w (WrEnd bw v xs bad w 8 none):=by
 have hc:=hp.1.cell 1
 have hf:=hp.1.frozen 1
 simp only[List.getElem?_toArray,List.getElem?_cons_zero,List.getElem?_cons_succ]at hc
 have hend:WrEnd bw v xs bad w 8 none (.returned (.tuple #[])) (w.setCell ⟨bw,1,none⟩ (.bool true)):=by
  refine⟨rfl,v,xs,true,⟨hp.1.set_ 1 _,hp.2.far (p:=⟨bw,1,none⟩) (hp.2.ne_blk hp.1 (by decide)) _⟩,toEnc_none _ _ _,by omega,⟨(Touch.refl _ w).setCell (p:=⟨bw,1,none⟩) (.inr (.inl rfl)) _, .inl rfl⟩⟩
 have HEND:=zh hend
 clear hend hp
 rcases h with h | h
 ·go_enter Tryz.func135,Tryz.ntmps135
  go_wp2
  refine bodyPost_ret (results_none rfl _ _ _) rfl ?_
  exact HEND.out
 ·go_enter Tryz.func135,Tryz.ntmps135
  go_wp2
  all_goals
   refine bodyPost_ret (results_none rfl _ _ _) rfl ?_
   exact HEND.out
theorem wnumber_yes(bw:Nat)(v:Value)(xs:List UInt8)(bad:Bool)(n:Nat)(lo hi:Int)(w:World)(h1:lo<=(n:Int))(h2:(n:Int)<=hi)(h3:hi<=4503599627370496)
  (hp:Wr w bw v xs bad) (hb:xs.length<=140737488355000):
  Calls Tryz.prog 135 #[.pointer (some ⟨bw,0,none⟩), .int .i64 n, .int .i64 lo, .int .i64 hi] w (WrEnd bw v xs bad w 8 (some (Enc.numB n))):=by
 have hns:=Enc.nsz_7 (n:=n) (by omega)
 have HP:=zh hp;clear hp
 go_enter Tryz.func135,Tryz.ntmps135
 go_wp2
 go_loopw [8,9] (fun b x wr=>∃(j:Nat) (A:Option Addr) (c:Nat),j<=Enc.nsz n/\b= .slice A j c/\x= .int .i64 ((n / 2 ^ (8*j):Nat):Int)/\Row wr (.slice A j c) (Enc.be j n)/\Fresh w wr/\(∀k,(Value.slice A j c).ownBlock=some k->w.heap.size<=k)) (fun b _ _=>8-slen b)
 case atStart=>exact⟨0,none,0,by omega,rfl,by simp,Row.nil_ _,Touch.refl _ _,by simp[Value.ownBlock]⟩
 case round=>
  obtain⟨j,A,c,hj,rfl,rfl,hrow,hfr,hnew⟩:=hrel
  have HROW:=zh hrow;clear hrow
  have HFR:=zh hfr;clear hfr
  have HNEW:=zh hnew;clear hnew
  have hiff:=Enc.lt_nsz n j
  by_cases hlt:j<Enc.nsz n
  ·have hpos:0<n / 2 ^ (8*j):=hiff.1 hlt
   have hle:n / 2 ^ (8*j)<=n:=Nat.div_le_self _ _
   have hby:(((n / 2 ^ (8*j):Nat):Int) % 256)=(((UInt8.ofNat (n / 2 ^ (8*j))).toNat:Nat):Int):=by rw[ofNat_u8]
   have HBY:=zh hby;clear hby hiff
   have hbl:(Enc.be j n).length=j:=Enc.be_length j n
   have HBL:=zh hbl;clear hbl
   have hdv:n / 2 ^ (8*(j+1))=n / 2 ^ (8*j) / 256:=by
    rw[Nat.div_div_eq_div_mul,show 8*(j+1)=8*j+8 from by omega,Nat.pow_add]
   have HDV:=zh hdv;clear hdv
   obtain⟨q,hq⟩:∃q,q=n / 2 ^ (8*j):=⟨_,rfl⟩
   rw[<- hq]at hpos hle HBY HDV ⊢
   have HQ:=zh hq;clear hq
   go_wp2_with (at_builtin;go_loud (refine wpList_row_bsX _ rfl _ _ 29 rfl Tryz.info5 Tryz.underlying29 (.slice (some ⟨wr.heap.size,0,none⟩) 1 1) [UInt8.ofNat q] rfl (Row.lit1 _ _ _ HBY.out) A j c (Enc.be j n) rfl (HROW.out.bs.alloc _) (by simp only[List.length_singleton];have:=HBL.out;omega) ?_);intro A2 c2 w2 hr2 hg2 ho2)
   have hbe:Enc.be (j+1) n= [UInt8.ofNat q]++Enc.be j n:=by rw[HQ.out];rfl
   go_roundw
   case rel=>
    refine⟨j+1,A2,c2,by omega,by rw[HBL.out,Nat.add_comm],by rw[HDV.out];rfl, ?_, ?_, ?_⟩
    ·rw[hbe]
     have h0:=hr2
     simp only[List.length_singleton,HBL.out]at h0
     rw[Nat.add_comm]at h0
     exact h0
    ·exact(HFR.out.alloc _).grown hg2 (fun k hk=>by simp only[Value.ownBlock,Option.some.injEq]at hk;subst hk;exact .inl HFR.out.size)
    ·intro k hk
     have hs:=HFR.out.size
     have e:∀a b,(Value.slice A2 a c2).ownBlock=(Value.slice A2 b c2).ownBlock:=fun a b=>by cases A2<;>rfl
     rw[e _ ([UInt8.ofNat q].length+(Enc.be j n).length)]at hk
     rcases ho2 with h | h<;>rw[h]at hk
     ·simp only[Value.ownBlock,Option.some.injEq]at hk;omega
     ·simp only[World.size_alloc,Option.some.injEq]at hk;omega
   case measure=>
    simp only[slen]
    rw[HBL.out];omega
  ·obtain rfl:j=Enc.nsz n:=by omega
   have hz:n / 2 ^ (8*Enc.nsz n)=0:=Nat.eq_zero_of_not_pos fun h=>hlt (hiff.2 h)
   rw[hz]
   clear hz hiff hlt
   have hnu:((Enc.nsz n:Nat):Int)=(((UInt8.ofNat (Enc.nsz n)).toNat:Nat):Int):=by rw[ofNat_u8];omega
   have HNU:=zh hnu;clear hnu
   have hne:v.ownBlock≠some bw:=HP.out.2.ne_blk HP.out.1 (by decide)
   have HNE:=zh hne;clear hne
   have hB:=HP.out.1.touch HFR.out id
   have hR:=HP.out.2.touch HFR.out (fun _ _=>id)
   have HB:=zh hB;clear hB
   have HR:=zh hR;clear hR
   have hc:=HB.out.cell 0
   simp only[List.getElem?_toArray,List.getElem?_cons_zero]at hc
   have hc':∀o,(wr.alloc o).cell? ⟨bw,0,none⟩=some v:=fun o=>(HB.out.alloc o).cell 0
   have hvlt:∀k,v.ownBlock=some k->k<w.heap.size:=HP.out.2.lt
   have HVLT:=zh hvlt;clear hvlt
   have hbl:=Enc.be_length (Enc.nsz n) n
   have HBL:=zh hbl;clear hbl
   go_wp2_with (first | (at_builtin;refine wpList_row _ rfl (.tmp 36) (.tmp 40) 29 rfl Tryz.info5 Tryz.underlying29 v xs rfl (HR.out.alloc _) wr.heap.size 1 1 [UInt8.ofNat (Enc.nsz n)] rfl rfl (new_u8 wr _ _ _ HNU.out) (by simp only[List.length_singleton];omega) ?_;intro A2 c2 w2 hr2 hg2 ho2;have hB2:=zh ((HB.out.alloc _).grown hg2 (fun e=>HNE.out e.symm));have hs2:=zh (HROW.out.bs.alloc (.cells #[.int .u8 (Enc.nsz n:Int)] 5) |>.grown hg2 (fun a ha e=>by have h1:=HNEW.out a.block (by subst ha;rfl);have h2:=HVLT.out _ e;omega));have HR2:=zh hr2;have HG2:=zh hg2;have HO2:=zh ho2;clear hr2 hg2 ho2) | (at_builtin;go_loud (refine wpList_row_bsX _ rfl (.tmp 41) (.tmp 42) 29 rfl Tryz.info5 Tryz.underlying29 (.slice A2 (xs.length+1) c2) (xs++ [UInt8.ofNat (Enc.nsz n)]) rfl (by exact HR2.out) A _ c (Enc.be (Enc.nsz n) n) rfl hs2.out (by simp only[List.length_append,List.length_singleton];have:=HBL.out;omega) ?_);intro A3 c3 w3 hr3 hg3 ho3;have hB3:=hB2.out.grown hg3 (fun e=>HR2.out.ne_blk hB2.out (by decide) e.symm);have hc3:=hB3.cell 0;have hf3:=hB3.frozen 0;simp only[List.getElem?_toArray,List.getElem?_cons_zero]at hc3))
   have hend:WrEnd bw v xs bad w 8 (some (Enc.numB n)) (.returned (.tuple #[])) (w3.setCell ⟨bw,0,none⟩ (.slice A3 (xs.length+1+(Enc.be (Enc.nsz n) n).length) c3)):=by
    have hne3:(Value.slice A3 ((xs++ [UInt8.ofNat (Enc.nsz n)]).length+(Enc.be (Enc.nsz n) n).length) c3).ownBlock≠some bw:=hr3.ne_blk hB3 (by decide)
    have hlen:(xs++ [UInt8.ofNat (Enc.nsz n)]).length=xs.length+1:=by simp
    rw[hlen]at hr3 ho3 hne3
    have hsz:=HFR.out.size
    have hown2:∀k,(Value.slice A2 (xs.length+1) c2).ownBlock=some k->v.ownBlock=some k\/w.heap.size<=k:=by
     intro k hk
     rcases HO2.out with e | e
     ·exact .inl (e.symm.trans hk)
     ·have h0:some (wr.alloc (.cells #[.int .u8 (Enc.nsz n:Int)] 5)).heap.size=some k:=e.symm.trans hk
      simp only[World.size_alloc,Option.some.injEq]at h0
      omega
    have ht2:Touch (PenS bw v) w w2:=((HFR.out.mono (S':=PenS bw v) (fun _ _ h=>h.elim)).alloc _).grown HG2.out (fun k hk=> .inr (.inr hk))
    have ht3:Touch (PenS bw v) w w3:=ht2.grown hg3 (fun k hk=>by
     rcases hown2 k hk with h | h
     ·exact .inr (.inr h)
     ·exact .inl h)
    refine⟨rfl,_,xs++ [UInt8.ofNat (Enc.nsz n)]++Enc.be (Enc.nsz n) n,bad,⟨hB3.set_ 0 _,hr3.far (p:=⟨bw,0,none⟩) hne3 _⟩, ?_, ?_,ht3.setCell (p:=⟨bw,0,none⟩) (.inr (.inl rfl)) _, ?_⟩
    ·rw[List.append_assoc,toEnc_some];rfl
    ·simp only[List.length_append,List.length_singleton];have:=HBL.out;omega
    ·rcases ho3 with e | e
     ·rcases HO2.out with e2 | e2
      ·exact .inl (e.trans e2)
      ·refine .inr fun k hk=> ?_
       rcases hown2 k (e.symm.trans hk) with h | h
       ·have h0:some (wr.alloc (.cells #[.int .u8 (Enc.nsz n:Int)] 5)).heap.size=some k:=e2.symm.trans (e.symm.trans hk)
        simp only[World.size_alloc,Option.some.injEq]at h0
        omega
       ·exact h
     ·refine .inr fun k hk=> ?_
      have h0:some w2.heap.size=some k:=e.symm.trans hk
      injection h0 with h0
      have:=ht2.size
      omega
   have HEND:=zh hend
   go_end0
   exact HEND.out
theorem wnumber_any(bw:Nat)(v:Value)(xs:List UInt8)(bad:Bool)(n lo hi:Int)(w:World)(h1:0<=lo)(h3:hi<=4503599627370496)(hp:Wr w bw v xs bad)(hb:xs.length<=140737488355000):
  Calls Tryz.prog 135 #[.pointer (some ⟨bw,0,none⟩), .int .i64 n, .int .i64 lo, .int .i64 hi] w (WrEnd bw v xs bad w 8 (Enc.number n lo hi)):=by
 unfold Enc.number
 by_cases h:n<lo\/hi<n
 ·rw[if_pos h]
  exact wnumber_no bw v xs bad n lo hi w h hp
 ·rw[if_neg h]
  obtain⟨m,rfl⟩:=Int.eq_ofNat_of_zero_le (show 0<=n by omega)
  rw[Int.toNat_natCast]
  exact wnumber_yes bw v xs bad m lo hi w (by omega) (by omega) h3 hp hb
theorem wr_app{w w2:World}{bw:Nat}{v:Value}{xs zs:List UInt8}{bad:Bool}{A:Option Addr}{n c:Nat}(hp:Wr w bw v xs bad)(hr:Row w2 (.slice A n c) zs)
  (hg:w.grownBy w2 v.ownBlock) (ho:(Value.slice A n c).ownBlock=v.ownBlock\/(Value.slice A n c).ownBlock=some w.heap.size):
  Wr (w2.setCell ⟨bw,0,none⟩ (.slice A n c)) bw (.slice A n c) zs bad/\PenGo bw v w (.slice A n c) (w2.setCell ⟨bw,0,none⟩ (.slice A n c)):=by
 have hne:v.ownBlock≠some bw:=hp.2.ne_blk hp.1 (by decide)
 have hB2:Blk w2 bw 194 #[v, .bool bad]:=hp.1.grown hg (fun e=>hne e.symm)
 have hne2:(Value.slice A n c).ownBlock≠some bw:=hr.ne_blk hB2 (by decide)
 refine⟨⟨hB2.set_ 0 _,hr.far (p:=⟨bw,0,none⟩) hne2 _⟩,((Touch.refl _ w).grown hg (fun k hk=> .inr (.inr hk))).setCell (p:=⟨bw,0,none⟩) (.inr (.inl rfl)) _, ?_⟩
 rcases ho with e | e
 ·exact .inl e
 ·exact .inr fun k hk=>by
   rw[e]at hk
   injection hk with hk
   omega
theorem wtext_any(bw:Nat)(v:Value)(xs:List UInt8)(bad:Bool)(s:ByteArray)(w:World)(hp:Wr w bw v xs bad)(hb:xs.length+s.size+400<=140737488355328):
  Calls Tryz.prog 136 #[.pointer (some ⟨bw,0,none⟩), .string s] w (WrEnd bw v xs bad w (s.size+8) (Enc.text s.data.toList)):=by
 have hsl:s.data.toList.length=s.size:=by rw[Array.length_toList];rfl
 have HK:=zh (wnumber_any bw v xs bad s.size 0 1048576 w (by omega) (by omega) hp (by omega))
 have HSL:=zh hsl;clear hp hsl
 go_enter Tryz.func136,Tryz.ntmps136
 go_wp2_with fail
 refine HK.out.mono ?_
 rintro e w1 ⟨rfl,v1,ys,bad1,hp1,hr1,hl1,hg1⟩
 have hc1:=hp1.1.cell 0
 have hf1:=hp1.1.frozen 0
 simp only[List.getElem?_toArray,List.getElem?_cons_zero]at hc1
 have HP1:=zh hp1;clear hp1
 have HG1:=zh hg1;clear hg1
 have HR1:=zh hr1;clear hr1
 have hne:v1.ownBlock≠some bw:=HP1.out.2.ne_blk HP1.out.1 (by decide)
 have HNE:=zh hne;clear hne
 go_wp2_with (at_builtin;refine wpList_row_str _ rfl _ _ 29 9 rfl Tryz.info5 Tryz.underlying29 Tryz.underlying9 v1 ys rfl HP1.out.2 s rfl (by omega) ?_;intro A2 c2 w2 hr2 hg2 ho2;have hB2:=HP1.out.1.grown hg2 (fun e=>HNE.out e.symm);have hc2:=hB2.cell 0;have hf2:=hB2.frozen 0;simp only[List.getElem?_toArray,List.getElem?_cons_zero]at hc2)
 have hpb:=wr_app HP1.out hr2 hg2 ho2
 clear hf2 hc2 hB2 ho2 hg2 hr2 hc1 hf1
 go_end0
 refine⟨rfl,_,_,bad1,hpb.1, ?_, ?_,HG1.out.trans hpb.2⟩
 ·rw[toEnc_some,HR1.out,Enc.cat_assoc]
  unfold Enc.text
  rw[HSL.out]
 ·rw[List.length_append];have:=HSL.out;omega
theorem wdone_any(bw:Nat)(v:Value)(xs:List UInt8)(bad:Bool)(w:World)(hp:Wr w bw v xs bad):
  Calls Tryz.prog 138 #[.pointer (some ⟨bw,0,none⟩)] w fun e w'=>w=w'/\e= .returned (.tuple (if bad then #[.slice none 0 0, .int .i64 2] else #[v, .int .i64 0])):=by
 have hc:=hp.1.cell 1
 have hc0:=hp.1.cell 0
 simp only[List.getElem?_toArray,List.getElem?_cons_zero,List.getElem?_cons_succ]at hc hc0
 clear hp
 cases bad
 ·go_enter Tryz.func138,Tryz.ntmps138
  go_wp2_with fail
  go_ret2
  exact⟨rfl,rfl⟩
 ·go_enter Tryz.func138,Tryz.ntmps138
  go_wp2_with fail
  go_ret2
  exact⟨rfl,rfl⟩
theorem wflag_any(bw:Nat)(v:Value)(xs:List UInt8)(bad g:Bool)(w:World)(hp:Wr w bw v xs bad)(hb:xs.length<=140737488355000):
  Calls Tryz.prog 137 #[.pointer (some ⟨bw,0,none⟩), .bool g] w (WrEnd bw v xs bad w 1 (Enc.flag g)):=by
 have hc1:=hp.1.cell 0
 have hf1:=hp.1.frozen 0
 simp only[List.getElem?_toArray,List.getElem?_cons_zero]at hc1
 have HP:=zh hp;clear hp
 have hne:v.ownBlock≠some bw:=HP.out.2.ne_blk HP.out.1 (by decide)
 have HNE:=zh hne;clear hne
 have hfin:∀(y:UInt8) (A3:Option Addr) (c3:Nat) (w3:World),Row w3 (.slice A3 (xs.length+1) c3) (xs++ [y])->(w.alloc (.cells #[.int .u8 (y.toNat:Int)] 5)).grownBy w3 v.ownBlock->
   ((Value.slice A3 (xs.length+1) c3).ownBlock=v.ownBlock\/(Value.slice A3 (xs.length+1) c3).ownBlock=some (w.alloc (.cells #[.int .u8 (y.toNat:Int)] 5)).heap.size)->
   Wr (w3.setCell ⟨bw,0,none⟩ (.slice A3 (xs.length+1) c3)) bw (.slice A3 (xs.length+1) c3) (xs++ [y]) bad/\PenGo bw v w (.slice A3 (xs.length+1) c3) (w3.setCell ⟨bw,0,none⟩ (.slice A3 (xs.length+1) c3)):=by
  intro y A3 c3 w3 hr3 hg3 ho3
  have h:=wr_app (w:=w.alloc (.cells #[.int .u8 (y.toNat:Int)] 5)) ⟨HP.out.1.alloc _,HP.out.2.alloc _⟩ hr3 hg3 ho3
  have h0:PenGo bw v w v (w.alloc (.cells #[.int .u8 (y.toNat:Int)] 5)):=⟨(Touch.refl _ w).alloc _, .inl rfl⟩
  exact⟨h.1,h0.trans h.2⟩
 have HFIN:=zh hfin;clear hfin
 cases g
 ·go_enter Tryz.func137,Tryz.ntmps137
  go_wp2_with (at_builtin;(refine wpList_row _ rfl _ _ 29 rfl Tryz.info5 Tryz.underlying29 v xs rfl (HP.out.2.alloc _) w.heap.size 1 1 [0] rfl rfl (new_u8 w _ _ _ rfl) (by simp only[List.length_singleton];omega) ?_);intro A3 c3 w3 hr3 hg3 ho3;have hB3:=(HP.out.1.alloc (.cells #[.int .u8 0] 5)).grown hg3 (fun e=>HNE.out e.symm);have hc3:=hB3.cell 0;have hf3:=hB3.frozen 0;simp only[List.getElem?_toArray,List.getElem?_cons_zero]at hc3)
  have hpb:=HFIN.out 0 _ _ _ hr3 hg3 ho3
  clear hc3 hf3 hB3 hr3 hg3 ho3
  go_end0
  exact⟨rfl,_,_,bad,hpb.1,toEnc_some _ _ _,by simp,hpb.2⟩
 ·go_enter Tryz.func137,Tryz.ntmps137
  go_wp2_with (at_builtin;(refine wpList_row _ rfl _ _ 29 rfl Tryz.info5 Tryz.underlying29 v xs rfl (HP.out.2.alloc _) w.heap.size 1 1 [1] rfl rfl (new_u8 w _ _ _ rfl) (by simp only[List.length_singleton];omega) ?_);intro A3 c3 w3 hr3 hg3 ho3;have hB3:=(HP.out.1.alloc (.cells #[.int .u8 1] 5)).grown hg3 (fun e=>HNE.out e.symm);have hc3:=hB3.cell 0;have hf3:=hB3.frozen 0;simp only[List.getElem?_toArray,List.getElem?_cons_zero]at hc3)
  have hpb:=HFIN.out 1 _ _ _ hr3 hg3 ho3
  clear hc3 hf3 hB3 hr3 hg3 ho3
  go_end0
  exact⟨rfl,_,_,bad,hpb.1,toEnc_some _ _ _,by simp,hpb.2⟩
theorem refops_any(A:Option Addr)(n c:Nat)(l:List Dec.Op)(w:World)(hv:Vs w 3 A n c (opsV l))
  (hA:∀a,A=some a->0<n->a.block<w.heap.size) (hn:n<=1048576) (hs:∀o∈l,o.k.length<=1048576/\o.v.length<=1048576):
  Calls Tryz.prog 103 #[.slice A n c] w (EncEnd w (Enc.ops l)):=by
 have hln:l.length=n:=by have:=hv.1;rw[opsV_length]at this;omega
 obtain⟨w0,hw0⟩:∃w0,w0=w.alloc (.cells #[.slice none 0 0, .bool false] 194):=⟨_,rfl⟩
 have HT0:=zh (show Fresh w w0 by rw[hw0];exact(Touch.refl _ w).alloc _)
 have HP0:=zh (show Wr w0 w.heap.size (.slice none 0 0) [] false by rw[hw0];exact⟨Blk.new w _ _,Row.nil_ _⟩)
 have HV:=zh (show Vs w0 3 A n c (opsV l) from hv.fresh HT0.out)
 have hsz0:w.heap.size+1=w0.heap.size:=by rw[hw0];simp
 have HVN:∀(u:Value) (wx:World),PenGo w.heap.size (.slice none 0 0) w0 u wx->Vs wx 3 A n c (opsV l):=fun u wx h=>HV.out.touch h.touch (by
  rintro a ha h0 (h1 | h1)
  ·have:=hA a ha h0;omega
  ·cases h1)
 replace HVN:=zh HVN
 have HS:=zh hs
 have HW0:=zh hw0
 clear hw0 hv hA hs
 go_enter Tryz.func103,Tryz.ntmps103
 go_wp2_with fail
 rw[<- HW0.out]
 refine(wnumber_any w.heap.size (.slice none 0 0) [] false n 0 4503599627370496 w0 (by omega) (by omega) HP0.out (by simp only[List.length_nil];omega)).mono ?_
 rintro e w1 ⟨rfl,v1,a1,b1,hp,hr,hl1,hg⟩
 have HA1:=zh (show toEnc b1 a1=Enc.plain n from by rw[hr];exact Enc.nil_cat _)
 have HP1:=zh hp
 have HG1:=zh hg
 simp only[List.length_nil]at hl1
 clear hp hg hr
 go_wp2_with fail
 go_loopw [5] (fun i wr=>∃k:Nat,k<=n/\i= .int .i64 k/\∃(ys:List UInt8) (u:Value) (bad:Bool),toEnc bad ys=Enc.cat (Enc.plain n) (Enc.catAll ((l.take k).map Enc.op))/\ys.length<=100+k*2097200/\Wr wr w.heap.size u ys bad/\PenGo w.heap.size (.slice none 0 0) w0 u wr) (fun i _=>n-(intOf i).toNat)
 case atStart=>exact⟨0,Nat.zero_le _,rfl,a1,v1,b1,by rw[HA1.out];exact(Enc.cat_nil _).symm,by omega,HP1.out,HG1.out⟩
 case round=>
  obtain⟨k,hk,rfl,ys,u,bad,hys,hyl,hpu,hgu⟩:=hrel
  have HPU:=zh hpu;clear hpu
  have HGU:=zh hgu;clear hgu
  have HYS:=zh hys;clear hys
  by_cases hlt:k<n
  ·obtain⟨b,off,rfl⟩:=HV.out.at_ (by omega)
   obtain⟨o,ho⟩:∃o,l[k]? =some o:=⟨l[k],List.getElem?_eq_getElem (by omega)⟩
   have hso:=HS.out o (List.mem_of_getElem? ho)
   have hkl:=hso.1
   have hvl:=hso.2
   have hks:(ByteArray.mk o.k.toArray).size=o.k.length:=by simp[ByteArray.size]
   have hvs:(ByteArray.mk o.v.toArray).size=o.v.length:=by simp[ByteArray.size]
   have hyk:k*2097200<=2199075880000:=by omega
   have HC:∀(u:Value) (wx:World),PenGo w.heap.size (.slice none 0 0) w0 u wx->wx.cell? ⟨b,off+k*3,none⟩=some (.string ⟨o.k.toArray⟩)/\wx.cell? ⟨b,off+k*3+1,none⟩=some (.string ⟨o.v.toArray⟩)/\wx.cell? ⟨b,off+k*3+2,none⟩=some (.bool o.g):=fun u wx h=>
    ⟨(HVN.out u wx h).cellAt (opsV_at ho 0 (by omega)),(HVN.out u wx h).cellAt (opsV_at ho 1 (by omega)),(HVN.out u wx h).cellAt (opsV_at ho 2 (by omega))⟩
   replace HC:=zh HC
   obtain⟨hk0,-,-⟩:=HC.out _ _ HGU.out
   go_wp2_with fail
   refine(wtext_any w.heap.size u ys bad ⟨o.k.toArray⟩ wr HPU.out (by rw[hks];omega)).mono ?_
   rintro e w2 ⟨rfl,v2,a2,b2,hp,hr,hl2,hg⟩
   have HA2:=zh (show toEnc b2 a2=Enc.cat (toEnc bad ys) (Enc.text o.k) from hr)
   have HP2:=zh hp
   have HG2:=zh (HGU.out.trans hg)
   rw[hks]at hl2
   clear hp hg hr hk0
   obtain⟨-,-,hd2⟩:=HC.out _ _ HG2.out
   go_wp2_with fail
   refine(wflag_any w.heap.size v2 a2 b2 o.g w2 HP2.out (by omega)).mono ?_
   rintro e w3 ⟨rfl,v3,a3,b3,hp,hr,hl3,hg⟩
   have HA3:=zh (show toEnc b3 a3=Enc.cat (Enc.cat (toEnc bad ys) (Enc.text o.k)) (Enc.flag o.g) from by rw[hr,HA2.out])
   have HP3:=zh hp
   have HG3:=zh (HG2.out.trans hg)
   clear hp hg hr hd2
   obtain⟨-,he1,he2⟩:=HC.out _ _ HG3.out
   have hcb:=HP3.out.1.cell 1
   have hfb:=HP3.out.1.frozen 1
   simp only[List.getElem?_toArray,List.getElem?_cons_zero,List.getElem?_cons_succ]at hcb
   cases hgo:o.g with
   | true=>
    rw[hgo]at he2
    by_cases hv0:o.v= []
    ·rw[hv0]at he1
     go_wp2_with fail
     go_roundw
     case rel=>
      refine⟨k+1,by omega,by go_num,a3,v3,b3, ?_,by omega,HP3.out,HG3.out⟩
      rw[op_take ho,HA3.out,HYS.out,hgo]
      unfold Enc.op
      rw[hgo,hv0,if_pos rfl,if_pos rfl,Enc.cat_nil]
      simp only[Enc.cat_assoc]
     case measure=>simp[intOf]<;>omega
    ·have hve:o.v.isEmpty=false:=by simpa using hv0
     have hpb:Wr (w3.setCell ⟨w.heap.size,1,none⟩ (.bool true)) w.heap.size v3 a3 true:=⟨HP3.out.1.set_ 1 (.bool true),HP3.out.2.far (p:=⟨w.heap.size,1,none⟩) (HP3.out.2.ne_blk HP3.out.1 (by decide)) _⟩
     have hgb:PenGo w.heap.size v3 w3 v3 (w3.setCell ⟨w.heap.size,1,none⟩ (.bool true)):=⟨(Touch.refl _ w3).setCell (p:=⟨w.heap.size,1,none⟩) (.inr (.inl rfl)) _, .inl rfl⟩
     have HPB:=zh hpb;clear hpb
     have HGB:=zh hgb;clear hgb
     go_wp2_with fail
     go_roundw
     case rel=>
      refine⟨k+1,by omega,by go_num,a3,v3,true, ?_,by omega,HPB.out,HG3.out.trans HGB.out⟩
      rw[op_take ho]
      unfold Enc.op
      rw[hgo,if_pos rfl,if_neg hv0,Enc.cat_none_r,Enc.cat_none_r,Enc.cat_none_r]
      rfl
     case measure=>simp[intOf]<;>omega
   | false=>
    rw[hgo]at he2
    go_wp2_with fail
    refine(wtext_any w.heap.size v3 a3 b3 ⟨o.v.toArray⟩ w3 HP3.out (by rw[hvs];omega)).mono ?_
    rintro e w4 ⟨rfl,v4,a4,b4,hp,hr,hl4,hg⟩
    have HA4:=zh (show toEnc b4 a4=Enc.cat (toEnc b3 a3) (Enc.text o.v) from hr)
    have HP4:=zh hp
    have HG4:=zh (HG3.out.trans hg)
    rw[hvs]at hl4
    clear hp hg hr he1 he2
    go_wp2_with fail
    go_roundw
    case rel=>
     refine⟨k+1,by omega,by go_num,a4,v4,b4, ?_,by omega,HP4.out,HG4.out⟩
     rw[op_take ho,HA4.out,HA3.out,HYS.out]
     unfold Enc.op
     rw[hgo,if_neg (by simp)]
     simp only[Enc.cat_assoc]
    case measure=>simp[intOf]<;>omega
  ·obtain rfl:k=n:=by omega
   have HD:=zh (wdone_any w.heap.size u ys bad wr HPU.out)
   have hfin:Fresh w wr:=HT0.out.trans HGU.out.touch (fun i hi hs=>by
    rcases hs with hs | hs
    ·omega
    ·simp[Value.ownBlock]at hs)
   have hspec:Enc.ops l=toEnc bad ys:=by
    rw[HYS.out]
    unfold Enc.ops
    rw[hln,<- hln,List.take_length]
   have hrow:=HPU.out.2
   have hnew:∀i,u.ownBlock=some i->w.heap.size<=i:=by
    intro i hi
    rcases HGU.out.own with e | e
    ·rw[e]at hi;simp[Value.ownBlock]at hi
    ·have:=e i hi;omega
   have hend:EncEnd w (Enc.ops l) (.returned (.tuple (if bad then #[.slice none 0 0, .int .i64 2] else #[u, .int .i64 0]))) wr:=by
    rw[hspec]
    cases bad
    ·obtain⟨A,c,rfl,_⟩:=hrow.form
     exact⟨A,c,rfl,hrow,hnew,hfin⟩
    ·exact⟨rfl,hfin⟩
   replace hend:=zh hend
   clear hfin hspec hrow hnew
   go_wp2_with fail
   refine HD.out.mono ?_
   rintro e w' ⟨rfl,rfl⟩
   cases bad
   ·go_wp2_with fail
    go_ret2
    exact hend.out
   ·go_wp2_with fail
    go_ret2
    exact hend.out
end Go.Proofs.YtjehlgblkfofpaaGreat