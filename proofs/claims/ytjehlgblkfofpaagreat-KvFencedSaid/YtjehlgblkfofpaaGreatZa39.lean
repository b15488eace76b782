/- The claims' texts, several in one: Doc, Do, Bgu, LawA, Sq, Sr, Wak. Conditions stand with each theorem. -/
import Derived.Test.YtjehlgblkfofpaaGreatZa38
import Derived.Deep.RegionHeld3
set_option maxHeartbeats 16000000
set_option maxRecDepth 200000
namespace Go.Proofs.YtjehlgblkfofpaaGreat
open Go.RowKit
attribute [local go_sem] Oper.semAt_some
theorem few_right{l:List Dec.Op}(h:(fewL l).all rightB=true):opwt (fewL l)<=4256:=by
 obtain⟨h1,h2,_⟩:=fewL_ok l
 have h3:∀(m:List Dec.Op),(∀x∈m,x.k.length<=200/\x.v.length<=300)->opwt m<=m.length*532:=by
  intro m
  induction m with
  | nil=>intro _;simp[opwt,opsum]
  | cons x r ih=>
   intro h
   have h4:=ih fun y hy=>h y (List.mem_cons_of_mem _ hy)
   have h5:=h x (List.mem_cons_self ..)
   rw[opwt_cons,List.length_cons,Nat.add_mul]
   omega
 have h4:=h3 (fewL l) fun x hx=>by
  have h5:=List.all_eq_true.1 h x hx
  unfold rightB at h5
  simp only[Bool.and_eq_true,decide_eq_true_eq]at h5
  exact⟨h5.1.1.2,(h2 x hx).2⟩
 have:(fewL l).length*532<=8*532:=Nat.mul_le_mul_right _ h1
 omega
section
variable {w w' w0 W W':World}{bp bd:Nat}{F:Nat->Prop}{a:KA}{q q2 q':KP}{sf:Int}{sh:KL}{sm:Nat}{i n T:Nat}{P:KS->Prop}
theorem few_commit{w1:World}(hx1:KX w0 w1 bp bd F a q q.f q.has q.cm)(hv:KInv q i n T P)(hi:i<=880)(hT:T<=40000000)(hn:n<=60){Do:Int}(hDo:Do % 9<=2)(g:Int)(ops:List Dec.Op)(wF W:World)(B:Option Addr)(m c':Nat)(h1:Fresh w1 wF)(h2:Fresh wF W)(hm:m=(fewL ops).length)(ho:Own wF 31 3 (.slice B m c') m (opsV (fewL ops)))(hb:∀k,(Value.slice B m c').ownBlock=some k->w1.heap.size<=k):
  Calls Tryz.prog 25 #[.pointer (some ⟨bp,0,none⟩), .int .i64 g, .slice B m c'] W fun e w'=>e= .returned (.bool true)/\DoE w0 bp bd F q i n T Do e w':=by
 obtain⟨f1,f2,f3⟩:=fewL_ok ops
 have hoW:=ho.touch h2 fun _ _=>id
 obtain⟨B',c2,hv2,hvs,hlt⟩:=hoW.vs3
 injection hv2 with e1 _ e2
 subst e1 e2
 obtain⟨t1,_⟩:=hv.tok (by omega)
 have hw:=hv.wt
 have hwe:=wgt_eq q.has
 have hwm:n*4256<=60*4256:=Nat.mul_le_mul_right _ hn
 have hf:=h1.trans h2 fun _ _=>id
 refine(commit_pg (hx1.fresh hf) hv (by omega) (by omega) (by omega) (by omega) g B m c' (fewL ops) hvs (fun a' ha h0=>⟨fun e=> ?_,hlt a' ha h0⟩) (by omega) (fun x hx=>by have:=f2 x hx;omega) (by omega) few_right).mono ?_
 ·have h5:=hx1.km.lt a'.block (.inr (.inr e))
  have h6:=hb a'.block (by rw[ha];rfl)
  omega
 ·rintro e w' ⟨rfl,q',hx,hk,hr⟩
  obtain⟨e1,e2,e3⟩:=hr.ends
  exact⟨rfl,rfl,q',hx,hk.up (by omega) (by omega) (by omega),e1, .inr ⟨e2,e3⟩,fun h0=>by exfalso;omega⟩
theorem doesC(h:KX w0 w bp bd F a q q.f q.has q.cm)(hv:KInv q i n T P)(hi:i<=880)(hT:T<=40000000)(hn:n<=60){Do f N K:Int}(hDo:Do % 9=0\/Do % 9=1){BA CA:Option Addr}{bm bc cm cc:Nat}{ops:List Dec.Op}(ho:Vs w 3 BA bm bc (opsV ops)):
  Calls Tryz.prog 32 #[.pointer (some ⟨bp,0,none⟩), .agg #[.int .i64 Do, .int .i64 f, .int .i64 N, .int .i64 K, .slice BA bm bc, .slice CA cm cc]] w (DoE w0 bp bd F q i n T Do):=by
 obtain⟨w1,hw1⟩:∃w1,w1=w.alloc (.cells #[.int .i64 Do, .int .i64 f, .int .i64 N, .int .i64 K, .slice BA bm bc, .slice CA cm cc] 72):=⟨_,rfl⟩
 have hf1:Fresh w w1:=by rw[hw1];exact(Touch.refl (fun _=>False) w).alloc _
 have hb0:Blk w1 w.heap.size 72 #[.int .i64 Do, .int .i64 f, .int .i64 N, .int .i64 K, .slice BA bm bc, .slice CA cm cc]:=by rw[hw1];exact Blk.new _ _ _
 have hx1:=h.fresh hf1
 have c0:w1.cell? ⟨w.heap.size,0,none⟩=some (.int .i64 Do):=hb0.cell 0
 have c4:w1.cell? ⟨w.heap.size,4,none⟩=some (.slice BA bm bc):=hb0.cell 4
 have d0:w1.cell? ⟨bp,0,none⟩=some (.pointer (some ⟨bd,0,none⟩)):=hx1.km.blk.cell 0
 have d2:w1.cell? ⟨bp,2,none⟩=some (.pointer (some ⟨a.bc,0,none⟩)):=hx1.km.blk.cell 2
 obtain⟨v,hrs,_,_⟩:=hx1.km.c
 have g0:w1.cell? ⟨a.bc,0,none⟩=some (.int .i64 q.f):=hrs.blk.cell 0
 have KO:=zh (disk_ops hx1.km.sd.ld.dk)
 have KW:=zh (within_any Do 9 w1 (by omega) (by omega))
 have KF:=zh (show∀W,Fresh w1 W->Calls Tryz.prog 26 #[.slice BA bm bc] W fun e w'=>Fresh W w'/\∃B m c',e= .returned (.slice B m c')/\m=(fewL ops).length/\Own w' 31 3 (.slice B m c') m (opsV (fewL ops))/\∀k,(Value.slice B m c').ownBlock=some k->W.heap.size<=k from fun W hW=>few_any BA bm bc ops (ho.fresh (hf1.trans hW fun _ _=>id)))
 obtain⟨ff,hff⟩:∃ff,ff=q.f:=⟨_,rfl⟩
 rw[<- hff]at g0
 have KC:=zh (fun wF W B m c'=>few_commit hx1 hv hi hT hn (Do:=Do) (by omega) ff ops wF W B m c')
 have HS:=zh (show∀W,Fresh w1 W->W.cell? ⟨bp,2,none⟩=some (.pointer (some ⟨a.bc,0,none⟩))/\W.cell? ⟨a.bc,0,none⟩=some (.int .i64 ff)/\W.cell? ⟨w.heap.size,4,none⟩=some (.slice BA bm bc) from fun W hW=>⟨hW.cell d2 id,hW.cell g0 id,hW.cell c4 id⟩)
 have HW1:=zh hw1
 clear h hv hf1 hb0 hx1 hw1 hrs hff ho
 rcases hDo with hDo | hDo
 all_goals
  rw[hDo]at KW
  go_enter Tryz.func32,Tryz.ntmps32
  go_upto_region 1 with fail
  rw[<- HW1.out]
  go_wp2_with fail
  refine KO.out.mono ?_
  rintro e w2 ⟨rfl,rfl⟩
  go_wp2_with fail
  refine KW.out.mono ?_
  rintro e w2 ⟨rfl,rfl⟩
  go_upto_region 7 with fail
  go_region_law
   (first
   | (go_simp;go_at_call 26;refine(KF.out _ (by repeat (first | exact Touch.refl _ _ | refine Touch.drew ?_))).mono ?_;rintro e wF ⟨hfF,B,m,c',rfl,hm,hoF,hbF⟩;have HFF:=zh (show Fresh w1 wF from Touch.trans (by repeat (first | exact Touch.refl _ _ | refine Touch.drew ?_)) hfF fun _ _=>id);obtain⟨y1,y2,y3⟩:=HS.out wF HFF.out;have HM:=zh hm;have HOF:=zh hoF;have HBF:=zh hbF;clear hfF hm hoF hbF)
   | (go_simp;go_at_call 25;refine(KC.out wF _ B m c' HFF.out (by repeat (first | exact Touch.refl _ _ | refine Touch.drew ?_)) HM.out HOF.out HBF.out).mono ?_;rintro e w4 ⟨rfl,hd⟩;have HD:=zh hd;clear hd))
  all_goals
   go_wp2_with fail
   go_ret
   exact HD.out
theorem doesD(h:KX w0 w bp bd F a q q.f q.has q.cm)(hv:KInv q i n T P)(hi:i<=880)(hT:T<=40000000)(hn:n<=60){Do f N K:Int}(hDo:Do % 9=2){BA CA:Option Addr}{bm bc cm cc:Nat}{ops:List Dec.Op}(ho:Vs w 3 BA bm bc (opsV ops)):
  Calls Tryz.prog 32 #[.pointer (some ⟨bp,0,none⟩), .agg #[.int .i64 Do, .int .i64 f, .int .i64 N, .int .i64 K, .slice BA bm bc, .slice CA cm cc]] w (DoE w0 bp bd F q i n T Do):=by
 obtain⟨w1,hw1⟩:∃w1,w1=w.alloc (.cells #[.int .i64 Do, .int .i64 f, .int .i64 N, .int .i64 K, .slice BA bm bc, .slice CA cm cc] 72):=⟨_,rfl⟩
 have hf1:Fresh w w1:=by rw[hw1];exact(Touch.refl (fun _=>False) w).alloc _
 have hb0:Blk w1 w.heap.size 72 #[.int .i64 Do, .int .i64 f, .int .i64 N, .int .i64 K, .slice BA bm bc, .slice CA cm cc]:=by rw[hw1];exact Blk.new _ _ _
 have hx1:=h.fresh hf1
 have c0:w1.cell? ⟨w.heap.size,0,none⟩=some (.int .i64 Do):=hb0.cell 0
 have c1:w1.cell? ⟨w.heap.size,1,none⟩=some (.int .i64 f):=hb0.cell 1
 have c4:w1.cell? ⟨w.heap.size,4,none⟩=some (.slice BA bm bc):=hb0.cell 4
 have d0:w1.cell? ⟨bp,0,none⟩=some (.pointer (some ⟨bd,0,none⟩)):=hx1.km.blk.cell 0
 have KO:=zh (disk_ops hx1.km.sd.ld.dk)
 have KW:=zh (within_any Do 9 w1 (by omega) (by omega))
 have KF:=zh (show∀W,Fresh w1 W->Calls Tryz.prog 26 #[.slice BA bm bc] W fun e w'=>Fresh W w'/\∃B m c',e= .returned (.slice B m c')/\m=(fewL ops).length/\Own w' 31 3 (.slice B m c') m (opsV (fewL ops))/\∀k,(Value.slice B m c').ownBlock=some k->W.heap.size<=k from fun W hW=>few_any BA bm bc ops (ho.fresh (hf1.trans hW fun _ _=>id)))
 have KC:=zh (fun wF W B m c'=>few_commit hx1 hv hi hT hn (Do:=Do) (by omega) f ops wF W B m c')
 have HS:=zh (show∀W,Fresh w1 W->W.cell? ⟨w.heap.size,1,none⟩=some (.int .i64 f)/\W.cell? ⟨w.heap.size,4,none⟩=some (.slice BA bm bc) from fun W hW=>⟨hW.cell c1 id,hW.cell c4 id⟩)
 have HW1:=zh hw1
 clear h hv hf1 hb0 hx1 hw1 ho
 rw[hDo]at KW
 go_enter Tryz.func32,Tryz.ntmps32
 go_upto_region 1 with fail
 rw[<- HW1.out]
 go_wp2_with fail
 refine KO.out.mono ?_
 rintro e w2 ⟨rfl,rfl⟩
 go_wp2_with fail
 refine KW.out.mono ?_
 rintro e w2 ⟨rfl,rfl⟩
 go_upto_region 9 with fail
 go_region_law
  (first
  | (go_simp;go_at_call 26;refine(KF.out _ (by repeat (first | exact Touch.refl _ _ | refine Touch.drew ?_))).mono ?_;rintro e wF ⟨hfF,B,m,c',rfl,hm,hoF,hbF⟩;have HFF:=zh (show Fresh w1 wF from Touch.trans (by repeat (first | exact Touch.refl _ _ | refine Touch.drew ?_)) hfF fun _ _=>id);obtain⟨y1,y2⟩:=HS.out wF HFF.out;have HM:=zh hm;have HOF:=zh hoF;have HBF:=zh hbF;clear hfF hm hoF hbF)
  | (go_simp;go_at_call 25;refine(KC.out wF _ B m c' HFF.out (by repeat (first | exact Touch.refl _ _ | refine Touch.drew ?_)) HM.out HOF.out HBF.out).mono ?_;rintro e w4 ⟨rfl,hd⟩;have HD:=zh hd;clear hd))
 all_goals
  go_wp2_with fail
  go_ret
  exact HD.out
end
end Go.Proofs.YtjehlgblkfofpaaGreat
namespace Go.Proofs.YtjehlgblkfofpaaGreat
open Go.RowKit
structure OpK where
 Do:Int
 f:Int
 N:Int
 K:Int
 A:Option Addr
 m:Nat
 c:Nat
 ops:List Dec.Op
 C:Option Addr
 nc:Nat
 cc:Nat
 cuts:List Int
def OpK.cells(o:OpK):List Value:= [.int .i64 o.Do, .int .i64 o.f, .int .i64 o.N, .int .i64 o.K, .slice o.A o.m o.c, .slice o.C o.nc o.cc]
theorem IsInts.touch2{w w':World}{A:Option Addr}{n c:Nat}{xs:List Int}{S:Nat->Prop}(h:IsInts w A n c xs)(ht:Touch S w w')(hn:∀a,A=some a->0<n->¬S a.block):IsInts w' A n c xs:=
 ⟨h.1,h.2.1,h.2.2.1,fun h0=>by
  obtain⟨b,o,e,hc⟩:=h.2.2.2 h0
  exact⟨b,o,e,fun j x hx=>ht.cell (hc j x hx) (hn ⟨b,o,none⟩ e h0)⟩⟩
structure OpKt(B:Nat)(w:World)(o:OpK):Prop where
 bs:Vs w 3 o.A o.m o.c (opsV o.ops)
 bsB:∀a,o.A=some a->0<o.m->a.block<B
 cs:IsInts w o.C o.nc o.cc o.cuts
 csB:∀a,o.C=some a->0<o.nc->a.block<B
 rng:∀x∈o.cuts,-9223372036854775808<=x/\x<=9223372036854775807
theorem OpKt.touch{B:Nat}{w w':World}{o:OpK}{S:Nat->Prop}(h:OpKt B w o)(ht:Touch S w w')(hS:∀k,S k->B<=k):OpKt B w' o:=
 ⟨h.bs.touch ht fun a ha h0 e=>by have:=h.bsB a ha h0;have:=hS _ e;omega,h.bsB,h.cs.touch2 ht fun a ha h0 e=>by have:=h.csB a ha h0;have:=hS _ e;omega,h.csB,h.rng⟩
structure OpsKt(w:World)(A:Option Addr)(n c:Nat)(ops:List OpK):Prop where
 vs:Vs w 6 A n c (ops.flatMap OpK.cells)
 lt:∀a,A=some a->0<n->a.block<w.heap.size
 op:∀o∈ops,OpKt w.heap.size w o
section
variable {w w' w0:World}{bp bd B:Nat}{F:Nat->Prop}{a:KA}{q q':KP}{i n T:Nat}{P:KS->Prop}{o:OpK}
theorem does_any(h:KX w0 w bp bd F a q q.f q.has q.cm)(hv:KInv q i n T P)(hi:i<=880)(hT:T<=40000000)(hn:n<=60)(ho:OpKt B w o)(hB:∀k,a.foot bp k->B<=k):
  Calls Tryz.prog 32 #[.pointer (some ⟨bp,0,none⟩), .agg #[.int .i64 o.Do, .int .i64 o.f, .int .i64 o.N, .int .i64 o.K, .slice o.A o.m o.c, .slice o.C o.nc o.cc]] w (DoE w0 bp bd F q i n T o.Do):=by
 have h0:=Int.emod_nonneg o.Do (show (9:Int)≠0 by omega)
 have h1:=Int.emod_lt_of_pos o.Do (show (0:Int)<9 by omega)
 by_cases e1:o.Do % 9=0\/o.Do % 9=1
 ·exact doesC h hv hi hT hn e1 ho.bs
 by_cases e2:o.Do % 9=2
 ·exact doesD h hv hi hT hn e2 ho.bs
 by_cases e3:o.Do % 9=3
 ·exact doesR h hv hi hT hn e3
 by_cases e4:o.Do % 9=4
 ·exact doesM h hv hi hT hn e4
 by_cases e5:o.Do % 9=5
 ·exact doesF h hv hi e5
 by_cases e6:o.Do % 9=6
 ·exact doesS h hv hi e6
 by_cases e7:o.Do % 9=7
 ·exact doesX h hv hi hT hn e7 ho.cs ho.rng fun a' ha hp e=>by
   have h5:=ho.csB a' ha hp
   have h6:=hB a'.block (.inr (.inr (.inr (.inr (.inr e)))))
   omega
 exact doesO h hv hi hT hn (by omega)
def LoF(B:Nat)(w0:World)(F:Nat->Prop):Prop:=B<=w0.heap.size/\∀k,F k->B<=k
theorem does_pg(hp:KG w0 w bp bd F q)(hl:LoF B w0 F)(hv:KInv q i n T P)(hi:i<=880)(hT:T<=40000000)(hn:n<=60)(ho:OpKt B w o):
  Calls Tryz.prog 32 #[.pointer (some ⟨bp,0,none⟩), .agg #[.int .i64 o.Do, .int .i64 o.f, .int .i64 o.N, .int .i64 o.K, .slice o.A o.m o.c, .slice o.C o.nc o.cc]] w (DoE w0 bp bd F q i n T o.Do):=by
 obtain⟨a,hx⟩:=hp
 have hl1:=hl.1
 exact does_any hx hv hi hT hn ho fun k hk=>(hx.sF k hk).elim (hl.2 k) fun e=>by omega
theorem tells_px(h:KX w0 w bp bd F a q q.f q.has q.cm)(hv:KInv q i n T P)(hn:n<=1000):
  Calls Tryz.prog 31 #[.pointer (some ⟨a.bs,0,none⟩), .pointer (some ⟨a.bc,0,none⟩)] w fun e w'=>Fresh w w'/\e= .returned (.bool true):=by
 obtain⟨t1,t2,t3⟩:=(hv.tok hn).1
 obtain⟨v,h1,_,_⟩:=h.km.c
 refine(tells_any h.km.sd t1 t3 h1 t1 t2).mono ?_
 rintro e w' ⟨hf,rfl⟩
 refine⟨hf, ?_⟩
 unfold tellB
 rw[decide_eq_true ⟨rfl,rfl⟩]
end
attribute [local go_sem] Oper.semAt_some
def BgnK(w:World)(x:Ending)(w':World):Prop:=∃bp bd F,x= .returned (.pointer (some ⟨bp,0,none⟩))/\Fresh w w'/\KG w' w' bp bd F KP.new/\(∀k,F k->w.heap.size<=k)
theorem begunK_any(w:World):Calls Tryz.prog 11 #[] w (BgnK w):=by
 have KD:=zh (newDisk_mine w)
 go_enter Tryz.func11,Tryz.ntmps11
 go_wp2_with fail
 refine KD.out.mono ?_
 rintro e w1 ⟨bd,S,rfl,hm⟩
 have KO:=zh (open_sd (p:=PS.new) (st:=KS.new) hm.1 PInv.new (by omega) (by omega) rfl rfl)
 have HM:=zh hm
 clear hm KD
 go_wp2_with fail
 refine KO.out.mono ?_
 rintro e w2 ⟨sb,bl,mb,R,sv,rv,kv,vs,cs,rfl,ht2,hsd,hnew⟩
 have hm:=HM.out
 have hs1:=hm.fresh.size
 have hs2:=ht2.size
 have hf2:Fresh w w2:=hm.fresh.trans ht2 fun k hk hS=>by have:=hm.new k hS;omega
 have HEND:=zh (show BgnK w (.returned (.pointer (some ⟨w2.heap.size+1,0,none⟩))) ((w2.alloc (.cells #[.int .i64 0, .slice none 0 0] 77)).alloc (.cells #[.pointer (some ⟨bd,0,none⟩), .pointer (some ⟨sb,0,none⟩), .pointer (some ⟨w2.heap.size,0,none⟩), .slice none 0 0, .slice none 0 0, .int .i64 (-1), .bool false, .int .i64 0] 37)) from by
  obtain⟨w3,hw3⟩:∃w3,w3=w2.alloc (.cells #[.int .i64 0, .slice none 0 0] 77):=⟨_,rfl⟩
  rw[<- hw3]
  obtain⟨w4,hw4⟩:∃w4,w4=w3.alloc (.cells #[.pointer (some ⟨bd,0,none⟩), .pointer (some ⟨sb,0,none⟩), .pointer (some ⟨w2.heap.size,0,none⟩), .slice none 0 0, .slice none 0 0, .int .i64 (-1), .bool false, .int .i64 0] 37):=⟨_,rfl⟩
  rw[<- hw4]
  have hf3:Fresh w2 w3:=by rw[hw3];exact(Touch.refl (fun _=>False) w2).alloc _
  have hf4:Fresh w3 w4:=by rw[hw4];exact(Touch.refl (fun _=>False) w3).alloc _
  have hsz3:w3.heap.size=w2.heap.size+1:=by rw[hw3,alloc_size]
  have hbc:Blk w3 w2.heap.size 77 #[.int .i64 0, .slice none 0 0]:=by rw[hw3];exact Blk.new _ _ _
  have hblk:Blk w4 (w2.heap.size+1) 37 #[.pointer (some ⟨bd,0,none⟩), .pointer (some ⟨sb,0,none⟩), .pointer (some ⟨w2.heap.size,0,none⟩), .slice none 0 0, .slice none 0 0, .int .i64 (-1), .bool false, .int .i64 0]:=by rw[hw4,<- hsz3];exact Blk.new _ _ _
  have hlt:=hsd.lt_
  have hf24:Fresh w2 w4:=hf3.trans hf4 fun _ _=>id
  have hs4:=hblk.lt
  have hown:∀k,(k=w2.heap.size+1\/(Value.slice none 0 0).ownBlock=some k\/(Value.slice none 0 0).ownBlock=some k)->k=w2.heap.size+1:=fun k hk=>by
   rcases hk with hk | hk | hk
   ·exact hk
   ·cases hk
   ·cases hk
  obtain⟨a,ha⟩:∃a:KA,a=⟨sb,bl,w2.heap.size,mb,S,R,(fun k=>k=w2.heap.size),openP [] 0,sv,rv,kv, .slice none 0 0, .slice none 0 0,vs,cs, []⟩:=⟨_,rfl⟩
  have hpm:KM w4 (w2.heap.size+1) bd a KP.new KP.new.f KP.new.has KP.new.cm:=by
   rw[ha]
   refine⟨hblk,hsd.fresh hf24,Alk.refl _,⟨.slice none 0 0,⟨hbc.touch hf4 id, .inl (Own.nil_ _ _ _)⟩,rfl,fun k hk=>(by cases hk)⟩,Own.nil_ _ _ _,rfl,fun i y b h1 _=>by simp[KP.new]at h1,Own.nil_ _ _ _,fun k hk e=> ?_,fun k hk e=> ?_,fun k hk=> ?_⟩
   ·have h5:=hlt k e
    rcases hk with hk | hk
    ·have:=hown k hk;omega
    ·have h6:k=w2.heap.size:=hk
     omega
   ·have h6:k=w2.heap.size:=hk
    have:=hown k e
    omega
   ·have h6:k=w2.heap.size:=hk
    omega
  refine⟨w2.heap.size+1,bd,a.foot (w2.heap.size+1),rfl,hf2.trans hf24 fun _ _=>id,hpm.same.kg,fun k hk=> ?_⟩
  rw[ha]at hk
  rcases hk with hk | hk | hk
  ·have:=hown k hk;omega
  ·have h6:k=w2.heap.size:=hk
   omega
  ·rcases hk with e | e | e | e
   ·have:=hnew k (.inl e);omega
   ·have:=hnew k (.inr (.inl e));omega
   ·have:=hnew k (.inr (.inr e));omega
   ·exact hm.new k e)
 clear hm hs1 hs2 hf2 ht2 hsd hnew KO HM
 go_wp2_with fail
 go_ret
 exact HEND.out
theorem s1{α:Type}{l:List α}{i:Nat}{a:α}:l.toArray.setIfInBounds i a=(l.set i a).toArray:=List.setIfInBounds_toArray ..
theorem s2{α:Type}{x a:α}{l:List α}:(x :: l).set 0 a=a :: l:=rfl
theorem s3{α:Type}{x a:α}{l:List α}{n:Nat}:(x :: l).set (n+1) a=x :: l.set n a:=rfl
theorem tk{P:Program}{l:List Oper}{Q:Exit->Act->World->Prop}{md:Region.Mode}(i:Nat){oi:Oper}{v:Value}{fuel:Nat}{listed:Array Bool}{a:Act}{w:World}(hi:l[i]? =some oi)
  (hq:∀c a w,Q (.panic c) (a.put oi.dst v) w->Q (.panic c) a w) (hy:Yields P l.toArray oi v a)
  (h:wpAny P md l.toArray Q fuel (listed.setIfInBounds i true) (a.put oi.dst v) w) (hs:Region.noSelect l.toArray=true:=by kernel_rfl) (hf:Region.free md l.toArray listed i=true:=by kernel_rfl) (hr:(Region.ready md l.toArray listed).contains i=true:=by kernel_rfl):wpAny P md l.toArray Q (fuel+1) listed a w:=
 wpAny_take ((List.getElem?_toArray ..).trans hi) hs hf hr hq hy h
theorem via{p q:Prop}(f:p->q)(h:p):q:=f h
theorem OpsKt.len{w:World}{A:Option Addr}{n c:Nat}{ops:List OpK}(h:OpsKt w A n c ops):ops.length=n:=by
 have:=h.vs.1
 rw[flat_length OpK.cells 6 (fun _=>rfl)]at this
 omega
theorem OpsKt.spot{w:World}{A:Option Addr}{n c j:Nat}{ops:List OpK}(h:OpsKt w A n c ops)(hj:j<n):∃b off o,A=some ⟨b,off,none⟩/\ops[j]? =some o:=by
 have hlen:=h.len
 obtain⟨b,off,rfl,_⟩:=h.vs.2.2.2 (by omega)
 exact⟨b,off,ops[j]'(by omega),rfl,List.getElem?_eq_getElem _⟩
theorem OpsKt.rd{w W:World}{b off n c j:Nat}{ops:List OpK}{o:OpK}(h:OpsKt w (some ⟨b,off,none⟩) n c ops)(ho:ops[j]? =some o)(hf:Fresh w W):OpKt w.heap.size W o/\
  W.cell? ⟨b,off+j*6,none⟩=some (.int .i64 o.Do)/\W.cell? ⟨b,off+j*6+1,none⟩=some (.int .i64 o.f)/\W.cell? ⟨b,off+j*6+2,none⟩=some (.int .i64 o.N)/\W.cell? ⟨b,off+j*6+3,none⟩=some (.int .i64 o.K)/\W.cell? ⟨b,off+j*6+4,none⟩=some (.slice o.A o.m o.c)/\W.cell? ⟨b,off+j*6+5,none⟩=some (.slice o.C o.nc o.cc):=by
 have hv:=h.vs.fresh hf
 have hx:=fun r hr=>flat_at OpK.cells 6 (fun _=>rfl) ops j r o ho hr
 exact⟨(h.op o (List.mem_of_getElem? ho)).touch hf fun _ e=>e.elim,hv.cellAt (hx 0 (by omega)),hv.cellAt (hx 1 (by omega)),hv.cellAt (hx 2 (by omega)),hv.cellAt (hx 3 (by omega)),hv.cellAt (hx 4 (by omega)),hv.cellAt (hx 5 (by omega))⟩
def WakesOk:Prop:=∀w:World,Calls Tryz.prog 20 #[] w fun e w'=>e= .returned (.bool true)/\Fresh w w'
end Go.Proofs.YtjehlgblkfofpaaGreat
namespace Go.Proofs.YtjehlgblkfofpaaGreat
open Go.RowKit
structure SQ(w:World)(bd:Nat)(a:KA)(q:KP):Prop where
 sd:SD w a.bs a.bl bd a.S a.R a.l q.p.d a.sv a.rv a.vs a.cs a.kv a.mb q.f q.has q.cm
 alk:Alk q.p.l a.l
structure SqX(w w':World)(bd:Nat)(a a':KA)(q':KP):Prop where
 sq:SQ w' bd a' q'
 tch:Touch a.sto w w'
 sub:∀k,a'.sto k->a.sto k\/w.heap.size<=k
section
variable {w w' w'' w0 W:World}{bp bd:Nat}{F:Nat->Prop}{a a' a2:KA}{q q' q2:KP}{i n T:Nat}{P:KS->Prop}
theorem SQ.lt(h:SQ w bd a q):∀k,a.sto k->k<w.heap.size:=h.sd.lt_
theorem SQ.away{Q:Nat->Prop}(h:SQ w bd a q)(ht:Touch Q w w')(hn:∀k,Q k->¬a.sto k):SQ w' bd a q:=
 ⟨⟨h.sd.ld.away ht fun k hk e=>hn k hk (.inr e),h.sd.ct.touch ht fun k hk e=>hn k e (.inl hk),h.sd.s0,h.sd.s1,h.sd.s5,h.sd.apart⟩,h.alk⟩
theorem SQ.fresh(h:SQ w bd a q)(hf:Fresh w w'):SQ w' bd a q:=h.away hf fun _ e=>e.elim
theorem SQ.same(h:SQ w bd a q):SqX w w bd a a q:=⟨h,Touch.refl _ _,fun _=> .inl⟩
theorem SqX.fresh(h:SqX w w' bd a a' q')(hf:Fresh w' w''):SqX w w'' bd a a' q':=⟨h.sq.fresh hf,h.tch.trans hf fun _ _ e=>e.elim,h.sub⟩
theorem SqX.trans(h:SqX w w' bd a a' q')(h2:SqX w' w'' bd a' a2 q2):SqX w w'' bd a a2 q2:=by
 have hs:=h.tch.size
 exact⟨h2.sq,h.tch.trans h2.tch fun k hk e=>(h.sub k e).elim id fun e=>by omega,fun k hk=>(h2.sub k hk).elim (h.sub k) fun e=> .inr (by omega)⟩
theorem SB.sqx{fs:Int}{hs:KL}{cm':Nat}{l':Lg}{d':Dk}(hb:SB w w' a.bs a.bl bd a.S a.R a.sv a.rv a.kv a.mb l' d' fs hs cm')(hd:q'.p.d=d')(hf:q'.f=fs)(hh:q'.has=hs)(hc:q'.cm=cm')(ha:Alk q'.p.l l'):
  ∃a',a'.bs=a.bs/\SqX w w' bd a a' q':=by
 obtain⟨S',R',sv',rv',vs',cs',kv',hx⟩:=hb
 refine⟨{ a with S:=S',R:=R',l:=l',sv:=sv',rv:=rv',kv:=kv',vs:=vs',cs:=cs' },rfl,⟨by rw[hd,hf,hh,hc];exact hx.sd,ha⟩,hx.tch.mono fun k _ e=> ?_,fun k hk=> ?_⟩
 ·rcases e with e | e | e
  ·exact .inl e
  ·exact .inr (.inl e)
  ·exact .inr (.inr (.inr e))
 ·rcases hk with(e | e | e) | e | e | e
  ·exact .inl (.inl (.inl e))
  ·exact(hx.sK k e).imp (fun e=> .inl (.inr (.inl e))) id
  ·exact .inl (.inl (.inr (.inr e)))
  ·exact(hx.sF k e).imp (fun e=> .inr (.inl e)) id
  ·exact(hx.sR k e).imp (fun e=> .inr (.inr (.inl e))) id
  ·exact(hx.sS k e).imp (fun e=> .inr (.inr (.inr e))) id
theorem SQ.begs(h:SQ w bd a q)(hv:PInv q.p i T)(hi:i<=900)(hb:q.p.l.base=0):BegB a.l q.p.d 270000000 a.l.c.first a.l.c.next 0/\a.l.segs.length<1024:=by
 obtain⟨h1,h2,h3,h4,h5⟩:=hv.cn hi h.alk
 have h6:a.l.c.first<=a.l.c.next:=Nat.le_add_right _ _
 exact⟨hv.begB hi (by omega) h.alk (by omega) (by omega) (by omega),by omega⟩
theorem KInv.ops_(hv:KInv q i n T P)(hi:i<=890)(hT:T<=49000000){ops:List Dec.Op}{ys:List UInt8}(hy:Enc.ops ops=some ys)(hr:ops.all rightB=true)(hn:ops.length<=10000)(hw:opwt ops<=4256):
  KInv (q.call (111 :: ys) (q.f,kdo q.has ops)) (i+1) (n+1) (T+5000) Any/\((appendP q.p.d q.p.l (111 :: ys)).2.2.2≠0->((appendP q.p.d q.p.l (111 :: ys)).2.2.2=3\/(appendP q.p.d q.p.l (111 :: ys)).2.2.2=4)/\hindered q.p q.p.d.ops (q.call (111 :: ys) (q.f,kdo q.has ops)).p.d.ops=true):=by
 have hyl:ys.length<=opwt ops+8:=by
  obtain⟨ys',h1,h2⟩:=right_enc hr hn (by omega)
  rw[hy]at h1
  injection h1 with h1
  rw[h1]
  exact h2
 have hb111:(111 :: ys:List UInt8).length<=4300:=by rw[List.length_cons];omega
 obtain⟨g1,g2⟩:=hv.call (by omega) (by omega) (by omega) (.ops ops) ⟨ys,hy,rfl⟩ (fun _=>trivial) (nx:=(q.f,kdo q.has ops)) (fun s h1 h2=>⟨h1,by show kdo s.has ops= _;rw[h2]⟩) (Nat.le_succ n) ⟨kdo_sort ops hv.sort,hv.f0,by have:=wt_kdo ops hv.sort;have:=hv.wt;show wgt (kdo q.has ops)<= _;rw[Nat.succ_mul];omega⟩ (Int.le_refl _)
 exact⟨g1.up (Nat.le_refl _) (Nat.le_refl _) (by omega),g2⟩
def CqE(w w':World)(bd:Nat)(a:KA)(q:KP)(g:Int)(ops:List Dec.Op)(er:Int):Prop:=
 ((refE q.f g ops≠0\/ops= [])/\er=refE q.f g ops/\Fresh w w')\/
 (g=q.f/\ops.all rightB=true/\ops≠ []/\∃ys,Enc.ops ops=some ys/\er=(appendP q.p.d q.p.l (111 :: ys)).2.2.2/\∃a',a'.bs=a.bs/\SqX w w' bd a a' (q.call (111 :: ys) (q.f,kdo q.has ops)))
theorem call_at{b:List UInt8}{nx:Int×KL}(hv:PInv q.p i T)(hi:i<=900)(hT:T<=300000000)(hb:b.length<=260000):(q.call b nx).p.d=(appendP q.p.d q.p.l b).1/\(q.call b nx).p.l=(appendP q.p.d q.p.l b).2.1/\(q.call b nx).p.struck=q.p.struck/\(q.call b nx).p.stop=q.p.stop:=by
 obtain⟨_,_,_,_,g5,g6,g7,g8⟩:=hv.app hi hT hb
 rw[KP.call_p]
 exact⟨g5,g6,g7,g8⟩
theorem commit_sq(h:SQ w bd a q)(hv:KInv q i n T P)(hi:i<=890)(hT:T<=49000000)(hl:q.has.length<=50000)(hz:ksize q.has<=100000000)(g:Int){B:Option Addr}{nn c:Nat}{ops:List Dec.Op}(hb:Vs w 3 B nn c (opsV ops))(hB:∀a',B=some a'->0<nn->¬a.sto a'.block/\a'.block<w.heap.size)
  (hn:nn<=10000) (hs:∀x∈ops,x.k.length<=1048576/\x.v.length<=1048576) (hw:opwt ops<=200000):
  Calls Tryz.prog 15 #[.pointer (some ⟨a.bs,0,none⟩), .int .i64 g, .slice B nn c] w fun e w'=>∃er:Int,e= .returned (.int .i64 er)/\CqE w w' bd a q g ops er:=by
 obtain⟨hB1,hns⟩:=h.begs hv.pv (by omega) hv.base
 have hlens:=hv.lens
 have hln:ops.length=nn:=by have:=hb.1;rw[opsV_length]at this;omega
 refine(commit_any h.sd g B nn c ops hb (fun a' ha h0=> ?_) hn (fun x hx=>by have:=hs x hx;unfold maxLen;omega) hl hz (by omega) hB1 hns).mono ?_
 ·obtain⟨h1,h2⟩:=hB a' ha h0
  refine⟨fun e=>h1 ?_,h2⟩
  rcases e with e | e | e
  ·exact .inl e
  ·exact .inr (.inl e)
  ·exact .inr (.inr (.inr e))
 ·intro e w' hend
  have go:∀{ys:List UInt8} {hs':KL} {cm':Nat} (er:Int),g=q.f->ops.all rightB=true->ops≠ []->Enc.ops ops=some ys->er=(appendP q.p.d a.l (111 :: ys)).2.2.2->hs'=(if er=0 then kdo q.has ops else q.has)->cm'=(if er=0 then q.cm+1 else q.cm)->
    SB w w' a.bs a.bl bd a.S a.R a.sv a.rv a.kv a.mb (appendP q.p.d a.l (111 :: ys)).2.1 (appendP q.p.d a.l (111 :: ys)).1 q.f hs' cm'->CqE w w' bd a q g ops er:=by
   intro ys hs' cm' er h1 h2 h3 h4 h5 h6 h7 hsb
   have hyl:ys.length<=opwt ops+8:=by
    obtain⟨ys',h1,h2⟩:=right_enc h2 (by omega) (by omega)
    rw[h4]at h1
    injection h1 with h1
    rw[h1]
    exact h2
   obtain⟨c1,c2,_,_⟩:=call_at (b:=111 :: ys) (nx:=(q.f,kdo q.has ops)) hv.pv (by omega) (by omega) (by rw[List.length_cons];omega)
   obtain⟨k1,k2,k3⟩:=append_alk (d:=q.p.d) h.alk (111 :: ys)
   rw[k3]at h5
   obtain⟨a4,e1,e2⟩:=SB.sqx (q':=q.call (111 :: ys) (q.f,kdo q.has ops)) hsb (by rw[c1,k1]) (by unfold KP.call;split<;>rfl) (by rw[h6,h5];unfold KP.call;split<;>rfl) (by rw[h7,h5];unfold KP.call;split<;>rfl) (by rw[c2];exact k2)
   exact .inr ⟨h1,h2,h3,ys,h4,h5,a4,e1,e2⟩
  cases hend with
  | fenced h1 he hf2=>exact⟨5,he, .inl ⟨.inl (by unfold refE;rw[if_pos h1];omega),by unfold refE;rw[if_pos h1],hf2⟩⟩
  | form h1 h2 he hf2=>
   have e:refE q.f g ops=2:=by unfold refE;rw[if_neg (by omega),if_neg (by rw[h2];simp)]
   exact⟨2,he, .inl ⟨.inl (by omega),e.symm,hf2⟩⟩
  | large h1 h2 h3 he hf2=>
   exfalso
   obtain⟨ys,hy,hyl⟩:=right_enc h2 (by omega) (by omega)
   unfold longB at h3
   rw[hy]at h3
   have:=of_decide_eq_true h3
   omega
  | none_ h1 h2 he hf2=>
   have e:refE q.f g ops=0:=by unfold refE;rw[if_neg (by omega),if_pos (by simp[h2])]
   exact⟨0,he, .inl ⟨.inr h2,e.symm,hf2⟩⟩
  | bad h1 h2 h3 ys hy hyl he hne hsb=>exact⟨_,he,go _ h1 h2 h3 hy rfl (by rw[if_neg hne]) (by rw[if_neg hne]) (by rw[<- h1]at hsb ⊢;exact hsb)⟩
  | good h1 h2 h3 ys hy hyl he hne hsb=>exact⟨0,he,go 0 h1 h2 h3 hy hne.symm (by rw[if_pos rfl]) (by rw[if_pos rfl]) (by rw[<- h1]at hsb ⊢;exact hsb)⟩
def RqE(w w':World)(bd:Nat)(a:KA)(q:KP)(g:Int)(er:Int):Prop:=
 (g<=q.f/\er=5/\Fresh w w')\/(4503599627370496<g/\er=1/\Fresh w w')\/
 (q.f<g/\g<=4503599627370496/\∃ys,Enc.plain g=some ys/\ys.length<=8/\er=(appendP q.p.d q.p.l (102 :: ys)).2.2.2/\∃a',a'.bs=a.bs/\SqX w w' bd a a' (q.call (102 :: ys) (g,q.has)))
theorem raise_sq(h:SQ w bd a q)(hv:KInv q i n T P)(hi:i<=890)(hT:T<=49000000)(g:Int):
  Calls Tryz.prog 36 #[.pointer (some ⟨a.bs,0,none⟩), .int .i64 g] w fun e w'=>∃er:Int,e= .returned (.int .i64 er)/\RqE w w' bd a q g er:=by
 obtain⟨hB1,hns⟩:=h.begs hv.pv (by omega) hv.base
 have hlens:=hv.lens
 have hf0:=hv.f0.1
 refine(raise_any h.sd g hf0 (by omega) hB1 hns).mono fun e w' hend=> ?_
 have go:∀{ys:List UInt8} {fs:Int} {cm':Nat} (er:Int),q.f<g->g<=4503599627370496->Enc.plain g=some ys->er=(appendP q.p.d a.l (102 :: ys)).2.2.2->fs=(if er=0 then g else q.f)->cm'=(if er=0 then q.cm+1 else q.cm)->
   SB w w' a.bs a.bl bd a.S a.R a.sv a.rv a.kv a.mb (appendP q.p.d a.l (102 :: ys)).2.1 (appendP q.p.d a.l (102 :: ys)).1 fs q.has cm'->RqE w w' bd a q g er:=by
  intro ys fs cm' er h1 h2 h4 h5 h6 h7 hsb
  have hyl:ys.length<=8:=by
   obtain⟨ys',e1,e2⟩:=plain_ok (n:=g) (by omega) h2
   rw[h4]at e1
   injection e1 with e1
   rw[e1]
   exact e2
  obtain⟨c1,c2,_,_⟩:=call_at (b:=102 :: ys) (nx:=(g,q.has)) hv.pv (by omega) (by omega) (by rw[List.length_cons];omega)
  obtain⟨k1,k2,k3⟩:=append_alk (d:=q.p.d) h.alk (102 :: ys)
  rw[k3]at h5
  obtain⟨a4,e1,e2⟩:=SB.sqx (q':=q.call (102 :: ys) (g,q.has)) hsb (by rw[c1,k1]) (by rw[h6,h5];unfold KP.call;split<;>rfl) (by unfold KP.call;split<;>rfl) (by rw[h7,h5];unfold KP.call;split<;>rfl) (by rw[c2];exact k2)
  exact .inr (.inr ⟨h1,h2,ys,h4,hyl,h5,a4,e1,e2⟩)
 cases hend with
 | fenced h1 he hf2=>exact⟨5,he, .inl ⟨h1,rfl,hf2⟩⟩
 | arg h1 h2 he hf2=>exact⟨1,he, .inr (.inl ⟨h2,rfl,hf2⟩)⟩
 | bad h1 h2 ys hy he hne hsb=>exact⟨_,he,go _ h1 h2 hy rfl (by rw[if_neg hne]) (by rw[if_neg hne]) hsb⟩
 | good h1 h2 ys hy he hne hsb=>exact⟨0,he,go 0 h1 h2 hy hne.symm (by rw[if_pos rfl]) (by rw[if_pos rfl]) hsb⟩
theorem KInv.raise_(hv:KInv q i n T P)(hi:i<=890)(hT:T<=49000000){g:Int}{ys:List UInt8}(hy:Enc.plain g=some ys)(hyl:ys.length<=8)(h1:q.f<g)(h2:g<=4503599627370496):
  KInv (q.call (102 :: ys) (g,q.has)) (i+1) (n+1) (T+5000) Any/\((appendP q.p.d q.p.l (102 :: ys)).2.2.2≠0->((appendP q.p.d q.p.l (102 :: ys)).2.2.2=3\/(appendP q.p.d q.p.l (102 :: ys)).2.2.2=4)/\hindered q.p q.p.d.ops (q.call (102 :: ys) (g,q.has)).p.d.ops=true):=by
 have hb:(102 :: ys:List UInt8).length<=9:=by rw[List.length_cons];omega
 have hf0:=hv.f0.1
 obtain⟨g1,g2⟩:=hv.call (by omega) (by omega) (by omega) (.fence g) ⟨ys,hy,rfl⟩ (fun _=>trivial) (nx:=(g,q.has)) (fun s h1 h2=>⟨rfl,h2⟩) (Nat.le_succ n) ⟨hv.sort,⟨by omega,h2⟩,Nat.le_trans hv.wt (Nat.mul_le_mul_right _ (Nat.le_succ n))⟩ (by omega)
 exact⟨g1.up (Nat.le_refl _) (Nat.le_refl _) (by omega),g2⟩
def KP.Calm(q:KP):Prop:=q.p.struck= []/\q.p.stop= -1
theorem KP.Calm.free(h:q.Calm)(lo hi:Nat):hindered q.p lo hi=false:=by
 unfold hindered
 rw[h.1,h.2]
 simp
theorem KP.Calm.call{b:List UInt8}{nx:Int×KL}(h:q.Calm)(hv:PInv q.p i T)(hi:i<=900)(hT:T<=300000000)(hb:b.length<=260000):(q.call b nx).Calm/\(appendP q.p.d q.p.l b).2.2.2=0/\(q.call b nx).f=nx.1/\(q.call b nx).has=nx.2/\(q.call b nx).cm=q.cm+1/\(q.call b nx).maybe= []/\(q.call b nx).broken=false:=by
 obtain⟨_,_,c3,c4⟩:=call_at (b:=b) (nx:=nx) hv hi hT hb
 have h0:(appendP q.p.d q.p.l b).2.2.2=0:=by
  by_cases e:(appendP q.p.d q.p.l b).2.2.2=0
  ·exact e
  ·have:=((hv.app hi hT hb).2.1 e).2
   rw[h.free]at this
   cases this
 refine⟨⟨c3.trans h.1,c4.trans h.2⟩,h0, ?_⟩
 unfold KP.call
 rw[if_pos h0]
 exact⟨rfl,rfl,rfl,rfl,rfl⟩
theorem crash_sq(h:SQ w bd a q)(hv:PInv q.p i T)(hi:i<=900){A:Option Addr}{m c:Nat}{cuts:List Int}(hx:IsInts w A m c cuts)(hxw:∀x∈cuts,-9223372036854775808<=x/\x<=9223372036854775807)(hxb:∀a',A=some a'->0<m->¬a.S a'.block):
  Calls Tryz.prog 16 #[.pointer (some ⟨bd,0,none⟩), .slice A m c] w fun e w'=>e= .returned (.tuple #[])/\∃a',a'.bs=a.bs/\SqX w w' bd a a' { q with p:={ q.p with d:=q.p.d.crash cuts } }:=by
 refine(disk_crash h.sd.ld.dk (hv.small hi) (by omega) hx hxw hxb).mono ?_
 rintro e w' ⟨rfl,ht,hd⟩
 refine⟨rfl, ?_⟩
 have hs:=h.sd.log (h.sd.ld.same.disk ht hd)
 exact SB.sqx (q':={ q with p:={ q.p with d:=q.p.d.crash cuts } }) hs.sb rfl rfl rfl rfl h.alk
theorem reopen_sq{cuts:List Int}(h:SQ w bd a { q with p:={ q.p with d:=q.p.d.crash cuts } })(hv:KInv q i n T P)(hi:i<=890)(hT:T<=49000000):
  ∃s:KS,q.May s/\q.f<=s.fence/\KInv ⟨q.p.crashS cuts,s.fence,s.has, [],false,0⟩ (i+1) n T Any/\
  Calls Tryz.prog 17 #[.pointer (some ⟨bd,0,none⟩), .int .i64 0] w fun e w'=>∃a',e= .returned (.tuple #[.pointer (some ⟨a'.bs,0,none⟩), .int .i64 0])/\SqX w w' bd a a' ⟨q.p.crashS cuts,s.fence,s.has, [],false,0⟩:=by
 obtain⟨s,s1,s2,s3,s4⟩:=hv.crash (by omega) cuts
 have hb:=hv.base
 refine⟨s,s2,s3,s4,(open_sd (p:=q.p.crashS cuts) (i:=i+1) (T:=T) h.sd.ld.dk s4.pv (by omega) (by omega) (by show openP _ q.p.l.base= _;rw[hb];rfl) s1).mono ?_⟩
 rintro e w' ⟨sb,bl,mb,R,sv,rv,kv,vs,cs,rfl,ht,hsd,hnew⟩
 refine⟨{ a with bs:=sb,bl:=bl,mb:=mb,R:=R,sv:=sv,rv:=rv,kv:=kv,vs:=vs,cs:=cs,l:=(q.p.crashS cuts).l },rfl,⟨hsd,Alk.refl _⟩,ht.mono fun k _ e=> .inr (.inr (.inr e)),fun k hk=> ?_⟩
 rcases hk with e | e | e | e
 ·exact .inr (hnew k (.inl e))
 ·exact .inr (hnew k (.inr (.inl e)))
 ·exact .inr (hnew k (.inr (.inr e)))
 ·exact .inl (.inr (.inr (.inr e)))
theorem KInv.few_(h:KInv q i n T P)(hn:n<=60):q.has.length<=50000/\ksize q.has<=100000000:=by
 have hw:=h.wt
 have hwe:=wgt_eq q.has
 have hwm:n*4256<=60*4256:=Nat.mul_le_mul_right _ hn
 omega
def Cq(q:KP)(i n T:Nat):Prop:=q.Calm/\KInv q i n T Any/\q.maybe= []
theorem Cq.new:Cq KP.new 1 0 0:=⟨⟨rfl,rfl⟩,KInv.new,rfl⟩
theorem commit_ok(h:SQ w bd a q)(hv:Cq q i n T)(hi:i<=880)(hT:T<=40000000)(hn:n<=60){B:Option Addr}{nn c:Nat}{ops:List Dec.Op}(hb:Vs w 3 B nn c (opsV ops))(hB:∀a',B=some a'->0<nn->¬a.sto a'.block/\a'.block<w.heap.size)
  (hr:ops.all rightB=true) (hnn:nn<=1000) (hw:opwt ops<=4256):
  Calls Tryz.prog 15 #[.pointer (some ⟨a.bs,0,none⟩), .int .i64 q.f, .slice B nn c] w fun e w'=>e= .returned (.int .i64 0)/\∃a' q',a'.bs=a.bs/\SqX w w' bd a a' q'/\Cq q' (i+1) (n+1) (T+5000)/\q'.f=q.f/\q'.has=kdo q.has ops:=by
 obtain⟨hc,hk,hm⟩:=hv
 obtain⟨t1,t2⟩:=hk.few_ hn
 have hln:ops.length=nn:=by have:=hb.1;rw[opsV_length]at this;omega
 refine(commit_sq h hk (by omega) (by omega) (by omega) (by omega) q.f hb hB (by omega) (fun x hx=>by have:=right_len hr x hx;omega) (by omega)).mono ?_
 rintro e w' ⟨er,rfl,hce⟩
 rcases hce with⟨h1,h2,h3⟩ | ⟨h1,h2,h3,ys,hy,he,a',e1,e2⟩
 ·have h0:refE q.f q.f ops=0:=by unfold refE;rw[if_neg (by simp),if_pos hr]
  rw[h0]at h1 h2
  have hnil:ops= []:=by simpa using h1
  subst hnil
  rw[h2]
  exact⟨rfl,a,q,rfl,h.same.fresh h3,⟨hc,(hk.weak fun _ _=>trivial).up (by omega) (by omega) (by omega),hm⟩,rfl,rfl⟩
 ·have hyl:ys.length<=4300:=by
   obtain⟨ys',h1,h2⟩:=right_enc hr (by omega) (by omega)
   rw[hy]at h1
   injection h1 with h1
   rw[h1]
   omega
  obtain⟨d1,d2,d3,d4,d5,d6,d7⟩:=hc.call (b:=111 :: ys) (nx:=(q.f,kdo q.has ops)) hk.pv (by omega) (by omega) (by rw[List.length_cons];omega)
  rw[d2]at he
  rw[he]
  exact⟨rfl,a',_,e1,e2,⟨d1,(hk.ops_ (by omega) (by omega) hy hr (by omega) hw).1,d6⟩,d3,d4⟩
theorem raise_ok(h:SQ w bd a q)(hv:Cq q i n T)(hi:i<=880)(hT:T<=40000000){g:Int}(h1:q.f<g)(h2:g<=4503599627370496):
  Calls Tryz.prog 36 #[.pointer (some ⟨a.bs,0,none⟩), .int .i64 g] w fun e w'=>e= .returned (.int .i64 0)/\∃a' q',a'.bs=a.bs/\SqX w w' bd a a' q'/\Cq q' (i+1) (n+1) (T+5000)/\q'.f=g/\q'.has=q.has:=by
 obtain⟨hc,hk,hm⟩:=hv
 refine(raise_sq h hk (by omega) (by omega) g).mono ?_
 rintro e w' ⟨er,rfl,hre⟩
 rcases hre with⟨e1,_⟩ | ⟨e1,_⟩ | ⟨e1,e2,ys,hy,hyl,he,a',e3,e4⟩
 ·omega
 ·omega
 ·obtain⟨d1,d2,d3,d4,d5,d6,d7⟩:=hc.call (b:=102 :: ys) (nx:=(g,q.has)) hk.pv (by omega) (by omega) (by rw[List.length_cons];omega)
  rw[d2]at he
  rw[he]
  exact⟨rfl,a',_,e3,e4,⟨d1,(hk.raise_ (by omega) (by omega) hy hyl h1 h2).1,d6⟩,d3,d4⟩
theorem commit_no(h:SQ w bd a q)(hv:KInv q i n T P)(hi:i<=890)(hT:T<=49000000)(hl:q.has.length<=50000)(hz:ksize q.has<=100000000){g:Int}(hg:g≠q.f){B:Option Addr}{nn c:Nat}{ops:List Dec.Op}(hb:Vs w 3 B nn c (opsV ops))(hB:∀a',B=some a'->0<nn->¬a.sto a'.block/\a'.block<w.heap.size)
  (hr:ops.all rightB=true) (hnn:nn<=1000) (hw:opwt ops<=4256):
  Calls Tryz.prog 15 #[.pointer (some ⟨a.bs,0,none⟩), .int .i64 g, .slice B nn c] w fun e w'=>e= .returned (.int .i64 5)/\Fresh w w':=by
 refine(commit_sq h hv hi hT hl hz g hb hB (by omega) (fun x hx=>by have:=right_len hr x hx;omega) (by omega)).mono ?_
 rintro e w' ⟨er,rfl,hce⟩
 rcases hce with⟨h1,h2,h3⟩ | ⟨h1,_⟩
 ·have h0:refE q.f g ops=5:=by unfold refE;rw[if_pos hg]
  rw[h2,h0]
  exact⟨rfl,h3⟩
 ·exact absurd h1 hg
theorem raise_no(h:SQ w bd a q)(hv:KInv q i n T P)(hi:i<=890)(hT:T<=49000000){g:Int}(hg:g<=q.f):
  Calls Tryz.prog 36 #[.pointer (some ⟨a.bs,0,none⟩), .int .i64 g] w fun e w'=>e= .returned (.int .i64 5)/\Fresh w w':=by
 have hf:=hv.f0.2
 refine(raise_sq h hv hi hT g).mono ?_
 rintro e w' ⟨er,rfl,hre⟩
 rcases hre with⟨_,e1,e2⟩ | ⟨e1,_⟩ | ⟨e1,_⟩
 ·rw[e1];exact⟨rfl,e2⟩
 ·omega
 ·omega
theorem KG.sq(h:KG w0 w bp bd F q):∃a,SQ w bd a q/\w.cell? ⟨bp,0,none⟩=some (.pointer (some ⟨bd,0,none⟩))/\w.cell? ⟨bp,1,none⟩=some (.pointer (some ⟨a.bs,0,none⟩))/\(∀k,a.sto k->F k\/w0.heap.size<=k)/\¬a.sto bp/\(F bp\/w0.heap.size<=bp):=by
 obtain⟨a,hx⟩:=h
 have hm:=hx.km
 exact⟨a,⟨hm.sd,hm.alk⟩,hm.blk.cell 0,hm.blk.cell 1,fun k hk=>hx.sF k (.inr (.inr hk)),hm.dis bp (.inl (.inl rfl)),hx.sF bp (.inl (.inl rfl))⟩
end
def St2(w1 W:World)(bd:Nat)(a:KA)(bs i n T:Nat)(f:Int)(has:KL):Prop:=∃a' q',a'.bs=bs/\SqX w1 W bd a a' q'/\Cq q' i n T/\q'.f=f/\q'.has=has
def St2C(w1 W:World)(bd:Nat)(a:KA)(bs:Nat)(cuts:List Int)(i n T:Nat)(f:Int)(has:KL):Prop:=∃a' q',a'.bs=bs/\SqX w1 W bd a a' { q' with p:={ q'.p with d:=q'.p.d.crash cuts } }/\Cq q' i n T/\q'.f=f/\q'.has=has
section
variable {w w' w1 W W' W0:World}{bp bd bs:Nat}{F:Nat->Prop}{a a' a2:KA}{q q' q2:KP}{i n T:Nat}{f:Int}{has:KL}
theorem vs_cells{cs:Array Value}{t:TypeId}{us:List Value}{nn:Nat}(h:cs.toList=us)(hl:us.length=nn*3)(hn:nn<=1000):Vs (W0.alloc (.cells cs t)) 3 (some ⟨W0.heap.size,0,none⟩) nn nn us:=by
 refine⟨hl,Nat.le_refl _,by unfold maxLen;omega,fun _=>⟨_,_,rfl,fun j x hx=> ?_⟩⟩
 have hb:=Blk.new W0 t cs
 have h1:=hb.cell j
 rw[<- Array.getElem?_toList,h,hx]at h1
 rw[Nat.zero_add]
 exact h1
theorem SQ.st2(h:SQ w1 bd a q)(hc:Cq q i n T):St2 w1 w1 bd a a.bs i n T q.f q.has:=⟨a,q,rfl,h.same,hc,rfl,rfl⟩
theorem St2.fresh(h:St2 w1 W bd a bs i n T f has)(hf:Fresh W W'):St2 w1 W' bd a bs i n T f has:=by
 obtain⟨a',q',h1,h2,h3⟩:=h
 exact⟨a',q',h1,h2.fresh hf,h3⟩
theorem St2.cell(h:St2 w1 W bd a bs i n T f has){p:Addr}{v:Value}(hp:w1.cell? p=some v)(hn:¬a.sto p.block):W.cell? p=some v:=by
 obtain⟨a',q',h1,h2,h3⟩:=h
 exact h2.tch.cell hp hn
theorem St2C.cell{cuts:List Int}(h:St2C w1 W bd a bs cuts i n T f has){p:Addr}{v:Value}(hp:w1.cell? p=some v)(hn:¬a.sto p.block):W.cell? p=some v:=by
 obtain⟨a',q',h1,h2,h3⟩:=h
 exact h2.tch.cell hp hn
theorem St2.new_(h:St2 w1 W bd a bs i n T f has)(hf:Fresh w w1)(hn:∀k,a.sto k->w.heap.size<=k):Fresh w W:=by
 obtain⟨a',q',h1,h2,h3⟩:=h
 exact hf.trans h2.tch fun k hk e=>by have:=hn k e;omega
theorem St2.commitN(h:St2 w1 W bd a bs i n T f has)(hi:i<=880)(hT:T<=40000000)(hn:n<=60)(l:List Dec.Op){cs:Array Value}(hcs:cs.toList=opsV l){nn:Nat}(hnn:l.length=nn)(hnb:nn<=1000)(hr:l.all rightB=true)(hw:opwt l<=4256)(hf:Fresh W W0):
  Calls Tryz.prog 15 #[.pointer (some ⟨bs,0,none⟩), .int .i64 f, .slice (some ⟨W0.heap.size,0,none⟩) nn nn] (W0.alloc (.cells cs 31)) fun e w'=>e= .returned (.int .i64 0)/\St2 w1 w' bd a bs (i+1) (n+1) (T+5000) f (kdo has l):=by
 obtain⟨a',q',h1,h2,h3,h4,h5⟩:=h
 have hf2:Fresh W (W0.alloc (.cells cs 31)):=hf.alloc _
 have hx:=h2.fresh hf2
 have hs:=hf.size
 have hs2:(W0.alloc (.cells cs 31)).heap.size=W0.heap.size+1:=World.size_alloc _ _
 have hlen:(opsV l).length=nn*3:=by rw[opsV_length,hnn]
 subst h4 h5 h1
 refine(commit_ok hx.sq h3 hi hT hn (vs_cells hcs hlen hnb) (fun a9 ha h0=> ?_) hr hnb hw).mono ?_
 ·injection ha with ha
  subst ha
  refine⟨fun e=> ?_,by rw[hs2];exact Nat.lt_succ_self _⟩
  have h9:W0.heap.size<W.heap.size:=h2.sq.lt _ e
  omega
 ·rintro e w' ⟨rfl,a3,q3,e1,e2,e3,e4,e5⟩
  exact⟨rfl,a3,q3,e1,hx.trans e2,e3,e4,e5⟩
theorem St2.commitNo(h:St2 w1 W bd a bs i n T f has)(hi:i<=880)(hT:T<=40000000)(hn:n<=60){g:Int}(hg:g≠f)(l:List Dec.Op){cs:Array Value}(hcs:cs.toList=opsV l){nn:Nat}(hnn:l.length=nn)(hnb:nn<=1000)(hr:l.all rightB=true)(hw:opwt l<=4256)(hf:Fresh W W0):
  Calls Tryz.prog 15 #[.pointer (some ⟨bs,0,none⟩), .int .i64 g, .slice (some ⟨W0.heap.size,0,none⟩) nn nn] (W0.alloc (.cells cs 31)) fun e w'=>e= .returned (.int .i64 5)/\St2 w1 w' bd a bs i n T f has:=by
 obtain⟨a',q',h1,h2,h3,h4,h5⟩:=h
 have hf2:Fresh W (W0.alloc (.cells cs 31)):=hf.alloc _
 have hx:=h2.fresh hf2
 have hs:=hf.size
 have hs2:(W0.alloc (.cells cs 31)).heap.size=W0.heap.size+1:=World.size_alloc _ _
 have hlen:(opsV l).length=nn*3:=by rw[opsV_length,hnn]
 subst h4 h5 h1
 obtain⟨t1,t2⟩:=h3.2.1.few_ hn
 refine(commit_no hx.sq h3.2.1 (by omega) (by omega) (by omega) (by omega) hg (vs_cells hcs hlen hnb) (fun a9 ha h0=> ?_) hr hnb hw).mono ?_
 ·injection ha with ha
  subst ha
  refine⟨fun e=> ?_,by rw[hs2];exact Nat.lt_succ_self _⟩
  have h9:W0.heap.size<W.heap.size:=h2.sq.lt _ e
  omega
 ·rintro e w' ⟨rfl,hf3⟩
  exact⟨rfl,a',q',rfl,hx.fresh hf3,h3,rfl,rfl⟩
theorem St2.raise(h:St2 w1 W bd a bs i n T f has)(hi:i<=880)(hT:T<=40000000){g:Int}(hg1:f<g)(hg2:g<=4503599627370496)(hf:Fresh W W0):
  Calls Tryz.prog 36 #[.pointer (some ⟨bs,0,none⟩), .int .i64 g] W0 fun e w'=>e= .returned (.int .i64 0)/\St2 w1 w' bd a bs (i+1) (n+1) (T+5000) g has:=by
 obtain⟨a',q',h1,h2,h3,h4,h5⟩:=h.fresh hf
 subst h4 h5 h1
 refine(raise_ok h2.sq h3 hi hT hg1 hg2).mono ?_
 rintro e w' ⟨rfl,a3,q3,e1,e2,e3,e4,e5⟩
 exact⟨rfl,a3,q3,e1,h2.trans e2,e3,e4,e5⟩
theorem St2.crash(h:St2 w1 W bd a bs i n T f has)(hi:i<=880){A:Option Addr}{m c:Nat}{cuts:List Int}(hx:IsInts W A m c cuts)(hxw:∀x∈cuts,-9223372036854775808<=x/\x<=9223372036854775807)(hxb:∀a',A=some a'->0<m->¬a.sto a'.block/\a'.block<w1.heap.size):
  Calls Tryz.prog 16 #[.pointer (some ⟨bd,0,none⟩), .slice A m c] W fun e w'=>e= .returned (.tuple #[])/\St2C w1 w' bd a bs cuts i n T f has:=by
 obtain⟨a',q',h1,h2,h3,h4,h5⟩:=h
 subst h4 h5 h1
 refine(crash_sq h2.sq h3.2.1.pv (by omega) hx hxw fun b hb h0 e=> ?_).mono ?_
 ·obtain⟨e1,e2⟩:=hxb b hb h0
  rcases h2.sub b.block (.inr (.inr (.inr e))) with e | e
  ·exact e1 e
  ·omega
 ·rintro e w' ⟨rfl,a3,e1,e2⟩
  exact⟨rfl,a3,q',e1,h2.trans e2,h3,rfl,rfl⟩
theorem St2C.reopen{cuts:List Int}(h:St2C w1 W bd a bs cuts i n T f has)(hi:i<=880)(hT:T<=40000000):
  Calls Tryz.prog 17 #[.pointer (some ⟨bd,0,none⟩), .int .i64 0] W fun e w'=>∃bs',e= .returned (.tuple #[.pointer (some ⟨bs',0,none⟩), .int .i64 0])/\St2 w1 w' bd a bs' (i+1) n T f has:=by
 obtain⟨a',q',h1,h2,h3,h4,h5⟩:=h
 subst h4 h5 h1
 obtain⟨s,s1,s2,s3,s4⟩:=reopen_sq h2.sq h3.2.1 (by omega) (by omega)
 refine s4.mono ?_
 rintro e w' ⟨a3,rfl,e2⟩
 have hs:s.fence=q'.f/\s.has=q'.has:=by
  rcases s1 with e | e
  ·exact e
  ·rw[h3.2.2]at e;cases e
 refine⟨a3.bs,rfl,a3,_,rfl,h2.trans e2,⟨⟨rfl,rfl⟩,s3,rfl⟩,hs.1,hs.2⟩
theorem St2.get(h:St2 w1 W bd a bs i n T f has)(k:List UInt8)(hk:k.length<=maxLen):
  Calls Tryz.prog 27 #[.pointer (some ⟨bs,0,none⟩), .string ⟨k.toArray⟩] W fun e w'=>e= .returned (.tuple #[.string ⟨((kget k has).getD []).toArray⟩, .bool (kget k has).isSome])/\w'=W:=by
 obtain⟨a',q',h1,h2,h3,h4,h5⟩:=h
 subst h4 h5 h1
 exact kvget_any h2.sq.sd k hk
theorem St2.fence(h:St2 w1 W bd a bs i n T f has):Calls Tryz.prog 35 #[.pointer (some ⟨bs,0,none⟩)] W fun e w'=>e= .returned (.int .i64 f)/\w'=W:=by
 obtain⟨a',q',h1,h2,h3,h4,h5⟩:=h
 subst h4 h5 h1
 exact kvfence_any h2.sq.sd
theorem St2.len(h:St2 w1 W bd a bs i n T f has):Calls Tryz.prog 18 #[.pointer (some ⟨bs,0,none⟩)] W fun e w'=>e= .returned (.int .i64 (has.length:Int))/\w'=W:=by
 obtain⟨a',q',h1,h2,h3,h4,h5⟩:=h
 subst h4 h5 h1
 exact kvlen_any h2.sq.sd
theorem KG.st2(h:KG w1 w1 bp bd F KP.new)(hF:∀k,F k->w.heap.size<=k)(hf:Fresh w w1):∃a,St2 w1 w1 bd a a.bs 1 0 0 0 []/\w1.cell? ⟨bp,0,none⟩=some (.pointer (some ⟨bd,0,none⟩))/\w1.cell? ⟨bp,1,none⟩=some (.pointer (some ⟨a.bs,0,none⟩))/\(∀k,a.sto k->w.heap.size<=k)/\¬a.sto bp/\w.heap.size<=bp/\∀k,a.sto k->k<w1.heap.size:=by
 obtain⟨a,h1,h2,h3,h4,h5,h6⟩:=h.sq
 have hs:=hf.size
 exact⟨a,h1.st2 Cq.new,h2,h3,fun k hk=>(h4 k hk).elim (hF k) fun e=>by omega,h5,h6.elim (hF bp) fun e=>by omega,h1.lt⟩
end
attribute [local go_sem] Oper.semAt_some
def wk1:List Dec.Op:= [⟨[97], [49],false⟩,⟨[98], [50],false⟩]
def wk2:List Dec.Op:= [⟨[97], [57],false⟩]
theorem wk_get:kget [97] (kdo [] wk1)=some [49]:=by decide
theorem wk_len:(kdo [] wk1).length=2:=by decide
theorem wakes_any:WakesOk:=fun w=>by
 have KB:=zh (begunK_any w)
 go_enter Tryz.func20,Tryz.ntmps20
 go_wp2_with fail
 refine KB.out.mono ?_
 rintro e w1 ⟨bp,bd,F,rfl,hf1,hpg,hnew⟩
 obtain⟨a,hst,d0,d1,hsto,hnb,_,_⟩:=hpg.st2 hnew hf1
 have HF1:=zh hf1;have HSTO:=zh hsto;have HNB:=zh hnb;have D0:=zh d0;have D1:=zh d1
 obtain⟨bs,hbs⟩:∃bs,bs=a.bs:=⟨_,rfl⟩
 rw[<- hbs]at hst d1
 have KC1:=zh (hst.commitN (W0:=w1) (by omega) (by omega) (by omega) wk1 (cs:= #[.string ⟨#[97]⟩, .string ⟨#[49]⟩, .bool false, .string ⟨#[98]⟩, .string ⟨#[50]⟩, .bool false]) rfl (nn:=2) rfl (by omega) (by decide) (by decide) (Touch.refl _ _))
 have HBS:=zh hbs
 clear hf1 hpg hnew hsto hnb hst d0 hbs KB
 go_wp2_with fail
 refine KC1.out.mono ?_
 rintro e w2 ⟨rfl,hst2⟩
 have y2:w2.cell? ⟨bp,1,none⟩=some (.pointer (some ⟨bs,0,none⟩)):=by rw[HBS.out];exact hst2.cell D1.out HNB.out
 have KR:=zh (hst2.raise (W0:=w2) (g:=3) (by omega) (by omega) (by omega) (by omega) (Touch.refl _ _))
 clear hst2 KC1 d1
 go_wp2_with fail
 refine KR.out.mono ?_
 rintro e w3 ⟨rfl,hst3⟩
 have y3:w3.cell? ⟨bp,1,none⟩=some (.pointer (some ⟨bs,0,none⟩)):=by rw[HBS.out];exact hst3.cell D1.out HNB.out
 have KC2:=zh (hst3.commitNo (W0:=w3) (g:=0) (by omega) (by omega) (by omega) (by omega) wk2 (cs:= #[.string ⟨#[97]⟩, .string ⟨#[57]⟩, .bool false]) rfl (nn:=1) rfl (by omega) (by decide) (by decide) (Touch.refl _ _))
 clear hst3 KR y2
 go_wp2_with fail
 refine KC2.out.mono ?_
 rintro e w4 ⟨rfl,hst4⟩
 have y4:w4.cell? ⟨bp,0,none⟩=some (.pointer (some ⟨bd,0,none⟩)):=hst4.cell D0.out HNB.out
 have KX:=zh (hst4.crash (A:=none) (m:=0) (c:=0) (cuts:= []) (by omega) ⟨rfl,Nat.le_refl _,by simp[maxLen],fun h0=>absurd h0 (by simp)⟩ (fun x hx=>by cases hx) (fun a' ha=>by cases ha))
 clear hst4 KC2 y3
 go_wp2_with fail
 refine KX.out.mono ?_
 rintro e w5 ⟨rfl,hst5⟩
 have y5:w5.cell? ⟨bp,0,none⟩=some (.pointer (some ⟨bd,0,none⟩)):=hst5.cell D0.out HNB.out
 have KO:=zh (hst5.reopen (by omega) (by omega))
 clear hst5 KX y4
 go_wp2_with fail
 refine KO.out.mono ?_
 rintro e w6 ⟨b6,rfl,hst6⟩
 have KG:=zh (hst6.get [97] (by simp[maxLen]))
 rw[wk_get]at KG
 have KF:=zh hst6.fence
 have KL:=zh hst6.len
 rw[wk_len]at KL
 have HF6:=zh (hst6.new_ HF1.out HSTO.out)
 clear hst6 KO y5
 go_wp2_with fail
 refine KG.out.mono ?_
 rintro e w7 ⟨rfl,rfl⟩
 go_wp2_with fail
 refine KF.out.mono ?_
 rintro e w7 ⟨rfl,rfl⟩
 go_wp2_with fail
 refine KL.out.mono ?_
 rintro e w7 ⟨rfl,rfl⟩
 go_wp2_with fail
 go_ret
 exact⟨rfl,HF6.out⟩
end Go.Proofs.YtjehlgblkfofpaaGreat