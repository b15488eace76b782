/- The law KvAtomic, walked. The law's wakes stands ahead of it as a contract. -/
import Derived.Test.YtjehlgblkfofpaaGreatAtmZ
import Derived.Test.YtjehlgblkfofpaaGreatZa35
namespace Go.Proofs.YtjehlgblkfofpaaGreat
open Go.RowKit
attribute [local go_sem] Oper.semAt_some
structure AtI(w:World)(b11 rb:Nat)(v:List UInt8)(pre:KL)(V:World):Prop where
 c11:Blk V b11 9 #[.string (if pre= [] then ⟨#[]⟩ else ⟨v.toArray⟩)]
 cr:Blk V rb 4 #[.bool false]
 fr:Fresh w V
section
variable {w:World}{b11 rb:Nat}{v:List UInt8}{pre:KL}{V W:World}
theorem AtI.fresh(h:AtI w b11 rb v pre V)(hf:Fresh V W):AtI w b11 rb v pre W:=⟨h.c11.touch hf id,h.cr.touch hf id,h.fr.trans hf fun _ _=>id⟩
theorem AtI.put_{k:Nat}{r:Loop}(h:AtI w b11 rb v pre V)(hk:w.heap.size<=k)(hl:V.heap[k]? =some (.loop r))(o':Obj):AtI w b11 rb v pre (V.putObj k o'):=
 ⟨h.c11.put_ hl rfl _,h.cr.put_ hl rfl _,h.fr.put_ hk _⟩
theorem at_first{Z:Nat}{x:List UInt8×List UInt8}(hb:w.heap.size<=b11)(hne:b11≠rb)(h:AtI w b11 rb v [] V):
  KeepsLoops V (V.setCell ⟨b11,0,none⟩ (.string ⟨v.toArray⟩))/\LKe NoE (fun k=>k=b11) Z V (V.setCell ⟨b11,0,none⟩ (.string ⟨v.toArray⟩))/\AtI w b11 rb v ([]++ [x]) (V.setCell ⟨b11,0,none⟩ (.string ⟨v.toArray⟩)):=by
 have hT:Touch (fun k=>k=b11) V (V.setCell ⟨b11,0,none⟩ (.string ⟨v.toArray⟩)):=(Touch.refl (fun k=>k=b11) V).setCell (p:=⟨b11,0,none⟩) (.inr rfl) _
 refine⟨.touch hT fun k o e hk=> .inl ?_, .touch hT,⟨?_,h.cr.touch hT fun e=>hne e.symm,h.fr.trans hT fun k hk e=>by omega⟩⟩
 ·rw[e]at hk
  have:=hk.symm.trans h.c11
  injection this with this
  rw[this];rfl
 ·have:=h.c11.set_ 0 (.string ⟨v.toArray⟩)
  simpa using this
theorem at_next{Z:Nat}{x:List UInt8×List UInt8}(hp:pre≠ [])(h:AtI w b11 rb v pre V):KeepsLoops V V/\LKe NoE (fun k=>k=b11) Z V V/\AtI w b11 rb v (pre++ [x]) V:=by
 have hT:Touch (fun k=>k=b11) V V:=Touch.refl _ V
 refine⟨.touch (Touch.refl (fun _=>False) V) fun k o e hk=>e.elim, .touch hT,⟨?_,h.cr,h.fr⟩⟩
 have h1:=h.c11
 rw[if_neg hp]at h1
 rw[if_neg (by simp)]
 exact h1
end
theorem three_bs(W:World)(a b c:UInt8):Bs (W.alloc (.cells #[.int .u8 (a.toNat:Int), .int .u8 (b.toNat:Int), .int .u8 (c.toNat:Int)] 5)) (some ⟨W.heap.size,0,none⟩) 3 3 [a,b,c]:=by
 refine⟨rfl,Nat.le_refl _,by unfold maxLen;omega,fun _=>⟨_,_,rfl,fun j x hx=> ?_⟩⟩
 have h0:j<3:=(List.getElem?_eq_some_iff.1 hx).1
 have hb:=Blk.new W 5 #[.int .u8 (a.toNat:Int), .int .u8 (b.toNat:Int), .int .u8 (c.toNat:Int)]
 rw[Nat.zero_add]
 match j,h0 with
 | 0,_=>injection hx with hx;rw[<- hx];exact hb.cell 0
 | 1,_=>injection hx with hx;rw[<- hx];exact hb.cell 1
 | 2,_=>injection hx with hx;rw[<- hx];exact hb.cell 2
theorem one_bs2(W:World)(c:UInt8):Bs (W.alloc (.cells #[.int .u8 (c.toNat:Int)] 5)) (some ⟨W.heap.size,0,none⟩) 1 1 [c]:=by
 refine⟨rfl,Nat.le_refl _,by unfold maxLen;omega,fun _=>⟨_,_,rfl,fun j x hx=> ?_⟩⟩
 have h0:j=0:=by have:=(List.getElem?_eq_some_iff.1 hx).1;simp at this;omega
 subst h0
 injection hx with hx
 rw[<- hx]
 exact(Blk.new W 5 #[.int .u8 (c.toNat:Int)]).cell 0
theorem u8_of(n:Nat)(_h:n<256):IntKind.u8.wrap (n:Int)=((UInt8.ofNat n).toNat:Int):=by
 rw[UInt8.toNat_ofNat']
 simp[IntKind.wrap,IntKind.bits,IntKind.signed]
def AtS(w1 W:World)(bd:Nat)(a:KA)(N r:Nat):Prop:=
 (r=1->St2 w1 W bd a a.bs 1 0 0 0 [])/\(r=2->St2 w1 W bd a a.bs 2 1 5000 0 (atP 1 N))/\
 (r=3->∃hs mb,St3 w1 W bd a a.bs 4 2 10000 0 hs mb/\(hs=atP 1 N\/hs=atP 2 N)/\∀y∈mb,y.2=atP 2 N)
theorem AtS.tch{w1 W:World}{bd:Nat}{a:KA}{N r:Nat}(h:AtS w1 W bd a N r)(h1:1<=r)(h3:r<=3):Touch a.sto w1 W:=by
 obtain⟨q1,q2,q3⟩:=h
 rcases (show r=1\/r=2\/r=3 by omega) with e | e | e
 ·exact(q1 e).st3.tch
 ·exact(q2 e).st3.tch
 ·obtain⟨_,_,hx,_⟩:=q3 e
  exact hx.tch
set_option maxRecDepth 200000 in
set_option maxHeartbeats 16000000 in
theorem law_atomic(KW:WakesOk)(w:World)(mn zn zk:Int)(st:Bool)(CA:Option Addr)(cn cc:Nat)(cuts:List Int)(hz:IsInts w CA cn cc cuts)(hzw:∀x∈cuts,-9223372036854775808<=x/\x<=9223372036854775807)(hzB:∀a,CA=some a->0<cn->a.block<w.heap.size):
  Calls Tryz.prog 3 #[.agg #[.int .i64 mn, .int .i64 zn, .int .i64 zk, .bool st, .slice CA cn cc]] w fun e w'=>e= .returned (.bool true)/\Fresh w w':=by
 obtain⟨w0,hw0⟩:∃w0,w0=(w.alloc (.cells #[.int .i64 mn, .int .i64 zn, .int .i64 zk, .bool st, .slice CA cn cc] 24)).alloc (.cells #[.bool false] 4):=⟨_,rfl⟩
 have hf0:Fresh w w0:=by rw[hw0];exact((Touch.refl _ w).alloc _).alloc _
 have hbz:Blk w0 w.heap.size 24 #[.int .i64 mn, .int .i64 zn, .int .i64 zk, .bool st, .slice CA cn cc]:=by rw[hw0];exact(Blk.new _ _ _).alloc _
 have hbr:Blk w0 (w.heap.size+1) 4 #[.bool false]:=by rw[hw0];have:=Blk.new (w.alloc (.cells #[.int .i64 mn, .int .i64 zn, .int .i64 zk, .bool st, .slice CA cn cc] 24)) 4 #[.bool false];rwa [alloc_size]at this
 have KB:=zh (begunK_any w0)
 have KW:=zh KW
 have HW0:=zh hw0;have HF0:=zh hf0;have HBZ:=zh hbz;have HBR:=zh hbr;have HZ:=zh hz;have HZW:=zh hzw;have HZB:=zh hzB
 clear hw0 hf0 hbz hbr hz hzw hzB
 refine(callsIn_wide (n:=3)).1 ?_
 refine callsIn_of_wp_marks Tryz.func3 rfl trivial ?_ rfl
 simp only[Tryz.ntmps3,List.size_toArray,List.length_cons,List.length_nil,Nat.reduceAdd,Nat.reduceSub,Array.replicate_succ,Array.replicate_zero,List.push_toArray,List.append_toArray,List.nil_append,List.cons_append]
 refine wpIn_wide.2 ?_
 go_upto_region 1 with fail
 rw[<- HW0.out]
 go_wp2_with fail
 refine KB.out.mono ?_
 rintro e w1 ⟨bp,bd,F,rfl,hf1,hpg,hnew⟩
 obtain⟨a,hst,d0,d1,hsto,hnb,hbp,hslt⟩:=hpg.st2 hnew hf1
 have hbz1:=HBZ.out.touch hf1 id
 have hbr1:=HBR.out.touch hf1 id
 have hrl:=HBR.out.lt
 obtain⟨n,hn⟩:∃n:Nat,mn % 40=(n:Int):=⟨(mn % 40).toNat,by have:=Int.emod_nonneg mn (show (40:Int)≠0 by omega);omega⟩
 have hn40:n<40:=by have:=Int.emod_lt_of_pos mn (show (0:Int)<40 by omega);omega
 obtain⟨m,hm⟩:∃m:Nat,zn % 10=(m:Int):=⟨(zn % 10).toNat,by have:=Int.emod_nonneg zn (show (10:Int)≠0 by omega);omega⟩
 have hm10:m<10:=by have:=Int.emod_lt_of_pos zn (show (0:Int)<10 by omega);omega
 have KI:=zh (within_any mn 40 w1 (by omega) (by omega))
 rw[hn]at KI
 have c0:w1.cell? ⟨w.heap.size,0,none⟩=some (.int .i64 mn):=hbz1.cell 0
 have HTS:=zh (show∀W,Touch a.sto w1 W->Fresh w W/\Blk W w.heap.size 24 #[.int .i64 mn, .int .i64 zn, .int .i64 zk, .bool st, .slice CA cn cc]/\Blk W (w.heap.size+1) 4 #[.bool false]/\W.cell? ⟨bp,0,none⟩=some (.pointer (some ⟨bd,0,none⟩))/\W.cell? ⟨bp,1,none⟩=some (.pointer (some ⟨a.bs,0,none⟩)) from fun W hW=>⟨(HF0.out.trans hf1 fun _ _=>id).trans hW fun k hk e=>by have:=hsto k e;have:=HF0.out.size;omega,hbz1.touch hW fun e=>by have:=hsto _ e;omega,hbr1.touch hW fun e=>by have:=hsto _ e;omega,hW.cell d0 hnb,hW.cell d1 hnb⟩)
 have HST:=zh hst;have HSTO:=zh hsto
 have HCL:=zh (show∀a',CA=some a'->0<cn->¬a.sto a'.block/\a'.block<w1.heap.size from fun a' ha h0=>by
  have h5:=HZB.out a' ha h0
  have:=HF0.out.size
  have:=hf1.size
  exact⟨fun e=>by have:=hsto _ e;omega,by omega⟩)
 have HN:=zh hn;have HM:=zh hm
 obtain⟨N,hN⟩:∃N:Nat,N=1+n:=⟨_,rfl⟩
 have hnw:IntKind.i64.wrap (1+(n:Int))=(N:Int):=by rw[show (1+(n:Int))=(N:Int) by omega];exact IntWalk.i64_in _ (by omega)
 have hN40:N<=40:=by omega
 have hN1:1<=N:=by omega
 clear hN
 clear hf1 hpg hnew hst d0 d1 hsto hnb hbp hslt hbz1 hbr1 hn hm KB
 go_wp2_with fail
 refine KI.out.mono ?_
 rintro e _ ⟨rfl,rfl⟩
 go_wp2_with fail
 go_loopw [5,6,7,8] (fun r _ _ _ W=>∃ ρ:Nat,1<=ρ/\ρ<=3/\r= .int .i64 (ρ:Int)/\AtS w1 W bd a N ρ) (fun r _ _ _ _=>3-(intOf r).toNat)
 case atStart=>exact⟨1,Nat.le_refl _,by omega,rfl,fun _=>HST.out,fun e=>absurd e (by omega),fun e=>absurd e (by omega)⟩
 case round=>
  obtain⟨ρ,hρ1,hρ3,rfl,hs⟩:=hrel
  obtain⟨hfw,hbz,hbr,d0,d1⟩:=HTS.out wr (hs.tch hρ1 hρ3)
  have HFW:=zh hfw;have HS:=zh hs
  obtain⟨wo,rfl⟩:∃wo,wo=wr:=⟨_,rfl⟩
  by_cases hρ2:ρ<=2
  ·have hrd:decide ((ρ:Int)<=2)=true:=decide_eq_true (by omega)
   have hri:(ρ:Int)<=2:=by omega
   have HB:=zh (show∀W,Fresh wo W->W.cell? ⟨w.heap.size,1,none⟩=some (.int .i64 zn)/\W.cell? ⟨w.heap.size,2,none⟩=some (.int .i64 zk)/\W.cell? ⟨w.heap.size,3,none⟩=some (.bool st)/\W.cell? ⟨bp,0,none⟩=some (.pointer (some ⟨bd,0,none⟩))/\W.cell? ⟨bp,1,none⟩=some (.pointer (some ⟨a.bs,0,none⟩)) from fun W hW=>⟨(hbz.touch hW id).cell 1,(hbz.touch hW id).cell 2,(hbz.touch hW id).cell 3,hW.cell d0 id,hW.cell d1 id⟩)
   clear hfw hs hbz hbr d0 d1
   go_wp2_with fail
   go_loopw [6,7] (fun l i W=>∃j:Nat,j<=N/\i= .int .i64 (j:Int)/\Fresh wo W/\Own W 31 3 l j (opsV (atL ρ j))/\∀k,l.ownBlock=some k->wo.heap.size<=k) (fun _ i _=>N-(intOf i).toNat)
   case atStart=>exact⟨0,Nat.zero_le _,rfl,Touch.refl _ _,Own.nil_ _ _ _,fun k hk=>by cases hk⟩
   case round=>
    obtain⟨j,hj,rfl,hf,ho,hn⟩:=hrel
    have HF:=zh hf;have HO:=zh ho;have HNO:=zh hn
    by_cases hjn:j<N
    ·have hjd:decide ((j:Int)<(N:Int))=true:=decide_eq_true (by omega)
     have hji:(j:Int)<(N:Int):=by omega
     obtain⟨q,hq⟩:∃q:Nat,q=j / 10:=⟨_,rfl⟩
     obtain⟨r,hr⟩:∃r:Nat,r=j % 10:=⟨_,rfl⟩
     have hq4:q<5:=by omega
     have hr10:r<10:=by omega
     have hqd:Int.tdiv (j:Int) 10=(q:Int):=by rw[hq];exact(Int.ofNat_tdiv j 10).symm
     have hrm:Int.tmod (j:Int) 10=(r:Int):=by rw[hr];exact(Int.ofNat_tmod j 10).symm
     have hqw:IntKind.i64.wrap (q:Int)=(q:Int):=IntWalk.i64_in _ (by omega)
     have hrw:IntKind.i64.wrap (r:Int)=(r:Int):=IntWalk.i64_in _ (by omega)
     have hqw2:IntKind.i64.wrap (97+(q:Int))=97+(q:Int):=IntWalk.i64_in _ (by omega)
     have hrw2:IntKind.i64.wrap (97+(r:Int))=97+(r:Int):=IntWalk.i64_in _ (by omega)
     have hvw2:IntKind.i64.wrap (48+(ρ:Int))=48+(ρ:Int):=IntWalk.i64_in _ (by omega)
     obtain⟨zq,hzq⟩:∃zq,zq=UInt8.ofNat (97+q):=⟨_,rfl⟩
     obtain⟨zr,hzr⟩:∃zr,zr=UInt8.ofNat (97+r):=⟨_,rfl⟩
     obtain⟨zv,hzv⟩:∃zv,zv=UInt8.ofNat (48+ρ):=⟨_,rfl⟩
     have hqu:IntKind.u8.wrap (97+(q:Int))=(zq.toNat:Int):=by rw[hzq,<- u8_of _ (by omega)];congr 1
     have hru:IntKind.u8.wrap (97+(r:Int))=(zr.toNat:Int):=by rw[hzr,<- u8_of _ (by omega)];congr 1
     have hvu:IntKind.u8.wrap (48+(ρ:Int))=(zv.toNat:Int):=by rw[hzv,<- u8_of _ (by omega)];congr 1
     have HLS:=zh (show opsV (atL ρ (j+1))=opsV (atL ρ j)++ [.string ⟨[107,zq,zr].toArray⟩, .string ⟨[zv].toArray⟩, .bool false] by rw[atL_succ];simp[opsV,opV,atK,atV,hzq,hzr,hzv,hq,hr])
     have hwj:IntKind.i64.wrap ((j:Int)+1)=(j:Int)+1:=IntWalk.i64_in _ (by omega)
     have kc1:=run_convert_Bs (P:=Tryz.prog) 29 9 Tryz.underlying29 Tryz.underlying5 Tryz.underlying9 (three_bs wr 107 zq zr)
     simp only[show (((107:UInt8).toNat:Nat):Int)=107 from rfl]at kc1
     have kc2:=run_convert_Bs (P:=Tryz.prog) 29 9 Tryz.underlying29 Tryz.underlying5 Tryz.underlying9 (one_bs2 (wr.alloc (.cells #[.int .u8 107, .int .u8 (zq.toNat:Int), .int .u8 (zr.toNat:Int)] 5)) zv)
     rw[World.size_alloc]at kc2
     have hsrc:=op_new ((wr.alloc (.cells #[.int .u8 107, .int .u8 (zq.toNat:Int), .int .u8 (zr.toNat:Int)] 5)).alloc (.cells #[.int .u8 (zv.toNat:Int)] 5)) ⟨[107,zq,zr], [zv],false⟩
     rw[World.size_alloc,World.size_alloc]at hsrc
     have HSRC:=zh hsrc
     clear hf ho hn hq hr hzq hzr hzv hsrc
     go_wp2_with (at_builtin;refine wpList_own_src _ rfl _ _ 28 28 rfl 31 (.agg #[.string ⟨#[]⟩, .string ⟨#[]⟩, .bool false]) 3 40 Tryz.info31 Tryz.underlying28 rfl u6 j _ rfl (by exact((HO.out.alloc _).alloc _).alloc _) (opsV_one _) (.slice (some ⟨wr.heap.size+1+1,0,none⟩) 1 1) 1 [.string ⟨[107,zq,zr].toArray⟩, .string ⟨[zv].toArray⟩, .bool false] rfl (by exact HSRC.out) (by unfold maxLen;omega) (by omega) ?_;intro B6 c6 w6 o6 g6 b6;have O6:=zh o6;have G6:=zh g6;have B6h:=zh b6;clear o6 g6 b6)
     go_roundw
     case rel=>
      have q:=out_push ((HF.out.alloc _).alloc _) HNO.out G6.out B6h.out
      refine⟨j+1,by omega,by go_num,q.1, ?_,q.2⟩
      rw[HLS.out]
      exact O6.out
     case measure=>simp[intOf]<;>omega
    ·obtain rfl:j=N:=by omega
     have hjd:decide ((j:Int)<(j:Int))=false:=decide_eq_false (by omega)
     obtain⟨B,c9,rfl,hvs,hlt⟩:=ho.vs3
     obtain⟨z1,z2,z3,y0,y1⟩:=HB.out wr hf
     have hB:∀a',B=some a'->0<j->wo.heap.size<=a'.block/\a'.block<wr.heap.size:=fun a' ha h0=>⟨hn a'.block (by rw[ha];rfl),hlt a' ha h0⟩
     rcases (show ρ=1\/ρ=2 by omega) with rfl | rfl
     ·have KC:=zh ((HS.out.1 rfl).commitV (W0:=wr) (by omega) (by omega) (by omega) hvs hB (by omega) (atL_right 1 j) (by rw[atL_wt];omega) hf)
      rw[atL_new 1 j (by omega)]at KC
      clear hf ho hn hvs hlt hB
      go_wp2_with fail
      refine KC.out.mono ?_
      rintro e w5 ⟨rfl,hs5⟩
      have HS5:=zh hs5
      clear hs5
      go_wp2_with fail
      go_roundw
      case rel=>exact⟨2,by omega,by omega,by go_num,fun e=>absurd e (by omega),fun _=>HS5.out,fun e=>absurd e (by omega)⟩
      case measure=>simp[intOf]
     ·have HNE:=zh (show atL 2 j≠ [] from fun e=>by have:=atL_length 2 j;rw[e]at this;simp at this;omega)
      have KI:=zh (show∀W,Calls Tryz.prog 12 #[.int .i64 zn, .int .i64 10] W fun e w'=>e= .returned (.int .i64 (m:Int))/\w'=W from fun W=>(within_any zn 10 W (by omega) (by omega)).mono fun e w' hq=>⟨by rw[hq.2,HM.out],hq.1.symm⟩)
      have HVS:=zh hvs;have HBB:=zh hB;have HLT:=zh hlt
      cases st with
      | true=>
       have KS:=zh (fun (W0:World) (hW:Fresh wo W0)=>(HS.out.2.1 rfl).st3.halt (by omega) (m:=m) (by omega) (W0:=W0) hW)
       clear hf ho hn hvs hlt hB
       go_upto_region 14 with fail
       go_cut [62] from 49 to 62 (fun _ W=>St3X w1 W bd a a.bs 3 1 5000 0 (atP 1 j) [] wo.heap.size wr.heap.size/\Touch (fun k=>k<wo.heap.size) wr W)
       case first=>
        refine wp_region_noPanic ?_
        go_region_law (first
         | (go_simp;go_at_call 12;refine(KI.out _).mono ?_;rintro e w2 ⟨rfl,rfl⟩)
         | (go_simp;go_at_call 13;refine(KS.out _ (by repeat (first | exact HF.out | refine Touch.drew ?_))).mono ?_;rintro e w2 ⟨rfl,hx2,ht2⟩;have HX2:=zh hx2;have HT2:=zh ht2;clear hx2 ht2))
        all_goals
         refine NoPanic.normal ?_
         go_wp2_with fail
         go_meet
         case rel=>exact⟨HX2.out,by first | exact HT2.out | exact(Touch.refl _ wr).drew.trans HT2.out fun _ _=>id⟩
       case rest=>
        obtain⟨hx3,ht3⟩:=hcut
        obtain⟨_,_,_,e0,e1⟩:=HTS.out _ hx3.st3.tch
        have hs3:=ht3.size
        have KC:=zh (hx3.commit (by omega) (by omega) (by omega) HNE.out (HVS.out.touch ht3 fun a' ha h0 e=>by have:=(HBB.out a' ha h0).1;omega) (fun a' ha h0=>⟨(HBB.out a' ha h0).1,(HBB.out a' ha h0).2,by have:=HLT.out a' ha h0;omega⟩) (by omega) (atL_right 2 j) (by rw[atL_wt];omega))
        rw[atL_two j (by omega)]at KC
        clear hx3 ht3 hs3
        go_wp2_with fail
        refine KC.out.mono ?_
        rintro e w5 ⟨er,rfl,hs9,mb,hs5,h6,h7⟩
        have HS5:=zh hs5;have H6:=zh h6;have H7:=zh h7
        clear hs5 h6 h7
        go_wp2_with fail
        go_roundw
        case rel=>exact⟨3,by omega,by omega,by go_num,fun e=>absurd e (by omega),fun e=>absurd e (by omega),fun _=>⟨hs9,mb,HS5.out,H6.out,H7.out⟩⟩
        case measure=>simp[intOf]
      | false=>
       have KF:=zh (fun (W0:World) (hW:Fresh wo W0)=>(HS.out.2.1 rfl).st3.fault (by omega) (m:=m) (by omega) zk (W0:=W0) hW)
       clear hf ho hn hvs hlt hB
       go_upto_region 16 with fail
       go_cut [74] from 49 to 74 (fun _ W=>St3X w1 W bd a a.bs 3 1 5000 0 (atP 1 j) [] wo.heap.size wr.heap.size/\Touch (fun k=>k<wo.heap.size) wr W)
       case first=>
        refine wp_region_noPanic ?_
        go_region_law (first
         | (go_simp;go_at_call 12;refine(KI.out _).mono ?_;rintro e w2 ⟨rfl,rfl⟩)
         | (go_simp;go_at_call 14;refine(KF.out _ (by repeat (first | exact HF.out | refine Touch.drew ?_))).mono ?_;rintro e w2 ⟨rfl,hx2,ht2⟩;have HX2:=zh hx2;have HT2:=zh ht2;clear hx2 ht2))
        all_goals
         refine NoPanic.normal ?_
         go_wp2_with fail
         go_meet
         case rel=>exact⟨HX2.out,by first | exact HT2.out | exact(Touch.refl _ wr).drew.trans HT2.out fun _ _=>id⟩
       case rest=>
        obtain⟨hx3,ht3⟩:=hcut
        obtain⟨_,_,_,e0,e1⟩:=HTS.out _ hx3.st3.tch
        have hs3:=ht3.size
        have KC:=zh (hx3.commit (by omega) (by omega) (by omega) HNE.out (HVS.out.touch ht3 fun a' ha h0 e=>by have:=(HBB.out a' ha h0).1;omega) (fun a' ha h0=>⟨(HBB.out a' ha h0).1,(HBB.out a' ha h0).2,by have:=HLT.out a' ha h0;omega⟩) (by omega) (atL_right 2 j) (by rw[atL_wt];omega))
        rw[atL_two j (by omega)]at KC
        clear hx3 ht3 hs3
        go_wp2_with fail
        refine KC.out.mono ?_
        rintro e w5 ⟨er,rfl,hs9,mb,hs5,h6,h7⟩
        have HS5:=zh hs5;have H6:=zh h6;have H7:=zh h7
        clear hs5 h6 h7
        go_wp2_with fail
        go_roundw
        case rel=>exact⟨3,by omega,by omega,by go_num,fun e=>absurd e (by omega),fun e=>absurd e (by omega),fun _=>⟨hs9,mb,HS5.out,H6.out,H7.out⟩⟩
        case measure=>simp[intOf]
  ·obtain rfl:ρ=3:=by omega
   obtain⟨hs3,mb,hx,hor,hmb⟩:=hs.2.2 rfl
   have KCR:=zh (show∀W,Fresh wo W->Calls Tryz.prog 16 #[.pointer (some ⟨bd,0,none⟩), .slice CA cn cc] W fun e w'=>e= .returned (.tuple #[])/\St3C w1 w' bd a a.bs cuts 4 2 10000 0 hs3 mb from fun W hW=>(hx.fresh hW).crash (by omega) (HZ.out.touch (hfw.trans hW fun _ _=>id) fun _ _ _=>id) HZW.out HCL.out)
   have z4:wo.cell? ⟨w.heap.size,4,none⟩=some (.slice CA cn cc):=hbz.cell 4
   have hrd:decide ((3:Int)<=2)=false:=by decide
   have HOR:=zh hor;have HMB:=zh hmb
   clear hs hx hor hmb hbz hbr hfw d1
   go_upto_region 20 with fail
   go_cut [93] from 87 to 93 (fun _ W=>St3C w1 W bd a a.bs cuts 4 2 10000 0 hs3 mb)
   case first=>
    refine wp_region_noPanic ?_
    go_region_law (first
     | (go_simp;go_at_call 16;refine(KCR.out _ (by repeat (first | exact Touch.refl _ _ | refine Touch.drew ?_))).mono ?_;rintro e w2 ⟨rfl,hx2⟩;have HX2:=zh hx2;clear hx2))
    all_goals
     refine NoPanic.normal ?_
     go_wp2_with fail
     go_meet
     case rel=>exact HX2.out
   case rest=>
    have hx3:=hcut
    obtain⟨_,_,_,e0,_⟩:=HTS.out _ hx3.tch
    have KO:=zh (hx3.reopen (by omega) (by omega))
    clear hx3 hcut
    go_wp2_with fail
    refine KO.out.mono ?_
    rintro e w6 ⟨b6,f6,h6,rfl,hs6,hor6⟩
    obtain⟨r6,hr6,rfl⟩:∃r,(r=1\/r=2)/\h6=atP r N:=by
     rcases hor6 with rfl | ⟨y,hy,rfl⟩
     ·rcases HOR.out with e | e
      ·exact⟨1, .inl rfl,e⟩
      ·exact⟨2, .inr rfl,e⟩
     ·exact⟨2, .inr rfl,HMB.out y hy⟩
    obtain⟨hfw6,_,br6,_,_⟩:=HTS.out w6 hs6.tch
    obtain⟨a6,q6,hsd,hsub⟩:=hs6.sd
    have KL:=zh (kvlen_any hsd)
    rw[atP_length]at KL
    obtain⟨w7,hw7⟩:∃w7,w7=w6.alloc (.cells #[.string ⟨#[]⟩] 9):=⟨_,rfl⟩
    have hf7:Fresh w6 w7:=by rw[hw7];exact(Touch.refl _ w6).alloc _
    have hb7:Blk w7 w6.heap.size 9 #[.string ⟨#[]⟩]:=by rw[hw7];exact Blk.new _ _ _
    have HSD:=zh (hsd.fresh hf7);have HB7:=zh hb7;have HW7:=zh hw7;have HF7:=zh (hfw6.trans hf7 fun _ _=>id);have HBR7:=zh (br6.touch hf7 id)
    have hlt7:w6.heap.size<w7.heap.size:=by rw[hw7,World.size_alloc];exact Nat.lt_succ_self _
    have hrlt:w.heap.size+1<w6.heap.size:=br6.lt
    obtain⟨b7,hb7e⟩:∃b7,b7=w6.heap.size:=⟨_,rfl⟩
    rw[<- hb7e]at hb7 hlt7 hrlt HB7
    have HB7E:=zh hb7e
    clear KO hs6 hor6 hsd hsub hfw6 br6 hw7 hf7 hb7 hb7e e0
    go_wp2_with fail
    refine KL.out.mono ?_
    rintro e w6 ⟨rfl,rfl⟩
    have hnn:((N:Int) != (N:Int))=false:=by simp
    go_upto_region 25 with fail
    rw[<- HW7.out,<- HB7E.out]
    go_wp2_with fail
    refine(scanf_any b6 ⟨#[]⟩ ⟨#[]⟩ w7).mono ?_
    rintro e w8 ⟨rfl,hf8,q0,q1,q2⟩
    have hs8:=hf8.size
    have hww8:w.heap.size<=w8.heap.size:=by omega
    have HST8:=zh (scan_told 2 w7.heap.size (w7.heap.size+1) (w7.heap.size+1+1) [] [] (fun k=>k=b7) (by decide) q0 q1 q2 ((HSD.out.fresh hf8).ct) (by rw[atP_length];omega) (fun x hx=>by unfold atP at hx;obtain⟨i,_,rfl⟩:=List.mem_map.1 hx;simp[atK,maxLen]) (fun k hk=>by omega))
    have hst:=HST8.out
    rw[scanL_all]at hst
    have HST2:=zh hst
    have HI0:=zh (show AtI w b7 (w.heap.size+1) (atV r6) [] w8 from⟨HB7.out.touch hf8 id,HBR7.out.touch hf8 id,HF7.out.trans hf8 fun _ _=>id⟩)
    clear hf8 q0 q1 q2 hst HST8 KL
    go_wp2_with fail
    refine wpIn_wide (n:=3).1 ?_
    refine range_fs (F:=Fence.wide) (n:=3) rfl (by decide) (gf:=56) (lb:= #[.pointer (some ⟨w7.heap.size,0,none⟩), .pointer (some ⟨w7.heap.size+1,0,none⟩), .pointer (some ⟨w7.heap.size+1+1,0,none⟩)]) rfl trivial (enters_of Tryz.func56 (by kernel_rfl) rfl)
     HST2.out (fun pre x V l o o' hok _ _=>hok) (fun pre x V V1 hok _=>hok)
     (fun x=> [(13, .string ⟨x.2.toArray⟩)])
     (fun h=>LKe.fresh h) (fun h1 h2=>h1.trans_ h2) (fun V l o o' _ hl hc _=>LKe.put V l o o' hl hc) (fun _=>rfl)
     (AtI w b7 (w.heap.size+1) (atV r6)) (fun _ _=>False)
     (fun _ _ _ h hf=>h.fresh hf) (fun _ _ _ h hf=>h) (fun _ _ _ _ r' h hk hl=>h.put_ (by omega) hl _) (fun _ _ _ _ r' h hk hl=>h)
     HI0.out ?assign ?body ?done ?stop
    case assign=>
     rintro l' pre ⟨xk,xv⟩ V K hok hK
     clear hok
     simp only[prEnc,List.zip_toArray,List.size_toArray,List.zip_cons_cons,List.zip_nil_left]
     gi_wp2
     exact hK _ _ (Touch.refl _ V) (by simp[ranged,prEnc])
    case body=>
     rintro l' pre ⟨xk,xv⟩ a₁ V hI hok ha hlt
     have hok:(atP r6 N)[pre.length]? =some (xk,xv):=hok
     have hxv:xv=atV r6:=by
      have:=List.mem_of_getElem? hok
      unfold atP at this
      obtain⟨i,_,e⟩:=List.mem_map.1 this
      injection e with e1 e2
      exact e2.symm
     subst hxv
     have HIV:=zh hI
     clear hok hlt
     subst ha
     simp only[ranged,prEnc,<- Array.foldl_toList,Array.toList_zip,List.zip_cons_cons,List.zip_nil_left]
     simp only[List.foldl_cons,List.foldl_nil,List.setIfInBounds_toArray,List.set_cons_zero,List.set_cons_succ]
     have f11:V.frozen? ⟨b7,0,none⟩=false:=hI.c11.frozen 0
     rcases hr6 with rfl | rfl
     all_goals
      by_cases hp:pre= []
      ·subst hp
       have c11:V.cell? ⟨b7,0,none⟩=some (.string ⟨#[]⟩):=hI.c11.cell 0
       clear hI
       gi_wp2
       exact at_first (by omega) (by omega) HIV.out
      ·have c11:=hI.c11.cell 0
       simp only[if_neg hp]at c11
       clear hI
       gi_wp2
       exact at_next hp HIV.out
    case done=>
     rintro D ys V hD hS hI hKD
     have d4:V.cell? ⟨w.heap.size+1,0,none⟩=some (.bool false):=hI.cr.cell 0
     have HI:=zh hI;have HKD:=zh hKD
     have HDD:=zh (show w.heap.size<=D by omega)
     clear hI hKD hS hD
     go_wp2_with fail
     refine(KW.out _).mono ?_
     rintro e w9 ⟨rfl,hf9⟩
     have e4:w9.cell? ⟨w.heap.size+1,0,none⟩=some (.bool false):=hf9.cell d4 id
     have g4:w9.frozen? ⟨w.heap.size+1,0,none⟩=false:=(HI.out.cr.touch hf9 id).frozen 0
     have HF9:=zh hf9
     have HK9:=zh (hf9.heap HKD.out id)
     clear hf9
     go_wp2_with fail
     have hK':(w9.setCell ⟨w.heap.size+1,0,none⟩ (.bool true)).heap[D]? =some (.deferred (some [])):=(KeepsOthers.setCell w9 ⟨w.heap.size+1,0,none⟩ (.bool true)).same D _ HK9.out rfl
     refine⟨by simp, .inl ⟨_,_,rfl,run_takeDeferred hK', ?_⟩⟩
     have hc5:((w9.setCell ⟨w.heap.size+1,0,none⟩ (.bool true)).putObj D (.deferred none)).cell? ⟨w.heap.size+1,0,none⟩=some (.bool true):=
      cell_kept (show (w9.setCell ⟨w.heap.size+1,0,none⟩ (.bool true)).cell? ⟨w.heap.size+1,0,none⟩=some (.bool true) from World.cell?_setCell_same' w9 ⟨w.heap.size+1,0,none⟩ (.bool true) (by rw[e4];rfl)) (grownBy_putObj' _ D (.deferred none)) (fun r e=>by cases e;exact⟨_,hK',rfl⟩)
     refine⟨.bool true,by simp[results,Tryz.results3,go_sem,hc5],rfl, ?_⟩
     exact Fresh.put_ (((HI.out.fr.trans HF9.out fun _ _=>id)).setCell (p:=⟨w.heap.size+1,0,none⟩) (.inl (Nat.le_succ _)) _) HDD.out _
    case stop=>
     rintro D pre V hD hs hX hKD
     exact hX.elim
end Go.Proofs.YtjehlgblkfofpaaGreat
