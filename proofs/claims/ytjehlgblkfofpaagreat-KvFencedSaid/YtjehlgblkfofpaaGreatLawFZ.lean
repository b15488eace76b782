/- The law KvFenced, walked. The law's wakes stands ahead of it as a contract. -/
import Derived.Test.YtjehlgblkfofpaaGreatLitZ
namespace Go.Proofs.YtjehlgblkfofpaaGreat
open Go.RowKit
attribute [local go_sem] Oper.semAt_some
theorem op_at{l:List Oper}{i:Nat}{o:Oper}(h:l[i]? =some o):l.toArray[i]? =some o:=(List.getElem?_toArray ..).trans h
def late1:List Dec.Op:= [⟨[108,97,116,101], [120],false⟩]
def now1:List Dec.Op:= [⟨[110,111,119], [120],false⟩]
set_option maxRecDepth 200000 in
set_option maxHeartbeats 16000000 in
theorem law_fenced(KW:WakesOk)(w:World)(A:Option Addr)(n c:Nat)(ops:List OpK)(h:OpsKt w A n c ops)(by_:Int)(A2:Option Addr)(m2 c2:Nat)(cuts:List Int)(hz:IsInts w A2 m2 c2 cuts)(hzB:∀a,A2=some a->0<m2->a.block<w.heap.size)(hzr:∀x∈cuts,-9223372036854775808<=x/\x<=9223372036854775807):
  Calls Tryz.prog 8 #[.slice A n c, .int .i64 by_, .slice A2 m2 c2] w fun e w'=>e= .returned (.bool true)/\Fresh w w':=by
 have hnc:=h.vs.2.1
 have hcm:=h.vs.2.2.1
 unfold maxLen at hcm
 have KB:=zh (begunK_any w)
 have KW:=zh KW
 have H:=zh h;have HZ:=zh hz;have HZB:=zh hzB;have HZR:=zh hzr
 clear h hz hzB hzr
 go_enter Tryz.func8,Tryz.ntmps8
 go_wp2_with fail
 refine KB.out.mono ?_
 rintro e w1 ⟨bp,bd,F,rfl,hf1,hpg,hnew⟩
 have HPG:=zh hpg;have HF1:=zh hf1;have HNEW:=zh hnew
 have HLO:=zh (show LoF w.heap.size w1 F from⟨hf1.size,hnew⟩)
 clear hpg hf1 hnew KB
 go_wp2_with fail
 go_loopw [8,9] (fun i _ W=>∃(k:Nat) (q:KP),k<=n/\k<=20/\i= .int .i64 (k:Int)/\KG w1 W bp bd F q/\KInv q (k*5+1) k (k*300000) Any/\q.Calm) (fun i _ _=>n-(intOf i).toNat)
 case atStart=>exact⟨0,KP.new,Nat.zero_le _,Nat.zero_le _,rfl,HPG.out,KInv.new,rfl,rfl⟩
 case round=>
  obtain⟨k,q,hk,hk2,rfl,hpg,hv,hcalm⟩:=hrel
  have HV:=zh hv;have HPG1:=zh hpg;have HC:=zh hcalm
  have HFW:=zh (hpg.new_ HF1.out HNEW.out)
  clear hcalm
  by_cases hlt:k<n/\k<20
  ·obtain⟨hl1,hl2⟩:=hlt
   obtain⟨b,off,o,rfl,ho⟩:=H.out.spot hl1
   obtain⟨hop,k0,k1,k2,k3,k4,k5⟩:=H.out.rd ho HFW.out
   have hkd:decide ((k:Int)<(n:Int))=true:=decide_eq_true (by omega)
   have hkd2:decide ((k:Int)<20)=true:=decide_eq_true (by omega)
   have hwk:IntKind.i64.wrap ((k:Int)+1)=(k:Int)+1:=IntWalk.i64_in _ (by omega)
   obtain⟨D,hD⟩:∃D,D=o.Do % 5:=⟨_,rfl⟩
   have hD0:0<=D/\D<5:=by rw[hD];exact⟨Int.emod_nonneg _ (by omega),Int.emod_lt_of_pos _ (by omega)⟩
   obtain⟨w5,hw5⟩:∃w5,w5=wr.alloc (.cells #[.int .i64 o.Do, .int .i64 o.f, .int .i64 o.N, .int .i64 o.K, .slice o.A o.m o.c, .slice o.C o.nc o.cc] 72):=⟨_,rfl⟩
   have hb5:Blk w5 wr.heap.size 72 #[.int .i64 o.Do, .int .i64 o.f, .int .i64 o.N, .int .i64 o.K, .slice o.A o.m o.c, .slice o.C o.nc o.cc]:=by rw[hw5];exact Blk.new _ _ _
   have hf5:Fresh wr w5:=by rw[hw5];exact(Touch.refl (fun _=>False) wr).alloc _
   have KI:=zh (within_any o.Do 5 w5 (by omega) (by omega))
   rw[<- hD]at KI
   have c0:w5.cell? ⟨wr.heap.size,0,none⟩=some (.int .i64 o.Do):=hb5.cell 0
   have g0:w5.frozen? ⟨wr.heap.size,0,none⟩=false:=hb5.frozen 0
   obtain⟨w6,hw6⟩:∃w6,w6=w5.setCell ⟨wr.heap.size,0,none⟩ (.int .i64 D):=⟨_,rfl⟩
   have hb6:Blk w6 wr.heap.size 72 #[.int .i64 D, .int .i64 o.f, .int .i64 o.N, .int .i64 o.K, .slice o.A o.m o.c, .slice o.C o.nc o.cc]:=by rw[hw6];simpa using hb5.set_ 0 (.int .i64 D)
   have hf6:Fresh wr w6:=by rw[hw6];exact hf5.setCell (p:=⟨wr.heap.size,0,none⟩) (.inl (Nat.le_refl _)) _
   have s0:w6.cell? ⟨wr.heap.size,0,none⟩=some (.int .i64 D):=hb6.cell 0
   have s1:w6.cell? ⟨wr.heap.size,1,none⟩=some (.int .i64 o.f):=hb6.cell 1
   have s2:w6.cell? ⟨wr.heap.size,2,none⟩=some (.int .i64 o.N):=hb6.cell 2
   have s3:w6.cell? ⟨wr.heap.size,3,none⟩=some (.int .i64 o.K):=hb6.cell 3
   have s4:w6.cell? ⟨wr.heap.size,4,none⟩=some (.slice o.A o.m o.c):=hb6.cell 4
   have s5:w6.cell? ⟨wr.heap.size,5,none⟩=some (.slice o.C o.nc o.cc):=hb6.cell 5
   have KD:=zh (show Calls Tryz.prog 32 #[.pointer (some ⟨bp,0,none⟩), .agg #[.int .i64 D, .int .i64 o.f, .int .i64 o.N, .int .i64 o.K, .slice o.A o.m o.c, .slice o.C o.nc o.cc]] w6 (DoE w1 bp bd F q (k*5+1) k (k*300000) D) from
    does_pg (o:={ o with Do:=D }) (hpg.fresh hf6) HLO.out hv (by omega) (by omega) (by omega) (have h0:=hop.touch hf6 (fun _ e=>e.elim);⟨h0.bs,h0.bsB,h0.cs,h0.csB,h0.rng⟩))
   have HW5:=zh hw5;have HW6:=zh hw6;have HD:=zh hD0
   clear hpg hv ho hop hw5 hw6 hf5 hf6 hb5 hb6 hD hD0
   go_upto_region 8 with fail
   rw[<- HW5.out]
   go_wp2_with fail
   refine KI.out.mono ?_
   rintro e w2 ⟨rfl,rfl⟩
   go_upto_region 9 with fail
   rw[<- HW6.out]
   clear KI c0 g0
   go_wp2_with fail
   refine KD.out.mono ?_
   rintro e w3 ⟨rfl,q3,hx3,hk3,_,hst,_⟩
   have HX3:=zh hx3;have HK3:=zh hk3;have HS3:=zh hst
   clear hx3 hk3 hst KD
   go_wp2_with fail
   go_roundw
   case rel=>
    refine⟨k+1,q3,by omega,by omega,by go_num,HX3.out,HK3.out.up (by omega) (Nat.le_refl _) (by omega), ?_⟩
    rcases HS3.out with e | ⟨e1,e2⟩
    ·have:=HD.out;omega
    ·exact⟨e1.trans HC.out.1,e2.trans HC.out.2⟩
   case measure=>simp[intOf]<;>omega
  ·obtain⟨a,hx⟩:=hpg
   have hf0:=hv.f0
   unfold Fok at hf0
   obtain⟨ff,hff⟩:∃ff,ff=q.f:=⟨_,rfl⟩
   rw[<- hff]at hf0
   obtain⟨v,hrs,_,_⟩:=hx.km.c
   have d2:wr.cell? ⟨bp,2,none⟩=some (.pointer (some ⟨a.bc,0,none⟩)):=hx.km.blk.cell 2
   have e0:wr.cell? ⟨a.bc,0,none⟩=some (.int .i64 ff):=by rw[hff];exact hrs.blk.cell 0
   obtain⟨r,hr⟩:∃r,r=by_ % 1000:=⟨_,rfl⟩
   have hr0:0<=r/\r<1000:=by rw[hr];exact⟨Int.emod_nonneg _ (by omega),Int.emod_lt_of_pos _ (by omega)⟩
   have KI:=zh (within_any by_ 1000 wr (by omega) (by omega))
   rw[<- hr]at KI
   have hw1:IntKind.i64.wrap (ff+1)=ff+1:=IntWalk.i64_in _ (by omega)
   obtain⟨g,hg⟩:∃g,g=ff+1+r:=⟨_,rfl⟩
   have hw2:IntKind.i64.wrap (ff+1+r)=g:=by rw[hg];exact IntWalk.i64_in _ (by omega)
   have KR:=zh (raise_pg hx hv (by omega) (by omega) (hv.tok (by omega)).1.1 g)
   have HX:=zh hx;have HFF:=zh hff;have HG:=zh hg;have HR0:=zh hr0
   clear hx hv hrs hff hr hg
   go_upto_region 5 with fail
   go_cut [23] from 16 to 23 (fun v W=>v= .bool false/\wr=W)
   case first=>
    by_cases hl1:k<n
    ·have hkd:decide ((k:Int)<(n:Int))=true:=decide_eq_true (by omega)
     have hki:(k:Int)<(n:Int):=by omega
     have hkd2:decide ((k:Int)<20)=false:=decide_eq_false (by omega)
     have hki2:¬(k:Int)<20:=by omega
     go_wp2_with fail
     all_goals
      go_meet
      case rel=>exact⟨by first | rfl | (rw[decide_eq_false (by omega)]),rfl⟩
    ·have hkd:decide ((k:Int)<(n:Int))=false:=decide_eq_false (by omega)
     have hki:¬(k:Int)<(n:Int):=by omega
     go_wp2_with fail
     all_goals
      go_meet
      case rel=>exact⟨by first | rfl | (rw[decide_eq_false (by omega)]),rfl⟩
   case rest=>
    obtain⟨rfl,rfl⟩:=hcut
    go_wp2_with fail
    refine KI.out.mono ?_
    rintro e _ ⟨rfl,rfl⟩
    by_cases hgt:4503599627370496<g
    ·have hgd:decide (4503599627370496<g)=true:=decide_eq_true hgt
     go_wp2_with fail
     refine(KW.out _).mono ?_
     rintro e w5 ⟨rfl,hf5⟩
     have HF5:=zh hf5
     clear hf5
     go_wp2_with fail
     go_ret
     exact⟨rfl,HFW.out.trans HF5.out fun _ _=>id⟩
    ·have hgd:decide (4503599627370496<g)=false:=decide_eq_false hgt
     go_wp2_with fail
     refine KR.out.mono ?_
     rintro e w3 ⟨rfl,q3,⟨a3,hx3⟩,hk3,hr3⟩
     obtain⟨c3,f3,m3⟩:=hr3.calm HV.out (by omega) (by omega) HC.out (by rw[<- HFF.out,HG.out];have:=HR0.out;omega) (by omega)
     obtain⟨v3,hrs3,_,_⟩:=hx3.km.c
     have d3:w3.cell? ⟨bp,2,none⟩=some (.pointer (some ⟨a3.bc,0,none⟩)):=hx3.km.blk.cell 2
     have e3:w3.cell? ⟨a3.bc,0,none⟩=some (.int .i64 g):=by rw[<- f3];exact hrs3.blk.cell 0
     have d30:w3.cell? ⟨bp,0,none⟩=some (.pointer (some ⟨bd,0,none⟩)):=hx3.km.blk.cell 0
     have hf13:=HF1.out
     have hlo:=HLO.out.1
     have KCR:=zh (show Calls Tryz.prog 16 #[.pointer (some ⟨bd,0,none⟩), .slice A2 m2 c2] w3 fun e w2=>e= .returned (.tuple #[])/\∃S2,KX w1 w2 bp bd F { a3 with S:=S2 } { q3 with p:={ q3.p with d:=q3.p.d.crash cuts } } q3.f q3.has q3.cm from by
      have hfw3:Fresh w w3:=hx3.kg.new_ HF1.out HNEW.out
      refine(disk_crash hx3.km.sd.ld.dk (hk3.pv.small (by omega)) (by omega) (cuts:=cuts) (HZ.out.touch hfw3 fun _ _ _=>id) HZR.out (fun a' ha h0 e=> ?_)).mono ?_
      ·have h5:=HZB.out a' ha h0
       rcases hx3.sF a'.block (.inr (.inr (.inr (.inr (.inr e))))) with e' | e'
       ·have:=HNEW.out _ e';omega
       ·omega
      ·rintro e w2 ⟨rfl,ht2,hd2⟩
       exact⟨rfl,_,hx3.disk ht2 hd2⟩)
     obtain⟨st,s1,s2,s3,s4⟩:=hk3.crash (by omega) cuts
     have hst:st.fence=g/\st.has=q3.has:=by
      rcases s2 with⟨e1,e2⟩ | e1
      ·exact⟨e1.trans f3,e2⟩
      ·rw[m3]at e1;cases e1
     have he:({ q3.p with d:=q3.p.d.crash cuts }:PS).reop=q3.p.crashS cuts:=by unfold PS.reop PS.crashS;rw[hk3.base,c3.1,c3.2]
     obtain⟨t1,t2⟩:=hk3.tok (by omega)
     have KOP:=zh (fun (w4:World) (S2:Nat->Prop) (hx4:KX w1 w4 bp bd F { a3 with S:=S2 } { q3 with p:={ q3.p with d:=q3.p.d.crash cuts } } q3.f q3.has q3.cm)=>opened_any (cr:=true) (i:=k*5+1+1+1) (T:=k*300000+5000) (st:=st) hx4 (by dsimp only;rw[he];exact s4.pv.up (by omega) (by omega)) (by omega) (by omega) (by dsimp only;rw[he];exact s1) (s2.imp id fun e=>⟨rfl,e⟩) (s4.tok (by omega)).1 t1 t2 (by have:=hk3.lens;dsimp only;omega))
     have HE:=zh he;have HST:=zh hst
     have HK5:=zh (show KInv ⟨q3.p.crashS cuts,g,q3.has, [],false,0⟩ (k*5+5) (k+5) (k*300000+10000) Any from by
      have h5:=s4.up (i':=k*5+5) (n':=k+5) (T':=k*300000+10000) (by omega) (by omega) (by omega)
      rw[hst.1,hst.2]at h5
      exact h5)
     clear hx3 hk3 hr3 c3 f3 m3 hrs3 hf13 hlo s1 s2 s3 s4 hst he t1 t2 KI KR d2 e0
     go_wp2_with fail
     refine KCR.out.mono ?_
     rintro e w4 ⟨rfl,S4,hx4⟩
     have KOP4:=zh (KOP.out w4 S4 hx4)
     clear hx4 KCR KOP d3 e3 d30
     go_wp2_with fail
     refine KOP4.out.mono ?_
     rintro e w5 ⟨rfl,a5,hx5⟩
     have hx6:KX w1 w5 bp bd F a5 ⟨q3.p.crashS cuts,g,q3.has, [],false,0⟩ g q3.has 0:=by
      unfold KP.reop at hx5
      dsimp only at hx5
      rw[HE.out,HST.out.1,HST.out.2]at hx5
      exact hx5
     obtain⟨q5,hq5⟩:∃q5:KP,q5=⟨q3.p.crashS cuts,g,q3.has, [],false,0⟩:=⟨_,rfl⟩
     have hx7:KX w1 w5 bp bd F a5 q5 q5.f q5.has q5.cm:=by rw[hq5];exact hx6
     have hk7:KInv q5 (k*5+5) (k+5) (k*300000+10000) Any:=by rw[hq5];exact HK5.out
     have hf7:q5.f=g:=by rw[hq5]
     have y1:w5.cell? ⟨bp,1,none⟩=some (.pointer (some ⟨a5.bs,0,none⟩)):=hx7.km.blk.cell 1
     have y2:w5.cell? ⟨bp,2,none⟩=some (.pointer (some ⟨a5.bc,0,none⟩)):=hx7.km.blk.cell 2
     have KF:=zh (kvfence_any hx7.km.sd)
     rw[hf7]at KF
     have KC:=zh (fun (x:Int) (hx:x≠g)=>hx7.no_commit hk7 (by omega) (by omega) (by omega) (g:=x) (by rw[hf7];exact hx) late1 (cs:= #[.string ⟨#[108,97,116,101]⟩, .string ⟨#[120]⟩, .bool false]) rfl (nn:=1) rfl (by omega) (by decide) (by decide))
     have KRN:=zh (show∀(x:Int),x<=g->∀W,Fresh w5 W->Calls Tryz.prog 36 #[.pointer (some ⟨a5.bs,0,none⟩), .int .i64 x] W fun e w'=>e= .returned (.int .i64 5)/\Fresh w5 w' from fun x hx W hW=>(raise_no (hx7.sq.fresh hW) hk7 (by omega) (by omega) (by rw[hf7];exact hx)).mono fun e w' q=>⟨q.1,hW.trans q.2 fun _ _=>id⟩)
     have KT:=zh (show∀W,Fresh w5 W->Calls Tryz.prog 31 #[.pointer (some ⟨a5.bs,0,none⟩), .pointer (some ⟨a5.bc,0,none⟩)] W fun e w'=>Fresh w5 w'/\e= .returned (.bool true) from fun W hW=>(tells_px (hx7.fresh hW) hk7 (by omega)).mono fun e w' q=>⟨hW.trans q.1 fun _ _=>id,q.2⟩)
     have KN:=zh (fun (W0:World) (hW:Fresh w5 W0) (W':World) (hW':Fresh (W0.alloc (.cells #[.string ⟨#[110,111,119]⟩, .string ⟨#[120]⟩, .bool false] 31)) W')=>hx7.commit_lit hk7 (by omega) (by omega) (by omega) now1 (cs:= #[.string ⟨#[110,111,119]⟩, .string ⟨#[120]⟩, .bool false]) rfl (nn:=1) rfl (by omega) (by decide) (by decide) W0 hW W' hW')
     rw[hf7]at KN
     have HY:=zh (And.intro y1 y2)
     clear hx5 hx6 hx7 hk7 hq5 KOP4
     go_wp2_with fail
     refine KF.out.mono ?_
     rintro e w5 ⟨rfl,rfl⟩
     have hw5:IntKind.i64.wrap (g-5)=g-5:=IntWalk.i64_in _ (by have:=HG.out;have:=HR0.out;omega)
     clear KF y1 y2 hf7
     go_wp2_with fail
     go_loopw [12] (fun x W=>∃j:Nat,j<=5/\x= .int .i64 (g-5+(j:Int))/\Fresh w5 W) (fun x _=>(g-intOf x).toNat)
     case atStart=>exact⟨0,Nat.zero_le _,by simp,Touch.refl _ _⟩
     case round=>
      obtain⟨j,hj,rfl,hfr⟩:=hrel
      have HFR:=zh hfr
      have y1:=hfr.cell HY.out.1 id
      have y2:=hfr.cell HY.out.2 id
      have y1a:=((Touch.refl (fun _=>False) wr).alloc (.cells #[.string ⟨#[108,97,116,101]⟩, .string ⟨#[120]⟩, .bool false] 31)).cell y1 id
      clear hfr
      by_cases hj5:j<5
      ·have hjd:decide (g-5+(j:Int)<g)=true:=decide_eq_true (by omega)
       have hji:g-5+(j:Int)<g:=by omega
       have hwj:IntKind.i64.wrap (g-5+(j:Int)+1)=g-5+(j:Int)+1:=IntWalk.i64_in _ (by have:=HG.out;have:=HR0.out;omega)
       have KC1:=zh (KC.out (g-5+(j:Int)) (by omega))
       have KR1:=zh (KRN.out (g-5+(j:Int)) (by omega))
       obtain⟨x,hx⟩:∃x,x=g-5+(j:Int):=⟨_,rfl⟩
       rw[<- hx]at KC1 KR1 hjd hji hwj ⊢
       have HX9:=zh hx
       clear hx
       go_upto_region 23 with fail
       go_cut [122] from 93 to 122 (fun v W=>v= .bool false/\Fresh w5 W)
       case first=>
        refine wp_region_any (by kernel_rfl) ?_
        try (change wpAny _ _ _ _ _ _ _ (World.drew _))
        refine tk 0 (oi:= ?o76) (v:= ?v76) ?i76 ?q76 ?y76 ?r76
        case i76=>rfl
        case q76=>exact fun _ _ _ h=>h
        case y76=>(refine Or.inl ⟨by rfl, ?_⟩;intro wx;go_simp;try with_reducible rfl)
        try simp only[Act.put,s1,s2,s3]
        refine tk 1 (oi:= ?o77) (v:= ?v77) ?i77 ?q77 ?y77 ?r77
        case i77=>rfl
        case q77=>exact fun _ _ _ h=>h
        case y77=>(refine Or.inl ⟨by rfl, ?_⟩;intro wx;go_simp;try with_reducible rfl)
        try simp only[Act.put,s1,s2,s3]
        refine tk 2 (oi:= ?o78) (v:= ?v78) ?i78 ?q78 ?y78 ?r78
        case i78=>rfl
        case q78=>exact fun _ _ _ h=>h
        case y78=>(refine Or.inl ⟨by rfl, ?_⟩;intro wx;go_simp;try with_reducible rfl)
        try simp only[Act.put,s1,s2,s3]
        refine tk 4 (oi:= ?o79) (v:= ?v79) ?i79 ?q79 ?y79 ?r79
        case i79=>rfl
        case q79=>exact fun _ _ _ h=>h
        case y79=>(refine Or.inl ⟨by rfl, ?_⟩;intro wx;go_simp;try with_reducible rfl)
        try simp only[Act.put,s1,s2,s3]
        refine tk 5 (oi:= ?o80) (v:= ?v80) ?i80 ?q80 ?y80 ?r80
        case i80=>rfl
        case q80=>exact fun _ _ _ h=>h
        case y80=>(refine Or.inl ⟨by rfl, ?_⟩;intro wx;go_simp;try with_reducible rfl)
        try simp only[Act.put,s1,s2,s3]
        apply via
        ·intro hT
         refine wpAny_ready (rs:= [3,6]) (by kernel_rfl) (by simp) ?_
         refine AllReady.cons (o:= ?o81) ?i81 ?s81 ?m81
         case i81=>(apply op_at;rfl)
         case s81=>
          intro K hK
          go_simp;refine hK _ _ ?_
          clear hK K
          try simp only[Act.put,s1,s2,s3]
          refine wpAny_ready (rs:= [6]) (by kernel_rfl) (by simp) ?_
          refine AllReady.cons (o:= ?o82) ?i82 ?s82 ?m82
          case i82=>(apply op_at;rfl)
          case s82=>
           intro K hK
           go_simp;refine hK _ _ ?_
           clear hK K
           try simp only[Act.put,s1,s2,s3]
           exact hT
          exact AllReady.nil
         refine AllReady.cons (o:= ?o83) ?i83 ?s83 ?m83
         case i83=>(apply op_at;rfl)
         case s83=>
          intro K hK
          go_simp;refine hK _ _ ?_
          clear hK K
          try simp only[Act.put,s1,s2,s3]
          refine wpAny_ready (rs:= [3]) (by kernel_rfl) (by simp) ?_
          refine AllReady.cons (o:= ?o84) ?i84 ?s84 ?m84
          case i84=>(apply op_at;rfl)
          case s84=>
           intro K hK
           go_simp;refine hK _ _ ?_
           clear hK K
           try simp only[Act.put,s1,s2,s3]
           exact hT
          exact AllReady.nil
         exact AllReady.nil
        refine wpAny_ready (rs:= [7]) (by kernel_rfl) (by simp) ?_
        refine AllReady.cons (o:= ?o85) ?i85 ?s85 ?m85
        case i85=>(apply op_at;rfl)
        case s85=>
         intro K hK
         go_simp;go_at_call 15;refine Calls.mono (KC1.out wr HFR.out _ ?_) ?_;(· first | exact Touch.refl _ _ | exact(Touch.refl _ _).drew);rintro e w6 ⟨rfl,hf6⟩;have HF6:=zh hf6;clear hf6;have y1:=HF6.out.cell HY.out.1 id;have y2:=HF6.out.cell HY.out.2 id;(try go_simp);refine hK _ _ ?_
         clear hK K
         try simp only[Act.put,s1,s2,s3]
         refine tk 8 (oi:= ?o86) (v:= ?v86) ?i86 ?q86 ?y86 ?r86
         case i86=>rfl
         case q86=>exact fun _ _ _ h=>h
         case y86=>(refine Or.inl ⟨by rfl, ?_⟩;intro wx;go_simp;try with_reducible rfl)
         try simp only[Act.put,s1,s2,s3]
         refine tk 9 (oi:= ?o87) (v:= ?v87) ?i87 ?q87 ?y87 ?r87
         case i87=>rfl
         case q87=>exact fun _ _ _ h=>h
         case y87=>(refine Or.inl ⟨by rfl, ?_⟩;intro wx;go_simp;try with_reducible rfl)
         try simp only[Act.put,s1,s2,s3]
         refine tk 10 (oi:= ?o88) (v:= ?v88) ?i88 ?q88 ?y88 ?r88
         case i88=>rfl
         case q88=>exact fun _ _ _ h=>h
         case y88=>(refine Or.inl ⟨by rfl, ?_⟩;intro wx;go_simp;try with_reducible rfl)
         try simp only[Act.put,s1,s2,s3]
         refine tk 11 (oi:= ?o89) (v:= ?v89) ?i89 ?q89 ?y89 ?r89
         case i89=>rfl
         case q89=>exact fun _ _ _ h=>h
         case y89=>(refine Or.inl ⟨by rfl, ?_⟩;intro wx;go_simp;try with_reducible rfl)
         try simp only[Act.put,s1,s2,s3]
         refine tk 12 (oi:= ?o90) (v:= ?v90) ?i90 ?q90 ?y90 ?r90
         case i90=>rfl
         case q90=>exact fun _ _ _ h=>h
         case y90=>(refine Or.inl ⟨by rfl, ?_⟩;intro wx;go_simp;try with_reducible rfl)
         try simp only[Act.put,s1,s2,s3]
         refine tk 14 (oi:= ?o91) (v:= ?v91) ?i91 ?q91 ?y91 ?r91
         case i91=>rfl
         case q91=>exact fun _ _ _ h=>h
         case y91=>(refine Or.inl ⟨by rfl, ?_⟩;intro wx;go_simp;try with_reducible rfl)
         try simp only[Act.put,s1,s2,s3]
         refine wpAny_ready (rs:= [13]) (by kernel_rfl) (by simp) ?_
         refine AllReady.cons (o:= ?o92) ?i92 ?s92 ?m92
         case i92=>(apply op_at;rfl)
         case s92=>
          intro K hK
          go_simp;refine hK _ _ ?_
          clear hK K
          try simp only[Act.put,s1,s2,s3]
          refine wpAny_ready (rs:= [15]) (by kernel_rfl) (by simp) ?_
          refine AllReady.cons (o:= ?o93) ?i93 ?s93 ?m93
          case i93=>(apply op_at;rfl)
          case s93=>
           intro K hK
           go_simp;go_at_call 36;refine(KR1.out _ (by repeat (first | exact HF6.out | exact Touch.refl _ _ | refine Touch.alloc ?_ _ | refine Touch.drew ?_))).mono ?_;rintro e w7 ⟨rfl,hf7⟩;have HF7:=zh hf7;clear hf7;have y1:=HF7.out.cell HY.out.1 id;have y2:=HF7.out.cell HY.out.2 id;(try go_simp);refine hK _ _ ?_
           clear hK K
           try simp only[Act.put,s1,s2,s3]
           refine tk 16 (oi:= ?o94) (v:= ?v94) ?i94 ?q94 ?y94 ?r94
           case i94=>rfl
           case q94=>exact fun _ _ _ h=>h
           case y94=>(refine Or.inl ⟨by rfl, ?_⟩;intro wx;go_simp;try with_reducible rfl)
           try simp only[Act.put,s1,s2,s3]
           refine tk 17 (oi:= ?o95) (v:= ?v95) ?i95 ?q95 ?y95 ?r95
           case i95=>rfl
           case q95=>exact fun _ _ _ h=>h
           case y95=>(refine Or.inl ⟨by rfl, ?_⟩;intro wx;go_simp;try with_reducible rfl)
           try simp only[Act.put,s1,s2,s3]
           refine tk 18 (oi:= ?o96) (v:= ?v96) ?i96 ?q96 ?y96 ?r96
           case i96=>rfl
           case q96=>exact fun _ _ _ h=>h
           case y96=>(refine Or.inl ⟨by rfl, ?_⟩;intro wx;go_simp;try with_reducible rfl)
           try simp only[Act.put,s1,s2,s3]
           refine tk 19 (oi:= ?o97) (v:= ?v97) ?i97 ?q97 ?y97 ?r97
           case i97=>rfl
           case q97=>exact fun _ _ _ h=>h
           case y97=>(refine Or.inl ⟨by rfl, ?_⟩;intro wx;go_simp;try with_reducible rfl)
           try simp only[Act.put,s1,s2,s3]
           refine tk 20 (oi:= ?o98) (v:= ?v98) ?i98 ?q98 ?y98 ?r98
           case i98=>rfl
           case q98=>exact fun _ _ _ h=>h
           case y98=>(refine Or.inl ⟨by rfl, ?_⟩;intro wx;go_simp;try with_reducible rfl)
           try simp only[Act.put,s1,s2,s3]
           refine tk 21 (oi:= ?o99) (v:= ?v99) ?i99 ?q99 ?y99 ?r99
           case i99=>rfl
           case q99=>exact fun _ _ _ h=>h
           case y99=>(refine Or.inl ⟨by rfl, ?_⟩;intro wx;go_simp;try with_reducible rfl)
           try simp only[Act.put,s1,s2,s3]
           refine tk 23 (oi:= ?o100) (v:= ?v100) ?i100 ?q100 ?y100 ?r100
           case i100=>rfl
           case q100=>exact fun _ _ _ h=>h
           case y100=>(refine Or.inl ⟨by rfl, ?_⟩;intro wx;go_simp;try with_reducible rfl)
           try simp only[Act.put,s1,s2,s3]
           refine tk 24 (oi:= ?o101) (v:= ?v101) ?i101 ?q101 ?y101 ?r101
           case i101=>rfl
           case q101=>exact fun _ _ _ h=>h
           case y101=>(refine Or.inl ⟨by rfl, ?_⟩;intro wx;go_simp;try with_reducible rfl)
           try simp only[Act.put,s1,s2,s3]
           refine tk 25 (oi:= ?o102) (v:= ?v102) ?i102 ?q102 ?y102 ?r102
           case i102=>rfl
           case q102=>exact fun _ _ _ h=>h
           case y102=>(refine Or.inl ⟨by rfl, ?_⟩;intro wx;go_simp;try with_reducible rfl)
           try simp only[Act.put,s1,s2,s3]
           apply via
           ·intro hT
            refine wpAny_ready (rs:= [22,26]) (by kernel_rfl) (by simp) ?_
            refine AllReady.cons (o:= ?o103) ?i103 ?s103 ?m103
            case i103=>(apply op_at;rfl)
            case s103=>
             intro K hK
             go_simp;refine hK _ _ ?_
             clear hK K
             try simp only[Act.put,s1,s2,s3]
             refine wpAny_ready (rs:= [26]) (by kernel_rfl) (by simp) ?_
             refine AllReady.cons (o:= ?o104) ?i104 ?s104 ?m104
             case i104=>(apply op_at;rfl)
             case s104=>
              intro K hK
              go_simp;refine hK _ _ ?_
              clear hK K
              try simp only[Act.put,s1,s2,s3]
              exact hT
             exact AllReady.nil
            refine AllReady.cons (o:= ?o105) ?i105 ?s105 ?m105
            case i105=>(apply op_at;rfl)
            case s105=>
             intro K hK
             go_simp;refine hK _ _ ?_
             clear hK K
             try simp only[Act.put,s1,s2,s3]
             refine wpAny_ready (rs:= [22]) (by kernel_rfl) (by simp) ?_
             refine AllReady.cons (o:= ?o106) ?i106 ?s106 ?m106
             case i106=>(apply op_at;rfl)
             case s106=>
              intro K hK
              go_simp;refine hK _ _ ?_
              clear hK K
              try simp only[Act.put,s1,s2,s3]
              exact hT
             exact AllReady.nil
            exact AllReady.nil
           refine wpAny_ready (rs:= [27]) (by kernel_rfl) (by simp) ?_
           refine AllReady.cons (o:= ?o107) ?i107 ?s107 ?m107
           case i107=>(apply op_at;rfl)
           case s107=>
            intro K hK
            go_simp;go_at_call 31;refine(KT.out _ (by repeat (first | exact HF7.out | exact Touch.refl _ _ | refine Touch.alloc ?_ _ | refine Touch.drew ?_))).mono ?_;rintro e w8 ⟨hf8,rfl⟩;have HF8:=zh hf8;clear hf8;(try go_simp);refine hK _ _ ?_
            clear hK K
            try simp only[Act.put,s1,s2,s3]
            refine tk 28 (oi:= ?o108) (v:= ?v108) ?i108 ?q108 ?y108 ?r108
            case i108=>rfl
            case q108=>exact fun _ _ _ h=>h
            case y108=>(refine Or.inl ⟨by rfl, ?_⟩;intro wx;go_simp;try with_reducible rfl)
            try simp only[Act.put,s1,s2,s3]
            refine tk 29 (oi:= ?o109) (v:= ?v109) ?i109 ?q109 ?y109 ?r109
            case i109=>rfl
            case q109=>exact fun _ _ _ h=>h
            case y109=>(refine Or.inl ⟨by rfl, ?_⟩;intro wx;go_simp;try with_reducible rfl)
            try simp only[Act.put,s1,s2,s3]
            refine wpAny_done (by kernel_rfl) ?_ _
            go_wp2_with fail
            go_meet
            case rel=>exact⟨rfl,HF8.out⟩
           exact AllReady.nil
          exact AllReady.nil
         exact AllReady.nil
        exact AllReady.nil
       case rest=>
        obtain⟨rfl,hfr⟩:=hcut
        have HFR2:=zh hfr
        clear hfr
        go_wp2_with fail
        go_roundw
        case rel=>exact⟨j+1,by omega,by rw[HX9.out];congr 1;omega,HFR2.out⟩
        case measure=>(simp[intOf];have:=HX9.out;omega)
      ·have hjd:decide (g-5+(j:Int)<g)=false:=decide_eq_false (by omega)
       have hji:¬g-5+(j:Int)<g:=by omega
       have KR1:=zh (KRN.out g (Int.le_refl _))
       go_upto_region 25 with fail
       refine wp_region_any (by kernel_rfl) ?_
       try (change wpAny _ _ _ _ _ _ _ (World.drew _))
       refine tk 0 (oi:= ?o110) (v:= ?v110) ?i110 ?q110 ?y110 ?r110
       case i110=>rfl
       case q110=>exact fun _ _ _ h=>h
       case y110=>(refine Or.inl ⟨by rfl, ?_⟩;intro wx;go_simp;try with_reducible rfl)
       try simp only[Act.put,s1,s2,s3]
       refine tk 1 (oi:= ?o111) (v:= ?v111) ?i111 ?q111 ?y111 ?r111
       case i111=>rfl
       case q111=>exact fun _ _ _ h=>h
       case y111=>(refine Or.inl ⟨by rfl, ?_⟩;intro wx;go_simp;try with_reducible rfl)
       try simp only[Act.put,s1,s2,s3]
       refine tk 2 (oi:= ?o112) (v:= ?v112) ?i112 ?q112 ?y112 ?r112
       case i112=>rfl
       case q112=>exact fun _ _ _ h=>h
       case y112=>(refine Or.inl ⟨by rfl, ?_⟩;intro wx;go_simp;try with_reducible rfl)
       try simp only[Act.put,s1,s2,s3]
       refine tk 4 (oi:= ?o113) (v:= ?v113) ?i113 ?q113 ?y113 ?r113
       case i113=>rfl
       case q113=>exact fun _ _ _ h=>h
       case y113=>(refine Or.inl ⟨by rfl, ?_⟩;intro wx;go_simp;try with_reducible rfl)
       try simp only[Act.put,s1,s2,s3]
       refine wpAny_ready (rs:= [3]) (by kernel_rfl) (by simp) ?_
       refine AllReady.cons (o:= ?o114) ?i114 ?s114 ?m114
       case i114=>(apply op_at;rfl)
       case s114=>
        intro K hK
        go_simp;refine hK _ _ ?_
        clear hK K
        try simp only[Act.put,s1,s2,s3]
        refine wpAny_ready (rs:= [5]) (by kernel_rfl) (by simp) ?_
        refine AllReady.cons (o:= ?o115) ?i115 ?s115 ?m115
        case i115=>(apply op_at;rfl)
        case s115=>
         intro K hK
         go_simp;go_at_call 36;refine(KR1.out _ (by repeat (first | exact HFR.out | exact Touch.refl _ _ | refine Touch.alloc ?_ _ | refine Touch.drew ?_))).mono ?_;rintro e w6 ⟨rfl,hf6⟩;have HF6:=zh hf6;clear hf6;have y1:=HF6.out.cell HY.out.1 id;have y2:=HF6.out.cell HY.out.2 id;(try go_simp);refine hK _ _ ?_
         clear hK K
         try simp only[Act.put,s1,s2,s3]
         refine tk 6 (oi:= ?o116) (v:= ?v116) ?i116 ?q116 ?y116 ?r116
         case i116=>rfl
         case q116=>exact fun _ _ _ h=>h
         case y116=>(refine Or.inl ⟨by rfl, ?_⟩;intro wx;go_simp;try with_reducible rfl)
         try simp only[Act.put,s1,s2,s3]
         refine tk 7 (oi:= ?o117) (v:= ?v117) ?i117 ?q117 ?y117 ?r117
         case i117=>rfl
         case q117=>exact fun _ _ _ h=>h
         case y117=>(refine Or.inl ⟨by rfl, ?_⟩;intro wx;go_simp;try with_reducible rfl)
         try simp only[Act.put,s1,s2,s3]
         refine tk 8 (oi:= ?o118) (v:= ?v118) ?i118 ?q118 ?y118 ?r118
         case i118=>rfl
         case q118=>exact fun _ _ _ h=>h
         case y118=>(refine Or.inl ⟨by rfl, ?_⟩;intro wx;go_simp;try with_reducible rfl)
         try simp only[Act.put,s1,s2,s3]
         refine tk 9 (oi:= ?o119) (v:= ?v119) ?i119 ?q119 ?y119 ?r119
         case i119=>rfl
         case q119=>exact fun _ _ _ h=>h
         case y119=>(refine Or.inl ⟨by rfl, ?_⟩;intro wx;go_simp;try with_reducible rfl)
         try simp only[Act.put,s1,s2,s3]
         refine tk 10 (oi:= ?o120) (v:= ?v120) ?i120 ?q120 ?y120 ?r120
         case i120=>rfl
         case q120=>exact fun _ _ _ h=>h
         case y120=>(refine Or.inl ⟨by rfl, ?_⟩;intro wx;go_simp;try with_reducible rfl)
         try simp only[Act.put,s1,s2,s3]
         refine wpAny_ready (rs:= [11]) (by kernel_rfl) (by simp) ?_
         refine AllReady.cons (o:= ?o121) ?i121 ?s121 ?m121
         case i121=>(apply op_at;rfl)
         case s121=>
          intro K hK
          go_simp;refine hK _ _ ?_
          clear hK K
          try simp only[Act.put,s1,s2,s3]
          refine wpAny_ready (rs:= [12]) (by kernel_rfl) (by simp) ?_
          refine AllReady.cons (o:= ?o122) ?i122 ?s122 ?m122
          case i122=>(apply op_at;rfl)
          case s122=>
           intro K hK
           go_simp;go_at_call 25;refine Calls.mono (KN.out w6 HF6.out _ ?_) ?_;(· first | exact Touch.refl _ _ | exact(Touch.refl _ _).drew);rintro e w7 ⟨rfl,q7,⟨a7,hx7⟩,hk7,_⟩;have y3:w7.cell? ⟨bp,1,none⟩=some (.pointer (some ⟨a7.bs,0,none⟩)):=hx7.km.blk.cell 1;have y4:w7.cell? ⟨bp,2,none⟩=some (.pointer (some ⟨a7.bc,0,none⟩)):=hx7.km.blk.cell 2;have KT7:=zh (show∀W,Fresh w7 W->Calls Tryz.prog 31 #[.pointer (some ⟨a7.bs,0,none⟩), .pointer (some ⟨a7.bc,0,none⟩)] W fun e w'=>Fresh w7 w'/\e= .returned (.bool true) from fun W hW=>(tells_px (hx7.fresh hW) hk7 (by omega)).mono fun e w' q=>⟨hW.trans q.1 fun _ _=>id,q.2⟩);have HF7:=zh (hx7.kg.new_ HF1.out HNEW.out);clear hx7 hk7;(try go_simp);refine hK _ _ ?_
           clear hK K
           try simp only[Act.put,s1,s2,s3]
           refine tk 13 (oi:= ?o123) (v:= ?v123) ?i123 ?q123 ?y123 ?r123
           case i123=>rfl
           case q123=>exact fun _ _ _ h=>h
           case y123=>(refine Or.inl ⟨by rfl, ?_⟩;intro wx;go_simp;try with_reducible rfl)
           try simp only[Act.put,s1,s2,s3]
           refine tk 14 (oi:= ?o124) (v:= ?v124) ?i124 ?q124 ?y124 ?r124
           case i124=>rfl
           case q124=>exact fun _ _ _ h=>h
           case y124=>(refine Or.inl ⟨by rfl, ?_⟩;intro wx;go_simp;try with_reducible rfl)
           try simp only[Act.put,s1,s2,s3]
           refine tk 15 (oi:= ?o125) (v:= ?v125) ?i125 ?q125 ?y125 ?r125
           case i125=>rfl
           case q125=>exact fun _ _ _ h=>h
           case y125=>(refine Or.inl ⟨by rfl, ?_⟩;intro wx;go_simp;try with_reducible rfl)
           try simp only[Act.put,s1,s2,s3]
           refine tk 16 (oi:= ?o126) (v:= ?v126) ?i126 ?q126 ?y126 ?r126
           case i126=>rfl
           case q126=>exact fun _ _ _ h=>h
           case y126=>(refine Or.inl ⟨by rfl, ?_⟩;intro wx;go_simp;try with_reducible rfl)
           try simp only[Act.put,s1,s2,s3]
           refine tk 17 (oi:= ?o127) (v:= ?v127) ?i127 ?q127 ?y127 ?r127
           case i127=>rfl
           case q127=>exact fun _ _ _ h=>h
           case y127=>(refine Or.inl ⟨by rfl, ?_⟩;intro wx;go_simp;try with_reducible rfl)
           try simp only[Act.put,s1,s2,s3]
           refine tk 19 (oi:= ?o128) (v:= ?v128) ?i128 ?q128 ?y128 ?r128
           case i128=>rfl
           case q128=>exact fun _ _ _ h=>h
           case y128=>(refine Or.inl ⟨by rfl, ?_⟩;intro wx;go_simp;try with_reducible rfl)
           try simp only[Act.put,s1,s2,s3]
           refine tk 20 (oi:= ?o129) (v:= ?v129) ?i129 ?q129 ?y129 ?r129
           case i129=>rfl
           case q129=>exact fun _ _ _ h=>h
           case y129=>(refine Or.inl ⟨by rfl, ?_⟩;intro wx;go_simp;try with_reducible rfl)
           try simp only[Act.put,s1,s2,s3]
           refine tk 21 (oi:= ?o130) (v:= ?v130) ?i130 ?q130 ?y130 ?r130
           case i130=>rfl
           case q130=>exact fun _ _ _ h=>h
           case y130=>(refine Or.inl ⟨by rfl, ?_⟩;intro wx;go_simp;try with_reducible rfl)
           try simp only[Act.put,s1,s2,s3]
           apply via
           ·intro hT
            refine wpAny_ready (rs:= [18,22]) (by kernel_rfl) (by simp) ?_
            refine AllReady.cons (o:= ?o131) ?i131 ?s131 ?m131
            case i131=>(apply op_at;rfl)
            case s131=>
             intro K hK
             go_simp;refine hK _ _ ?_
             clear hK K
             try simp only[Act.put,s1,s2,s3]
             refine wpAny_ready (rs:= [22]) (by kernel_rfl) (by simp) ?_
             refine AllReady.cons (o:= ?o132) ?i132 ?s132 ?m132
             case i132=>(apply op_at;rfl)
             case s132=>
              intro K hK
              go_simp;refine hK _ _ ?_
              clear hK K
              try simp only[Act.put,s1,s2,s3]
              exact hT
             exact AllReady.nil
            refine AllReady.cons (o:= ?o133) ?i133 ?s133 ?m133
            case i133=>(apply op_at;rfl)
            case s133=>
             intro K hK
             go_simp;refine hK _ _ ?_
             clear hK K
             try simp only[Act.put,s1,s2,s3]
             refine wpAny_ready (rs:= [18]) (by kernel_rfl) (by simp) ?_
             refine AllReady.cons (o:= ?o134) ?i134 ?s134 ?m134
             case i134=>(apply op_at;rfl)
             case s134=>
              intro K hK
              go_simp;refine hK _ _ ?_
              clear hK K
              try simp only[Act.put,s1,s2,s3]
              exact hT
             exact AllReady.nil
            exact AllReady.nil
           refine wpAny_ready (rs:= [23]) (by kernel_rfl) (by simp) ?_
           refine AllReady.cons (o:= ?o135) ?i135 ?s135 ?m135
           case i135=>(apply op_at;rfl)
           case s135=>
            intro K hK
            go_simp;go_at_call 31;refine(KT7.out _ (by first | exact(Touch.refl _ w7).drew | exact Touch.refl _ w7)).mono ?_;rintro e w8 ⟨hf8,rfl⟩;have HF8:=zh hf8;clear hf8;(try go_simp);refine hK _ _ ?_
            clear hK K
            try simp only[Act.put,s1,s2,s3]
            refine tk 24 (oi:= ?o136) (v:= ?v136) ?i136 ?q136 ?y136 ?r136
            case i136=>rfl
            case q136=>exact fun _ _ _ h=>h
            case y136=>(refine Or.inl ⟨by rfl, ?_⟩;intro wx;go_simp;try with_reducible rfl)
            try simp only[Act.put,s1,s2,s3]
            refine tk 25 (oi:= ?o137) (v:= ?v137) ?i137 ?q137 ?y137 ?r137
            case i137=>rfl
            case q137=>exact fun _ _ _ h=>h
            case y137=>(refine Or.inl ⟨by rfl, ?_⟩;intro wx;go_simp;try with_reducible rfl)
            try simp only[Act.put,s1,s2,s3]
            refine wpAny_ready (rs:= [26]) (by kernel_rfl) (by simp) ?_
            refine AllReady.cons (o:= ?o138) ?i138 ?s138 ?m138
            case i138=>(apply op_at;rfl)
            case s138=>
             intro K hK
             go_simp;go_at_call 20;refine(KW.out _).mono ?_;rintro e w9 ⟨rfl,hf9⟩;have HF9:=zh hf9;clear hf9;(try go_simp);refine hK _ _ ?_
             clear hK K
             try simp only[Act.put,s1,s2,s3]
             refine tk 27 (oi:= ?o139) (v:= ?v139) ?i139 ?q139 ?y139 ?r139
             case i139=>rfl
             case q139=>exact fun _ _ _ h=>h
             case y139=>(refine Or.inl ⟨by rfl, ?_⟩;intro wx;go_simp;try with_reducible rfl)
             try simp only[Act.put,s1,s2,s3]
             refine tk 28 (oi:= ?o140) (v:= ?v140) ?i140 ?q140 ?y140 ?r140
             case i140=>rfl
             case q140=>exact fun _ _ _ h=>h
             case y140=>(refine Or.inl ⟨by rfl, ?_⟩;intro wx;go_simp;try with_reducible rfl)
             try simp only[Act.put,s1,s2,s3]
             refine wpAny_done (by kernel_rfl) ?_ _
             go_wp2_with fail
             go_ret
             exact⟨rfl,(HF7.out.trans HF8.out fun _ _=>id).trans HF9.out fun _ _=>id⟩
            exact AllReady.nil
           exact AllReady.nil
          exact AllReady.nil
         exact AllReady.nil
        exact AllReady.nil
       exact AllReady.nil
end Go.Proofs.YtjehlgblkfofpaaGreat
