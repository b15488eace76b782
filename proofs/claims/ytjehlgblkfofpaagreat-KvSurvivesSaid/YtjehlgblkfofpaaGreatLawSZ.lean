/- The law KvSurvives, walked. The law's wakes stands ahead of it as a contract. -/
import Derived.Test.YtjehlgblkfofpaaGreatZa39
namespace Go.Proofs.YtjehlgblkfofpaaGreat
open Go.RowKit
attribute [local go_sem] Oper.semAt_some
set_option maxRecDepth 200000 in
set_option maxHeartbeats 16000000 in
theorem law_survives(KW:WakesOk)(w:World)(A:Option Addr)(n c:Nat)(ops:List OpK)(h:OpsKt w A n c ops):
  Calls Tryz.prog 7 #[.slice A n c] w fun e w'=>e= .returned (.bool true)/\Fresh w w':=by
 have hnc:=h.vs.2.1
 have hcm:=h.vs.2.2.1
 unfold maxLen at hcm
 have KB:=zh (begunK_any w)
 have KW:=zh KW
 have H:=zh h
 clear h
 go_enter Tryz.func7,Tryz.ntmps7
 go_wp2_with fail
 refine KB.out.mono ?_
 rintro e w1 ⟨bp,bd,F,rfl,hf1,hpg,hnew⟩
 have HPG:=zh hpg;have HF1:=zh hf1;have HNEW:=zh hnew
 have HLO:=zh (show LoF w.heap.size w1 F from⟨hf1.size,hnew⟩)
 clear hpg hf1 hnew KB
 go_wp2_with fail
 go_loopw [4] (fun i W=>∃(k:Nat) (q:KP),k<=n/\k<=60/\i= .int .i64 (k:Int)/\KG w1 W bp bd F q/\KInv q (k*5+1) k (k*300000) Any) (fun i _=>n-(intOf i).toNat)
 case atStart=>exact⟨0,KP.new,Nat.zero_le _,Nat.zero_le _,rfl,HPG.out,KInv.new⟩
 case round=>
  obtain⟨k,q,hk,hk2,rfl,hpg,hv⟩:=hrel
  have HV:=zh hv;have HPG1:=zh hpg
  have HFW:=zh (hpg.new_ HF1.out HNEW.out)
  by_cases hlt:k<n/\k<60
  ·obtain⟨hl1,hl2⟩:=hlt
   obtain⟨b,off,o,rfl,ho⟩:=H.out.spot hl1
   obtain⟨hop,k0,k1,k2,k3,k4,k5⟩:=H.out.rd ho HFW.out
   have hkd:decide ((k:Int)<(n:Int))=true:=decide_eq_true (by omega)
   have hkd2:decide ((k:Int)<60)=true:=decide_eq_true (by omega)
   have hwk:IntKind.i64.wrap ((k:Int)+1)=(k:Int)+1:=IntWalk.i64_in _ (by omega)
   have KD:=zh (fun W (hW:Fresh wr W)=>does_pg (hpg.fresh hW) HLO.out hv (by omega) (by omega) (by omega) (hop.touch hW fun _ e=>e.elim))
   clear hpg hv ho hop
   go_upto_region 7 with fail
   go_cut [36] from 18 to 36 (fun v W=>v= .bool false/\∃q3,KG w1 W bp bd F q3/\KInv q3 (k*5+1+5) (k+1) (k*300000+300000) Any)
   case first=>
    refine wp_region_any (by kernel_rfl) ?_
    try (change wpAny _ _ _ _ _ _ _ (World.drew _))
    refine wpAny_take (i:=0) (oi:= ?o1) (v:= ?v1) ?i1 (by kernel_rfl) (by kernel_rfl) (by kernel_rfl) ?q1 ?y1 ?r1
    case i1=>(apply op_at;rfl)
    case q1=>exact fun _ _ _ h=>h
    case y1=>(refine Or.inl ⟨by rfl, ?_⟩;intro wx;go_simp;try with_reducible rfl)
    try simp only[Act.put,List.setIfInBounds_toArray,List.set_cons_zero,List.set_cons_succ]
    refine wpAny_take (i:=1) (oi:= ?o2) (v:= ?v2) ?i2 (by kernel_rfl) (by kernel_rfl) (by kernel_rfl) ?q2 ?y2 ?r2
    case i2=>(apply op_at;rfl)
    case q2=>exact fun _ _ _ h=>h
    case y2=>(refine Or.inl ⟨by rfl, ?_⟩;intro wx;go_simp;try with_reducible rfl)
    try simp only[Act.put,List.setIfInBounds_toArray,List.set_cons_zero,List.set_cons_succ]
    refine wpAny_take (i:=2) (oi:= ?o3) (v:= ?v3) ?i3 (by kernel_rfl) (by kernel_rfl) (by kernel_rfl) ?q3 ?y3 ?r3
    case i3=>(apply op_at;rfl)
    case q3=>exact fun _ _ _ h=>h
    case y3=>(refine Or.inl ⟨by rfl, ?_⟩;intro wx;go_simp;try with_reducible rfl)
    try simp only[Act.put,List.setIfInBounds_toArray,List.set_cons_zero,List.set_cons_succ]
    refine wpAny_take (i:=3) (oi:= ?o4) (v:= ?v4) ?i4 (by kernel_rfl) (by kernel_rfl) (by kernel_rfl) ?q4 ?y4 ?r4
    case i4=>(apply op_at;rfl)
    case q4=>exact fun _ _ _ h=>h
    case y4=>(refine Or.inl ⟨by rfl, ?_⟩;intro wx;go_simp;try with_reducible rfl)
    try simp only[Act.put,List.setIfInBounds_toArray,List.set_cons_zero,List.set_cons_succ]
    refine wpAny_ready (rs:= [4]) (by kernel_rfl) (by simp) ?_
    refine AllReady.cons (o:= ?o5) ?i5 ?s5 ?m5
    case i5=>(apply op_at;rfl)
    case s5=>
     intro K hK
     go_simp;refine hK _ _ ?_
     clear hK K
     try simp only[Act.put,List.setIfInBounds_toArray,List.set_cons_zero,List.set_cons_succ]
     refine wpAny_ready (rs:= [5]) (by kernel_rfl) (by simp) ?_
     refine AllReady.cons (o:= ?o6) ?i6 ?s6 ?m6
     case i6=>(apply op_at;rfl)
     case s6=>
      intro K hK
      go_simp;go_at_call 32;refine(KD.out _ (by first | exact(Touch.refl _ wr).drew | exact Touch.refl _ wr)).mono ?_;rintro e w3 ⟨rfl,q3,⟨a3,hx3⟩,hk3,hle,hst⟩;have y1:w3.cell? ⟨bp,1,none⟩=some (.pointer (some ⟨a3.bs,0,none⟩)):=hx3.km.blk.cell 1;have y2:w3.cell? ⟨bp,2,none⟩=some (.pointer (some ⟨a3.bc,0,none⟩)):=hx3.km.blk.cell 2;have KT:=zh (show∀W,Fresh w3 W->Calls Tryz.prog 31 #[.pointer (some ⟨a3.bs,0,none⟩), .pointer (some ⟨a3.bc,0,none⟩)] W fun e w'=>Fresh w3 w'/\e= .returned (.bool true) from fun W hW=>(tells_px (hx3.fresh hW) hk3 (by omega)).mono fun e w' q=>⟨hW.trans q.1 fun _ _=>id,q.2⟩);have HX3:=zh hx3;have HK3:=zh hk3;clear hx3 hk3 hle hst;(try go_simp);refine hK _ _ ?_
      clear hK K
      try simp only[Act.put,List.setIfInBounds_toArray,List.set_cons_zero,List.set_cons_succ]
      refine wpAny_take (i:=6) (oi:= ?o7) (v:= ?v7) ?i7 (by kernel_rfl) (by kernel_rfl) (by kernel_rfl) ?q7 ?y7 ?r7
      case i7=>(apply op_at;rfl)
      case q7=>exact fun _ _ _ h=>h
      case y7=>(refine Or.inl ⟨by rfl, ?_⟩;intro wx;go_simp;try with_reducible rfl)
      try simp only[Act.put,List.setIfInBounds_toArray,List.set_cons_zero,List.set_cons_succ]
      refine wpAny_take (i:=7) (oi:= ?o8) (v:= ?v8) ?i8 (by kernel_rfl) (by kernel_rfl) (by kernel_rfl) ?q8 ?y8 ?r8
      case i8=>(apply op_at;rfl)
      case q8=>exact fun _ _ _ h=>h
      case y8=>(refine Or.inl ⟨by rfl, ?_⟩;intro wx;go_simp;try with_reducible rfl)
      try simp only[Act.put,List.setIfInBounds_toArray,List.set_cons_zero,List.set_cons_succ]
      refine wpAny_take (i:=8) (oi:= ?o9) (v:= ?v9) ?i9 (by kernel_rfl) (by kernel_rfl) (by kernel_rfl) ?q9 ?y9 ?r9
      case i9=>(apply op_at;rfl)
      case q9=>exact fun _ _ _ h=>h
      case y9=>(refine Or.inl ⟨by rfl, ?_⟩;intro wx;go_simp;try with_reducible rfl)
      try simp only[Act.put,List.setIfInBounds_toArray,List.set_cons_zero,List.set_cons_succ]
      refine wpAny_take (i:=9) (oi:= ?o10) (v:= ?v10) ?i10 (by kernel_rfl) (by kernel_rfl) (by kernel_rfl) ?q10 ?y10 ?r10
      case i10=>(apply op_at;rfl)
      case q10=>exact fun _ _ _ h=>h
      case y10=>(refine Or.inl ⟨by rfl, ?_⟩;intro wx;go_simp;try with_reducible rfl)
      try simp only[Act.put,List.setIfInBounds_toArray,List.set_cons_zero,List.set_cons_succ]
      refine wpAny_take (i:=10) (oi:= ?o11) (v:= ?v11) ?i11 (by kernel_rfl) (by kernel_rfl) (by kernel_rfl) ?q11 ?y11 ?r11
      case i11=>(apply op_at;rfl)
      case q11=>exact fun _ _ _ h=>h
      case y11=>(refine Or.inl ⟨by rfl, ?_⟩;intro wx;go_simp;try with_reducible rfl)
      try simp only[Act.put,List.setIfInBounds_toArray,List.set_cons_zero,List.set_cons_succ]
      refine wpAny_take (i:=12) (oi:= ?o12) (v:= ?v12) ?i12 (by kernel_rfl) (by kernel_rfl) (by kernel_rfl) ?q12 ?y12 ?r12
      case i12=>(apply op_at;rfl)
      case q12=>exact fun _ _ _ h=>h
      case y12=>(refine Or.inl ⟨by rfl, ?_⟩;intro wx;go_simp;try with_reducible rfl)
      try simp only[Act.put,List.setIfInBounds_toArray,List.set_cons_zero,List.set_cons_succ]
      refine wpAny_take (i:=13) (oi:= ?o13) (v:= ?v13) ?i13 (by kernel_rfl) (by kernel_rfl) (by kernel_rfl) ?q13 ?y13 ?r13
      case i13=>(apply op_at;rfl)
      case q13=>exact fun _ _ _ h=>h
      case y13=>(refine Or.inl ⟨by rfl, ?_⟩;intro wx;go_simp;try with_reducible rfl)
      try simp only[Act.put,List.setIfInBounds_toArray,List.set_cons_zero,List.set_cons_succ]
      refine wpAny_take (i:=14) (oi:= ?o14) (v:= ?v14) ?i14 (by kernel_rfl) (by kernel_rfl) (by kernel_rfl) ?q14 ?y14 ?r14
      case i14=>(apply op_at;rfl)
      case q14=>exact fun _ _ _ h=>h
      case y14=>(refine Or.inl ⟨by rfl, ?_⟩;intro wx;go_simp;try with_reducible rfl)
      try simp only[Act.put,List.setIfInBounds_toArray,List.set_cons_zero,List.set_cons_succ]
      refine wpAny_ready (rs:= [11,15]) (by kernel_rfl) (by simp) ?_
      refine AllReady.cons (o:= ?o15) ?i15 ?s15 ?m15
      case i15=>(apply op_at;rfl)
      case s15=>
       intro K hK
       go_simp;refine hK _ _ ?_
       clear hK K
       try simp only[Act.put,List.setIfInBounds_toArray,List.set_cons_zero,List.set_cons_succ]
       refine wpAny_ready (rs:= [15]) (by kernel_rfl) (by simp) ?_
       refine AllReady.cons (o:= ?o16) ?i16 ?s16 ?m16
       case i16=>(apply op_at;rfl)
       case s16=>
        intro K hK
        go_simp;refine hK _ _ ?_
        clear hK K
        try simp only[Act.put,List.setIfInBounds_toArray,List.set_cons_zero,List.set_cons_succ]
        refine wpAny_ready (rs:= [16]) (by kernel_rfl) (by simp) ?_
        refine AllReady.cons (o:= ?o17) ?i17 ?s17 ?m17
        case i17=>(apply op_at;rfl)
        case s17=>
         intro K hK
         go_simp;go_at_call 31;refine(KT.out _ (by first | exact(Touch.refl _ w3).drew | exact Touch.refl _ w3)).mono ?_;rintro e w4 ⟨hf4,rfl⟩;have HF4:=zh hf4;clear hf4;(try go_simp);refine hK _ _ ?_
         clear hK K
         try simp only[Act.put,List.setIfInBounds_toArray,List.set_cons_zero,List.set_cons_succ]
         refine wpAny_take (i:=17) (oi:= ?o18) (v:= ?v18) ?i18 (by kernel_rfl) (by kernel_rfl) (by kernel_rfl) ?q18 ?y18 ?r18
         case i18=>(apply op_at;rfl)
         case q18=>exact fun _ _ _ h=>h
         case y18=>(refine Or.inl ⟨by rfl, ?_⟩;intro wx;go_simp;try with_reducible rfl)
         try simp only[Act.put,List.setIfInBounds_toArray,List.set_cons_zero,List.set_cons_succ]
         refine wpAny_take (i:=18) (oi:= ?o19) (v:= ?v19) ?i19 (by kernel_rfl) (by kernel_rfl) (by kernel_rfl) ?q19 ?y19 ?r19
         case i19=>(apply op_at;rfl)
         case q19=>exact fun _ _ _ h=>h
         case y19=>(refine Or.inl ⟨by rfl, ?_⟩;intro wx;go_simp;try with_reducible rfl)
         try simp only[Act.put,List.setIfInBounds_toArray,List.set_cons_zero,List.set_cons_succ]
         refine wpAny_done (by kernel_rfl) ?_ _
         go_wp2_with fail
         go_meet
         case rel=>exact⟨rfl,q3,⟨a3,HX3.out.fresh HF4.out⟩,HK3.out⟩
        exact AllReady.nil
       exact AllReady.nil
      refine AllReady.cons (o:= ?o20) ?i20 ?s20 ?m20
      case i20=>(apply op_at;rfl)
      case s20=>
       intro K hK
       go_simp;refine hK _ _ ?_
       clear hK K
       try simp only[Act.put,List.setIfInBounds_toArray,List.set_cons_zero,List.set_cons_succ]
       refine wpAny_ready (rs:= [11]) (by kernel_rfl) (by simp) ?_
       refine AllReady.cons (o:= ?o21) ?i21 ?s21 ?m21
       case i21=>(apply op_at;rfl)
       case s21=>
        intro K hK
        go_simp;refine hK _ _ ?_
        clear hK K
        try simp only[Act.put,List.setIfInBounds_toArray,List.set_cons_zero,List.set_cons_succ]
        refine wpAny_ready (rs:= [16]) (by kernel_rfl) (by simp) ?_
        refine AllReady.cons (o:= ?o22) ?i22 ?s22 ?m22
        case i22=>(apply op_at;rfl)
        case s22=>
         intro K hK
         go_simp;go_at_call 31;refine(KT.out _ (by first | exact(Touch.refl _ w3).drew | exact Touch.refl _ w3)).mono ?_;rintro e w4 ⟨hf4,rfl⟩;have HF4:=zh hf4;clear hf4;(try go_simp);refine hK _ _ ?_
         clear hK K
         try simp only[Act.put,List.setIfInBounds_toArray,List.set_cons_zero,List.set_cons_succ]
         refine wpAny_take (i:=17) (oi:= ?o23) (v:= ?v23) ?i23 (by kernel_rfl) (by kernel_rfl) (by kernel_rfl) ?q23 ?y23 ?r23
         case i23=>(apply op_at;rfl)
         case q23=>exact fun _ _ _ h=>h
         case y23=>(refine Or.inl ⟨by rfl, ?_⟩;intro wx;go_simp;try with_reducible rfl)
         try simp only[Act.put,List.setIfInBounds_toArray,List.set_cons_zero,List.set_cons_succ]
         refine wpAny_take (i:=18) (oi:= ?o24) (v:= ?v24) ?i24 (by kernel_rfl) (by kernel_rfl) (by kernel_rfl) ?q24 ?y24 ?r24
         case i24=>(apply op_at;rfl)
         case q24=>exact fun _ _ _ h=>h
         case y24=>(refine Or.inl ⟨by rfl, ?_⟩;intro wx;go_simp;try with_reducible rfl)
         try simp only[Act.put,List.setIfInBounds_toArray,List.set_cons_zero,List.set_cons_succ]
         refine wpAny_done (by kernel_rfl) ?_ _
         go_wp2_with fail
         go_meet
         case rel=>exact⟨rfl,q3,⟨a3,HX3.out.fresh HF4.out⟩,HK3.out⟩
        exact AllReady.nil
       exact AllReady.nil
      exact AllReady.nil
     exact AllReady.nil
    exact AllReady.nil
   case rest=>
    obtain⟨rfl,q3,hpg4,hk4⟩:=hcut
    have HPG4:=zh hpg4;have HK4:=zh hk4
    clear hpg4 hk4
    go_wp2_with fail
    go_roundw
    case rel=>exact⟨k+1,q3,by omega,by omega,by go_num,HPG4.out,HK4.out.up (by omega) (Nat.le_refl _) (by omega)⟩
    case measure=>simp[intOf]<;>omega
  ·obtain⟨a,hx⟩:=hpg
   have hs:=HLO.out.1
   have hd0:wr.cell? ⟨bp,0,none⟩=some (.pointer (some ⟨bd,0,none⟩)):=hx.km.blk.cell 0
   have KS:=zh (show∀W,Fresh wr W->Calls Tryz.prog 16 #[.pointer (some ⟨bd,0,none⟩), .slice none 0 0] W fun e w2=>e= .returned (.tuple #[])/\∃S2,KX w1 w2 bp bd F { a with S:=S2 } { q with p:={ q.p with d:=q.p.d.crash [] } } q.f q.has q.cm from fun W hW=>by
    have hxW:=hx.fresh hW
    refine(disk_crash hxW.km.sd.ld.dk (hv.pv.small (by omega)) (by omega) (cuts:= []) ⟨rfl,Nat.le_refl _,by simp[maxLen],fun h0=>absurd h0 (by simp)⟩ (fun x hx=>by cases hx) (fun a' ha=>by cases ha)).mono ?_
    rintro e w2 ⟨rfl,ht2,hd2⟩
    exact⟨rfl,_,hxW.disk ht2 hd2⟩)
   clear hx hs
   go_upto_region 5 with fail
   go_cut [15] from 8 to 15 (fun v W=>v= .bool false/\wr=W)
   case first=>
    by_cases hl1:k<n
    ·have hkd:decide ((k:Int)<(n:Int))=true:=decide_eq_true (by omega)
     have hki:(k:Int)<(n:Int):=by omega
     have hkd2:decide ((k:Int)<60)=false:=decide_eq_false (by omega)
     have hki2:¬(k:Int)<60:=by omega
     go_wp2_with fail
     all_goals
      go_meet
      case rel=>exact⟨by first | rfl | (rw[decide_eq_false (by omega)]),rfl⟩
    ·have hkd:decide ((k:Int)<(n:Int))=false:=decide_eq_false (by omega)
     have hki:¬(k:Int)<(n:Int):=by omega
     go_wp2_with fail
     all_goals
      go_meet
      case rel=>exact⟨by first | rfl | (rw[decide_eq_false (by omega)]),rfl⟩
   case rest=>
    obtain⟨rfl,rfl⟩:=hcut
    go_wp2_with fail
    refine(KS.out _ (Touch.refl _ _)).mono ?_
    rintro e w2 ⟨rfl,S2,hx2⟩
    have HX2:=zh hx2
    have e7:w2.cell? ⟨bp,4,none⟩=some a.tv:=hx2.km.blk.cell 4
    have f7:w2.frozen? ⟨bp,4,none⟩=false:=hx2.km.blk.frozen 4
    have e8:w2.cell? ⟨bp,5,none⟩=some (.int .i64 q.p.stop):=hx2.km.blk.cell 5
    have f8:w2.frozen? ⟨bp,5,none⟩=false:=hx2.km.blk.frozen 5
    have hx3:=hx2.note_calm
    obtain⟨w3,hw3⟩:∃w3,w3=(w2.setCell ⟨bp,4,none⟩ (.slice none 0 0)).setCell ⟨bp,5,none⟩ (.int .i64 (-1)):=⟨_,rfl⟩
    rw[<- hw3]at hx3
    obtain⟨st,s1,s2,s3,s4⟩:=HV.out.crash (by omega) []
    have he:({ q.p with d:=q.p.d.crash [],struck:= [],stop:= -1 }:PS).reop=q.p.crashS []:=by unfold PS.reop PS.crashS;rw[HV.out.base]
    obtain⟨t1,t2⟩:=HV.out.tok (by omega)
    have KOP:=zh (opened_any (cr:=true) (i:=k*5+1+1) (T:=k*300000) (st:=st) hx3 (by dsimp only;rw[he];exact s4.pv) (by omega) (by omega) (by dsimp only;rw[he];exact s1) (s2.imp id fun e=>⟨rfl,e⟩) (s4.tok (by omega)).1 t1 t2 (by have:=HV.out.lens;dsimp only;omega))
    have HW3:=zh hw3
    clear hx2 hx3 hw3 he s1 s2 s3 s4 t1 t2 KS hd0
    go_upto_region 11 with fail
    rw[<- HW3.out]
    go_wp2_with fail
    refine KOP.out.mono ?_
    rintro e w4 ⟨rfl,a4,hx4⟩
    have HF4:=zh (show Fresh w w4 from HF1.out.trans hx4.tch fun k hk e=>by have:=HNEW.out k e;omega)
    clear hx4 KOP
    go_wp2_with fail
    refine(KW.out _).mono ?_
    rintro e w5 ⟨rfl,hf5⟩
    have HF5:=zh hf5
    clear hf5
    go_wp2_with fail
    go_ret
    exact⟨rfl,HF4.out.trans HF5.out fun _ _=>id⟩
end Go.Proofs.YtjehlgblkfofpaaGreat
