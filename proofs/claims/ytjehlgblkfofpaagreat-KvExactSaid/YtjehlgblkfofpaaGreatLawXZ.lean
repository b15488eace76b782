/- The law KvExact, walked. The law's wakes stands ahead of it as a contract. -/
import Derived.Test.YtjehlgblkfofpaaGreatZa39
namespace Go.Proofs.YtjehlgblkfofpaaGreat
open Go.RowKit
attribute [local go_sem] Oper.semAt_some
set_option maxRecDepth 200000 in
set_option maxHeartbeats 16000000 in
theorem law_exact(KW:WakesOk)(w:World)(A:Option Addr)(n c:Nat)(ops:List OpK)(h:OpsKt w A n c ops):
  Calls Tryz.prog 6 #[.slice A n c] w fun e w'=>e= .returned (.bool true)/\Fresh w w':=by
 have hnc:=h.vs.2.1
 have hcm:=h.vs.2.2.1
 unfold maxLen at hcm
 have KB:=zh (begunK_any w)
 have KW:=zh KW
 have H:=zh h
 clear h
 go_enter Tryz.func6,Tryz.ntmps6
 go_wp2_with fail
 refine KB.out.mono ?_
 rintro e w1 ⟨bp,bd,F,rfl,hf1,hpg,hnew⟩
 have HPG:=zh hpg;have HF1:=zh hf1;have HNEW:=zh hnew
 have HLO:=zh (show LoF w.heap.size w1 F from⟨hf1.size,hnew⟩)
 clear hpg hf1 hnew KB
 go_wp2_with fail
 go_loopw [4,5] (fun i _ W=>∃(k:Nat) (q:KP),k<=n/\k<=60/\i= .int .i64 (k:Int)/\KG w1 W bp bd F q/\KInv q (k*5+1) k (k*300000) Any) (fun i _ _=>n-(intOf i).toNat)
 case atStart=>exact⟨0,KP.new,Nat.zero_le _,Nat.zero_le _,rfl,HPG.out,KInv.new⟩
 case round=>
  obtain⟨k,q,hk,hk2,rfl,hpg,hv⟩:=hrel
  have HV:=zh hv;have HPG1:=zh hpg
  have HFW:=zh (hpg.new_ HF1.out HNEW.out)
  by_cases hlt:k<n/\k<60
  ·obtain⟨hl1,hl2⟩:=hlt
   obtain⟨b,off,o,rfl,ho⟩:=H.out.spot hl1
   obtain⟨hop,k0,k1,k2,k3,k4,k5⟩:=H.out.rd ho HFW.out
   have hkd:decide ((k:Int)<(n:Int))=true:=decide_eq_true (by omega)
   have hkd2:decide ((k:Int)<60)=true:=decide_eq_true (by omega)
   have hwk:IntKind.i64.wrap ((k:Int)+1)=(k:Int)+1:=IntWalk.i64_in _ (by omega)
   obtain⟨D,hD⟩:∃D,D=o.Do % 9:=⟨_,rfl⟩
   have hD0:0<=D/\D<9:=by rw[hD];exact⟨Int.emod_nonneg _ (by omega),Int.emod_lt_of_pos _ (by omega)⟩
   obtain⟨w5,hw5⟩:∃w5,w5=wr.alloc (.cells #[.int .i64 o.Do, .int .i64 o.f, .int .i64 o.N, .int .i64 o.K, .slice o.A o.m o.c, .slice o.C o.nc o.cc] 72):=⟨_,rfl⟩
   have hb5:Blk w5 wr.heap.size 72 #[.int .i64 o.Do, .int .i64 o.f, .int .i64 o.N, .int .i64 o.K, .slice o.A o.m o.c, .slice o.C o.nc o.cc]:=by rw[hw5];exact Blk.new _ _ _
   have hf5:Fresh wr w5:=by rw[hw5];exact(Touch.refl (fun _=>False) wr).alloc _
   have KI:=zh (within_any o.Do 9 w5 (by omega) (by omega))
   rw[<- hD]at KI
   have c0:w5.cell? ⟨wr.heap.size,0,none⟩=some (.int .i64 o.Do):=hb5.cell 0
   have g0:w5.frozen? ⟨wr.heap.size,0,none⟩=false:=hb5.frozen 0
   obtain⟨w6,hw6⟩:∃w6,w6=w5.setCell ⟨wr.heap.size,0,none⟩ (.int .i64 D):=⟨_,rfl⟩
   have hb6:Blk w6 wr.heap.size 72 #[.int .i64 D, .int .i64 o.f, .int .i64 o.N, .int .i64 o.K, .slice o.A o.m o.c, .slice o.C o.nc o.cc]:=by rw[hw6];simpa using hb5.set_ 0 (.int .i64 D)
   have hf6:Fresh wr w6:=by rw[hw6];exact hf5.setCell (p:=⟨wr.heap.size,0,none⟩) (.inl (Nat.le_refl _)) _
   have c1:w6.cell? ⟨wr.heap.size,0,none⟩=some (.int .i64 D):=hb6.cell 0
   have g1:w6.frozen? ⟨wr.heap.size,0,none⟩=false:=hb6.frozen 0
   have KD0:=zh (fun (wz:World) (hz:Fresh wr wz) (Dz:Int)=>show∀W,Fresh wz W->Calls Tryz.prog 32 #[.pointer (some ⟨bp,0,none⟩), .agg #[.int .i64 Dz, .int .i64 o.f, .int .i64 o.N, .int .i64 o.K, .slice o.A o.m o.c, .slice o.C o.nc o.cc]] W (DoE w1 bp bd F q (k*5+1) k (k*300000) Dz) from fun W hW=>
    does_pg (o:={ o with Do:=Dz }) (hpg.fresh (hz.trans hW fun _ _=>id)) HLO.out hv (by omega) (by omega) (by omega) (have h0:=hop.touch (hz.trans hW fun _ _=>id) (fun _ e=>e.elim);⟨h0.bs,h0.bsB,h0.cs,h0.csB,h0.rng⟩))
   have HW5:=zh hw5;have HW6:=zh hw6;have HF6:=zh hf6;have HB6:=zh hb6;have HD:=zh hD
   clear hpg hv ho hop hw5 hw6 hf5 hf6 hb5 hb6 hD
   by_cases h57:5<=D/\D<=7
   ·obtain⟨h5,h7⟩:=h57
    have h5d:decide (5<=D)=true:=decide_eq_true h5
    have h7d:decide (D<=7)=true:=decide_eq_true h7
    obtain⟨w7,hw7⟩:∃w7,w7=w6.setCell ⟨wr.heap.size,0,none⟩ (.int .i64 8):=⟨_,rfl⟩
    have hb7:Blk w7 wr.heap.size 72 #[.int .i64 8, .int .i64 o.f, .int .i64 o.N, .int .i64 o.K, .slice o.A o.m o.c, .slice o.C o.nc o.cc]:=by rw[hw7];simpa using HB6.out.set_ 0 (.int .i64 8)
    have hf7:Fresh wr w7:=by rw[hw7];exact HF6.out.setCell (p:=⟨wr.heap.size,0,none⟩) (.inl (Nat.le_refl _)) _
    have KD:=zh (KD0.out w7 hf7 8)
    have HW7:=zh hw7
    clear hw7 hf7
    go_upto_region 8 with fail
    rw[<- HW5.out]
    go_wp2_with fail
    refine KI.out.mono ?_
    rintro e w2 ⟨rfl,rfl⟩
    go_upto_region 9 with fail
    rw[<- HW6.out]
    go_upto_region 11 with fail
    rw[<- HW7.out]
    clear KD0 KI c0 g0 c1 g1
    have s0:w7.cell? ⟨wr.heap.size,0,none⟩=some (.int .i64 8):=hb7.cell 0
    have s1:w7.cell? ⟨wr.heap.size,1,none⟩=some (.int .i64 o.f):=hb7.cell 1
    have s2:w7.cell? ⟨wr.heap.size,2,none⟩=some (.int .i64 o.N):=hb7.cell 2
    have s3:w7.cell? ⟨wr.heap.size,3,none⟩=some (.int .i64 o.K):=hb7.cell 3
    have s4:w7.cell? ⟨wr.heap.size,4,none⟩=some (.slice o.A o.m o.c):=hb7.cell 4
    have s5:w7.cell? ⟨wr.heap.size,5,none⟩=some (.slice o.C o.nc o.cc):=hb7.cell 5
    go_cut [51] from 36 to 51 (fun v W=>v= .bool false/\∃q3,KG w1 W bp bd F q3/\KInv q3 (k*5+1+5) (k+1) (k*300000+300000) Any)
    case first=>
     refine wp_region_any (by kernel_rfl) ?_
     try (change wpAny _ _ _ _ _ _ _ (World.drew _))
     refine wpAny_take (i:=0) (oi:= ?o25) (v:= ?v25) ?i25 (by kernel_rfl) (by kernel_rfl) (by kernel_rfl) ?q25 ?y25 ?r25
     case i25=>(apply op_at;rfl)
     case q25=>exact fun _ _ _ h=>h
     case y25=>(refine Or.inl ⟨by rfl, ?_⟩;intro wx;go_simp;try with_reducible rfl)
     try simp only[Act.put,List.setIfInBounds_toArray,List.set_cons_zero,List.set_cons_succ]
     refine wpAny_ready (rs:= [1]) (by kernel_rfl) (by simp) ?_
     refine AllReady.cons (o:= ?o26) ?i26 ?s26 ?m26
     case i26=>(apply op_at;rfl)
     case s26=>
      intro K hK
      go_simp;refine hK _ _ ?_
      clear hK K
      try simp only[Act.put,List.setIfInBounds_toArray,List.set_cons_zero,List.set_cons_succ]
      refine wpAny_ready (rs:= [2]) (by kernel_rfl) (by simp) ?_
      refine AllReady.cons (o:= ?o27) ?i27 ?s27 ?m27
      case i27=>(apply op_at;rfl)
      case s27=>
       intro K hK
       go_simp;go_at_call 32;refine(KD.out _ (by first | exact(Touch.refl _ w7).drew | exact Touch.refl _ w7)).mono ?_;rintro e w3 ⟨rfl,q3,⟨a3,hx3⟩,hk3,hle,hst⟩;have y1:w3.cell? ⟨bp,1,none⟩=some (.pointer (some ⟨a3.bs,0,none⟩)):=hx3.km.blk.cell 1;have y2:w3.cell? ⟨bp,2,none⟩=some (.pointer (some ⟨a3.bc,0,none⟩)):=hx3.km.blk.cell 2;have KT:=zh (show∀W,Fresh w3 W->Calls Tryz.prog 31 #[.pointer (some ⟨a3.bs,0,none⟩), .pointer (some ⟨a3.bc,0,none⟩)] W fun e w'=>Fresh w3 w'/\e= .returned (.bool true) from fun W hW=>(tells_px (hx3.fresh hW) hk3 (by omega)).mono fun e w' q=>⟨hW.trans q.1 fun _ _=>id,q.2⟩);have HX3:=zh hx3;have HK3:=zh hk3;clear hx3 hk3 hle hst;(try go_simp);refine hK _ _ ?_
       clear hK K
       try simp only[Act.put,List.setIfInBounds_toArray,List.set_cons_zero,List.set_cons_succ]
       refine wpAny_take (i:=3) (oi:= ?o28) (v:= ?v28) ?i28 (by kernel_rfl) (by kernel_rfl) (by kernel_rfl) ?q28 ?y28 ?r28
       case i28=>(apply op_at;rfl)
       case q28=>exact fun _ _ _ h=>h
       case y28=>(refine Or.inl ⟨by rfl, ?_⟩;intro wx;go_simp;try with_reducible rfl)
       try simp only[Act.put,List.setIfInBounds_toArray,List.set_cons_zero,List.set_cons_succ]
       refine wpAny_take (i:=4) (oi:= ?o29) (v:= ?v29) ?i29 (by kernel_rfl) (by kernel_rfl) (by kernel_rfl) ?q29 ?y29 ?r29
       case i29=>(apply op_at;rfl)
       case q29=>exact fun _ _ _ h=>h
       case y29=>(refine Or.inl ⟨by rfl, ?_⟩;intro wx;go_simp;try with_reducible rfl)
       try simp only[Act.put,List.setIfInBounds_toArray,List.set_cons_zero,List.set_cons_succ]
       refine wpAny_take (i:=5) (oi:= ?o30) (v:= ?v30) ?i30 (by kernel_rfl) (by kernel_rfl) (by kernel_rfl) ?q30 ?y30 ?r30
       case i30=>(apply op_at;rfl)
       case q30=>exact fun _ _ _ h=>h
       case y30=>(refine Or.inl ⟨by rfl, ?_⟩;intro wx;go_simp;try with_reducible rfl)
       try simp only[Act.put,List.setIfInBounds_toArray,List.set_cons_zero,List.set_cons_succ]
       refine wpAny_take (i:=6) (oi:= ?o31) (v:= ?v31) ?i31 (by kernel_rfl) (by kernel_rfl) (by kernel_rfl) ?q31 ?y31 ?r31
       case i31=>(apply op_at;rfl)
       case q31=>exact fun _ _ _ h=>h
       case y31=>(refine Or.inl ⟨by rfl, ?_⟩;intro wx;go_simp;try with_reducible rfl)
       try simp only[Act.put,List.setIfInBounds_toArray,List.set_cons_zero,List.set_cons_succ]
       refine wpAny_take (i:=7) (oi:= ?o32) (v:= ?v32) ?i32 (by kernel_rfl) (by kernel_rfl) (by kernel_rfl) ?q32 ?y32 ?r32
       case i32=>(apply op_at;rfl)
       case q32=>exact fun _ _ _ h=>h
       case y32=>(refine Or.inl ⟨by rfl, ?_⟩;intro wx;go_simp;try with_reducible rfl)
       try simp only[Act.put,List.setIfInBounds_toArray,List.set_cons_zero,List.set_cons_succ]
       refine wpAny_take (i:=9) (oi:= ?o33) (v:= ?v33) ?i33 (by kernel_rfl) (by kernel_rfl) (by kernel_rfl) ?q33 ?y33 ?r33
       case i33=>(apply op_at;rfl)
       case q33=>exact fun _ _ _ h=>h
       case y33=>(refine Or.inl ⟨by rfl, ?_⟩;intro wx;go_simp;try with_reducible rfl)
       try simp only[Act.put,List.setIfInBounds_toArray,List.set_cons_zero,List.set_cons_succ]
       refine wpAny_take (i:=10) (oi:= ?o34) (v:= ?v34) ?i34 (by kernel_rfl) (by kernel_rfl) (by kernel_rfl) ?q34 ?y34 ?r34
       case i34=>(apply op_at;rfl)
       case q34=>exact fun _ _ _ h=>h
       case y34=>(refine Or.inl ⟨by rfl, ?_⟩;intro wx;go_simp;try with_reducible rfl)
       try simp only[Act.put,List.setIfInBounds_toArray,List.set_cons_zero,List.set_cons_succ]
       refine wpAny_take (i:=11) (oi:= ?o35) (v:= ?v35) ?i35 (by kernel_rfl) (by kernel_rfl) (by kernel_rfl) ?q35 ?y35 ?r35
       case i35=>(apply op_at;rfl)
       case q35=>exact fun _ _ _ h=>h
       case y35=>(refine Or.inl ⟨by rfl, ?_⟩;intro wx;go_simp;try with_reducible rfl)
       try simp only[Act.put,List.setIfInBounds_toArray,List.set_cons_zero,List.set_cons_succ]
       refine wpAny_ready (rs:= [8,12]) (by kernel_rfl) (by simp) ?_
       refine AllReady.cons (o:= ?o36) ?i36 ?s36 ?m36
       case i36=>(apply op_at;rfl)
       case s36=>
        intro K hK
        go_simp;refine hK _ _ ?_
        clear hK K
        try simp only[Act.put,List.setIfInBounds_toArray,List.set_cons_zero,List.set_cons_succ]
        refine wpAny_ready (rs:= [12]) (by kernel_rfl) (by simp) ?_
        refine AllReady.cons (o:= ?o37) ?i37 ?s37 ?m37
        case i37=>(apply op_at;rfl)
        case s37=>
         intro K hK
         go_simp;refine hK _ _ ?_
         clear hK K
         try simp only[Act.put,List.setIfInBounds_toArray,List.set_cons_zero,List.set_cons_succ]
         refine wpAny_ready (rs:= [13]) (by kernel_rfl) (by simp) ?_
         refine AllReady.cons (o:= ?o38) ?i38 ?s38 ?m38
         case i38=>(apply op_at;rfl)
         case s38=>
          intro K hK
          go_simp;go_at_call 31;refine(KT.out _ (by first | exact(Touch.refl _ w3).drew | exact Touch.refl _ w3)).mono ?_;rintro e w4 ⟨hf4,rfl⟩;have HF4:=zh hf4;clear hf4;(try go_simp);refine hK _ _ ?_
          clear hK K
          try simp only[Act.put,List.setIfInBounds_toArray,List.set_cons_zero,List.set_cons_succ]
          refine wpAny_take (i:=14) (oi:= ?o39) (v:= ?v39) ?i39 (by kernel_rfl) (by kernel_rfl) (by kernel_rfl) ?q39 ?y39 ?r39
          case i39=>(apply op_at;rfl)
          case q39=>exact fun _ _ _ h=>h
          case y39=>(refine Or.inl ⟨by rfl, ?_⟩;intro wx;go_simp;try with_reducible rfl)
          try simp only[Act.put,List.setIfInBounds_toArray,List.set_cons_zero,List.set_cons_succ]
          refine wpAny_take (i:=15) (oi:= ?o40) (v:= ?v40) ?i40 (by kernel_rfl) (by kernel_rfl) (by kernel_rfl) ?q40 ?y40 ?r40
          case i40=>(apply op_at;rfl)
          case q40=>exact fun _ _ _ h=>h
          case y40=>(refine Or.inl ⟨by rfl, ?_⟩;intro wx;go_simp;try with_reducible rfl)
          try simp only[Act.put,List.setIfInBounds_toArray,List.set_cons_zero,List.set_cons_succ]
          refine wpAny_done (by kernel_rfl) ?_ _
          go_wp2_with fail
          go_meet
          case rel=>exact⟨rfl,q3,⟨a3,HX3.out.fresh HF4.out⟩,HK3.out⟩
         exact AllReady.nil
        exact AllReady.nil
       refine AllReady.cons (o:= ?o41) ?i41 ?s41 ?m41
       case i41=>(apply op_at;rfl)
       case s41=>
        intro K hK
        go_simp;refine hK _ _ ?_
        clear hK K
        try simp only[Act.put,List.setIfInBounds_toArray,List.set_cons_zero,List.set_cons_succ]
        refine wpAny_ready (rs:= [8]) (by kernel_rfl) (by simp) ?_
        refine AllReady.cons (o:= ?o42) ?i42 ?s42 ?m42
        case i42=>(apply op_at;rfl)
        case s42=>
         intro K hK
         go_simp;refine hK _ _ ?_
         clear hK K
         try simp only[Act.put,List.setIfInBounds_toArray,List.set_cons_zero,List.set_cons_succ]
         refine wpAny_ready (rs:= [13]) (by kernel_rfl) (by simp) ?_
         refine AllReady.cons (o:= ?o43) ?i43 ?s43 ?m43
         case i43=>(apply op_at;rfl)
         case s43=>
          intro K hK
          go_simp;go_at_call 31;refine(KT.out _ (by first | exact(Touch.refl _ w3).drew | exact Touch.refl _ w3)).mono ?_;rintro e w4 ⟨hf4,rfl⟩;have HF4:=zh hf4;clear hf4;(try go_simp);refine hK _ _ ?_
          clear hK K
          try simp only[Act.put,List.setIfInBounds_toArray,List.set_cons_zero,List.set_cons_succ]
          refine wpAny_take (i:=14) (oi:= ?o44) (v:= ?v44) ?i44 (by kernel_rfl) (by kernel_rfl) (by kernel_rfl) ?q44 ?y44 ?r44
          case i44=>(apply op_at;rfl)
          case q44=>exact fun _ _ _ h=>h
          case y44=>(refine Or.inl ⟨by rfl, ?_⟩;intro wx;go_simp;try with_reducible rfl)
          try simp only[Act.put,List.setIfInBounds_toArray,List.set_cons_zero,List.set_cons_succ]
          refine wpAny_take (i:=15) (oi:= ?o45) (v:= ?v45) ?i45 (by kernel_rfl) (by kernel_rfl) (by kernel_rfl) ?q45 ?y45 ?r45
          case i45=>(apply op_at;rfl)
          case q45=>exact fun _ _ _ h=>h
          case y45=>(refine Or.inl ⟨by rfl, ?_⟩;intro wx;go_simp;try with_reducible rfl)
          try simp only[Act.put,List.setIfInBounds_toArray,List.set_cons_zero,List.set_cons_succ]
          refine wpAny_done (by kernel_rfl) ?_ _
          go_wp2_with fail
          go_meet
          case rel=>exact⟨rfl,q3,⟨a3,HX3.out.fresh HF4.out⟩,HK3.out⟩
         exact AllReady.nil
        exact AllReady.nil
       exact AllReady.nil
      exact AllReady.nil
     exact AllReady.nil
    case rest=>
     obtain⟨rfl,q3,hpg4,hk4⟩:=hcut
     have HPG4:=zh hpg4;have HK4:=zh hk4
     clear hpg4 hk4
     go_wp2_with fail
     go_roundw
     case rel=>exact⟨k+1,q3,by omega,by omega,by go_num,HPG4.out,HK4.out.up (by omega) (Nat.le_refl _) (by omega)⟩
     case measure=>simp[intOf]<;>omega
   ·have KD:=zh (KD0.out w6 HF6.out D)
    have hb6:=HB6.out
    have s0:w6.cell? ⟨wr.heap.size,0,none⟩=some (.int .i64 D):=hb6.cell 0
    have s1:w6.cell? ⟨wr.heap.size,1,none⟩=some (.int .i64 o.f):=hb6.cell 1
    have s2:w6.cell? ⟨wr.heap.size,2,none⟩=some (.int .i64 o.N):=hb6.cell 2
    have s3:w6.cell? ⟨wr.heap.size,3,none⟩=some (.int .i64 o.K):=hb6.cell 3
    have s4:w6.cell? ⟨wr.heap.size,4,none⟩=some (.slice o.A o.m o.c):=hb6.cell 4
    have s5:w6.cell? ⟨wr.heap.size,5,none⟩=some (.slice o.C o.nc o.cc):=hb6.cell 5
    by_cases h5:5<=D
    ·have h5d:decide (5<=D)=true:=decide_eq_true h5
     have h7f:¬D<=7:=fun e=>h57 ⟨h5,e⟩
     have h7d:decide (D<=7)=false:=decide_eq_false h7f
     go_upto_region 8 with fail
     rw[<- HW5.out]
     go_wp2_with fail
     refine KI.out.mono ?_
     rintro e w2 ⟨rfl,rfl⟩
     go_upto_region 9 with fail
     rw[<- HW6.out]
     go_upto_region 11 with fail
     clear KD0 KI c0 g0 c1 g1 hb6
     go_cut [51] from 36 to 51 (fun v W=>v= .bool false/\∃q3,KG w1 W bp bd F q3/\KInv q3 (k*5+1+5) (k+1) (k*300000+300000) Any)
     case first=>
      refine wp_region_any (by kernel_rfl) ?_
      try (change wpAny _ _ _ _ _ _ _ (World.drew _))
      refine wpAny_take (i:=0) (oi:= ?o46) (v:= ?v46) ?i46 (by kernel_rfl) (by kernel_rfl) (by kernel_rfl) ?q46 ?y46 ?r46
      case i46=>(apply op_at;rfl)
      case q46=>exact fun _ _ _ h=>h
      case y46=>(refine Or.inl ⟨by rfl, ?_⟩;intro wx;go_simp;try with_reducible rfl)
      try simp only[Act.put,List.setIfInBounds_toArray,List.set_cons_zero,List.set_cons_succ]
      refine wpAny_ready (rs:= [1]) (by kernel_rfl) (by simp) ?_
      refine AllReady.cons (o:= ?o47) ?i47 ?s47 ?m47
      case i47=>(apply op_at;rfl)
      case s47=>
       intro K hK
       go_simp;refine hK _ _ ?_
       clear hK K
       try simp only[Act.put,List.setIfInBounds_toArray,List.set_cons_zero,List.set_cons_succ]
       refine wpAny_ready (rs:= [2]) (by kernel_rfl) (by simp) ?_
       refine AllReady.cons (o:= ?o48) ?i48 ?s48 ?m48
       case i48=>(apply op_at;rfl)
       case s48=>
        intro K hK
        go_simp;go_at_call 32;refine(KD.out _ (by first | exact(Touch.refl _ w6).drew | exact Touch.refl _ w6)).mono ?_;rintro e w3 ⟨rfl,q3,⟨a3,hx3⟩,hk3,hle,hst⟩;have y1:w3.cell? ⟨bp,1,none⟩=some (.pointer (some ⟨a3.bs,0,none⟩)):=hx3.km.blk.cell 1;have y2:w3.cell? ⟨bp,2,none⟩=some (.pointer (some ⟨a3.bc,0,none⟩)):=hx3.km.blk.cell 2;have KT:=zh (show∀W,Fresh w3 W->Calls Tryz.prog 31 #[.pointer (some ⟨a3.bs,0,none⟩), .pointer (some ⟨a3.bc,0,none⟩)] W fun e w'=>Fresh w3 w'/\e= .returned (.bool true) from fun W hW=>(tells_px (hx3.fresh hW) hk3 (by omega)).mono fun e w' q=>⟨hW.trans q.1 fun _ _=>id,q.2⟩);have HX3:=zh hx3;have HK3:=zh hk3;clear hx3 hk3 hle hst;(try go_simp);refine hK _ _ ?_
        clear hK K
        try simp only[Act.put,List.setIfInBounds_toArray,List.set_cons_zero,List.set_cons_succ]
        refine wpAny_take (i:=3) (oi:= ?o49) (v:= ?v49) ?i49 (by kernel_rfl) (by kernel_rfl) (by kernel_rfl) ?q49 ?y49 ?r49
        case i49=>(apply op_at;rfl)
        case q49=>exact fun _ _ _ h=>h
        case y49=>(refine Or.inl ⟨by rfl, ?_⟩;intro wx;go_simp;try with_reducible rfl)
        try simp only[Act.put,List.setIfInBounds_toArray,List.set_cons_zero,List.set_cons_succ]
        refine wpAny_take (i:=4) (oi:= ?o50) (v:= ?v50) ?i50 (by kernel_rfl) (by kernel_rfl) (by kernel_rfl) ?q50 ?y50 ?r50
        case i50=>(apply op_at;rfl)
        case q50=>exact fun _ _ _ h=>h
        case y50=>(refine Or.inl ⟨by rfl, ?_⟩;intro wx;go_simp;try with_reducible rfl)
        try simp only[Act.put,List.setIfInBounds_toArray,List.set_cons_zero,List.set_cons_succ]
        refine wpAny_take (i:=5) (oi:= ?o51) (v:= ?v51) ?i51 (by kernel_rfl) (by kernel_rfl) (by kernel_rfl) ?q51 ?y51 ?r51
        case i51=>(apply op_at;rfl)
        case q51=>exact fun _ _ _ h=>h
        case y51=>(refine Or.inl ⟨by rfl, ?_⟩;intro wx;go_simp;try with_reducible rfl)
        try simp only[Act.put,List.setIfInBounds_toArray,List.set_cons_zero,List.set_cons_succ]
        refine wpAny_take (i:=6) (oi:= ?o52) (v:= ?v52) ?i52 (by kernel_rfl) (by kernel_rfl) (by kernel_rfl) ?q52 ?y52 ?r52
        case i52=>(apply op_at;rfl)
        case q52=>exact fun _ _ _ h=>h
        case y52=>(refine Or.inl ⟨by rfl, ?_⟩;intro wx;go_simp;try with_reducible rfl)
        try simp only[Act.put,List.setIfInBounds_toArray,List.set_cons_zero,List.set_cons_succ]
        refine wpAny_take (i:=7) (oi:= ?o53) (v:= ?v53) ?i53 (by kernel_rfl) (by kernel_rfl) (by kernel_rfl) ?q53 ?y53 ?r53
        case i53=>(apply op_at;rfl)
        case q53=>exact fun _ _ _ h=>h
        case y53=>(refine Or.inl ⟨by rfl, ?_⟩;intro wx;go_simp;try with_reducible rfl)
        try simp only[Act.put,List.setIfInBounds_toArray,List.set_cons_zero,List.set_cons_succ]
        refine wpAny_take (i:=9) (oi:= ?o54) (v:= ?v54) ?i54 (by kernel_rfl) (by kernel_rfl) (by kernel_rfl) ?q54 ?y54 ?r54
        case i54=>(apply op_at;rfl)
        case q54=>exact fun _ _ _ h=>h
        case y54=>(refine Or.inl ⟨by rfl, ?_⟩;intro wx;go_simp;try with_reducible rfl)
        try simp only[Act.put,List.setIfInBounds_toArray,List.set_cons_zero,List.set_cons_succ]
        refine wpAny_take (i:=10) (oi:= ?o55) (v:= ?v55) ?i55 (by kernel_rfl) (by kernel_rfl) (by kernel_rfl) ?q55 ?y55 ?r55
        case i55=>(apply op_at;rfl)
        case q55=>exact fun _ _ _ h=>h
        case y55=>(refine Or.inl ⟨by rfl, ?_⟩;intro wx;go_simp;try with_reducible rfl)
        try simp only[Act.put,List.setIfInBounds_toArray,List.set_cons_zero,List.set_cons_succ]
        refine wpAny_take (i:=11) (oi:= ?o56) (v:= ?v56) ?i56 (by kernel_rfl) (by kernel_rfl) (by kernel_rfl) ?q56 ?y56 ?r56
        case i56=>(apply op_at;rfl)
        case q56=>exact fun _ _ _ h=>h
        case y56=>(refine Or.inl ⟨by rfl, ?_⟩;intro wx;go_simp;try with_reducible rfl)
        try simp only[Act.put,List.setIfInBounds_toArray,List.set_cons_zero,List.set_cons_succ]
        refine wpAny_ready (rs:= [8,12]) (by kernel_rfl) (by simp) ?_
        refine AllReady.cons (o:= ?o57) ?i57 ?s57 ?m57
        case i57=>(apply op_at;rfl)
        case s57=>
         intro K hK
         go_simp;refine hK _ _ ?_
         clear hK K
         try simp only[Act.put,List.setIfInBounds_toArray,List.set_cons_zero,List.set_cons_succ]
         refine wpAny_ready (rs:= [12]) (by kernel_rfl) (by simp) ?_
         refine AllReady.cons (o:= ?o58) ?i58 ?s58 ?m58
         case i58=>(apply op_at;rfl)
         case s58=>
          intro K hK
          go_simp;refine hK _ _ ?_
          clear hK K
          try simp only[Act.put,List.setIfInBounds_toArray,List.set_cons_zero,List.set_cons_succ]
          refine wpAny_ready (rs:= [13]) (by kernel_rfl) (by simp) ?_
          refine AllReady.cons (o:= ?o59) ?i59 ?s59 ?m59
          case i59=>(apply op_at;rfl)
          case s59=>
           intro K hK
           go_simp;go_at_call 31;refine(KT.out _ (by first | exact(Touch.refl _ w3).drew | exact Touch.refl _ w3)).mono ?_;rintro e w4 ⟨hf4,rfl⟩;have HF4:=zh hf4;clear hf4;(try go_simp);refine hK _ _ ?_
           clear hK K
           try simp only[Act.put,List.setIfInBounds_toArray,List.set_cons_zero,List.set_cons_succ]
           refine wpAny_take (i:=14) (oi:= ?o60) (v:= ?v60) ?i60 (by kernel_rfl) (by kernel_rfl) (by kernel_rfl) ?q60 ?y60 ?r60
           case i60=>(apply op_at;rfl)
           case q60=>exact fun _ _ _ h=>h
           case y60=>(refine Or.inl ⟨by rfl, ?_⟩;intro wx;go_simp;try with_reducible rfl)
           try simp only[Act.put,List.setIfInBounds_toArray,List.set_cons_zero,List.set_cons_succ]
           refine wpAny_take (i:=15) (oi:= ?o61) (v:= ?v61) ?i61 (by kernel_rfl) (by kernel_rfl) (by kernel_rfl) ?q61 ?y61 ?r61
           case i61=>(apply op_at;rfl)
           case q61=>exact fun _ _ _ h=>h
           case y61=>(refine Or.inl ⟨by rfl, ?_⟩;intro wx;go_simp;try with_reducible rfl)
           try simp only[Act.put,List.setIfInBounds_toArray,List.set_cons_zero,List.set_cons_succ]
           refine wpAny_done (by kernel_rfl) ?_ _
           go_wp2_with fail
           go_meet
           case rel=>exact⟨rfl,q3,⟨a3,HX3.out.fresh HF4.out⟩,HK3.out⟩
          exact AllReady.nil
         exact AllReady.nil
        refine AllReady.cons (o:= ?o62) ?i62 ?s62 ?m62
        case i62=>(apply op_at;rfl)
        case s62=>
         intro K hK
         go_simp;refine hK _ _ ?_
         clear hK K
         try simp only[Act.put,List.setIfInBounds_toArray,List.set_cons_zero,List.set_cons_succ]
         refine wpAny_ready (rs:= [8]) (by kernel_rfl) (by simp) ?_
         refine AllReady.cons (o:= ?o63) ?i63 ?s63 ?m63
         case i63=>(apply op_at;rfl)
         case s63=>
          intro K hK
          go_simp;refine hK _ _ ?_
          clear hK K
          try simp only[Act.put,List.setIfInBounds_toArray,List.set_cons_zero,List.set_cons_succ]
          refine wpAny_ready (rs:= [13]) (by kernel_rfl) (by simp) ?_
          refine AllReady.cons (o:= ?o64) ?i64 ?s64 ?m64
          case i64=>(apply op_at;rfl)
          case s64=>
           intro K hK
           go_simp;go_at_call 31;refine(KT.out _ (by first | exact(Touch.refl _ w3).drew | exact Touch.refl _ w3)).mono ?_;rintro e w4 ⟨hf4,rfl⟩;have HF4:=zh hf4;clear hf4;(try go_simp);refine hK _ _ ?_
           clear hK K
           try simp only[Act.put,List.setIfInBounds_toArray,List.set_cons_zero,List.set_cons_succ]
           refine wpAny_take (i:=14) (oi:= ?o65) (v:= ?v65) ?i65 (by kernel_rfl) (by kernel_rfl) (by kernel_rfl) ?q65 ?y65 ?r65
           case i65=>(apply op_at;rfl)
           case q65=>exact fun _ _ _ h=>h
           case y65=>(refine Or.inl ⟨by rfl, ?_⟩;intro wx;go_simp;try with_reducible rfl)
           try simp only[Act.put,List.setIfInBounds_toArray,List.set_cons_zero,List.set_cons_succ]
           refine wpAny_take (i:=15) (oi:= ?o66) (v:= ?v66) ?i66 (by kernel_rfl) (by kernel_rfl) (by kernel_rfl) ?q66 ?y66 ?r66
           case i66=>(apply op_at;rfl)
           case q66=>exact fun _ _ _ h=>h
           case y66=>(refine Or.inl ⟨by rfl, ?_⟩;intro wx;go_simp;try with_reducible rfl)
           try simp only[Act.put,List.setIfInBounds_toArray,List.set_cons_zero,List.set_cons_succ]
           refine wpAny_done (by kernel_rfl) ?_ _
           go_wp2_with fail
           go_meet
           case rel=>exact⟨rfl,q3,⟨a3,HX3.out.fresh HF4.out⟩,HK3.out⟩
          exact AllReady.nil
         exact AllReady.nil
        exact AllReady.nil
       exact AllReady.nil
      exact AllReady.nil
     case rest=>
      obtain⟨rfl,q3,hpg4,hk4⟩:=hcut
      have HPG4:=zh hpg4;have HK4:=zh hk4
      clear hpg4 hk4
      go_wp2_with fail
      go_roundw
      case rel=>exact⟨k+1,q3,by omega,by omega,by go_num,HPG4.out,HK4.out.up (by omega) (Nat.le_refl _) (by omega)⟩
      case measure=>simp[intOf]<;>omega
    ·have h5d:decide (5<=D)=false:=decide_eq_false h5
     go_upto_region 8 with fail
     rw[<- HW5.out]
     go_wp2_with fail
     refine KI.out.mono ?_
     rintro e w2 ⟨rfl,rfl⟩
     go_upto_region 9 with fail
     rw[<- HW6.out]
     go_upto_region 11 with fail
     clear KD0 KI c0 g0 c1 g1 hb6
     go_cut [51] from 36 to 51 (fun v W=>v= .bool false/\∃q3,KG w1 W bp bd F q3/\KInv q3 (k*5+1+5) (k+1) (k*300000+300000) Any)
     case first=>
      refine wp_region_any (by kernel_rfl) ?_
      try (change wpAny _ _ _ _ _ _ _ (World.drew _))
      refine wpAny_take (i:=0) (oi:= ?o67) (v:= ?v67) ?i67 (by kernel_rfl) (by kernel_rfl) (by kernel_rfl) ?q67 ?y67 ?r67
      case i67=>(apply op_at;rfl)
      case q67=>exact fun _ _ _ h=>h
      case y67=>(refine Or.inl ⟨by rfl, ?_⟩;intro wx;go_simp;try with_reducible rfl)
      try simp only[Act.put,List.setIfInBounds_toArray,List.set_cons_zero,List.set_cons_succ]
      refine wpAny_ready (rs:= [1]) (by kernel_rfl) (by simp) ?_
      refine AllReady.cons (o:= ?o68) ?i68 ?s68 ?m68
      case i68=>(apply op_at;rfl)
      case s68=>
       intro K hK
       go_simp;refine hK _ _ ?_
       clear hK K
       try simp only[Act.put,List.setIfInBounds_toArray,List.set_cons_zero,List.set_cons_succ]
       refine wpAny_ready (rs:= [2]) (by kernel_rfl) (by simp) ?_
       refine AllReady.cons (o:= ?o69) ?i69 ?s69 ?m69
       case i69=>(apply op_at;rfl)
       case s69=>
        intro K hK
        go_simp;go_at_call 32;refine(KD.out _ (by first | exact(Touch.refl _ w6).drew | exact Touch.refl _ w6)).mono ?_;rintro e w3 ⟨rfl,q3,⟨a3,hx3⟩,hk3,hle,hst⟩;have y1:w3.cell? ⟨bp,1,none⟩=some (.pointer (some ⟨a3.bs,0,none⟩)):=hx3.km.blk.cell 1;have y2:w3.cell? ⟨bp,2,none⟩=some (.pointer (some ⟨a3.bc,0,none⟩)):=hx3.km.blk.cell 2;have KT:=zh (show∀W,Fresh w3 W->Calls Tryz.prog 31 #[.pointer (some ⟨a3.bs,0,none⟩), .pointer (some ⟨a3.bc,0,none⟩)] W fun e w'=>Fresh w3 w'/\e= .returned (.bool true) from fun W hW=>(tells_px (hx3.fresh hW) hk3 (by omega)).mono fun e w' q=>⟨hW.trans q.1 fun _ _=>id,q.2⟩);have HX3:=zh hx3;have HK3:=zh hk3;clear hx3 hk3 hle hst;(try go_simp);refine hK _ _ ?_
        clear hK K
        try simp only[Act.put,List.setIfInBounds_toArray,List.set_cons_zero,List.set_cons_succ]
        refine wpAny_take (i:=3) (oi:= ?o70) (v:= ?v70) ?i70 (by kernel_rfl) (by kernel_rfl) (by kernel_rfl) ?q70 ?y70 ?r70
        case i70=>(apply op_at;rfl)
        case q70=>exact fun _ _ _ h=>h
        case y70=>(refine Or.inl ⟨by rfl, ?_⟩;intro wx;go_simp;try with_reducible rfl)
        try simp only[Act.put,List.setIfInBounds_toArray,List.set_cons_zero,List.set_cons_succ]
        refine wpAny_take (i:=4) (oi:= ?o71) (v:= ?v71) ?i71 (by kernel_rfl) (by kernel_rfl) (by kernel_rfl) ?q71 ?y71 ?r71
        case i71=>(apply op_at;rfl)
        case q71=>exact fun _ _ _ h=>h
        case y71=>(refine Or.inl ⟨by rfl, ?_⟩;intro wx;go_simp;try with_reducible rfl)
        try simp only[Act.put,List.setIfInBounds_toArray,List.set_cons_zero,List.set_cons_succ]
        refine wpAny_take (i:=5) (oi:= ?o72) (v:= ?v72) ?i72 (by kernel_rfl) (by kernel_rfl) (by kernel_rfl) ?q72 ?y72 ?r72
        case i72=>(apply op_at;rfl)
        case q72=>exact fun _ _ _ h=>h
        case y72=>(refine Or.inl ⟨by rfl, ?_⟩;intro wx;go_simp;try with_reducible rfl)
        try simp only[Act.put,List.setIfInBounds_toArray,List.set_cons_zero,List.set_cons_succ]
        refine wpAny_take (i:=6) (oi:= ?o73) (v:= ?v73) ?i73 (by kernel_rfl) (by kernel_rfl) (by kernel_rfl) ?q73 ?y73 ?r73
        case i73=>(apply op_at;rfl)
        case q73=>exact fun _ _ _ h=>h
        case y73=>(refine Or.inl ⟨by rfl, ?_⟩;intro wx;go_simp;try with_reducible rfl)
        try simp only[Act.put,List.setIfInBounds_toArray,List.set_cons_zero,List.set_cons_succ]
        refine wpAny_take (i:=7) (oi:= ?o74) (v:= ?v74) ?i74 (by kernel_rfl) (by kernel_rfl) (by kernel_rfl) ?q74 ?y74 ?r74
        case i74=>(apply op_at;rfl)
        case q74=>exact fun _ _ _ h=>h
        case y74=>(refine Or.inl ⟨by rfl, ?_⟩;intro wx;go_simp;try with_reducible rfl)
        try simp only[Act.put,List.setIfInBounds_toArray,List.set_cons_zero,List.set_cons_succ]
        refine wpAny_take (i:=9) (oi:= ?o75) (v:= ?v75) ?i75 (by kernel_rfl) (by kernel_rfl) (by kernel_rfl) ?q75 ?y75 ?r75
        case i75=>(apply op_at;rfl)
        case q75=>exact fun _ _ _ h=>h
        case y75=>(refine Or.inl ⟨by rfl, ?_⟩;intro wx;go_simp;try with_reducible rfl)
        try simp only[Act.put,List.setIfInBounds_toArray,List.set_cons_zero,List.set_cons_succ]
        refine wpAny_take (i:=10) (oi:= ?o76) (v:= ?v76) ?i76 (by kernel_rfl) (by kernel_rfl) (by kernel_rfl) ?q76 ?y76 ?r76
        case i76=>(apply op_at;rfl)
        case q76=>exact fun _ _ _ h=>h
        case y76=>(refine Or.inl ⟨by rfl, ?_⟩;intro wx;go_simp;try with_reducible rfl)
        try simp only[Act.put,List.setIfInBounds_toArray,List.set_cons_zero,List.set_cons_succ]
        refine wpAny_take (i:=11) (oi:= ?o77) (v:= ?v77) ?i77 (by kernel_rfl) (by kernel_rfl) (by kernel_rfl) ?q77 ?y77 ?r77
        case i77=>(apply op_at;rfl)
        case q77=>exact fun _ _ _ h=>h
        case y77=>(refine Or.inl ⟨by rfl, ?_⟩;intro wx;go_simp;try with_reducible rfl)
        try simp only[Act.put,List.setIfInBounds_toArray,List.set_cons_zero,List.set_cons_succ]
        refine wpAny_ready (rs:= [8,12]) (by kernel_rfl) (by simp) ?_
        refine AllReady.cons (o:= ?o78) ?i78 ?s78 ?m78
        case i78=>(apply op_at;rfl)
        case s78=>
         intro K hK
         go_simp;refine hK _ _ ?_
         clear hK K
         try simp only[Act.put,List.setIfInBounds_toArray,List.set_cons_zero,List.set_cons_succ]
         refine wpAny_ready (rs:= [12]) (by kernel_rfl) (by simp) ?_
         refine AllReady.cons (o:= ?o79) ?i79 ?s79 ?m79
         case i79=>(apply op_at;rfl)
         case s79=>
          intro K hK
          go_simp;refine hK _ _ ?_
          clear hK K
          try simp only[Act.put,List.setIfInBounds_toArray,List.set_cons_zero,List.set_cons_succ]
          refine wpAny_ready (rs:= [13]) (by kernel_rfl) (by simp) ?_
          refine AllReady.cons (o:= ?o80) ?i80 ?s80 ?m80
          case i80=>(apply op_at;rfl)
          case s80=>
           intro K hK
           go_simp;go_at_call 31;refine(KT.out _ (by first | exact(Touch.refl _ w3).drew | exact Touch.refl _ w3)).mono ?_;rintro e w4 ⟨hf4,rfl⟩;have HF4:=zh hf4;clear hf4;(try go_simp);refine hK _ _ ?_
           clear hK K
           try simp only[Act.put,List.setIfInBounds_toArray,List.set_cons_zero,List.set_cons_succ]
           refine wpAny_take (i:=14) (oi:= ?o81) (v:= ?v81) ?i81 (by kernel_rfl) (by kernel_rfl) (by kernel_rfl) ?q81 ?y81 ?r81
           case i81=>(apply op_at;rfl)
           case q81=>exact fun _ _ _ h=>h
           case y81=>(refine Or.inl ⟨by rfl, ?_⟩;intro wx;go_simp;try with_reducible rfl)
           try simp only[Act.put,List.setIfInBounds_toArray,List.set_cons_zero,List.set_cons_succ]
           refine wpAny_take (i:=15) (oi:= ?o82) (v:= ?v82) ?i82 (by kernel_rfl) (by kernel_rfl) (by kernel_rfl) ?q82 ?y82 ?r82
           case i82=>(apply op_at;rfl)
           case q82=>exact fun _ _ _ h=>h
           case y82=>(refine Or.inl ⟨by rfl, ?_⟩;intro wx;go_simp;try with_reducible rfl)
           try simp only[Act.put,List.setIfInBounds_toArray,List.set_cons_zero,List.set_cons_succ]
           refine wpAny_done (by kernel_rfl) ?_ _
           go_wp2_with fail
           go_meet
           case rel=>exact⟨rfl,q3,⟨a3,HX3.out.fresh HF4.out⟩,HK3.out⟩
          exact AllReady.nil
         exact AllReady.nil
        refine AllReady.cons (o:= ?o83) ?i83 ?s83 ?m83
        case i83=>(apply op_at;rfl)
        case s83=>
         intro K hK
         go_simp;refine hK _ _ ?_
         clear hK K
         try simp only[Act.put,List.setIfInBounds_toArray,List.set_cons_zero,List.set_cons_succ]
         refine wpAny_ready (rs:= [8]) (by kernel_rfl) (by simp) ?_
         refine AllReady.cons (o:= ?o84) ?i84 ?s84 ?m84
         case i84=>(apply op_at;rfl)
         case s84=>
          intro K hK
          go_simp;refine hK _ _ ?_
          clear hK K
          try simp only[Act.put,List.setIfInBounds_toArray,List.set_cons_zero,List.set_cons_succ]
          refine wpAny_ready (rs:= [13]) (by kernel_rfl) (by simp) ?_
          refine AllReady.cons (o:= ?o85) ?i85 ?s85 ?m85
          case i85=>(apply op_at;rfl)
          case s85=>
           intro K hK
           go_simp;go_at_call 31;refine(KT.out _ (by first | exact(Touch.refl _ w3).drew | exact Touch.refl _ w3)).mono ?_;rintro e w4 ⟨hf4,rfl⟩;have HF4:=zh hf4;clear hf4;(try go_simp);refine hK _ _ ?_
           clear hK K
           try simp only[Act.put,List.setIfInBounds_toArray,List.set_cons_zero,List.set_cons_succ]
           refine wpAny_take (i:=14) (oi:= ?o86) (v:= ?v86) ?i86 (by kernel_rfl) (by kernel_rfl) (by kernel_rfl) ?q86 ?y86 ?r86
           case i86=>(apply op_at;rfl)
           case q86=>exact fun _ _ _ h=>h
           case y86=>(refine Or.inl ⟨by rfl, ?_⟩;intro wx;go_simp;try with_reducible rfl)
           try simp only[Act.put,List.setIfInBounds_toArray,List.set_cons_zero,List.set_cons_succ]
           refine wpAny_take (i:=15) (oi:= ?o87) (v:= ?v87) ?i87 (by kernel_rfl) (by kernel_rfl) (by kernel_rfl) ?q87 ?y87 ?r87
           case i87=>(apply op_at;rfl)
           case q87=>exact fun _ _ _ h=>h
           case y87=>(refine Or.inl ⟨by rfl, ?_⟩;intro wx;go_simp;try with_reducible rfl)
           try simp only[Act.put,List.setIfInBounds_toArray,List.set_cons_zero,List.set_cons_succ]
           refine wpAny_done (by kernel_rfl) ?_ _
           go_wp2_with fail
           go_meet
           case rel=>exact⟨rfl,q3,⟨a3,HX3.out.fresh HF4.out⟩,HK3.out⟩
          exact AllReady.nil
         exact AllReady.nil
        exact AllReady.nil
       exact AllReady.nil
      exact AllReady.nil
     case rest=>
      obtain⟨rfl,q3,hpg4,hk4⟩:=hcut
      have HPG4:=zh hpg4;have HK4:=zh hk4
      clear hpg4 hk4
      go_wp2_with fail
      go_roundw
      case rel=>exact⟨k+1,q3,by omega,by omega,by go_num,HPG4.out,HK4.out.up (by omega) (Nat.le_refl _) (by omega)⟩
      case measure=>simp[intOf]<;>omega
  ·clear hpg hv
   by_cases hl1:k<n
   ·have hkd:decide ((k:Int)<(n:Int))=true:=decide_eq_true (by omega)
    have hki:(k:Int)<(n:Int):=by omega
    have hkd2:decide ((k:Int)<60)=false:=decide_eq_false (by omega)
    have hki2:¬(k:Int)<60:=by omega
    go_wp2_with fail
    refine(KW.out _).mono ?_
    rintro e w5 ⟨rfl,hf5⟩
    have HF5:=zh hf5
    clear hf5
    go_wp2_with fail
    go_ret
    exact⟨rfl,HFW.out.trans HF5.out fun _ _=>id⟩
   ·have hkd:decide ((k:Int)<(n:Int))=false:=decide_eq_false (by omega)
    have hki:¬(k:Int)<(n:Int):=by omega
    go_wp2_with fail
    refine(KW.out _).mono ?_
    rintro e w5 ⟨rfl,hf5⟩
    have HF5:=zh hf5
    clear hf5
    go_wp2_with fail
    go_ret
    exact⟨rfl,HFW.out.trans HF5.out fun _ _=>id⟩
end Go.Proofs.YtjehlgblkfofpaaGreat
