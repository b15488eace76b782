/- The claims' texts, several in one: Sct, Tel. Conditions stand with each theorem. -/
import Derived.Test.YtjehlgblkfofpaaGreatZa24
import Derived.Test.YtjehlgblkfofpaaGreatZa25
import Derived.Test.YtjehlgblkfofpaaGreatZa34
import Derived.Deep.CutBlock
import Derived.Deep.CutRange
import Derived.Test.YtjehlgblkfofpaaGreatZa18
import Derived.Test.YtjehlgblkfofpaaGreatZa26
set_option maxHeartbeats 8000000
set_option maxRecDepth 100000
namespace Go.Proofs.YtjehlgblkfofpaaGreat
open Go.RowKit
attribute [local go_sem] Oper.semAt_some
def below(q:List UInt8)(x:List UInt8×List UInt8):Bool:=decide (q= []) || decide (x.1<q)
def scanL(p q:List UInt8)(l:KL):KL:=(l.drop (kpos p l)).takeWhile (below q)
def prEnc(x:List UInt8×List UInt8):Array Value:= #[.string ⟨x.1.toArray⟩, .string ⟨x.2.toArray⟩]
def PrOk(L pre:KL)(x:List UInt8×List UInt8)(_:World):Prop:=L[pre.length]? =some x
abbrev NoE(_:TypeId):Prop:=False
theorem take_while{α:Type}{P:α->Bool}:∀{l:List α} {j:Nat},(∀x∈l.take j,P x=true)->(∀x,l[j]? =some x->P x=false)->l.takeWhile P=l.take j
 | [],j,_,_=>by simp
 | x :: r,0,_,h=>by
  rw[List.takeWhile_cons,if_neg (by rw[h x rfl];simp)]
  rfl
 | x :: r,j+1,h,h2=>by
  rw[List.takeWhile_cons,if_pos (h x (by simp)),List.take_succ_cons,take_while (j:=j) (fun y hy=>h y (by rw[List.take_succ_cons];exact List.mem_cons_of_mem _ hy)) fun y hy=>h2 y (by simpa using hy)]
section
variable {w:World}{bs mb:Nat}{cs:Array Value}{kv:Value}{has:KL}
theorem scan_told(m b0 b1 b2:Nat)(p q:List UInt8)(S:Nat->Prop)(hm:1<=m)(h0:Blk w b0 33 #[.pointer (some ⟨bs,0,none⟩)])(h1:Blk w b1 9 #[.string ⟨p.toArray⟩])(h2:Blk w b2 9 #[.string ⟨q.toArray⟩])
  (hc:CM w bs 2 96 cs kv mb has) (hl:has.length<=1000000) (hkl:∀x∈has,x.1.length<=maxLen) (hS:∀k,S k->k<w.heap.size):
  SeqF Fence.wide m Tryz.prog 56 #[.pointer (some ⟨b0,0,none⟩), .pointer (some ⟨b1,0,none⟩), .pointer (some ⟨b2,0,none⟩)] prEnc (PrOk (scanL p q has)) (LKe NoE S w.heap.size) (fun ys=>ys.length=(scanL p q has).length) (fun pre=>pre.length<=(scanL p q has).length) (scanL p q has).length w:=fun l J Jx W hW hJ hJx hY hj0=>by
 have hwW:Fresh w W:=Touch.ofBelow hW _
 have hsz:=hW.size
 obtain⟨n,hn⟩:∃n,n=has.length:=⟨_,rfl⟩
 obtain⟨A,c,hkv,hc1,hc2,hA⟩:=hc.keys.form
 obtain⟨kp,hkp⟩:∃kp,kp=kpos p has:=⟨_,rfl⟩
 have hkn:=kpos_le (k:=p) has
 rw[<- hkp,<- hn]at hkn
 rw[<- hn]at hkv hc1 hA hl
 subst hkv
 obtain⟨L,hL⟩:∃L,L=scanL p q has:=⟨_,rfl⟩
 have hLd:L=(has.drop kp).takeWhile (below q):=by rw[hL,hkp];rfl
 rw[<- hL]at hY ⊢
 unfold maxLen at hc2
 have HC:=zh (show∀V,Fresh W V->V.cell? ⟨b0,0,none⟩=some (.pointer (some ⟨bs,0,none⟩))/\V.cell? ⟨b1,0,none⟩=some (.string ⟨p.toArray⟩)/\V.cell? ⟨b2,0,none⟩=some (.string ⟨q.toArray⟩)/\V.cell? ⟨bs,2,none⟩=some (.slice A n c)/\V.cell? ⟨bs,3,none⟩=some (.map (some mb)) from fun V hV=>by
  have hf:=hwW.trans hV fun _ _=>id
  have k:=(hc.fresh hf).cells
  exact⟨(h0.touch hf id).cell 0,(h1.touch hf id).cell 0,(h2.touch hf id).cell 0,k.1,k.2.1⟩)
 have HCM:=zh (show∀V,Fresh W V->CM V bs 2 96 cs (.slice A n c) mb has from fun V hV=>hc.fresh (hwW.trans hV fun _ _=>id))
 have KS:=zh (show∀V,Fresh W V->Calls Tryz.prog 57 #[.slice A n c, .string ⟨p.toArray⟩] V fun e w'=>e= .returned (.tuple #[.int .i64 (kp:Nat), .bool (kget p has).isSome])/\Fresh V w' from fun V hV=>by
  refine(search_any (HCM.out V hV).keys hc.sort (by omega) p).mono ?_
  rintro e w' ⟨rfl,q',rfl⟩
  rw[hkp]
  exact⟨rfl,(Touch.refl _ V).drewN q'⟩)
 have HJ:=zh hJ;have HY:=zh hY;have HJ0:=zh hj0;have HS:=zh hS;have HN:=zh hn;have HLD:=zh hLd;have HKL:=zh hkl
 refine callsIn_of_wp Tryz.func56 rfl trivial ?_ rfl
 simp only[Tryz.ntmps56,List.size_toArray,List.length_cons,List.length_nil,Nat.reduceAdd,Nat.reduceSub,Array.replicate_succ,Array.replicate_zero,List.push_toArray,List.append_toArray,List.nil_append,List.cons_append]
 refine wpIn_wide.2 ?_
 clear h0 h1 h2 hc hJ hY hj0 hW hwW hS hL hLd hkp hkl hn
 go_upto_region 0 with fail
 have e0:=fun r:FrOf W=>(HC.out r.W r.h).1
 have e1:=fun r:FrOf W=>(HC.out r.W r.h).2.1
 have e3:=fun r:FrOf W=>(HC.out r.W r.h).2.2.2.1
 refine wp_region_fresh (by kernel_rfl) (by kernel_rfl) ?_
 repeat (go_big_quiet_step (first | (go_at_call 57;exact Calls.fr_of (KS.out _ (FrOf.h _)))))
 refine wpQuiet_nil ?_
 rintro W2 ⟨p2,hW2⟩
 have HF2:=zh (show Fresh W W2 by rw[hW2];exact p2.h)
 clear hW2 p2 e0 e1 e3
 obtain⟨z0,_,_,z3,_⟩:=HC.out W2 HF2.out
 go_upto_region 2 with fail
 go_cut [28,29,30] from 22 to 30 (fun s ln i W=>W2=W/\ln= .int .i64 ((n-kp:Nat):Int)/\i= .int .i64 0/\∃A' c',s= .slice A' (n-kp) c'/\(0<n-kp->∃g,A=some ⟨g,0,none⟩/\A'=some ⟨g,kp,none⟩))
 case first=>
  by_cases hcap:c=kp
  ·obtain rfl:n=kp:=by omega
   subst hcap
   go_wp2_with fail
   go_meet
   case rel=>exact⟨rfl,by rw[Nat.sub_self];rfl,rfl,A,0,by rw[Nat.sub_self],fun h=>by omega⟩
  ·obtain⟨g,rfl⟩:∃g,A=some ⟨g,0,none⟩:=by
    rcases hA with⟨_,h2,h3⟩ | hA
    ·omega
    ·exact hA
   go_wp2_with fail
   go_meet
   case rel=>exact⟨rfl,rfl,rfl,_,_,rfl,fun _=>⟨g,rfl,by simp⟩⟩
 case rest=>
  obtain⟨rfl,rfl,rfl,A',c',rfl,hA'⟩:=hcut
  have HA':=zh hA'
  clear hA' z0 z3
  obtain⟨nk,hnk⟩:∃nk,nk=n-kp:=⟨_,rfl⟩
  rw[<- hnk]at HA' ⊢
  have HNK:=zh hnk
  have hnk1:nk<=1000000:=by omega
  clear hnk
  go_upto_block 0 with fail
  go_cut [7] from 31 to 53 (fun v W=>Fresh W2 W/\Own W 66 2 v L.length (pairsV L)/\∀k,v.ownBlock=some k->W2.heap.size<=k)
  case first=>
   go_wp2_with fail
   go_loopw [7,30] (fun v i wr=>∃j:Nat,j<=nk/\i= .int .i64 (j:Int)/\(∀x∈(has.drop kp).take j,below q x=true)/\Fresh W2 wr/\Own wr 66 2 v j (pairsV ((has.drop kp).take j))/\∀k,v.ownBlock=some k->W2.heap.size<=k) (fun _ i _=>nk-(intOf i).toNat)
   case atStart=>exact⟨0,Nat.zero_le _,rfl,by simp,Touch.refl _ _,Own.nil_ _ _ _,fun k hk=>by cases hk⟩
   case round=>
    obtain⟨j,hj,rfl,hbe,hf,ho,hnw⟩:=hrel
    have HBE:=zh hbe;have HF:=zh hf;have HO:=zh ho;have HNW:=zh hnw
    by_cases hlt:j<nk
    ·obtain⟨x,hx⟩:∃x,has[kp+j]? =some x:=⟨_,List.getElem?_eq_getElem (by rw[<- HN.out];have:=HNK.out;omega)⟩
     obtain⟨g,rfl,rfl⟩:=HA'.out (by omega)
     obtain⟨y0,y1,y2,y3,y4⟩:=HC.out wr (HF2.out.trans hf fun _ _=>id)
     have hcm:=HCM.out wr (HF2.out.trans hf fun _ _=>id)
     have k0:wr.cell? ⟨g,kp+j,none⟩=some (.string ⟨x.1.toArray⟩):=by
      have h1:=hcm.keys
      rw[<- HN.out]at h1
      rw[h1.cell (j:=kp+j) (by have:=HNK.out;omega),keysV_get,hx]
      rfl
     have hgx:kget x.1 has=some x.2:=kget_of_mem hcm.sort (List.mem_of_getElem? hx)
     have lk:(Instr.lookup 92 (.map (some mb)) (.string ⟨x.1.toArray⟩) false).run Tryz.prog wr= .ok (.string ⟨x.2.toArray⟩) wr:=by
      have:=hcm.map.look (k:=x.1) (HKL.out x (List.mem_of_getElem? hx))
      rw[hgx]at this
      exact this
     have hdx:(has.drop kp)[j]? =some x:=by rw[List.getElem?_drop];exact hx
     have HX:=zh hdx
     have HTS:=zh (show (has.drop kp).take (j+1)=(has.drop kp).take j++ [x] by rw[List.take_add_one,hdx];rfl)
     have hjd:decide ((j:Int)<(nk:Int))=true:=decide_eq_true (by omega)
     have hji:(j:Int)<(nk:Int):=by omega
     have hwk:IntKind.i64.wrap ((j:Int)+1)=(j:Int)+1:=IntWalk.i64_in _ (by omega)
     clear hbe hf ho hnw hcm hgx hx hdx y1 y3
     by_cases hb:below q x=true
     ·have HB:=zh hb
      by_cases hq0:q= []
      ·subst hq0
       have hqb:([]:List UInt8).isEmpty=true:=rfl
       clear hb
       go_wp2_with (at_builtin;refine wpList_own_src _ rfl _ _ 53 53 rfl 66 (.agg #[.string ⟨#[]⟩, .string ⟨#[]⟩]) 2 32 Tryz.info66 Tryz.underlying53 rfl u7 j (pairsV ((has.drop kp).take j)) rfl (by exact HO.out.alloc _) (pairsV_one _) (.slice (some ⟨_,0,none⟩) 1 1) 1 [.string ⟨x.1.toArray⟩, .string ⟨x.2.toArray⟩] rfl (by exact pair_new _ x) (by unfold maxLen;omega) (by omega) ?_;intro B1 c1 w1 o1 g1 b1;have O1:=zh o1;have G1:=zh g1;have BB1:=zh b1;clear o1 g1 b1)
       go_roundw
       case rel=>
        have q':=out_push HF.out HNW.out G1.out BB1.out
        refine⟨j+1,by omega,by go_num,fun y hy=> ?_,q'.1,by rw[HTS.out,pairsV_append];exact O1.out,q'.2⟩
        rw[HTS.out]at hy
        rcases List.mem_append.1 hy with hy | hy
        ·exact HBE.out y hy
        ·rw[List.mem_singleton]at hy;rw[hy];exact HB.out
       case measure=>simp[intOf]<;>omega
      ·have hqb:q.isEmpty=false:=by cases q with | nil=>exact absurd rfl hq0 | cons _ _=>rfl
       have hbl:Op.bytesLess x.1 q=true:=by
        rw[bytesLess_eq]
        unfold below at hb
        simpa [hq0] using hb
       clear hb hq0
       go_wp2_with (at_builtin;refine wpList_own_src _ rfl _ _ 53 53 rfl 66 (.agg #[.string ⟨#[]⟩, .string ⟨#[]⟩]) 2 32 Tryz.info66 Tryz.underlying53 rfl u7 j (pairsV ((has.drop kp).take j)) rfl (by exact HO.out.alloc _) (pairsV_one _) (.slice (some ⟨_,0,none⟩) 1 1) 1 [.string ⟨x.1.toArray⟩, .string ⟨x.2.toArray⟩] rfl (by exact pair_new _ x) (by unfold maxLen;omega) (by omega) ?_;intro B1 c1 w1 o1 g1 b1;have O1:=zh o1;have G1:=zh g1;have BB1:=zh b1;clear o1 g1 b1)
       go_roundw
       case rel=>
        have q':=out_push HF.out HNW.out G1.out BB1.out
        refine⟨j+1,by omega,by go_num,fun y hy=> ?_,q'.1,by rw[HTS.out,pairsV_append];exact O1.out,q'.2⟩
        rw[HTS.out]at hy
        rcases List.mem_append.1 hy with hy | hy
        ·exact HBE.out y hy
        ·rw[List.mem_singleton]at hy;rw[hy];exact HB.out
       case measure=>simp[intOf]<;>omega
     ·have hq0:q≠ []:=fun e=>hb (by unfold below;simp[e])
      have hqb:q.isEmpty=false:=by cases q with | nil=>exact absurd rfl hq0 | cons _ _=>rfl
      have hbl:Op.bytesLess x.1 q=false:=by
       rw[bytesLess_eq]
       unfold below at hb
       simpa [hq0] using hb
      have HLT:=zh (show L=(has.drop kp).take j from by
       rw[HLD.out]
       exact take_while HBE.out fun y hy=>by
        rw[HX.out]at hy
        injection hy with hy
        rw[<- hy]
        simpa using hb)
      have HJL:=zh (show j<=(has.drop kp).length by rw[List.length_drop,<- HN.out];have:=HNK.out;omega)
      clear hb hq0
      go_wp2_with fail
      go_meet
      case rel=>
       rw[HLT.out]
       exact⟨HF.out,by rw[List.length_take,Nat.min_eq_left HJL.out];exact HO.out,HNW.out⟩
    ·obtain rfl:j=nk:=by omega
     have hdl:(has.drop kp).length=j:=by rw[List.length_drop,<- HN.out];have:=HNK.out;omega
     have HLT:=zh (show L=(has.drop kp).take j from by
      rw[HLD.out]
      exact take_while HBE.out fun y hy=>by
       have:=(List.getElem?_eq_some_iff.1 hy).1
       omega)
     have HJL:=zh (show j<=(has.drop kp).length by omega)
     clear hbe hf ho hnw hdl
     go_wp2_with fail
     go_meet
     case rel=>
      rw[HLT.out]
      exact⟨HF.out,by rw[List.length_take,Nat.min_eq_left HJL.out];exact HO.out,HNW.out⟩
  case rest=>
   obtain⟨hf3,ho3,hn3⟩:=hcut
   obtain⟨w3,hw3⟩:∃w3,w3=wc:=⟨_,rfl⟩
   rw[<- hw3]at hf3 ho3 ⊢
   clear hw3
   have HF3:=zh (HF2.out.trans hf3 fun _ _=>id)
   have HNEW:=zh (fun k hk=>Nat.le_trans HF2.out.size (hn3 k hk))
   obtain⟨B,c3,rfl,_,_,hB⟩:=ho3.form
   have HO3:=zh ho3;have HBF:=zh hB
   have HJ3:=zh (HJ.out [] _ _ HJ0.out HF3.out)
   obtain⟨M,hM⟩:∃M,M=L.length:=⟨_,rfl⟩
   rw[<- hM]at HO3 HBF ⊢
   have HM:=zh hM
   have hMn:M<=1000000:=by
    rw[hM,HLD.out]
    have h1:=(List.takeWhile_sublist (below q) (l:=has.drop kp)).length_le
    rw[List.length_drop]at h1
    have:=HN.out
    omega
   clear hf3 ho3 hn3 hB hM HA' HCM HC KS
   go_wp2_with fail
   go_loopw [56] (fun i wr=>∃pre:KL,pre.length<=M/\i= .int .i64 pre.length/\J pre wr/\Own wr 66 2 (.slice B M c3) M (pairsV L)) (fun i _=>M-(intOf i).toNat)
   case atStart=>exact⟨[],Nat.zero_le _,rfl,HJ3.out,HO3.out⟩
   case round=>
    obtain⟨pre,hpl,rfl,hj,ho⟩:=hrel
    have HJR:=zh hj;have HOR:=zh ho
    obtain⟨k,hk⟩:∃k,k=pre.length:=⟨_,rfl⟩
    rw[<- hk]at hpl ⊢
    have HK:=zh hk
    clear hj ho hk
    by_cases hlt:k<M
    ·obtain⟨x,hx⟩:∃x,L[k]? =some x:=⟨_,List.getElem?_eq_getElem (by rw[<- HM.out];exact hlt)⟩
     obtain⟨g,rfl,k0,k1⟩:=RSt.spot (.inl HOR.out) HM.out hx
     obtain⟨w4,hw4⟩:∃w4,w4=wr.alloc (.cells #[.string ⟨x.1.toArray⟩, .string ⟨x.2.toArray⟩] 66):=⟨_,rfl⟩
     have hf4:Fresh wr w4:=by rw[hw4];exact(Touch.refl _ wr).alloc _
     have hb4:Blk w4 wr.heap.size 66 #[.string ⟨x.1.toArray⟩, .string ⟨x.2.toArray⟩]:=by rw[hw4];exact Blk.new _ _ _
     have z0:w4.cell? ⟨wr.heap.size,0,none⟩=some (.string ⟨x.1.toArray⟩):=hb4.cell 0
     have z1:w4.cell? ⟨wr.heap.size,1,none⟩=some (.string ⟨x.2.toArray⟩):=hb4.cell 1
     have HW4:=zh hw4;have HF4:=zh hf4
     have hkd:decide ((k:Int)<(M:Int))=true:=decide_eq_true (by omega)
     have hki:(k:Int)<(M:Int):=by omega
     have hwk:IntKind.i64.wrap ((k:Int)+1)=(k:Int)+1:=IntWalk.i64_in _ (by omega)
     have hy0:=HY.out pre x w4 (HJ.out pre _ _ HJR.out hf4) (by unfold PrOk;rw[<- HK.out];exact hx) (by have:=HK.out;have:=HM.out;omega)
     clear hx hw4 hf4 hb4
     obtain⟨fn,tmps,assign,body,hy,hR⟩:=hy0
     dsimp only[prEnc]at hy
     refine wpIn_wide (n:=m).1 ?_
     gi_upto_region 11 with fail
     rw[<- HW4.out]
     gi_wp2
     refine hR.mono ?_
     rintro e W3 (⟨rfl,hJ3,hk3⟩ | ⟨rfl,hJx3⟩)
     ·have HOW:=zh (hk3.own ((HOR.out.touch HF4.out fun _ _=>id)) id fun q hq e=>by
       have h1:=HNEW.out q hq
       have h2:=HS.out q e
       omega)
      have HJW:=zh hJ3
      clear hk3 hJ3 hR
      gi_wp2
      go_roundw
      case rel=>exact⟨_,by simp;have:=HK.out;omega,by have:=HK.out;go_num,HJW.out,HOW.out⟩
      case measure=>simp[intOf]<;>omega
     ·have HJW:=zh hJx3
      clear hJx3 hR
      gi_wp2
      refine bodyPost_ret (results_none rfl _ _ _) rfl ?_
      exact⟨⟨_,rfl⟩, .inr ⟨_,by have:=HK.out;have:=HM.out;simp;omega,HJW.out⟩⟩
    ·obtain rfl:k=M:=by omega
     go_wp2_with fail
     go_end0
     exact⟨⟨_,rfl⟩, .inl ⟨pre,by rw[<- HK.out];exact HM.out,HJR.out⟩⟩
end
theorem scanL_all(l:KL):scanL [] [] l=l:=by
 have h0:kpos [] l=0:=by
  cases l with
  | nil=>rfl
  | cons x r=>unfold kpos;rw[if_neg (by simp)]
 unfold scanL
 rw[h0,List.drop_zero]
 clear h0
 induction l with
 | nil=>rfl
 | cons x r ih=>rw[List.takeWhile_cons,if_pos (by simp[below]),ih]
def tellB(f:Int)(l:KL)(f':Int)(l':KL):Bool:=decide (f=f'/\l=l')
structure TeI(w:World)(bc b5:Nat)(has L:KL)(f:Int)(v:Value)(pre:KL)(V:World):Prop where
 c3:Blk V w.heap.size 34 #[.pointer (some ⟨bc,0,none⟩)]
 c4:Blk V (w.heap.size+1) 4 #[.bool false]
 c5:Blk V b5 3 #[.int .i64 (pre.length:Int)]
 le:pre.length<=has.length
 eq:has.take pre.length=L.take pre.length
 fr:Fresh w V
structure TeX(w:World)(has L:KL)(V:World):Prop where
 c4:Blk V (w.heap.size+1) 4 #[.bool false]
 ne:has≠L
 fr:Fresh w V
theorem Fresh.put_{w V:World}{k:Nat}(h:Fresh w V)(hk:w.heap.size<=k)(o:Obj):Fresh w (V.putObj k o):=h.trans (touch_putObj V k o) fun q hq e=>by omega
theorem Blk.put_{V:World}{k g:Nat}{ob:Obj}{t:TypeId}{cs:Array Value}(h:Blk V g t cs)(hl:V.heap[k]? =some ob)(hc:ob.isCells=false)(o':Obj):Blk (V.putObj k o') g t cs:=h.touch (touch_putObj V k o') fun e=>by
 rw[e]at h
 have:=hl.symm.trans h
 injection this with this
 rw[this]at hc;cases hc
section
variable {w:World}{bs bl bd mb bc cm:Nat}{S R:Nat->Prop}{lg:Lg}{d:Dk}{sv rv:Value}{vs:List Value}{cs:Array Value}{kv v:Value}{has L:KL}{fence f:Int}
theorem TeI.put_{bc b5:Nat}{pre:KL}{V:World}{k:Nat}{r:Loop}(h:TeI w bc b5 has L f v pre V)(hk:w.heap.size<=k)(hl:V.heap[k]? =some (.loop r))(o':Obj):TeI w bc b5 has L f v pre (V.putObj k o'):=
 ⟨h.c3.put_ hl rfl _,h.c4.put_ hl rfl _,h.c5.put_ hl rfl _,h.le,h.eq,h.fr.put_ hk _⟩
theorem TeI.fresh{bc b5:Nat}{pre:KL}{V W:World}(h:TeI w bc b5 has L f v pre V)(hf:Fresh V W):TeI w bc b5 has L f v pre W:=
 ⟨h.c3.touch hf id,h.c4.touch hf id,h.c5.touch hf id,h.le,h.eq,h.fr.trans hf fun _ _=>id⟩
theorem TeX.put_{V:World}{k:Nat}{r:Loop}(h:TeX w has L V)(hk:w.heap.size<=k)(hl:V.heap[k]? =some (.loop r))(o':Obj):TeX w has L (V.putObj k o'):=⟨h.c4.put_ hl rfl _,h.ne,h.fr.put_ hk _⟩
theorem TeX.fresh{V W:World}(h:TeX w has L V)(hf:Fresh V W):TeX w has L W:=⟨h.c4.touch hf id,h.ne,h.fr.trans hf fun _ _=>id⟩
theorem te_round{V:World}{b5 kk nr Z:Nat}{pre:KL}{y:List UInt8×List UInt8}(h5:w.heap.size+1<b5)(h:TeI w bc b5 has L f v pre V)(hkk:kk=pre.length)(hx:has[kk]? =some y)(hy:L[kk]? =some y)(hlt:kk<has.length):
  KeepsLoops V ((V.drewN nr).setCell ⟨b5,0,none⟩ (.int .i64 ((kk:Int)+1)))/\LKe NoE (fun k=>k=w.heap.size+1\/k=b5) Z V ((V.drewN nr).setCell ⟨b5,0,none⟩ (.int .i64 ((kk:Int)+1)))/\TeI w bc b5 has L f v (pre++ [y]) ((V.drewN nr).setCell ⟨b5,0,none⟩ (.int .i64 ((kk:Int)+1))):=by
 have hT:Touch (fun k=>k=b5) V ((V.drewN nr).setCell ⟨b5,0,none⟩ (.int .i64 ((kk:Int)+1))):=((Touch.refl (fun k=>k=b5) V).drewN nr).setCell (p:=⟨b5,0,none⟩) (.inr rfl) _
 refine⟨.touch hT fun k o e hk=> .inl ?_, .touch (hT.mono fun k _ e=> .inr e),⟨h.c3.touch hT (by omega),h.c4.touch hT (by omega), ?_, ?_, ?_,h.fr.trans hT fun k hk e=>by omega⟩⟩
 ·rw[e]at hk
  have:=hk.symm.trans h.c5
  injection this with this
  rw[this];rfl
 ·have:=(h.c5.drewN nr).set_ 0 (.int .i64 ((kk:Int)+1))
  rw[List.length_append,List.length_singleton,<- hkk]
  simpa using this
 ·rw[List.length_append,List.length_singleton,<- hkk];omega
 ·have h1:=h.eq
  rw[<- hkk]at h1
  rw[List.length_append,List.length_singleton,<- hkk,List.take_add_one,List.take_add_one,hx,hy,h1]
theorem te_stop{V:World}{b5 kk nr:Nat}{pre:KL}{x y:List UInt8×List UInt8}(h:TeI w bc b5 has L f v pre V)(hx:has[kk]? =some x)(hy:L[kk]? =some y)(hne:y≠x):
  KeepsLoops V ((V.drewN nr).setCell ⟨w.heap.size+1,0,none⟩ (.bool false))/\TeX w has L ((V.drewN nr).setCell ⟨w.heap.size+1,0,none⟩ (.bool false)):=by
 have hT:Touch (fun k=>k=w.heap.size+1) V ((V.drewN nr).setCell ⟨w.heap.size+1,0,none⟩ (.bool false)):=((Touch.refl (fun k=>k=w.heap.size+1) V).drewN nr).setCell (p:=⟨w.heap.size+1,0,none⟩) (.inr rfl) _
 refine⟨.touch hT fun k o e hk=> .inl ?_,⟨?_,fun e=> ?_,h.fr.trans hT fun k hk e=>by omega⟩⟩
 ·rw[e]at hk
  have:=hk.symm.trans h.c4
  injection this with this
  rw[this];rfl
 ·have:=(h.c4.drewN nr).set_ 0 (.bool false)
  simpa using this
 ·rw[e,hy]at hx
  injection hx with hx
  exact hne hx
theorem tells_any(h:SD w bs bl bd S R lg d sv rv vs cs kv mb fence has cm)(hl:has.length<=1000000)(hkl:∀x∈has,x.1.length<=maxLen)(hr:RSt w bc f v L)(hL:L.length<=1000000)(hz:ksize L<=1000000000):
  Calls Tryz.prog 31 #[.pointer (some ⟨bs,0,none⟩), .pointer (some ⟨bc,0,none⟩)] w fun e w'=>Fresh w w'/\e= .returned (.bool (tellB fence has f L)):=by
 obtain⟨w0,hw0⟩:∃w0,w0=(w.alloc (.cells #[.pointer (some ⟨bc,0,none⟩)] 34)).alloc (.cells #[.bool false] 4):=⟨_,rfl⟩
 have hff:Fresh w w0:=by rw[hw0];exact((Touch.refl _ w).alloc _).alloc _
 have hb3:Blk w0 w.heap.size 34 #[.pointer (some ⟨bc,0,none⟩)]:=by rw[hw0];exact(Blk.new _ _ _).alloc _
 have hb4:Blk w0 (w.heap.size+1) 4 #[.bool false]:=by rw[hw0];have:=Blk.new (w.alloc (.cells #[.pointer (some ⟨bc,0,none⟩)] 34)) 4 #[.bool false];rwa [alloc_size]at this
 obtain⟨vA,vc,rfl,_,_,_⟩:=hr.row.form
 obtain⟨m,hm⟩:∃m,m=L.length:=⟨_,rfl⟩
 rw[<- hm]at hr hL
 have hbcl:=hr.blk.lt
 have HE:=zh (show∀W,Fresh w0 W->W.cell? ⟨w.heap.size,0,none⟩=some (.pointer (some ⟨bc,0,none⟩))/\W.cell? ⟨bc,0,none⟩=some (.int .i64 f)/\W.cell? ⟨bc,1,none⟩=some (.slice vA m vc) from fun W hW=>by
  have k:=(hr.fresh hff).fresh hW
  exact⟨(hb3.touch hW id).cell 0,k.blk.cell 0,k.blk.cell 1⟩)
 have HZ:=zh (show∀W,Fresh w0 W->W.cell? ⟨w.heap.size+1,0,none⟩=some (.bool false)/\W.frozen? ⟨w.heap.size+1,0,none⟩=false from fun W hW=>⟨(hb4.touch hW id).cell 0,(hb4.touch hW id).frozen 0⟩)
 have KF:=zh (show∀W,Fresh w0 W->Calls Tryz.prog 35 #[.pointer (some ⟨bs,0,none⟩)] W fun e w'=>e= .returned (.int .i64 fence)/\w'=W from fun W hW=>kvfence_any ((h.fresh hff).fresh hW))
 have KL:=zh (show∀W,Fresh w0 W->Calls Tryz.prog 18 #[.pointer (some ⟨bs,0,none⟩)] W fun e w'=>e= .returned (.int .i64 (has.length:Int))/\w'=W from fun W hW=>kvlen_any ((h.fresh hff).fresh hW))
 have KZ:=zh (show∀W,Fresh w0 W->Calls Tryz.prog 64 #[.pointer (some ⟨bs,0,none⟩)] W fun e w'=>e= .returned (.int .i64 (ksize has:Int))/\w'=W from fun W hW=>kvsize_any ((h.fresh hff).fresh hW))
 have KR:=zh (show∀W,Fresh w0 W->Calls Tryz.prog 65 #[.pointer (some ⟨bc,0,none⟩)] W fun e w'=>e= .returned (.int .i64 (ksize L:Int))/\∃q,w'=W.drewN q from fun W hW=>rsize_any (l:=L) (v:= .slice vA m vc) (by rw[hm];rw[hm]at hr;exact(hr.fresh hff).fresh hW) (by omega) hz)
 have HEND:=zh (show∀W,Fresh w0 W->¬(fence=f/\has=L)->Fresh w (W.setCell ⟨w.heap.size+1,0,none⟩ (.bool false))/\Ending.returned (.bool false)= .returned (.bool (tellB fence has f L)) from fun W hW hne=>⟨(hff.trans hW fun _ _=>id).setCell (.inl (Nat.le_succ _)) _,by unfold tellB;rw[decide_eq_false hne]⟩)
 have HW0:=zh hw0;have HF0:=zh hff;have H3:=zh hb3;have H4:=zh hb4;have H:=zh h;have HR:=zh hr;have HM:=zh hm;have HKL:=zh hkl
 obtain⟨zs,hzs⟩:∃zs,zs=ksize has:=⟨_,rfl⟩
 obtain⟨zL,hzL⟩:∃zL,zL=ksize L:=⟨_,rfl⟩
 obtain⟨n,hn⟩:∃n,n=has.length:=⟨_,rfl⟩
 rw[<- hzs]at KZ
 rw[<- hzL]at KR
 rw[<- hn]at KL hl
 have HZS:=zh hzs;have HZL:=zh hzL;have HN:=zh hn
 clear h hw0 hff hb3 hb4 hkl hr hm hz hzs hzL hn
 by_cases hfe:fence=f
 ·subst hfe
  have hfb:(fence != fence)=false:=by simp
  by_cases hln:n=m
  ·subst hln
   by_cases hzz:zs=zL
   ·subst hzz
    obtain⟨e1,e2,e3⟩:=HE.out w0 (Touch.refl _ _)
    refine(callsIn_wide (n:=3)).1 ?_
    refine callsIn_of_wp_marks Tryz.func31 rfl trivial ?_ rfl
    simp only[Tryz.ntmps31,List.size_toArray,List.length_cons,List.length_nil,Nat.reduceAdd,Nat.reduceSub,Array.replicate_succ,Array.replicate_zero,List.push_toArray,List.append_toArray,List.nil_append,List.cons_append]
    refine wpIn_wide.2 ?_
    go_upto_region 1 with fail
    rw[<- HW0.out]
    go_quiet ((first | (go_at_call 35;exact Calls.quiet_of_same (KF.out _ (by first | exact(Touch.refl _ w0).drewN _ | exact(Touch.refl _ w0).drew | exact Touch.refl _ w0))) | (go_at_call 18;exact Calls.quiet_of_same (KL.out _ (by first | exact(Touch.refl _ w0).drewN _ | exact(Touch.refl _ w0).drew | exact Touch.refl _ w0))) | (go_at_call 64;exact Calls.quiet_of_same (KZ.out _ (by first | exact(Touch.refl _ w0).drewN _ | exact(Touch.refl _ w0).drew | exact Touch.refl _ w0))) | (go_at_call 65;exact Calls.quiet_of (KR.out _ (by first | exact(Touch.refl _ w0).drewN _ | exact(Touch.refl _ w0).drew | exact Touch.refl _ w0)))))
    go_upto_region 3 with fail
    generalize hw1:World.drewN w0 _=w1
    have hf1:Fresh w0 w1:=by rw[<- hw1];exact(Touch.refl (fun _=>False) w0).drewN _
    obtain⟨w5,hw5⟩:∃w5,w5=w1.alloc (.cells #[.int .i64 0] 3):=⟨_,rfl⟩
    have hf5:Fresh w1 w5:=by rw[hw5];exact(Touch.refl _ w1).alloc _
    have hb5:Blk w5 w1.heap.size 3 #[.int .i64 0]:=by rw[hw5];exact Blk.new _ _ _
    have h05:Fresh w0 w5:=hf1.trans hf5 fun _ _=>id
    have HW5:=zh hw5
    have h4l:=H4.out.lt
    have hs1:=hf1.size
    obtain⟨b5,hb5e⟩:∃b5,b5=w1.heap.size:=⟨_,rfl⟩
    rw[<- hb5e]at hb5
    have HB5E:=zh hb5e
    have hlt5:w.heap.size+1<b5:=by omega
    have hlw5:b5<w5.heap.size:=hb5.lt
    have HB5:=zh hb5;have HF5:=zh h05
    clear hw1 hf1 hw5 hf5 hb5 h05 e1 e2 e3 hb5e hs1 h4l
    go_wp2_with fail
    rw[<- HW5.out,<- HB5E.out]
    refine(scanf_any bs ⟨#[]⟩ ⟨#[]⟩ w5).mono ?_
    rintro e w6 ⟨rfl,hf6,q0,q1,q2⟩
    have HF6:=zh (HF5.out.trans hf6 fun _ _=>id)
    have hs6:=hf6.size
    have HST:=zh (scan_told 2 w5.heap.size (w5.heap.size+1) (w5.heap.size+1+1) [] [] (fun k=>k=w.heap.size+1\/k=b5) (by decide) q0 q1 q2 ((H.out.fresh (HF0.out.trans HF6.out fun _ _=>id)).ct) (by have:=HN.out;omega) HKL.out (fun k hk=>by omega))
    have hst:=HST.out
    rw[scanL_all]at hst
    have HST2:=zh hst
    have HI0:=zh (show TeI w bc b5 has L fence (.slice vA n vc) [] w6 from⟨H3.out.touch HF6.out id,H4.out.touch HF6.out id,HB5.out.touch hf6 id,Nat.zero_le _,rfl,HF0.out.trans HF6.out fun _ _=>id⟩)
    have hww6:w.heap.size<=w6.heap.size:=by omega
    clear hf6 q0 q1 q2 hst HST
    go_wp2_with fail
    refine wpIn_wide (n:=3).1 ?_
    refine range_fs (F:=Fence.wide) (n:=3) rfl (by decide) (gf:=56) (lb:= #[.pointer (some ⟨w5.heap.size,0,none⟩), .pointer (some ⟨w5.heap.size+1,0,none⟩), .pointer (some ⟨w5.heap.size+1+1,0,none⟩)]) rfl trivial (enters_of Tryz.func56 (by kernel_rfl) rfl)
     HST2.out (fun pre x V l o o' hok _ _=>hok) (fun pre x V V1 hok _=>hok)
     (fun x=> [(6, .string ⟨x.1.toArray⟩),(7, .string ⟨x.2.toArray⟩)])
     (fun h=>LKe.fresh h) (fun h1 h2=>h1.trans_ h2) (fun V l o o' _ hl hc _=>LKe.put V l o o' hl hc) (fun _=>rfl)
     (TeI w bc b5 has L fence (.slice vA n vc)) (fun _ V=>TeX w has L V)
     (fun _ _ _ h hf=>h.fresh hf) (fun _ _ _ h hf=>h.fresh hf) (fun _ _ _ _ r' h hk hl=>h.put_ (by omega) hl _) (fun _ _ _ _ r' h hk hl=>h.put_ (by omega) hl _)
     HI0.out ?assign ?body ?done ?stop
    case assign=>
     rintro l' pre ⟨xk,xv⟩ V K hok hK
     clear hok
     simp only[prEnc,List.zip_toArray,List.size_toArray,List.zip_cons_cons,List.zip_nil_left]
     gi_wp2
     exact hK _ _ (Touch.refl _ V) (by simp[ranged,prEnc])
    case body=>
     rintro l' pre ⟨xk,xv⟩ a₁ V hI hok ha hlt
     obtain⟨kk,hkk⟩:∃kk,kk=pre.length:=⟨_,rfl⟩
     have hok:has[pre.length]? =some (xk,xv):=hok
     rw[<- hkk]at hok hlt
     rw[<- HN.out]at hlt
     obtain⟨y,hy⟩:∃y,L[kk]? =some y:=⟨_,List.getElem?_eq_getElem (by rw[<- HM.out];exact hlt)⟩
     have hrow:=(HR.out.row.touch hI.fr fun _ _=>id)
     rw[<- HM.out]at hrow
     obtain⟨g,rfl,k0',k1'⟩:=RSt.spot hrow HM.out hy
     have hblc:=HR.out.blk.touch hI.fr id
     have c30:∀q,(V.drewN q).cell? ⟨w.heap.size,0,none⟩=some (.pointer (some ⟨bc,0,none⟩)):=fun _=>hI.c3.cell 0
     have cb1:∀q,(V.drewN q).cell? ⟨bc,1,none⟩=some (.slice (some ⟨g,0,none⟩) n vc):=fun _=>hblc.cell 1
     have c50:∀q,(V.drewN q).cell? ⟨b5,0,none⟩=some (.int .i64 (kk:Int)):=fun _=>by rw[hkk];exact hI.c5.cell 0
     have k0:∀q,(V.drewN q).cell? ⟨g,kk*2,none⟩=some (.string ⟨y.1.toArray⟩):=fun _=>k0'
     have k1:∀q,(V.drewN q).cell? ⟨g,kk*2+1,none⟩=some (.string ⟨y.2.toArray⟩):=fun _=>k1'
     have hmd:decide ((n:Int)<=(kk:Int))=false:=decide_eq_false (by omega)
     have hmi:¬(n:Int)<=(kk:Int):=by omega
     have hmdn:decide (n<=kk)=false:=decide_eq_false (by omega)
     have hkmi:(kk:Int)<(n:Int):=by omega
     have hwk:IntKind.i64.wrap ((kk:Int)+1)=(kk:Int)+1:=IntWalk.i64_in _ (by omega)
     have HIV:=zh hI;have HKK:=zh hkk;have HOK:=zh hok;have HY:=zh hy
     clear hI hkk hok hy hrow hblc k0' k1'
     subst ha
     simp only[ranged,prEnc,<- Array.foldl_toList,Array.toList_zip,List.zip_cons_cons,List.zip_nil_left]
     simp only[List.foldl_cons,List.foldl_nil,List.setIfInBounds_toArray,List.set_cons_zero,List.set_cons_succ]
     by_cases hek:y.1=xk
     ·by_cases hev:y.2=xv
      ·subst hek hev
       have hb1:(y.1 != y.1)=false:=by simp
       have hb2:(y.2 != y.2)=false:=by simp
       gi_wp2
       refine region_round l' rfl (by simp) (by kernel_rfl) (by kernel_rfl) ?_
       repeat (gi_big_quiet_step (fail))
       refine wpQuietIn_nil ?_
       intro _ hw'
       obtain⟨nr,hw''⟩:=hw'
       subst hw''
       have f5:(V.drewN nr).frozen? ⟨b5,0,none⟩=false:=HIV.out.c5.frozen 0
       gi_wp2
       exact te_round hlt5 HIV.out HKK.out HOK.out HY.out (by rw[<- HN.out];exact hlt)
      ·subst hek
       have hb1:(y.1 != y.1)=false:=by simp
       have hb2:(y.2 == xv)=false:=beq_eq_false_iff_ne.2 hev
       have hb3:decide (y.2=xv)=false:=decide_eq_false hev
       have HNE2:=zh (show y≠(y.1,xv) from fun e=>hev (by rw[e]))
       clear hev
       gi_wp2
       refine region_round l' rfl (by simp) (by kernel_rfl) (by kernel_rfl) ?_
       repeat (gi_big_quiet_step (fail))
       refine wpQuietIn_nil ?_
       intro _ hw'
       obtain⟨nr,hw''⟩:=hw'
       subst hw''
       have f4:(V.drewN nr).frozen? ⟨w.heap.size+1,0,none⟩=false:=HIV.out.c4.frozen 0
       have c4:(V.drewN nr).cell? ⟨w.heap.size+1,0,none⟩=some (.bool false):=HIV.out.c4.cell 0
       gi_wp2
       exact te_stop HIV.out HOK.out HY.out HNE2.out
     ·have hb1:(y.1 == xk)=false:=beq_eq_false_iff_ne.2 hek
      have hb3:decide (y.1=xk)=false:=decide_eq_false hek
      have HNE2:=zh (show y≠(xk,xv) from fun e=>hek (by rw[e]))
      clear hek
      gi_wp2
      refine region_round l' rfl (by simp) (by kernel_rfl) (by kernel_rfl) ?_
      repeat (gi_big_quiet_step (fail))
      refine wpQuietIn_nil ?_
      intro _ hw'
      obtain⟨nr,hw''⟩:=hw'
      subst hw''
      have f4:(V.drewN nr).frozen? ⟨w.heap.size+1,0,none⟩=false:=HIV.out.c4.frozen 0
      have c4:(V.drewN nr).cell? ⟨w.heap.size+1,0,none⟩=some (.bool false):=HIV.out.c4.cell 0
      gi_wp2
      exact te_stop HIV.out HOK.out HY.out HNE2.out
    case done=>
     rintro D ys V hD hS hI hKD
     have hrows:has=L:=by
      have:=hI.eq
      rw[hS,List.take_length,<- HN.out,HM.out,List.take_length]at this
      exact this
     have hyl:ys.length=n:=by rw[hS,<- HN.out]
     have d3:V.drew.cell? ⟨w.heap.size,0,none⟩=some (.pointer (some ⟨bc,0,none⟩)):=hI.c3.cell 0
     have d4:V.drew.cell? ⟨w.heap.size+1,0,none⟩=some (.bool false):=hI.c4.cell 0
     have f4:V.drew.frozen? ⟨w.heap.size+1,0,none⟩=false:=hI.c4.frozen 0
     have d5:V.drew.cell? ⟨b5,0,none⟩=some (.int .i64 (n:Int)):=by rw[<- hyl];exact hI.c5.cell 0
     have dc:V.drew.cell? ⟨bc,1,none⟩=some (.slice vA n vc):=(HR.out.blk.touch hI.fr id).cell 1
     have hnn:((n:Int) == (n:Int))=true:=by simp
     have HI:=zh hI;have HKD:=zh hKD;have HEQ:=zh hrows
     have HDD:=zh (show w.heap.size<=D by omega)
     clear hI hKD hrows hyl hS hD
     go_upto_region 10 with fail
     refine region_tail 7 (by kernel_rfl) (by kernel_rfl) rfl rfl ?_
     simp only[List.take_succ_cons,List.take_zero,List.drop_succ_cons,List.drop_zero]
     repeat (go_big_quiet_step (fail))
     refine wpQuiet_nil ?_
     go_wp2_with fail
     have hK':((V.setCell ⟨w.heap.size+1,0,none⟩ (.bool true)).drew).heap[D]? =some (.deferred (some [])):=(KeepsOthers.setCell V ⟨w.heap.size+1,0,none⟩ (.bool true)).same D _ HKD.out rfl
     refine⟨by simp, .inl ⟨_,_,rfl,run_takeDeferred hK', ?_⟩⟩
     have hc5:((V.setCell ⟨w.heap.size+1,0,none⟩ (.bool true)).drew.putObj D (.deferred none)).cell? ⟨w.heap.size+1,0,none⟩=some (.bool true):=
      cell_kept (show (V.setCell ⟨w.heap.size+1,0,none⟩ (.bool true)).drew.cell? ⟨w.heap.size+1,0,none⟩=some (.bool true) from World.cell?_setCell_same' V ⟨w.heap.size+1,0,none⟩ (.bool true) (by rw[show V.cell? ⟨w.heap.size+1,0,none⟩=some (.bool false) from HI.out.c4.cell 0];rfl)) (grownBy_putObj' _ D (.deferred none)) (fun r e=>by cases e;exact⟨_,hK',rfl⟩)
     refine⟨.bool true,by simp[results,Tryz.results31,go_sem,hc5], ?_, ?_⟩
     ·exact Fresh.put_ ((HI.out.fr.setCell (p:=⟨w.heap.size+1,0,none⟩) (.inl (Nat.le_succ _)) _).drew) HDD.out _
     ·unfold tellB
      rw[decide_eq_true ⟨rfl,HEQ.out⟩]
    case stop=>
     rintro D pre V hD hs hX hKD
     have d4:V.cell? ⟨w.heap.size+1,0,none⟩=some (.bool false):=hX.c4.cell 0
     have HX:=zh hX;have HKD:=zh hKD
     have HDD:=zh (show w.heap.size<=D by omega)
     clear hX hKD hD hs
     refine wpIn_wide.2 ?_
     go_wp2_with fail
     refine⟨by simp, .inl ⟨_,_,rfl,run_takeDeferred HKD.out, ?_⟩⟩
     have hc5:=cell_kept d4 (grownBy_putObj' _ D (.deferred none)) (fun r e=>by cases e;exact⟨_,HKD.out,rfl⟩)
     refine⟨.bool false,by simp[results,Tryz.results31,go_sem,hc5],Fresh.put_ HX.out.fr HDD.out _, ?_⟩
     unfold tellB
     rw[decide_eq_false fun e=>HX.out.ne e.2]
   ·have HNE:=zh (show ¬(fence=fence/\has=L) from fun e=>hzz (by rw[HZS.out,HZL.out,e.2]))
    have hzb:((zs:Int) != (zL:Int))=true:=bne_iff_ne.2 (by omega)
    obtain⟨e1,e2,e3⟩:=HE.out w0 (Touch.refl _ _)
    go_enter Tryz.func31,Tryz.ntmps31
    go_upto_region 1 with fail
    rw[<- HW0.out]
    go_quiet ((first | (go_at_call 35;exact Calls.quiet_of_same (KF.out _ (by first | exact(Touch.refl _ w0).drewN _ | exact(Touch.refl _ w0).drew | exact Touch.refl _ w0))) | (go_at_call 18;exact Calls.quiet_of_same (KL.out _ (by first | exact(Touch.refl _ w0).drewN _ | exact(Touch.refl _ w0).drew | exact Touch.refl _ w0))) | (go_at_call 64;exact Calls.quiet_of_same (KZ.out _ (by first | exact(Touch.refl _ w0).drewN _ | exact(Touch.refl _ w0).drew | exact Touch.refl _ w0))) | (go_at_call 65;exact Calls.quiet_of (KR.out _ (by first | exact(Touch.refl _ w0).drewN _ | exact(Touch.refl _ w0).drew | exact Touch.refl _ w0)))))
    go_upto_region 2 with fail
    generalize hw2:World.drewN w0 _=w2
    have hf2:Fresh w0 w2:=by rw[<- hw2];exact(Touch.refl (fun _=>False) w0).drewN _
    obtain⟨z1,z2⟩:=HZ.out w2 hf2
    have HF2:=zh hf2
    clear hf2 hw2 e1 e2 e3
    go_wp2_with fail
    refine bodyPost_ret (v:= .bool false) (by simp[results,Tryz.results31,go_sem,World.cell?_setCell_same' w2 ⟨w.heap.size+1,0,none⟩ (.bool false) (by rw[z1];rfl)]) rfl ?_
    exact HEND.out w2 HF2.out HNE.out
  ·have HNE:=zh (show ¬(fence=fence/\has=L) from fun e=>hln (by rw[HN.out,HM.out,e.2]))
   have hlb:((n:Int) != (m:Int))=true:=bne_iff_ne.2 (by omega)
   obtain⟨e1,e2,e3⟩:=HE.out w0 (Touch.refl _ _)
   go_enter Tryz.func31,Tryz.ntmps31
   go_upto_region 1 with fail
   rw[<- HW0.out]
   go_quiet ((first | (go_at_call 35;exact Calls.quiet_of_same (KF.out _ (by first | exact(Touch.refl _ w0).drewN _ | exact(Touch.refl _ w0).drew | exact Touch.refl _ w0))) | (go_at_call 18;exact Calls.quiet_of_same (KL.out _ (by first | exact(Touch.refl _ w0).drewN _ | exact(Touch.refl _ w0).drew | exact Touch.refl _ w0)))))
   go_upto_region 2 with fail
   generalize hw2:World.drewN w0 _=w2
   have hf2:Fresh w0 w2:=by rw[<- hw2];exact(Touch.refl (fun _=>False) w0).drewN _
   obtain⟨z1,z2⟩:=HZ.out w2 hf2
   have HF2:=zh hf2
   clear hf2 hw2 e1 e2 e3
   go_wp2_with fail
   refine bodyPost_ret (v:= .bool false) (by simp[results,Tryz.results31,go_sem,World.cell?_setCell_same' w2 ⟨w.heap.size+1,0,none⟩ (.bool false) (by rw[z1];rfl)]) rfl ?_
   exact HEND.out w2 HF2.out HNE.out
 ·have HNE:=zh (show ¬(fence=f/\has=L) from fun e=>hfe e.1)
  have hfb:(fence != f)=true:=bne_iff_ne.2 hfe
  obtain⟨e1,e2,e3⟩:=HE.out w0 (Touch.refl _ _)
  go_enter Tryz.func31,Tryz.ntmps31
  go_upto_region 1 with fail
  rw[<- HW0.out]
  go_quiet ((first
   | (go_at_call 35;exact Calls.quiet_of_same (KF.out _ (by first | exact(Touch.refl _ w0).drewN _ | exact(Touch.refl _ w0).drew | exact Touch.refl _ w0)))))
  go_upto_region 2 with fail
  generalize hw2:World.drewN w0 _=w2
  have hf2:Fresh w0 w2:=by rw[<- hw2];exact(Touch.refl (fun _=>False) w0).drewN _
  obtain⟨z1,z2⟩:=HZ.out w2 hf2
  have HF2:=zh hf2
  clear hf2 hw2 e1 e2 e3
  go_wp2_with fail
  refine bodyPost_ret (v:= .bool false) (by simp[results,Tryz.results31,go_sem,World.cell?_setCell_same' w2 ⟨w.heap.size+1,0,none⟩ (.bool false) (by rw[z1];rfl)]) rfl ?_
  exact HEND.out w2 HF2.out HNE.out
end
end Go.Proofs.YtjehlgblkfofpaaGreat