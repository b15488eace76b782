/- The claims' texts, several in one: Rf, Few. Conditions stand with each theorem. -/
import Derived.Test.YtjehlgblkfofpaaGreatZa34
import Derived.Test.YtjehlgblkfofpaaGreatZa24
import Derived.Test.YtjehlgblkfofpaaGreatZa11
import Derived.Test.YtjehlgblkfofpaaGreatZa16
set_option maxHeartbeats 8000000
set_option maxRecDepth 100000
namespace Go.Proofs.YtjehlgblkfofpaaGreat
open Go.RowKit
attribute [local go_sem] Oper.semAt_some
def refE(f g:Int)(ops:List Dec.Op):Int:=if g≠f then 5 else if ops.all rightB=true then 0 else 2
theorem right_iff{o:Dec.Op}:rightB o=true↔o.k.isEmpty=false/\o.k.length<=200/\o.v.length<=65536/\(o.g=true->o.v.isEmpty=true):=by
 unfold rightB
 cases o.k.isEmpty<;>cases o.g<;>cases o.v.isEmpty<;>simp
theorem right_enc{ops:List Dec.Op}(h:ops.all rightB=true)(hl:ops.length<=10000)(_hw:opwt ops<=1000000):∃ys,Enc.ops ops=some ys/\ys.length<=opwt ops+8:=by
 refine encops_some (by omega) fun x hx=> ?_
 have h1:=right_iff.1 (List.all_eq_true.1 h x hx)
 refine⟨by omega,by omega,fun hg=> ?_⟩
 have:=h1.2.2.2 hg
 simpa using this
section
variable {w:World}{b:Nat}{f:Int}{v:Value}{l:KL}
theorem refuses_any(h:RSt w b f v l)(g:Int)(A:Option Addr)(n c:Nat)(ops:List Dec.Op)(hv:Vs w 3 A n c (opsV ops))(hA:∀a,A=some a->0<n->a.block<w.heap.size)(hn:n<=10000)(hs:∀o∈ops,o.k.length<=1048576/\o.v.length<=1048576)(hw:opwt ops<=1000000):
  Calls Tryz.prog 60 #[.pointer (some ⟨b,0,none⟩), .int .i64 g, .slice A n c] w fun e w'=>e= .returned (.int .i64 (refE f g ops))/\Fresh w w':=by
 have hln:ops.length=n:=by have:=hv.1;rw[opsV_length]at this;omega
 have y0:w.cell? ⟨b,0,none⟩=some (.int .i64 f):=h.blk.cell 0
 have KO:=zh (refops_any A n c ops w hv hA (by omega) hs)
 have HV:=zh hv;have HLN:=zh hln
 clear h hv hA hln hs
 by_cases hgf:g=f
 ·subst hgf
  have hgb:(g != g)=false:=by simp
  go_enter Tryz.func60,Tryz.ntmps60
  go_wp2_with fail
  clear y0
  go_loopw [7] (fun i wr=>∃j:Nat,j<=n/\i= .int .i64 (j:Int)/\w=wr/\(ops.take j).all rightB=true) (fun i _=>n-(intOf i).toNat)
  case atStart=>exact⟨0,Nat.zero_le _,rfl,rfl,rfl⟩
  case round=>
   obtain⟨j,hj,rfl,rfl,hall⟩:=hrel
   have HALL:=zh hall
   clear hall
   by_cases hlt:j<n
   ·obtain⟨x,hx⟩:∃x,ops[j]? =some x:=⟨_,List.getElem?_eq_getElem (by rw[HLN.out];exact hlt)⟩
    obtain⟨gb,off,rfl,_⟩:=HV.out.2.2.2 (by omega)
    have k0:w.cell? ⟨gb,off+j*3,none⟩=some (.string ⟨x.k.toArray⟩):=HV.out.cellAt (opsV_at hx 0 (by omega))
    have k1:w.cell? ⟨gb,off+j*3+1,none⟩=some (.string ⟨x.v.toArray⟩):=HV.out.cellAt (opsV_at hx 1 (by omega))
    have k2:w.cell? ⟨gb,off+j*3+2,none⟩=some (.bool x.g):=HV.out.cellAt (opsV_at hx 2 (by omega))
    have hts:ops.take (j+1)=ops.take j++ [x]:=by rw[List.take_add_one,hx];rfl
    have HTS:=zh hts
    have HX:=zh (List.mem_of_getElem? hx)
    have hjd:decide ((j:Int)<(n:Int))=true:=decide_eq_true (by omega)
    have hji:(j:Int)<(n:Int):=by omega
    have hwk:IntKind.i64.wrap ((j:Int)+1)=(j:Int)+1:=IntWalk.i64_in _ (by omega)
    clear hx hts
    obtain⟨xk,xv,xg⟩:=x
    dsimp only at k0 k1 k2 HTS HX
    have HBAD:=zh (show rightB ⟨xk,xv,xg⟩=false->Ending.returned (.int .i64 2)= .returned (.int .i64 (refE g g ops)) from fun hb=>by
     unfold refE
     rw[if_neg (by simp),if_neg (fun e=>by have:=List.all_eq_true.1 e _ HX.out;rw[hb]at this;cases this)])
    by_cases h1:xk.isEmpty=true
    ·have hb:rightB ⟨xk,xv,xg⟩=false:=by rw[Bool.eq_false_iff];intro e;have:=(right_iff.1 e).1;rw[h1]at this;cases this
     have HB:=zh (HBAD.out hb)
     clear hb
     go_wp2_with fail
     go_ret
     exact⟨HB.out,Touch.refl _ _⟩
    ·have h1:xk.isEmpty=false:=by simpa using h1
     by_cases h2:200<xk.length
     ·have hb:rightB ⟨xk,xv,xg⟩=false:=by rw[Bool.eq_false_iff];intro e;have:=(right_iff.1 e).2.1;dsimp only at this;omega
      have HB:=zh (HBAD.out hb)
      have h2d:decide ((200:Int)<(xk.length:Int))=true:=decide_eq_true (by omega)
      have h2i:(200:Int)<(xk.length:Int):=by omega
      clear hb
      go_wp2_with fail
      go_ret
      exact⟨HB.out,Touch.refl _ _⟩
     ·have h2d:decide ((200:Int)<(xk.length:Int))=false:=decide_eq_false (by omega)
      have h2n:decide (200<xk.length)=false:=decide_eq_false h2
      have h2i:¬(200:Int)<(xk.length:Int):=by omega
      by_cases h3:65536<xv.length
      ·have hb:rightB ⟨xk,xv,xg⟩=false:=by rw[Bool.eq_false_iff];intro e;have:=(right_iff.1 e).2.2.1;dsimp only at this;omega
       have HB:=zh (HBAD.out hb)
       have h3d:decide ((65536:Int)<(xv.length:Int))=true:=decide_eq_true (by omega)
       have h3i:(65536:Int)<(xv.length:Int):=by omega
       clear hb
       go_wp2_with fail
       go_ret
       exact⟨HB.out,Touch.refl _ _⟩
      ·have h3d:decide ((65536:Int)<(xv.length:Int))=false:=decide_eq_false (by omega)
       have h3n:decide (65536<xv.length)=false:=decide_eq_false h3
       have h3i:¬(65536:Int)<(xv.length:Int):=by omega
       cases xg with
       | true=>
        by_cases h4:xv.isEmpty=true
        ·have HR:=zh (show rightB ⟨xk,xv,true⟩=true from right_iff.2 ⟨h1,by dsimp only;omega,by dsimp only;omega,fun _=>h4⟩)
         go_wp2_with fail
         go_roundw
         case rel=>exact⟨j+1,by omega,by go_num,by first | rfl | trivial,by rw[HTS.out,List.all_append,HALL.out];simp[HR.out]⟩
         case measure=>simp[intOf]<;>omega
        ·have h4:xv.isEmpty=false:=by simpa using h4
         have hb:rightB ⟨xk,xv,true⟩=false:=by rw[Bool.eq_false_iff];intro e;have:=(right_iff.1 e).2.2.2 rfl;dsimp only at this;rw[h4]at this;cases this
         have HB:=zh (HBAD.out hb)
         clear hb
         go_wp2_with fail
         go_ret
         exact⟨HB.out,Touch.refl _ _⟩
       | false=>
        have HR:=zh (show rightB ⟨xk,xv,false⟩=true from right_iff.2 ⟨h1,by dsimp only;omega,by dsimp only;omega,fun e=>by cases e⟩)
        go_wp2_with fail
        go_roundw
        case rel=>exact⟨j+1,by omega,by go_num,by first | rfl | trivial,by rw[HTS.out,List.all_append,HALL.out];simp[HR.out]⟩
        case measure=>simp[intOf]<;>omega
   ·obtain rfl:j=n:=by omega
    have hall:=HALL.out
    rw[List.take_of_length_le (by rw[HLN.out];exact Nat.le_refl _)]at hall
    obtain⟨ys,hy,hyl⟩:=right_enc hall (by rw[HLN.out];exact hn) hw
    rw[hy]at KO
    have HALL2:=zh hall
    have hyb:ys.length<=1048512:=by omega
    clear hall hy HALL HV
    go_wp2_with fail
    refine KO.out.mono ?_
    rintro e w4 ⟨B,c4,rfl,hrow,hnb,hf4⟩
    have HF4:=zh hf4
    have hyd:decide ((1048512:Int)<(ys.length:Int))=false:=decide_eq_false (by omega)
    have hyi:¬(1048512:Int)<(ys.length:Int):=by omega
    clear hrow hnb hf4 KO
    go_wp2_with fail
    go_ret
    refine⟨?_,HF4.out⟩
    unfold refE
    rw[if_neg (by simp),if_pos HALL2.out]
    rfl
 ·have hgb:(g != f)=true:=bne_iff_ne.2 hgf
  go_enter Tryz.func60,Tryz.ntmps60
  go_wp2_with fail
  go_ret
  refine⟨?_,Touch.refl _ _⟩
  unfold refE
  rw[if_pos hgf]
  rfl
end
theorem ext_take(l:List UInt8)(n:Nat):(⟨l.toArray⟩:ByteArray).extract 0 n=⟨(l.take n).toArray⟩:=by
 apply ByteArray.ext
 rw[ByteArray.data_extract]
 simp
def clipO(o:Dec.Op):Dec.Op:=⟨o.k.take 210,o.v.take 300,o.g⟩
def fewL(l:List Dec.Op):List Dec.Op:=(l.take 8).map clipO
theorem fewL_ok(l:List Dec.Op):(fewL l).length<=8/\(∀x∈fewL l,x.k.length<=210/\x.v.length<=300)/\opwt (fewL l)<=4336:=by
 have h1:(fewL l).length<=8:=by unfold fewL;rw[List.length_map,List.length_take];omega
 have h2:∀x∈fewL l,x.k.length<=210/\x.v.length<=300:=fun x hx=>by
  obtain⟨y,_,rfl⟩:=List.mem_map.1 hx
  unfold clipO
  dsimp only
  rw[List.length_take,List.length_take]
  omega
 refine⟨h1,h2, ?_⟩
 have h3:∀(m:List Dec.Op),(∀x∈m,x.k.length<=210/\x.v.length<=300)->opwt m<=m.length*542:=by
  intro m
  induction m with
  | nil=>intro _;simp[opwt,opsum]
  | cons x r ih=>
   intro h
   have h4:=ih fun y hy=>h y (List.mem_cons_of_mem _ hy)
   have h5:=h x (List.mem_cons_self ..)
   rw[opwt_cons,List.length_cons,Nat.add_mul]
   omega
 have:=h3 _ h2
 have:(fewL l).length*542<=8*542:=Nat.mul_le_mul_right _ h1
 omega
section
variable {w:World}
theorem few_any(A:Option Addr)(n c:Nat)(ops:List Dec.Op)(hv:Vs w 3 A n c (opsV ops)):
  Calls Tryz.prog 26 #[.slice A n c] w fun e w'=>Fresh w w'/\∃B m c',e= .returned (.slice B m c')/\m=(fewL ops).length/\Own w' 31 3 (.slice B m c') m (opsV (fewL ops))/\∀k,(Value.slice B m c').ownBlock=some k->w.heap.size<=k:=by
 have hln:ops.length=n:=by have:=hv.1;rw[opsV_length]at this;omega
 have HV:=zh hv;have HLN:=zh hln
 clear hv hln
 go_enter Tryz.func26,Tryz.ntmps26
 go_wp2_with fail
 go_loopw [3,4] (fun v i wr=>∃j:Nat,j<=n/\j<=8/\i= .int .i64 (j:Int)/\Fresh w wr/\Own wr 31 3 v j (opsV ((ops.take j).map clipO))/\∀k,v.ownBlock=some k->w.heap.size<=k) (fun _ i _=>8-(intOf i).toNat)
 case atStart=>exact⟨0,Nat.zero_le _,Nat.zero_le _,rfl,Touch.refl _ _,Own.nil_ _ _ _,fun k hk=>by cases hk⟩
 case round=>
  obtain⟨j,hj,hj8,rfl,hf,ho,hn⟩:=hrel
  have HF:=zh hf;have HO:=zh ho;have HN:=zh hn
  by_cases hlt:j<n/\j<8
  ·obtain⟨hl1,hl2⟩:=hlt
   obtain⟨x,hx⟩:∃x,ops[j]? =some x:=⟨_,List.getElem?_eq_getElem (by rw[HLN.out];exact hl1)⟩
   obtain⟨gb,off,rfl,_⟩:=HV.out.2.2.2 (by omega)
   have hvr:=HV.out.fresh hf
   have k0:wr.cell? ⟨gb,off+j*3,none⟩=some (.string ⟨x.k.toArray⟩):=hvr.cellAt (opsV_at hx 0 (by omega))
   have k1:wr.cell? ⟨gb,off+j*3+1,none⟩=some (.string ⟨x.v.toArray⟩):=hvr.cellAt (opsV_at hx 1 (by omega))
   have k2:wr.cell? ⟨gb,off+j*3+2,none⟩=some (.bool x.g):=hvr.cellAt (opsV_at hx 2 (by omega))
   have HTS:=zh (show (ops.take (j+1)).map clipO=(ops.take j).map clipO++ [clipO x] by rw[List.take_add_one,hx];simp)
   have hjd:decide ((j:Int)<(n:Int))=true:=decide_eq_true (by omega)
   have hji:(j:Int)<(n:Int):=by omega
   have hjd8:decide ((j:Int)<8)=true:=decide_eq_true (by omega)
   have hji8:(j:Int)<8:=by omega
   have hwk:IntKind.i64.wrap ((j:Int)+1)=(j:Int)+1:=IntWalk.i64_in _ (by omega)
   clear hx hvr hf ho hn
   obtain⟨xk,xv,xg⟩:=x
   dsimp only at k0 k1 k2
   have HEND:=zh (show∀W5,Fresh wr W5->Blk W5 wr.heap.size 31 #[.string ⟨(xk.take 210).toArray⟩, .string ⟨(xv.take 300).toArray⟩, .bool xg]->W5.cell? ⟨wr.heap.size,0,none⟩=some (.string ⟨(xk.take 210).toArray⟩)/\W5.cell? ⟨wr.heap.size,1,none⟩=some (.string ⟨(xv.take 300).toArray⟩)/\W5.cell? ⟨wr.heap.size,2,none⟩=some (.bool xg)/\Own W5 31 3 u3 j (opsV ((ops.take j).map clipO)) from fun W5 hf hb=>⟨hb.cell 0,hb.cell 1,hb.cell 2,HO.out.touch hf fun _ _=>id⟩)
   by_cases h1:210<xk.length
   ·have h1d:decide ((210:Int)<(xk.length:Int))=true:=decide_eq_true (by omega)
    have h1i:(210:Int)<(xk.length:Int):=by omega
    by_cases h2:300<xv.length
    ·have h2d:decide ((300:Int)<(xv.length:Int))=true:=decide_eq_true (by omega)
     have h2i:(300:Int)<(xv.length:Int):=by omega
     obtain⟨W5,hW5⟩:∃W5,W5=wr.alloc (.cells #[.string ⟨(xk.take 210).toArray⟩, .string ⟨(xv.take 300).toArray⟩, .bool xg] 31):=⟨_,rfl⟩
     have hf5:Fresh wr W5:=by rw[hW5];exact(Touch.refl (fun _=>False) wr).alloc _
     have hb5:Blk W5 wr.heap.size 31 #[.string ⟨(xk.take 210).toArray⟩, .string ⟨(xv.take 300).toArray⟩, .bool xg]:=by rw[hW5];exact Blk.new _ _ _
     obtain⟨z0,z1,z2,o5⟩:=HEND.out W5 hf5 hb5
     have HW5:=zh hW5;have HF5:=zh hf5;have HO5:=zh o5
     clear hW5 hf5 hb5 o5
     go_upto_region 10 with fail
     simp only[ext_take]
     rw[<- HW5.out]
     clear k0 k1 k2
     go_wp2_with (at_builtin;refine wpList_own_src _ rfl _ _ 28 28 rfl 31 (.agg #[.string ⟨#[]⟩, .string ⟨#[]⟩, .bool false]) 3 40 Tryz.info31 Tryz.underlying28 rfl u3 j _ rfl (by exact HO5.out.alloc _) (opsV_one _) (.slice (some ⟨_,0,none⟩) 1 1) 1 [.string ⟨(xk.take 210).toArray⟩, .string ⟨(xv.take 300).toArray⟩, .bool xg] rfl (by exact op_new _ ⟨xk.take 210,xv.take 300,xg⟩) (by unfold maxLen;omega) (by omega) ?_;intro B6 c6 w6 o6 g6 b6;have O6:=zh o6;have G6:=zh g6;have B6h:=zh b6;clear o6 g6 b6)
     go_roundw
     case rel=>
      have q:=out_push (HF.out.trans HF5.out fun _ _=>id) HN.out G6.out B6h.out
      refine⟨j+1,by omega,by omega,by go_num,q.1, ?_,q.2⟩
      rw[HTS.out]
      have e:opsV ((ops.take j).map clipO++ [clipO ⟨xk,xv,xg⟩])=opsV ((ops.take j).map clipO)++ [.string ⟨(xk.take 210).toArray⟩, .string ⟨(xv.take 300).toArray⟩, .bool xg]:=by simp[opsV,opV,clipO]
      rw[e]
      exact O6.out
     case measure=>simp[intOf]<;>omega
    ·have h2d:decide ((300:Int)<(xv.length:Int))=false:=decide_eq_false (by omega)
     have h2n:decide (300<xv.length)=false:=decide_eq_false h2
     obtain⟨W5,hW5⟩:∃W5,W5=wr.alloc (.cells #[.string ⟨(xk.take 210).toArray⟩, .string ⟨xv.toArray⟩, .bool xg] 31):=⟨_,rfl⟩
     have hf5:Fresh wr W5:=by rw[hW5];exact(Touch.refl (fun _=>False) wr).alloc _
     have hv9:xv.take 300=xv:=List.take_of_length_le (by omega)
     have hb5:Blk W5 wr.heap.size 31 #[.string ⟨(xk.take 210).toArray⟩, .string ⟨(xv.take 300).toArray⟩, .bool xg]:=by rw[hv9];rw[hW5];exact Blk.new _ _ _
     obtain⟨z0,z1,z2,o5⟩:=HEND.out W5 hf5 hb5
     have HW5:=zh hW5;have HF5:=zh hf5;have HO5:=zh o5
     clear hW5 hf5 hb5 o5 hv9
     go_upto_region 10 with fail
     simp only[ext_take]
     rw[<- HW5.out]
     clear k0 k1 k2
     go_wp2_with (at_builtin;refine wpList_own_src _ rfl _ _ 28 28 rfl 31 (.agg #[.string ⟨#[]⟩, .string ⟨#[]⟩, .bool false]) 3 40 Tryz.info31 Tryz.underlying28 rfl u3 j _ rfl (by exact HO5.out.alloc _) (opsV_one _) (.slice (some ⟨_,0,none⟩) 1 1) 1 [.string ⟨(xk.take 210).toArray⟩, .string ⟨(xv.take 300).toArray⟩, .bool xg] rfl (by exact op_new _ ⟨xk.take 210,xv.take 300,xg⟩) (by unfold maxLen;omega) (by omega) ?_;intro B6 c6 w6 o6 g6 b6;have O6:=zh o6;have G6:=zh g6;have B6h:=zh b6;clear o6 g6 b6)
     go_roundw
     case rel=>
      have q:=out_push (HF.out.trans HF5.out fun _ _=>id) HN.out G6.out B6h.out
      refine⟨j+1,by omega,by omega,by go_num,q.1, ?_,q.2⟩
      rw[HTS.out]
      have e:opsV ((ops.take j).map clipO++ [clipO ⟨xk,xv,xg⟩])=opsV ((ops.take j).map clipO)++ [.string ⟨(xk.take 210).toArray⟩, .string ⟨(xv.take 300).toArray⟩, .bool xg]:=by simp[opsV,opV,clipO]
      rw[e]
      exact O6.out
     case measure=>simp[intOf]<;>omega
   ·have h1d:decide ((210:Int)<(xk.length:Int))=false:=decide_eq_false (by omega)
    have h1n:decide (210<xk.length)=false:=decide_eq_false h1
    by_cases h2:300<xv.length
    ·have h2d:decide ((300:Int)<(xv.length:Int))=true:=decide_eq_true (by omega)
     have h2i:(300:Int)<(xv.length:Int):=by omega
     obtain⟨W5,hW5⟩:∃W5,W5=wr.alloc (.cells #[.string ⟨xk.toArray⟩, .string ⟨(xv.take 300).toArray⟩, .bool xg] 31):=⟨_,rfl⟩
     have hf5:Fresh wr W5:=by rw[hW5];exact(Touch.refl (fun _=>False) wr).alloc _
     have hk9:xk.take 210=xk:=List.take_of_length_le (by omega)
     have hb5:Blk W5 wr.heap.size 31 #[.string ⟨(xk.take 210).toArray⟩, .string ⟨(xv.take 300).toArray⟩, .bool xg]:=by rw[hk9];rw[hW5];exact Blk.new _ _ _
     obtain⟨z0,z1,z2,o5⟩:=HEND.out W5 hf5 hb5
     have HW5:=zh hW5;have HF5:=zh hf5;have HO5:=zh o5
     clear hW5 hf5 hb5 o5 hk9
     go_upto_region 10 with fail
     simp only[ext_take]
     rw[<- HW5.out]
     clear k0 k1 k2
     go_wp2_with (at_builtin;refine wpList_own_src _ rfl _ _ 28 28 rfl 31 (.agg #[.string ⟨#[]⟩, .string ⟨#[]⟩, .bool false]) 3 40 Tryz.info31 Tryz.underlying28 rfl u3 j _ rfl (by exact HO5.out.alloc _) (opsV_one _) (.slice (some ⟨_,0,none⟩) 1 1) 1 [.string ⟨(xk.take 210).toArray⟩, .string ⟨(xv.take 300).toArray⟩, .bool xg] rfl (by exact op_new _ ⟨xk.take 210,xv.take 300,xg⟩) (by unfold maxLen;omega) (by omega) ?_;intro B6 c6 w6 o6 g6 b6;have O6:=zh o6;have G6:=zh g6;have B6h:=zh b6;clear o6 g6 b6)
     go_roundw
     case rel=>
      have q:=out_push (HF.out.trans HF5.out fun _ _=>id) HN.out G6.out B6h.out
      refine⟨j+1,by omega,by omega,by go_num,q.1, ?_,q.2⟩
      rw[HTS.out]
      have e:opsV ((ops.take j).map clipO++ [clipO ⟨xk,xv,xg⟩])=opsV ((ops.take j).map clipO)++ [.string ⟨(xk.take 210).toArray⟩, .string ⟨(xv.take 300).toArray⟩, .bool xg]:=by simp[opsV,opV,clipO]
      rw[e]
      exact O6.out
     case measure=>simp[intOf]<;>omega
    ·have h2d:decide ((300:Int)<(xv.length:Int))=false:=decide_eq_false (by omega)
     have h2n:decide (300<xv.length)=false:=decide_eq_false h2
     obtain⟨W5,hW5⟩:∃W5,W5=wr.alloc (.cells #[.string ⟨xk.toArray⟩, .string ⟨xv.toArray⟩, .bool xg] 31):=⟨_,rfl⟩
     have hf5:Fresh wr W5:=by rw[hW5];exact(Touch.refl (fun _=>False) wr).alloc _
     have hk9:xk.take 210=xk:=List.take_of_length_le (by omega)
     have hv9:xv.take 300=xv:=List.take_of_length_le (by omega)
     have hb5:Blk W5 wr.heap.size 31 #[.string ⟨(xk.take 210).toArray⟩, .string ⟨(xv.take 300).toArray⟩, .bool xg]:=by rw[hk9,hv9];rw[hW5];exact Blk.new _ _ _
     obtain⟨z0,z1,z2,o5⟩:=HEND.out W5 hf5 hb5
     have HW5:=zh hW5;have HF5:=zh hf5;have HO5:=zh o5
     clear hW5 hf5 hb5 o5 hk9 hv9
     go_upto_region 10 with fail
     rw[<- HW5.out]
     clear k0 k1 k2
     go_wp2_with (at_builtin;refine wpList_own_src _ rfl _ _ 28 28 rfl 31 (.agg #[.string ⟨#[]⟩, .string ⟨#[]⟩, .bool false]) 3 40 Tryz.info31 Tryz.underlying28 rfl u3 j _ rfl (by exact HO5.out.alloc _) (opsV_one _) (.slice (some ⟨_,0,none⟩) 1 1) 1 [.string ⟨(xk.take 210).toArray⟩, .string ⟨(xv.take 300).toArray⟩, .bool xg] rfl (by exact op_new _ ⟨xk.take 210,xv.take 300,xg⟩) (by unfold maxLen;omega) (by omega) ?_;intro B6 c6 w6 o6 g6 b6;have O6:=zh o6;have G6:=zh g6;have B6h:=zh b6;clear o6 g6 b6)
     go_roundw
     case rel=>
      have q:=out_push (HF.out.trans HF5.out fun _ _=>id) HN.out G6.out B6h.out
      refine⟨j+1,by omega,by omega,by go_num,q.1, ?_,q.2⟩
      rw[HTS.out]
      have e:opsV ((ops.take j).map clipO++ [clipO ⟨xk,xv,xg⟩])=opsV ((ops.take j).map clipO)++ [.string ⟨(xk.take 210).toArray⟩, .string ⟨(xv.take 300).toArray⟩, .bool xg]:=by simp[opsV,opV,clipO]
      rw[e]
      exact O6.out
     case measure=>simp[intOf]<;>omega
  ·have hfew:(ops.take j).map clipO=fewL ops:=by
    unfold fewL
    by_cases h8:j=8
    ·rw[h8]
    ·obtain rfl:j=n:=by omega
     rw[List.take_of_length_le (by rw[HLN.out];exact Nat.le_refl _),List.take_of_length_le (by rw[HLN.out];omega)]
   have HFW:=zh hfew
   have hjl:j=(fewL ops).length:=by
    rw[<- hfew,List.length_map,List.length_take,HLN.out]
    omega
   have HJL:=zh hjl
   obtain⟨B,c9,rfl,_,_,_⟩:=HO.out.form
   clear hf ho hn hfew hjl
   by_cases h8:j<n
   ·obtain rfl:j=8:=by omega
    have hnd:decide ((8:Int)<(n:Int))=true:=decide_eq_true (by omega)
    have hni:(8:Int)<(n:Int):=by omega
    go_wp2_with fail
    go_ret
    exact⟨HF.out,B,8,c9,rfl,HJL.out,by rw[<- HFW.out];exact HO.out,HN.out⟩
   ·have hnd:decide ((j:Int)<(n:Int))=false:=decide_eq_false (by omega)
    have hni:¬(j:Int)<(n:Int):=by omega
    go_wp2_with fail
    go_ret
    exact⟨HF.out,B,j,c9,rfl,HJL.out,by rw[<- HFW.out];exact HO.out,HN.out⟩
end
end Go.Proofs.YtjehlgblkfofpaaGreat