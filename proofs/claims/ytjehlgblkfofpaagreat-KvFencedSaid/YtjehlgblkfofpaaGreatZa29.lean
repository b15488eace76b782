/- The claims' texts, several in one: Opn. Conditions stand with each theorem. -/
import Derived.Test.YtjehlgblkfofpaaGreatZa23
import Derived.Test.YtjehlgblkfofpaaGreatZa28
import Derived.Test.YtjehlgblkfofpaaGreatZa17
import Derived.Deep.CutRange
import Derived.Deep.RegionLaw
set_option maxHeartbeats 16000000
set_option maxRecDepth 200000
namespace Go.Proofs.YtjehlgblkfofpaaGreat
open Go.RowKit
attribute [local go_sem] Oper.semAt_some
theorem found_snoc(fs:List Fl)(f:Fl)(base:Nat):found (fs++ [f]) base=found fs base++(if inR base f=true then match begunP f.good with | some h=> [h.seg f.n.toNat] | none=> [] else []):=by
 unfold found
 rw[List.filter_append,List.filterMap_append]
 congr 1
 by_cases h:inR base f=true
 ·rw[if_pos h,List.filter_cons,if_pos h]
  cases hb:begunP f.good<;>simp[hb]
 ·rw[if_neg h,List.filter_cons,if_neg h]
  rfl
theorem lost_snoc(fs:List Fl)(f:Fl)(base:Nat):lost (fs++ [f]) base=(lost fs base || (inR base f && (begunP f.good).isNone)):=by
 unfold lost
 rw[List.filter_append,List.any_append]
 congr 1
 by_cases h:inR base f=true
 ·rw[List.filter_cons,if_pos h,h]
  simp
 ·rw[List.filter_cons,if_neg h]
  simp at h
  simp[h]
theorem found_len(fs:List Fl)(base:Nat):(found fs base).length<=fs.length:=by
 unfold found
 exact Nat.le_trans (List.length_filterMap_le _ _) (List.length_filter_le _ _)
section
variable {w:World}{bd:Nat}{S:Nat->Prop}{d:Dk}{K:Nat}
def OpenEnd(w:World)(bd:Nat)(S:Nat->Prop)(d:Dk)(base:Nat)(e:Ending)(w':World):Prop:=
 Touch S w w'/\∃bl R sv rv vs,e= .returned (.tuple #[.pointer (some ⟨bl,0,none⟩), .int .i64 0])/\LD w' bl bd S R (openP d.fs base) d sv rv vs/\∀k,lfoot bl sv rv k\/R k->w.heap.size<=k
theorem lopen_any(hD:Disk w S bd d)(hs:d.small K)(hK:K<=300000000)(hfl:d.fs.length<=1000000)(hok:Fl.ok d.fs){n:Nat}(hn:n<16)(hsane:∀f∈d.fs,inR (n*1048576) f=true->Sane f.good)(hnum:((found d.fs (n*1048576)).map Seg.number).Nodup)(hnice:NiceAll d.fs ⟨0, []⟩ (sortS (found d.fs (n*1048576)))):
  Calls Tryz.prog 50 #[.pointer (some ⟨bd,0,none⟩), .int .i64 (n:Int)] w (OpenEnd w bd S d (n*1048576)):=by
 obtain⟨base,hbase⟩:∃base,base=n*1048576:=⟨_,rfl⟩
 rw[<- hbase]at hsane hnum hnice ⊢
 have HNUM:=zh hnum;have HNICE:=zh hnice
 clear hnum hnice
 have hwb:IntKind.i64.wrap ((n:Int)*1048576)=(base:Int):=by rw[IntWalk.i64_in _ (by omega)];omega
 have hn0:decide ((n:Int)<0)=false:=decide_eq_false (by omega)
 have hn1:decide ((16:Int)<=(n:Int))=false:=decide_eq_false (by omega)
 have hn2:¬(n:Int)<0:=by omega
 have hn3:¬(16:Int)<=(n:Int):=by omega
 have hbb:base<=16777216:=by omega
 obtain⟨w1,hw1⟩:∃w1,w1=w.alloc (.cells #[.pointer (some ⟨bd,0,none⟩), .int .i64 (base:Int), .slice none 0 0, .int .i64 0, .slice none 0 0, .bool false, .bool false] 138):=⟨_,rfl⟩
 have hf1:Fresh w w1:=by rw[hw1];exact(Touch.refl _ w).alloc _
 have hbl:w.heap.size<w1.heap.size:=by rw[hw1,World.size_alloc];omega
 have hL1:LD w1 w.heap.size bd S (fun _=>False) ⟨base, [],⟨0, []⟩,false,false⟩ d (.slice none 0 0) (.slice none 0 0) []:=by
  refine⟨⟨?_,Ow.nil_ _ _ _,Ow.nil_ _ _ _,⟨rfl,fun i b hb=>by simp at hb,fun u hu=>by simp at hu⟩⟩,hD.fresh hf1,fun k hk hs=> ?_,fun k _ hk=>hk,fun k hk=>hk.elim⟩
  ·rw[hw1];exact Blk.new _ _ _
  ·have h1:=hD.below k hs
   rcases hk with(hk | hk | hk) | hk
   ·omega
   ·cases hk
   ·cases hk
   ·exact hk
 have KF:=zh (disk_files (hD.fresh hf1) hs (by omega))
 have HL1:=zh hL1;have HW1:=zh hw1;have HD:=zh hD;have HS:=zh hs;have HOK:=zh hok;have HSN:=zh hsane;have HF1:=zh hf1;have HBL:=zh hbl
 clear hD hs hok hsane hL1 hw1 hf1 hbl hn hbase
 go_enter Tryz.func50,Tryz.ntmps50
 go_wp2_with fail
 rw[<- HW1.out]
 refine KF.out.mono ?_
 rintro e w2 ⟨hf2,B,cf,rfl,ho2,hn2⟩
 obtain⟨l0,hl0⟩:∃l0:Lg,l0=⟨base, [],⟨0, []⟩,false,false⟩:=⟨_,rfl⟩
 have hX2:=HL1.out.same.fresh hf2
 rw[<- hl0]at hX2
 obtain⟨BA,bc,hBv,_,_,hBA⟩:=ho2.form
 injection hBv with hB1 _ hB2
 subst hB1 hB2
 have HX2:=zh hX2;have HO2:=zh ho2;have HL0:=zh hl0;have HF2:=zh hf2
 clear hf2 ho2 hn2 hX2 hl0 KF
 go_wp2_with fail
 go_loopw [32] (fun i wr=>∃(j:Nat) (sv:Value),j<=d.fs.length/\i= .int .i64 j/\LX w1 wr w.heap.size bd S (fun _=>False) (.slice none 0 0) (.slice none 0 0) { l0 with segs:=found (d.fs.take j) base,dirty:=lost (d.fs.take j) base } d S (fun _=>False) sv (.slice none 0 0) []/\Own wr 3 1 (.slice B d.fs.length cf) d.fs.length (intsV (d.fs.map Fl.n))/\Own wr 145 8 sv (found (d.fs.take j) base).length (segsC (found (d.fs.take j) base))) (fun i _=>d.fs.length-(intOf i).toNat)
 case atStart=>
  refine⟨0, .slice none 0 0,Nat.zero_le _,rfl, ?_,HO2.out,Own.nil_ _ _ _⟩
  have:({ l0 with segs:=found (d.fs.take 0) base,dirty:=lost (d.fs.take 0) base }:Lg)=l0:=by rw[HL0.out];rfl
  rw[this]
  exact HX2.out
 case round=>
  obtain⟨j,sv,hj,rfl,hx,hof,hos⟩:=hrel
  have HX:=zh hx;have HOF:=zh hof;have HOS:=zh hos
  clear hos
  by_cases hlt:j<d.fs.length
  ·obtain⟨f,hfj⟩:∃f,d.fs[j]? =some f:=⟨_,List.getElem?_eq_getElem hlt⟩
   obtain⟨gB,rfl⟩:∃g,B=some ⟨g,0,none⟩:=by
    rcases hBA with⟨_,h2,_⟩ | ⟨g,e⟩
    ·omega
    ·exact⟨g,e⟩
   have cfj:wr.cell? ⟨gB,j,none⟩=some (.int .i64 f.n):=by
    rw[hof.cell (j:=j) (by omega),intsV_get,List.getElem?_map,hfj]
    rfl
   have e1:wr.cell? ⟨w.heap.size,1,none⟩=some (.int .i64 (base:Int)):=by
    have:=hx.ld.lm.blk.cell 1
    rw[HL0.out]at this
    exact this
   have HTK:=zh (show d.fs.take (j+1)=d.fs.take j++ [f] by rw[List.take_add_one,hfj];rfl)
   have HFM:=zh (List.mem_of_getElem? hfj)
   have hwr:IntKind.i64.wrap ((base:Int)+1048576)=(base:Int)+1048576:=IntWalk.i64_in _ (by omega)
   clear hx hof hfj
   by_cases h1:f.n<(base:Int)
   ·have h1d:decide (f.n<(base:Int))=true:=decide_eq_true h1
    have hin:inR base f=false:=by
     cases hi:inR base f with
     | false=>rfl
     | true=>have:=(inR_iff.1 hi).1;omega
    have hrel2:found (d.fs.take (j+1)) base=found (d.fs.take j) base/\lost (d.fs.take (j+1)) base=lost (d.fs.take j) base:=by
     rw[HTK.out,found_snoc,lost_snoc,hin]
     simp
    have HR2:=zh hrel2
    clear hrel2 hin
    go_wp2_with fail
    go_roundw
    case rel=>exact⟨j+1,sv,by omega,by go_num,by rw[HR2.out.1,HR2.out.2];exact HX.out,HOF.out,by rw[HR2.out.1];exact HOS.out⟩
    case measure=>simp[intOf]<;>omega
   ·have h1d:decide (f.n<(base:Int))=false:=decide_eq_false h1
    by_cases h2:(base:Int)+1048576<=f.n
    ·have h2d:decide ((base:Int)+1048576<=f.n)=true:=decide_eq_true h2
     have hin:inR base f=false:=by
      cases hi:inR base f with
      | false=>rfl
      | true=>have:=(inR_iff.1 hi).2;omega
     have hrel2:found (d.fs.take (j+1)) base=found (d.fs.take j) base/\lost (d.fs.take (j+1)) base=lost (d.fs.take j) base:=by
      rw[HTK.out,found_snoc,lost_snoc,hin]
      simp
     have HR2:=zh hrel2
     clear hrel2 hin
     go_wp2_with fail
     go_roundw
     case rel=>exact⟨j+1,sv,by omega,by go_num,by rw[HR2.out.1,HR2.out.2];exact HX.out,HOF.out,by rw[HR2.out.1];exact HOS.out⟩
     case measure=>simp[intOf]<;>omega
    ·have h2d:decide ((base:Int)+1048576<=f.n)=false:=decide_eq_false h2
     have hin:inR base f=true:=inR_iff.2 ⟨by omega,by omega⟩
     obtain⟨nf,hnf⟩:∃nf:Nat,f.n=(nf:Int):=⟨f.n.toNat,by omega⟩
     have hgood:keptB d.fs (nf:Int)=f.good:=by
      rw[<- hnf]
      unfold keptB
      rw[Fl.at_of HOK.out.rise HFM.out]
     have hgl:f.good.length<=400000000:=by
      have h3:=HS.out.raw f HFM.out
      have h4:f.good.length<=f.raw.length:=by unfold Fl.good;rw[List.length_take];omega
      omega
     have KB:=zh (begun_any HX.out.ld.lm HX.out.ld.dk HS.out (by omega) HOK.out (n:=nf) (by omega) (by rw[hgood];exact HSN.out f HFM.out hin) (by rw[hgood];exact hgl))
     rw[hgood]at KB
     have HIN:=zh hin;have HNF:=zh hnf
     rw[hnf]at cfj h1d h2d h1 h2
     clear hgood hgl hin hnf
     cases hb:begunP f.good with
     | none=>
      rw[hb]at KB
      have hrel2:found (d.fs.take (j+1)) base=found (d.fs.take j) base/\lost (d.fs.take (j+1)) base=true:=by
       rw[HTK.out,found_snoc,lost_snoc,HIN.out,hb]
       simp
      have HR2:=zh hrel2
      simp only[bgnV,Option.isSome]at KB
      clear hrel2 hb
      go_wp2_with fail
      refine KB.out.mono ?_
      rintro e w3 ⟨hf3,rfl⟩
      have hX3:=HX.out.fresh hf3
      have y6:∀o,(w3.alloc o).cell? ⟨w.heap.size,6,none⟩=some (.bool (lost (d.fs.take j) base)):=fun o=>(hX3.ld.lm.blk.alloc o).cell 6
      have yf6:∀o,(w3.alloc o).frozen? ⟨w.heap.size,6,none⟩=false:=fun o=>(hX3.ld.lm.blk.alloc o).frozen 6
      have HX3:=zh hX3
      have HOF3:=zh (HOF.out.touch hf3 fun _ _=>id)
      have HOS3:=zh (HOS.out.touch hf3 fun _ _=>id)
      clear hf3 hX3 KB
      go_wp2_with fail
      go_roundw
      case rel=>
       refine⟨j+1,sv,by omega,by go_num, ?_,(HOF3.out.alloc _).touch ((Touch.refl (·=w.heap.size) _).setCell (p:=⟨w.heap.size,6,none⟩) (.inr rfl) _) fun k hk e=>HOF3.out.ne_blk HX3.out.ld.lm.blk (by decide) (by rw[hk,e]),by rw[HR2.out.1];exact(HOS3.out.alloc _).touch ((Touch.refl (·=w.heap.size) _).setCell (p:=⟨w.heap.size,6,none⟩) (.inr rfl) _) fun k hk e=>HOS3.out.ne_blk HX3.out.ld.lm.blk (by decide) (by rw[hk,e])⟩
       rw[HR2.out.1,HR2.out.2]
       refine(HX3.out.fresh ((Touch.refl _ w3).alloc _)).block ((Touch.refl (·=w.heap.size) _).setCell (p:=⟨w.heap.size,6,none⟩) (.inr rfl) _) rfl rfl ?_
       simpa using (HX3.out.ld.lm.blk.alloc _).set_ 6 (.bool true)
      case measure=>simp[intOf]<;>omega
     | some hh=>
      rw[hb]at KB
      have hrel2:found (d.fs.take (j+1)) base=found (d.fs.take j) base++ [hh.seg nf]/\lost (d.fs.take (j+1)) base=lost (d.fs.take j) base:=by
       rw[HTK.out,found_snoc,lost_snoc,HIN.out,hb,HNF.out]
       simp
      have HR2:=zh hrel2
      simp only[bgnV,Option.isSome]at KB
      clear hrel2 hb
      generalize hh.seg nf=s at*
      simp only[segC]at KB
      go_upto_region 11 with(go_at_call 83;refine KB.out.mono ?_;rintro e w3 ⟨hf3,rfl⟩;have HF3:=zh hf3;clear hf3 KB)
      obtain⟨w4,hw4⟩:∃w4,w4=w3.alloc (.cells #[.int .i64 (s.number:Int), .int .i64 (s.ahead:Int), .int .i64 (s.first:Int), .int .i64 (s.next:Int), .bool s.whole, .int .i64 (s.file:Int), .int .i64 (s.size:Int), .int .i64 (s.last:Int)] 145):=⟨_,rfl⟩
      rw[<- hw4]
      have hf4:Fresh wr w4:=by rw[hw4];exact HF3.out.alloc _
      have hsb:Blk w4 w3.heap.size 145 (segC s).toArray:=by rw[hw4];exact Blk.new _ _ _
      have hX4:=HX.out.fresh hf4
      obtain⟨L,hL⟩:∃L,L=(found (d.fs.take j) base).length:=⟨_,rfl⟩
      have hLb:L<=1000000:=by
       have h3:=found_len (d.fs.take j) base
       rw[List.length_take]at h3
       omega
      obtain⟨sA,sc,hsv,hsn,hsm,hsA⟩:=hX4.ld.lm.segs.form
      dsimp only at hsv hsn
      rw[<- hL]at hsv hsn
      subst hsv
      have q2:w4.cell? ⟨w.heap.size,2,none⟩=some (.slice sA L sc):=hX4.ld.lm.blk.cell 2
      have q2a:∀o,(w4.alloc o).cell? ⟨w.heap.size,2,none⟩=some (.slice sA L sc):=fun o=>(hX4.ld.lm.blk.alloc o).cell 2
      have t0:w4.cell? ⟨w3.heap.size,0,none⟩=some (.int .i64 (s.number:Int)):=hsb.cell 0
      have t1:w4.cell? ⟨w3.heap.size,1,none⟩=some (.int .i64 (s.ahead:Int)):=hsb.cell 1
      have t2:w4.cell? ⟨w3.heap.size,2,none⟩=some (.int .i64 (s.first:Int)):=hsb.cell 2
      have t3:w4.cell? ⟨w3.heap.size,3,none⟩=some (.int .i64 (s.next:Int)):=hsb.cell 3
      have t4:w4.cell? ⟨w3.heap.size,4,none⟩=some (.bool s.whole):=hsb.cell 4
      have t5:w4.cell? ⟨w3.heap.size,5,none⟩=some (.int .i64 (s.file:Int)):=hsb.cell 5
      have t6:w4.cell? ⟨w3.heap.size,6,none⟩=some (.int .i64 (s.size:Int)):=hsb.cell 6
      have t7:w4.cell? ⟨w3.heap.size,7,none⟩=some (.int .i64 (s.last:Int)):=hsb.cell 7
      have HOS4:=zh (HOS.out.touch hf4 fun _ _=>id)
      have HX4:=zh hX4;have HL:=zh hL;have HF4:=zh hf4
      have HR5:=zh (show∀(o:Obj) (w55:World),((w4.alloc o).drew).grownBy w55 (Value.slice sA L sc).ownBlock->w55.cell? ⟨w.heap.size,2,none⟩=some (.slice sA L sc)/\w55.frozen? ⟨w.heap.size,2,none⟩=false from fun o w55 hg=>by
       have h1:=((HX4.out.ld.lm.blk.alloc o).drew).grown hg fun e=>HX4.out.ld.lm.segs.ne_blk HX4.out.ld.lm.blk (by decide) e.symm
       exact⟨h1.cell 2,h1.frozen 2⟩)
      clear hw4 hf4 hsb hX4 hL hsA
      have y2:=HX4.out.ld.lm.lt
      have HRL:=zh y2
      clear y2
      go_region_law (first
       | (refine step_own_src _ rfl _ _ 135 135 rfl 145 (.agg #[.int .i64 0, .int .i64 0, .int .i64 0, .int .i64 0, .bool false, .int .i64 0, .int .i64 0, .int .i64 0]) 8 64 Tryz.info145 Tryz.underlying135 rfl (.slice sA L sc) L (segsC (found (d.fs.take j) base)) rfl (by have:=HOS4.out.drew.alloc (.cells (segC s).toArray 145);rw[<- HL.out]at this;exact this) (segsC_one _) (.slice (some ⟨w4.heap.size,0,none⟩) 1 1) 1 (segC s) rfl (by exact seg_new w4.drew s) (by unfold maxLen;omega) (by omega) ?_;intro B6 c6 w6 o6 g6 b6;have hr5:=HR5.out _ w6 g6;have y55:=hr5.1;have yf55:=hr5.2;clear hr5;have HO6:=zh o6;have HG6:=zh g6;have HB6:=zh b6;clear o6 g6 b6))
      all_goals
       go_wp2_with fail
       go_roundw
       case rel=>
        have h9:=HX4.out.snoc (l2:={ l0 with segs:=found (d.fs.take j) base++ [s],dirty:=lost (d.fs.take j) base }) (s:=s) (c:=c6) (B:=B6) (by dsimp only;rw[<- HL.out];exact HO6.out.ow) (((Touch.refl _ w4).alloc _).drew) HG6.out (by dsimp only;rw[<- HL.out];exact HB6.out) rfl
        dsimp only at h9
        rw[<- HL.out]at h9
        have hof4:=((HOF.out.touch HF4.out fun _ _=>id).alloc (.cells (segC s).toArray 145)).drew
        have hof6:=hof4.grown HG6.out fun k hk e=>(HX4.out.ld.lm.segs.ne_ow (HOF.out.touch HF4.out fun _ _=>id).ow (by decide)) k e.symm hk
        refine⟨j+1,_,by omega,by go_num,by rw[HR2.out.1,HR2.out.2];exact h9, ?_, ?_⟩
        rotate_left
        ·have hb7:=((HX4.out.ld.lm.blk.alloc (.cells (segC s).toArray 145)).drew).grown HG6.out fun e=>HX4.out.ld.lm.segs.ne_blk HX4.out.ld.lm.blk (by decide) e.symm
         rw[HR2.out.1,segsC_append,List.length_append,<- HL.out,show segsC [s]=segC s from by simp[segsC]]
         exact HO6.out.touch ((Touch.refl (·=w.heap.size) _).setCell (p:=⟨w.heap.size,2,none⟩) (.inr rfl) _) fun k hk e=>HO6.out.ne_blk hb7 (by decide) (by rw[hk,e])
        have hb6:=((HX4.out.ld.lm.blk.alloc (.cells (segC s).toArray 145)).drew).grown HG6.out fun e=>HX4.out.ld.lm.segs.ne_blk HX4.out.ld.lm.blk (by decide) e.symm
        exact hof6.touch ((Touch.refl (·=w.heap.size) _).setCell (p:=⟨w.heap.size,2,none⟩) (.inr rfl) _) fun k hk e=>hof6.ne_blk hb6 (by decide) (by rw[hk,e])
       case measure=>simp[intOf]<;>omega
  ·obtain rfl:j=d.fs.length:=by omega
   rw[List.take_length]at HX HOS
   obtain⟨F,hF⟩:∃F,F=found d.fs base:=⟨_,rfl⟩
   rw[<- hF]at HX HOS
   have hFl:F.length<=1000000:=by rw[hF];have:=found_len d.fs base;omega
   have c2:wr.cell? ⟨w.heap.size,2,none⟩=some sv:=HX.out.ld.lm.blk.cell 2
   have KS:=zh (sortseg_any HOS.out (by omega))
   have HF:=zh hF
   clear hx hof hF
   go_wp2_with fail
   refine KS.out.mono ?_
   rintro e w3 ⟨rfl,ht3,F2,ho3,hp3,hs3⟩
   have hF2:F2=sortS F:=by
    refine(sort_seg hp3.symm ?_).symm
    have hnd:(F2.map Seg.number).Nodup:=(hp3.map Seg.number).nodup_iff.2 (by rw[HF.out];exact HNUM.out)
    have h1:=List.pairwise_map.1 hnd
    exact(List.pairwise_and_iff.2 ⟨hs3,h1⟩).imp fun ⟨x1,x2⟩=>Nat.lt_of_le_of_ne x1 x2
   have HF2:=zh hF2
   clear hF2
   obtain⟨n,hn⟩:∃n,n=F2.length:=⟨_,rfl⟩
   have hm:=HX.out.ld.lm
   have hX3:LX w1 w3 w.heap.size bd S (fun _=>False) (.slice none 0 0) (.slice none 0 0) { l0 with segs:=F2,dirty:=lost d.fs base } d S (fun _=>False) sv (.slice none 0 0) []:=by
    refine HX.out.own (ht3.mono fun k _ hk=> .inr (.inl hk)) ⟨?_,ho3.ow,hm.rows.touch ht3 fun k hk=>by simp[Value.ownBlock]at hk, ?_⟩ (fun k hk=> .inl hk) fun k hk=> .inl hk
    ·exact hm.blk.touch ht3 fun e=>hm.segs.ne_blk hm.blk (by decide) e
    ·exact hm.recs.touch ht3 fun k hk=>hk.elim
   have hnb:n<=1000000:=by rw[hn,hp3.length_eq];exact hFl
   rw[<- hn]at ho3
   have HX3:=zh hX3;have HO3:=zh ho3;have HN:=zh hn
   have v2:w3.cell? ⟨w.heap.size,2,none⟩=some sv:=hX3.ld.lm.blk.cell 2
   clear ht3 ho3 hp3 hs3 hm hX3 KS c2 hn
   obtain⟨sA,sc,rfl,_,_,hsA⟩:=HO3.out.form
   go_wp2_with fail
   go_loopw [83,11,12] (fun i _ _ wr=>∃(j:Nat) (dn rest:List Seg) (c:Ct) (R':Nat->Prop) (rv':Value) (vs':List Value),i= .int .i64 (j:Int)/\j=dn.length/\dn.length+rest.length=n/\LX w1 wr w.heap.size bd S (fun _=>False) (.slice none 0 0) (.slice none 0 0) { l0 with segs:=dn++rest,c:=c,dirty:=lost d.fs base } d S R' (.slice sA n sc) rv' vs'/\
    replayAll d.fs ⟨0, []⟩ F2=((replayAll d.fs c rest).1,dn++(replayAll d.fs c rest).2)/\NiceAll d.fs c rest/\∀s∈dn,s.file<9223372036854775808) (fun i _ _ _=>n-(intOf i).toNat)
   case atStart=>
    refine⟨0, [],F2,⟨0, []⟩,fun _=>False, .slice none 0 0, [],rfl,rfl,by rw[HN.out];simp, ?_,rfl,by rw[HF2.out,HF.out];exact HNICE.out,fun s hs=>by cases hs⟩
    have h1:=HX3.out
    have h2:l0.c=⟨0, []⟩:=by rw[HL0.out]
    have h3:({ l0 with segs:= []++F2,c:=⟨0, []⟩,dirty:=lost d.fs base }:Lg)={ l0 with segs:=F2,dirty:=lost d.fs base }:=by rw[<- h2];rfl
    rw[h3]
    exact h1
   case round=>
    obtain⟨j,dn,rest,c,R',rv',vs',rfl,hj,hlen,hx,heq,hni,hfile⟩:=hrel
    have HX:=zh hx;have HEQ:=zh heq;have HNI:=zh hni;have HJ:=zh hj
    have d2:wr.cell? ⟨w.heap.size,2,none⟩=some (.slice sA n sc):=hx.ld.lm.blk.cell 2
    cases rest with
    | cons s r=>
     have hjn:j<n:=by rw[List.length_cons]at hlen;omega
     have hjd:decide ((j:Int)<(n:Int))=true:=decide_eq_true (by omega)
     obtain⟨gS,rfl⟩:∃g,sA=some ⟨g,0,none⟩:=by
      rcases hsA with⟨_,h2,_⟩ | ⟨g,e⟩
      ·omega
      ·exact⟨g,e⟩
     obtain⟨n1,n4,n5,n6,n7,n8⟩:=hni
     have hsj:(dn++s :: r)[j]? =some s:=by rw[hj,List.getElem?_append_right (Nat.le_refl _),Nat.sub_self];rfl
     have KR:=replay_any hx.ld (i:=j) (g:=gS) (q:=0) (n:=n) (c:=sc) (counts:=countsOf r) rfl hsj HS.out (by omega) HOK.out n1 n4 n5 n6 n7
     rw[Nat.zero_add]at KR
     have HKR:=zh KR
     have HN8:=zh n8
     have hwj:IntKind.i64.wrap ((j:Int)+1)=(j:Int)+1:=IntWalk.i64_in _ (by omega)
     have hend:∀w',RepEnd wr w.heap.size bd R' S { l0 with segs:=dn++s :: r,c:=c,dirty:=lost d.fs base } (.slice (some ⟨gS,0,none⟩) n sc) rv' d j s (countsOf r) (.returned (.tuple #[])) w'->∃(j':Nat) (dn' rest':List Seg) (c':Ct) (R2:Nat->Prop) (rv2:Value) (vs2:List Value),(Value.int .i64 ((j:Int)+1))= .int .i64 (j':Int)/\j'=dn'.length/\dn'.length+rest'.length=n/\LX w1 w' w.heap.size bd S (fun _=>False) (.slice none 0 0) (.slice none 0 0) { l0 with segs:=dn'++rest',c:=c',dirty:=lost d.fs base } d S R2 (.slice (some ⟨gS,0,none⟩) n sc) rv2 vs2/\
       replayAll d.fs ⟨0, []⟩ F2=((replayAll d.fs c' rest').1,dn'++(replayAll d.fs c' rest').2)/\NiceAll d.fs c' rest'/\∀s∈dn',s.file<9223372036854775808:=by
      rintro w' ⟨_,R2,rv2,vs2,hx2⟩
      refine⟨j+1,dn++ [(replayP d.fs c s (countsOf r)).2],r,(replayP d.fs c s (countsOf r)).1,R2,rv2,vs2,by go_num,by rw[List.length_append,HJ.out];rfl,by rw[List.length_append];rw[List.length_cons]at hlen;simp only[List.length_singleton];omega, ?_, ?_,HN8.out,fun x hx=>(List.mem_append.1 hx).elim (hfile x) fun hx=>by rw[List.mem_singleton]at hx;rw[hx];exact n1.1⟩
      ·have h1:=HX.out.trans hx2
       have e:(dn++s :: r).set j (replayP d.fs c s (countsOf r)).2=dn++ [(replayP d.fs c s (countsOf r)).2]++r:=by
        rw[List.set_append_right _ _ (by rw[HJ.out];exact Nat.le_refl _),HJ.out,Nat.sub_self,List.set_cons_zero,List.append_assoc]
        rfl
       dsimp only at h1
       rw[e]at h1
       exact h1
      ·rw[HEQ.out,List.append_assoc]
       rfl
     have HEND:=zh hend
     cases r with
     | nil=>
      have hle:¬(j:Int)+1<(n:Int):=by simp at hlen;omega
      have hld:decide ((j:Int)+1<(n:Int))=false:=decide_eq_false hle
      simp only[countsOf]at HKR
      clear hx heq KR n1 n4 n5 n6 n7 n8 hsj hj hlen hend hsA hfile
      go_wp2_with fail
      refine HKR.out.mono ?_
      intro e w2 hq
      have he:=hq.1
      subst he
      have HQ:=zh (HEND.out w2 hq)
      clear hq HKR HEND
      go_wp2_with fail
      go_roundw
      case rel=>exact HQ.out
      case measure=>simp[intOf]<;>omega
     | cons t r2=>
      have hle:(j:Int)+1<(n:Int):=by simp only[List.length_cons]at hlen;omega
      have hld:decide ((j:Int)+1<(n:Int))=true:=decide_eq_true hle
      have hjt:(dn++s :: t :: r2)[j+1]? =some t:=by rw[hj,List.getElem?_append_right (by omega),Nat.add_sub_cancel_left];rfl
      have ct:wr.cell? ⟨gS,(j+1)*8+1,none⟩=some (.int .i64 (t.ahead:Int)):=by
       have hdn:(dn++s :: t :: r2).length=n:=by rw[List.length_append];exact hlen
       have h1:=hx.ld.lm.segs
       dsimp only at h1
       rw[hdn]at h1
       have h2:=h1.cell (j:=(j+1)*8+1) (by omega)
       rw[Nat.zero_add]at h2
       rw[h2]
       exact(segsC_get _ _ hjt (by omega:1<8)).trans rfl
      simp only[countsOf]at HKR
      clear hx heq KR n1 n4 n5 n6 n7 n8 hsj hj hlen hend hsA hfile hjt
      go_wp2_with fail
      refine HKR.out.mono ?_
      intro e w2 hq
      have he:=hq.1
      subst he
      have HQ:=zh (HEND.out w2 hq)
      clear hq HKR HEND
      go_wp2_with fail
      go_roundw
      case rel=>exact HQ.out
      case measure=>simp[intOf]<;>omega
    | nil=>
     rw[List.length_nil,Nat.add_zero,<- hj]at hlen
     subst hlen
     have hjd:decide ((j:Int)<(j:Int))=false:=by simp
     have hopen:openP d.fs base={ l0 with segs:=dn,c:=c,dirty:=lost d.fs base || tooMany d.fs dn }:=by
      unfold openP
      rw[<- HF.out,<- HF2.out,heq,HL0.out]
      simp[replayAll]
     rw[List.append_nil]at hx
     have hend:∀W b,b=(lost d.fs base || tooMany d.fs dn)->LX w1 W w.heap.size bd S (fun _=>False) (.slice none 0 0) (.slice none 0 0) { l0 with segs:=dn,c:=c,dirty:=b } d S R' (.slice sA j sc) rv' vs'->OpenEnd w bd S d base (.returned (.tuple #[.pointer (some ⟨w.heap.size,0,none⟩), .int .i64 0])) W:=by
      intro W b hb hW
      subst hb
      have hs1:=HF1.out.size
      have hbl:=HBL.out
      refine⟨(HF1.out.mono fun _ _ h=>h.elim).trans hW.tch fun k hk hf=> ?_,w.heap.size,R',_,rv',vs',rfl,by rw[hopen];exact hW.ld,fun k hk=> ?_⟩
      ·simp only[lfoot,Value.ownBlock,reduceCtorEq,or_false]at hf
       exact hf.resolve_left (by omega)
      ·rcases hk with hk | hk
       ·have h1:=hW.sF k hk
        simp only[lfoot,Value.ownBlock,reduceCtorEq,or_false]at h1
        omega
       ·have h1:=(hW.sR k hk).resolve_left id
        omega
     have HX2:=zh hx;have HEND:=zh hend
     by_cases h0:j=0
     ·have hdn:dn= []:=List.eq_nil_of_length_eq_zero (by omega)
      have HQ:=zh (hend wr (lost d.fs base) (by rw[hdn];simp[tooMany]) hx)
      have hg0:decide ((0:Int)<(j:Int))=false:=by simp;omega
      have hg1:¬(0:Int)<(j:Int):=by omega
      clear hx heq hni hj hopen hend hsA h0 hdn hfile
      go_wp2_with fail
      go_ret2
      exact HQ.out
     ·obtain⟨k,hk⟩:∃k,j=k+1:=⟨j-1,by omega⟩
      obtain⟨gS,rfl⟩:∃g,sA=some ⟨g,0,none⟩:=by
       rcases hsA with⟨_,h2,_⟩ | ⟨g,e⟩
       ·omega
       ·exact⟨g,e⟩
      obtain⟨d0,s,hd0⟩:∃d0 s,dn=d0++ [s]:=by
       rcases nil_or_snoc dn with h | h
       ·rw[h]at hj;simp at hj;omega
       ·exact h
      have hks:dn[k]? =some s:=by
       have:d0.length=k:=by rw[hd0,List.length_append,List.length_singleton]at hj;omega
       rw[hd0,List.getElem?_append_right (by omega),this,Nat.sub_self]
       rfl
      have hsg:=hx.ld.lm.segs
      dsimp only at hsg
      rw[<- hj]at hsg
      have cg:∀i,i<8->wr.cell? ⟨gS,k*8+i,none⟩=(segC s)[i]? :=fun i hi=>by
       have h2:=hsg.cell (j:=k*8+i) (by omega)
       rw[Nat.zero_add]at h2
       rw[h2]
       exact segsC_get _ _ hks hi
      have g0:wr.cell? ⟨gS,k*8,none⟩=some (.int .i64 (s.number:Int)):=cg 0 (by omega)
      have g1:wr.cell? ⟨gS,k*8+1,none⟩=some (.int .i64 (s.ahead:Int)):=cg 1 (by omega)
      have g2:wr.cell? ⟨gS,k*8+2,none⟩=some (.int .i64 (s.first:Int)):=cg 2 (by omega)
      have g3:wr.cell? ⟨gS,k*8+3,none⟩=some (.int .i64 (s.next:Int)):=cg 3 (by omega)
      have g4:wr.cell? ⟨gS,k*8+4,none⟩=some (.bool s.whole):=cg 4 (by omega)
      have g5:wr.cell? ⟨gS,k*8+5,none⟩=some (.int .i64 (s.file:Int)):=cg 5 (by omega)
      have g6:wr.cell? ⟨gS,k*8+6,none⟩=some (.int .i64 (s.size:Int)):=cg 6 (by omega)
      have g7:wr.cell? ⟨gS,k*8+7,none⟩=some (.int .i64 (s.last:Int)):=cg 7 (by omega)
      have ag0:∀x,(wr.alloc x).cell? _= _:=fun x=>((Touch.refl (fun _=>False) wr).alloc x).cell g0 id
      have ag1:∀x,(wr.alloc x).cell? _= _:=fun x=>((Touch.refl (fun _=>False) wr).alloc x).cell g1 id
      have ag2:∀x,(wr.alloc x).cell? _= _:=fun x=>((Touch.refl (fun _=>False) wr).alloc x).cell g2 id
      have ag3:∀x,(wr.alloc x).cell? _= _:=fun x=>((Touch.refl (fun _=>False) wr).alloc x).cell g3 id
      have ag4:∀x,(wr.alloc x).cell? _= _:=fun x=>((Touch.refl (fun _=>False) wr).alloc x).cell g4 id
      have ag5:∀x,(wr.alloc x).cell? _= _:=fun x=>((Touch.refl (fun _=>False) wr).alloc x).cell g5 id
      have ag6:∀x,(wr.alloc x).cell? _= _:=fun x=>((Touch.refl (fun _=>False) wr).alloc x).cell g6 id
      have ag7:∀x,(wr.alloc x).cell? _= _:=fun x=>((Touch.refl (fun _=>False) wr).alloc x).cell g7 id
      have ad2:∀x,(wr.alloc x).cell? _= _:=fun x=>((Touch.refl (fun _=>False) wr).alloc x).cell d2 id
      have hwk:IntKind.i64.wrap ((j:Int)-1)=(k:Int):=by rw[IntWalk.i64_in _ (by omega)];omega
      have hki:(k:Int)<(j:Int):=by omega
      have hg0:decide ((0:Int)<(j:Int))=true:=by simp;omega
      have hg1:(0:Int)<(j:Int):=by omega
      have HD0:=zh hd0;have HKJ:=zh hk
      have htm:tooMany d.fs dn=decide (s.size≠(rawB d.fs s.file).length):=by rw[hd0];unfold tooMany;rw[List.getLast?_append];rfl
      have HTM:=zh htm
      have HFL:=zh (show s.file<9223372036854775808 from hfile s (List.mem_of_getElem? hks))
      clear hx heq hni hj hopen hend hsA h0 hd0 hsg cg hks hk htm hfile
      go_wp2_with fail
      go_region_held (fun W=>W.cell? ⟨gS,k*8,none⟩=some (.int .i64 (s.number:Int))/\W.cell? ⟨gS,k*8+1,none⟩=some (.int .i64 (s.ahead:Int))/\W.cell? ⟨gS,k*8+2,none⟩=some (.int .i64 (s.first:Int))/\W.cell? ⟨gS,k*8+3,none⟩=some (.int .i64 (s.next:Int))/\W.cell? ⟨gS,k*8+4,none⟩=some (.bool s.whole)/\W.cell? ⟨gS,k*8+5,none⟩=some (.int .i64 (s.file:Int))/\W.cell? ⟨gS,k*8+6,none⟩=some (.int .i64 (s.size:Int))/\W.cell? ⟨gS,k*8+7,none⟩=some (.int .i64 (s.last:Int))/\W.cell? ⟨w.heap.size,2,none⟩=some (.slice (some ⟨gS,0,none⟩) j sc))
       (first | exact⟨g0,g1,g2,g3,g4,g5,g6,g7,d2⟩ | exact⟨ag0 _,ag1 _,ag2 _,ag3 _,ag4 _,ag5 _,ag6 _,ag7 _,ad2 _⟩ | assumption)
       (first | fail)
      obtain⟨w4,hw4⟩:∃w4,w4=(wr.alloc (.cells #[.int .i64 (s.number:Int), .int .i64 (s.ahead:Int), .int .i64 (s.first:Int), .int .i64 (s.next:Int), .bool s.whole, .int .i64 (s.file:Int), .int .i64 (s.size:Int), .int .i64 (s.last:Int)] 145)).drew:=⟨_,rfl⟩
      rw[<- hw4]
      have hf4:Fresh wr w4:=by rw[hw4];exact((Touch.refl (fun _=>False) wr).alloc _).drew
      have hsb:Blk w4 wr.heap.size 145 (segC s).toArray:=by rw[hw4];exact(Blk.new _ _ _).drew
      have hx4:=HX2.out.fresh hf4
      have k6:w4.cell? ⟨w.heap.size,6,none⟩=some (.bool (lost d.fs base)):=hx4.ld.lm.blk.cell 6
      have f6:w4.frozen? ⟨w.heap.size,6,none⟩=false:=hx4.ld.lm.blk.frozen 6
      have t5:w4.cell? ⟨wr.heap.size,5,none⟩=some (.int .i64 (s.file:Int)):=hsb.cell 5
      have t6:w4.cell? ⟨wr.heap.size,6,none⟩=some (.int .i64 (s.size:Int)):=hsb.cell 6
      have HX4:=zh hx4
      have hstore:∀W b,Fresh w4 W->b=(lost d.fs base || tooMany d.fs dn)->OpenEnd w bd S d base (.returned (.tuple #[.pointer (some ⟨w.heap.size,0,none⟩), .int .i64 0])) (W.setCell ⟨w.heap.size,6,none⟩ (.bool b)):=by
       intro W b hW hb
       refine HEND.out _ b hb ((HX4.out.fresh hW).block ((Touch.refl (·=w.heap.size) _).setCell (p:=⟨w.heap.size,6,none⟩) (.inr rfl) _) rfl rfl ?_)
       simpa using (HX4.out.fresh hW).ld.lm.blk.set_ 6 (.bool b)
      have HSTO:=zh hstore
      clear hw4 hf4 hsb hx4 hstore ag0 ag1 ag2 ag3 ag4 ag5 ag6 ag7 ad2 g0 g1 g2 g3 g4 g5 g6 g7 d2
      cases hlo:lost d.fs base with
      | true=>
       rw[hlo]at k6
       have HLO:=zh hlo
       clear hlo
       have k6d:w4.drew.cell? ⟨w.heap.size,6,none⟩=some (.bool true):=k6
       have f6d:w4.drew.frozen? ⟨w.heap.size,6,none⟩=false:=f6
       have HQ:=zh (HSTO.out w4.drew true (Touch.refl (fun _=>False) w4).drew (by rw[HLO.out];rfl))
       go_upto_region 24 with fail
       refine region_tail 17 (by kernel_rfl) (by kernel_rfl) rfl rfl ?_
       simp only[List.take_succ_cons,List.take_zero,List.drop_succ_cons,List.drop_zero]
       repeat (go_big_quiet_step (fail))
       refine wpQuiet_nil ?_
       go_wp2_with fail
       go_ret2
       exact HQ.out
      | false=>
       rw[hlo]at k6
       obtain⟨rl,hrl⟩:∃rl,rl=(d.read (s.file:Int)).length:=⟨_,rfl⟩
       have HTM2:=zh (show tooMany d.fs dn=decide (s.size≠rl) by rw[HTM.out,hrl];rfl)
       have HLO:=zh hlo
       have HNF:=zh (show (s.file:Nat)<9223372036854775808 from HFL.out)
       have KRD:=zh (show∀W,Fresh w4 W->Calls Tryz.prog 88 #[.pointer (some ⟨bd,0,none⟩), .int .i64 (s.file:Int)] W fun e w'=>∃B c,e= .returned (.slice B rl c)/\Fresh w4 w' from fun W hW=>by
        refine(disk_read (HX4.out.ld.dk.fresh hW) HS.out (by omega) (nat_wf HNF.out)).mono ?_
        rintro e w' ⟨hf,B,c,rfl,_,_⟩
        rw[<- hrl]
        exact⟨B,c,rfl,hW.trans hf fun _ _=>id⟩)
       have K6:=zh (show∀W,Fresh w4 W->W.cell? ⟨w.heap.size,6,none⟩=some (.bool false)/\W.frozen? ⟨w.heap.size,6,none⟩=false/\W.cell? ⟨wr.heap.size,6,none⟩=some (.int .i64 (s.size:Int)) from fun W hW=>⟨hW.cell k6 id,by have:=(HX4.out.fresh hW).ld.lm.blk.frozen 6;exact this,hW.cell t6 id⟩)
       clear hlo hrl
       go_upto_region 24 with fail
       by_cases hsz:s.size=rl
       ·have hb:((s.size:Int) != (rl:Int))=false:=by rw[hsz];simp
        have HB:=zh (show false=(lost d.fs base || tooMany d.fs dn) by rw[HLO.out,HTM2.out,hsz];simp)
        subst hsz
        go_region_law (first | (go_simp;go_at_call 88;refine(KRD.out _ (by first | exact(Touch.refl _ w4).drew | exact Touch.refl _ w4)).mono ?_;rintro e w5 ⟨B5,c5,rfl,hf5⟩;have k5:=(K6.out w5 hf5).1;have f5:=(K6.out w5 hf5).2.1;have t6b:=(K6.out w5 hf5).2.2;have HF5:=zh hf5;clear hf5))
        all_goals
         go_wp2_with fail
         go_ret2
         exact HSTO.out _ _ HF5.out HB.out
       ·have hb:((s.size:Int) != (rl:Int))=true:=bne_iff_ne.2 (by omega)
        have HB:=zh (show true=(lost d.fs base || tooMany d.fs dn) by rw[HLO.out,HTM2.out];simp[hsz])
        clear hsz
        go_region_law (first | (go_simp;go_at_call 88;refine(KRD.out _ (by first | exact(Touch.refl _ w4).drew | exact Touch.refl _ w4)).mono ?_;rintro e w5 ⟨B5,c5,rfl,hf5⟩;have k5:=(K6.out w5 hf5).1;have f5:=(K6.out w5 hf5).2.1;have t6b:=(K6.out w5 hf5).2.2;have HF5:=zh hf5;clear hf5))
        all_goals
         go_wp2_with fail
         go_ret2
         exact HSTO.out _ _ HF5.out HB.out
theorem lopen_shape(hD:Disk w S bd d)(hs:d.small K)(hK:K<=300000000)(hfl:d.fs.length<=1000000){n:Nat}(hn:n<16){ss:List AS}{c:Ct}{A:Ct->Prop}(h:Shape d.fs (n*1048576) ss c A):
  Calls Tryz.prog 50 #[.pointer (some ⟨bd,0,none⟩), .int .i64 (n:Int)] w (OpenEnd w bd S d (n*1048576)):=
 lopen_any hD hs hK hfl h.ok hn (fun _ hf hr=>h.sane hf hr) h.numbers (h.nice (by omega) fun f hf=>by have:=hs.raw f hf;omega)
end
end Go.Proofs.YtjehlgblkfofpaaGreat