/- The claims' texts, several in one: Rk, Rl, Rm. Conditions stand with each theorem. -/
import Derived.Test.YtjehlgblkfofpaaGreatZa08
import Derived.Test.YtjehlgblkfofpaaGreatZa33
import Derived.Test.YtjehlgblkfofpaaGreatZa01
import Derived.BigQuiet
import Derived.Deep.RegionLaw
import Derived.Deep.CutRange
import Derived.Deep.RegionHeld3
import Derived.WalkKit
import Derived.Sort.Walk0
set_option maxHeartbeats 8000000
set_option maxRecDepth 100000
namespace Go.Proofs.YtjehlgblkfofpaaGreat
open Go.RowKit
attribute [local go_sem] Oper.semAt_some
def pairsV(l:KL):List Value:=l.flatMap fun x=> [.string ⟨x.1.toArray⟩, .string ⟨x.2.toArray⟩]
theorem pairsV_append(a b:KL):pairsV (a++b)=pairsV a++pairsV b:=by simp[pairsV]
theorem pairsV_at{l:KL}{j r:Nat}{x:List UInt8×List UInt8}(h:l[j]? =some x)(hr:r<2):(pairsV l)[j*2+r]? = [Value.string ⟨x.1.toArray⟩, .string ⟨x.2.toArray⟩][r]? :=
 flat_at (fun x:List UInt8×List UInt8=> [Value.string ⟨x.1.toArray⟩, .string ⟨x.2.toArray⟩]) 2 (fun _=>rfl) l j r x h hr
theorem pairsV_one(l:KL):∀u∈pairsV l,u.oneCell'=true:=by
 intro u hu
 obtain⟨x,_,hx⟩:=List.mem_flatMap.1 hu
 simp only[List.mem_cons,List.not_mem_nil,or_false]at hx
 rcases hx with rfl | rfl<;>rfl
theorem Tryz.info66:(Tryz.prog.info? 66).map (fun i=>(i.zero,i.size,i.bytes))=some (some (.agg #[.string ⟨#[]⟩, .string ⟨#[]⟩]),2,32):=by kernel_rfl
theorem pair_new(w:World)(x:List UInt8×List UInt8):Src Tryz.prog 2 53 (.slice (some ⟨w.heap.size,0,none⟩) 1 1) 1 [.string ⟨x.1.toArray⟩, .string ⟨x.2.toArray⟩] (w.alloc (.cells #[.string ⟨x.1.toArray⟩, .string ⟨x.2.toArray⟩] 66)):=by
 refine Src.ofSlice _ Tryz.underlying53 _ _ _ _ rfl (fun j u hu=> ?_) (fun u hu=> ?_)
 ·rw[add_flat,Nat.zero_add,(Blk.new w 66 #[.string ⟨x.1.toArray⟩, .string ⟨x.2.toArray⟩]).cell]
  simpa using hu
 ·simp only[List.mem_cons,List.not_mem_nil,or_false]at hu
  rcases hu with rfl | rfl<;>rfl
structure RSt(w:World)(b:Nat)(f:Int)(v:Value)(l:KL):Prop where
 blk:Blk w b 77 #[.int .i64 f,v]
 row:Oz w 66 2 v l.length (pairsV l)
section
variable {w w':World}{b:Nat}{f:Int}{v:Value}{l:KL}
theorem RSt.touch{S:Nat->Prop}(h:RSt w b f v l)(ht:Touch S w w')(h1:¬S b)(h2:∀k,v.ownBlock=some k->¬S k):RSt w' b f v l:=⟨h.blk.touch ht h1,h.row.touch ht h2⟩
theorem RSt.fresh(h:RSt w b f v l)(ht:Fresh w w'):RSt w' b f v l:=h.touch ht id fun _ _=>id
theorem RSt.spot{A:Option Addr}{n c j:Nat}{x:List UInt8×List UInt8}(h:Oz w 66 2 (.slice A n c) n (pairsV l))(hn:n=l.length)(hj:l[j]? =some x):
  ∃g,A=some ⟨g,0,none⟩/\w.cell? ⟨g,j*2,none⟩=some (.string ⟨x.1.toArray⟩)/\w.cell? ⟨g,j*2+1,none⟩=some (.string ⟨x.2.toArray⟩):=by
 have hlt:=(List.getElem?_eq_some_iff.1 hj).1
 have h:=h.own (by omega)
 obtain⟨A',c',hv,_,_,hA⟩:=h.form
 injection hv with e1 e2 e3
 subst e1
 rcases hA with⟨_,h2,_⟩ | ⟨g,rfl⟩
 ·omega
 ·refine⟨g,rfl, ?_, ?_⟩
  ·rw[h.cell (j:=j*2) (by omega)]
   exact pairsV_at (r:=0) hj (by omega)
  ·rw[h.cell (j:=j*2+1) (by omega)]
   exact pairsV_at (r:=1) hj (by omega)
theorem out_push{W1 wr w3:World}{u:Value}{obj:Obj}{B:Option Addr}{m c:Nat}(hf:Fresh W1 wr)(hn:∀k,u.ownBlock=some k->W1.heap.size<=k)(hg:(wr.alloc obj).grownBy w3 u.ownBlock)
  (hb:(Value.slice B m c).ownBlock=u.ownBlock\/(Value.slice B m c).ownBlock=some (wr.alloc obj).heap.size):Fresh W1 w3/\∀k,(Value.slice B m c).ownBlock=some k->W1.heap.size<=k:=by
 refine⟨(hf.alloc _).grown hg fun q hq=> .inl (hn q hq),fun k hk=> ?_⟩
 rcases hb with e | e
 ·rw[e]at hk;exact hn k hk
 ·rw[hk]at e
  injection e with e
  have h1:=hf.size
  rw[e,World.size_alloc]
  omega
theorem put_end{l':KL}{w1 w2:World}{u:Value}(h:RSt w b f v l)(hf:Fresh w w1)(hf2:Fresh w1 w2)(ho:Own w2 66 2 u l'.length (pairsV l'))(hn:∀k,u.ownBlock=some k->w1.heap.size<=k):
  ∃v',RSt (w2.setCell ⟨b,1,none⟩ u) b f v' l'/\Touch (fun k=>k=b) w (w2.setCell ⟨b,1,none⟩ u)/\∀k,v'.ownBlock=some k->w.heap.size<=k/\k<(w2.setCell ⟨b,1,none⟩ u).heap.size:=by
 have h2:=h.fresh (hf.trans hf2 fun _ _=>id)
 have ht:Touch (fun k=>k=b) w2 (w2.setCell ⟨b,1,none⟩ u):=(Touch.refl (fun k=>k=b) w2).setCell (p:=⟨b,1,none⟩) (.inr rfl) u
 have hs:=hf.size
 refine⟨u,⟨?_, .inl (ho.touch ht fun k hk e=> ?_)⟩,((hf.trans hf2 fun _ _=>id).mono fun _ _=>False.elim).trans ht fun _ _ e=>e,fun k hk=>⟨Nat.le_trans hs (hn k hk),Nat.lt_of_lt_of_le (ho.lt k hk) ht.size⟩⟩
 ·have:=h2.blk.set_ 1 u
  simpa using this
 ·have h3:=hn k hk
  have h4:=h.blk.lt
  omega
theorem rput_any(h:RSt w b f v l)(x:Dec.Op)(hl:l.length<=1000000):Calls Tryz.prog 104 #[.pointer (some ⟨b,0,none⟩),opA x] w fun e w'=>
  e= .returned (.tuple #[])/\∃v',RSt w' b f v' (rput x l)/\Touch (fun k=>k=b) w w'/\∀k,v'.ownBlock=some k->w.heap.size<=k/\k<w'.heap.size:=by
 obtain⟨W1,hW1⟩:∃W1,W1=w.alloc (.cells #[.string ⟨x.k.toArray⟩, .string ⟨x.v.toArray⟩, .bool x.g] 31):=⟨_,rfl⟩
 have hf1:Fresh w W1:=by rw[hW1];exact(Touch.refl _ w).alloc _
 have hb1:Blk W1 w.heap.size 31 #[.string ⟨x.k.toArray⟩, .string ⟨x.v.toArray⟩, .bool x.g]:=by rw[hW1];exact Blk.new _ _ _
 obtain⟨A,c,rfl,_,_,hA⟩:=h.row.form
 obtain⟨n,hn⟩:∃n,n=l.length:=⟨_,rfl⟩
 rw[<- hn]at h hl hA
 have hrow:=h.row
 rw[<- hn]at hrow
 have HC:=zh (show∀W,Fresh W1 W->W.cell? ⟨b,1,none⟩=some (.slice A n c)/\W.cell? ⟨w.heap.size,0,none⟩=some (.string ⟨x.k.toArray⟩)/\W.cell? ⟨w.heap.size,1,none⟩=some (.string ⟨x.v.toArray⟩)/\W.cell? ⟨w.heap.size,2,none⟩=some (.bool x.g) from fun W hW=>by
  have c:=(h.fresh hf1).fresh hW
  have d:=hb1.touch hW id
  exact⟨c.blk.cell 1,d.cell 0,d.cell 1,d.cell 2⟩)
 have HR:=zh (show∀W,Fresh W1 W->Oz W 66 2 (.slice A n c) n (pairsV l) from fun W hW=>(hrow.touch hf1 fun _ _=>id).touch hW fun _ _=>id)
 have H:=zh h;have HW1:=zh hW1;have HF1:=zh hf1;have HN:=zh hn
 clear h hrow hW1 hf1 hb1 hn hA
 go_enter Tryz.func104,Tryz.ntmps104
 unfold opA
 go_upto_region 1 with fail
 rw[<- HW1.out]
 have z2:W1.cell? ⟨w.heap.size,2,none⟩=some (.bool x.g):=(HC.out W1 (Touch.refl _ _)).2.2.2
 go_wp2_with fail
 go_loopw [4,5,6] (fun o d i wr=>∃(j:Nat) (pre:KL) (dn:Bool),j<=n/\i= .int .i64 (j:Int)/\d= .bool dn/\(l.take j).foldl (rstep x) ([],x.g)=(pre,dn)/\pre.length<=j+dn.toNat/\Fresh W1 wr/\Own wr 66 2 o pre.length (pairsV pre)/\∀k,o.ownBlock=some k->W1.heap.size<=k) (fun _ _ i _=>n-(intOf i).toNat)
 case atStart=>exact⟨0, [],x.g,Nat.zero_le _,rfl,rfl,rfl,Nat.zero_le _,Touch.refl _ _,Own.nil_ _ _ _,fun k hk=>by cases hk⟩
 case round=>
  obtain⟨j,pre,dn,hj,rfl,rfl,hfo,hpl,hfr,hown,hnew⟩:=hrel
  have hpl1:pre.length<=j+1:=by have:=Bool.toNat_le dn;omega
  have HFO:=zh hfo;have HFR:=zh hfr;have HO:=zh hown;have HNEW:=zh hnew
  have y1:wr.cell? ⟨b,1,none⟩=some (.slice A n c):=(HC.out wr hfr).1
  have y2:wr.cell? ⟨w.heap.size,0,none⟩=some (.string ⟨x.k.toArray⟩):=(HC.out wr hfr).2.1
  have y3:wr.cell? ⟨w.heap.size,1,none⟩=some (.string ⟨x.v.toArray⟩):=(HC.out wr hfr).2.2.1
  clear hfo hfr hown hnew z2
  by_cases hlt:j<n
  ·obtain⟨p,hp⟩:∃p,l[j]? =some p:=⟨_,List.getElem?_eq_getElem (by rw[<- HN.out];exact hlt)⟩
   obtain⟨g,rfl,k0,k1⟩:=RSt.spot (HR.out wr HFR.out) HN.out hp
   have hts:l.take (j+1)=l.take j++ [p]:=by rw[List.take_add_one,hp];rfl
   have HST:=zh (show (l.take (j+1)).foldl (rstep x) ([],x.g)=rstep x (pre,dn) p by rw[hts,List.foldl_append,HFO.out];rfl)
   have hjd:decide ((j:Int)<(n:Int))=true:=decide_eq_true (by omega)
   have hji:(j:Int)<(n:Int):=by omega
   have hwk:IntKind.i64.wrap ((j:Int)+1)=(j:Int)+1:=IntWalk.i64_in _ (by omega)
   have HP:=zh hp
   clear hp hts
   by_cases heq:p.1=x.k
   ·have heb:(p.1 == x.k)=true:=by simpa using heq
    have HS2:=zh (show rstep x (pre,dn) p=(pre,dn) from rstep_same heq)
    clear heq
    go_upto_region 6 with fail
    go_quiet (fail)
    go_wp2_with fail
    go_roundw
    case rel=>exact⟨j+1,pre,dn,by omega,by go_num,rfl,by rw[HST.out,HS2.out],by omega,HFR.out.drewN _,HO.out,HNEW.out⟩
    case measure=>simp[intOf]<;>omega
   ·have heb:(p.1 == x.k)=false:=by simpa using heq
    have HEQ:=zh heq
    clear heq
    cases dn with
    | true=>
     have HS2:=zh (show rstep x (pre,true) p=(pre++ [p],true) from rstep_on HEQ.out (by simp))
     go_upto_region 6 with fail
     go_quiet (fail)
     go_upto_region 7 with fail
     go_quiet (fail)
     go_upto_region 10 with fail
     generalize hw2:World.drewN (World.drewN wr _) _=w2
     have hf2:Fresh wr w2:=by rw[<- hw2];exact((Touch.refl (fun _=>False) wr).drewN _).drewN _
     have HF2:=zh (HFR.out.trans hf2 fun _ _=>id)
     have HO2:=zh (HO.out.touch hf2 fun _ _=>id)
     have y1:w2.cell? ⟨b,1,none⟩=some (.slice (some ⟨g,0,none⟩) n c):=hf2.cell y1 id
     have k0:w2.cell? ⟨g,j*2,none⟩=some (.string ⟨p.1.toArray⟩):=hf2.cell k0 id
     have k1:w2.cell? ⟨g,j*2+1,none⟩=some (.string ⟨p.2.toArray⟩):=hf2.cell k1 id
     clear hf2 hw2 heb
     go_wp2_with (at_builtin;refine wpList_own_src _ rfl _ _ 53 53 rfl 66 (.agg #[.string ⟨#[]⟩, .string ⟨#[]⟩]) 2 32 Tryz.info66 Tryz.underlying53 rfl u4 pre.length (pairsV pre) rfl (by exact HO2.out.alloc _) (pairsV_one _) (.slice (some ⟨_,0,none⟩) 1 1) 1 [.string ⟨p.1.toArray⟩, .string ⟨p.2.toArray⟩] rfl (by exact pair_new _ p) (by unfold maxLen;omega) (by omega) ?_;intro B1 c1 w1 o1 g1 b1;have O1:=zh o1;have G1:=zh g1;have BB1:=zh b1;clear o1 g1 b1)
     go_roundw
     case rel=>
      have q:=out_push HF2.out HNEW.out G1.out BB1.out
      exact⟨j+1,pre++ [p],true,by omega,by go_num,rfl,by rw[HST.out,HS2.out],by simp only[List.length_append,List.length_singleton,Bool.toNat_true];omega,q.1,by rw[List.length_append,List.length_singleton,pairsV_append];exact O1.out,q.2⟩
     case measure=>simp[intOf]<;>omega
    | false=>
     have hpl0:pre.length<=j:=hpl
     by_cases hgt:x.k<p.1
     ·have hbl:Op.bytesLess p.1 x.k=false:=by rw[bytesLess_eq];exact decide_eq_false (slt_asymm hgt)
      have HS2:=zh (show rstep x (pre,false) p=(pre++ [(x.k,x.v)]++ [p],true) from rstep_in HEQ.out hgt)
      go_upto_region 6 with fail
      go_quiet (fail)
      go_upto_region 7 with fail
      go_quiet (fail)
      go_upto_region 8 with fail
      generalize hw2:World.drewN (World.drewN wr _) _=w2
      have hf2:Fresh wr w2:=by rw[<- hw2];exact((Touch.refl (fun _=>False) wr).drewN _).drewN _
      have HF2:=zh (HFR.out.trans hf2 fun _ _=>id)
      have HO2:=zh (HO.out.touch hf2 fun _ _=>id)
      have HC2:=HC.out w2 HF2.out
      have y2:w2.cell? ⟨w.heap.size,0,none⟩=some (.string ⟨x.k.toArray⟩):=HC2.2.1
      have y3:w2.cell? ⟨w.heap.size,1,none⟩=some (.string ⟨x.v.toArray⟩):=HC2.2.2.1
      clear hf2 hw2 heb k0 k1 HC2 hbl y1
      go_upto_region 9 with(at_builtin;refine wpList_own_src _ rfl _ _ 53 53 rfl 66 (.agg #[.string ⟨#[]⟩, .string ⟨#[]⟩]) 2 32 Tryz.info66 Tryz.underlying53 rfl u4 pre.length (pairsV pre) rfl (by exact HO2.out.alloc _) (pairsV_one _) (.slice (some ⟨_,0,none⟩) 1 1) 1 [.string ⟨x.k.toArray⟩, .string ⟨x.v.toArray⟩] rfl (by exact pair_new _ (x.k,x.v)) (by unfold maxLen;omega) (by omega) ?_;intro B1 c1 w1 o1 g1 b1;have O1:=zh o1;have G1:=zh g1;have BB1:=zh b1;clear o1 g1 b1)
      have HQ:=zh (out_push HF2.out HNEW.out G1.out BB1.out)
      have y1:w1.cell? ⟨b,1,none⟩=some (.slice (some ⟨g,0,none⟩) n c):=(HC.out w1 HQ.out.1).1
      obtain⟨g',hg',k0,k1⟩:=RSt.spot (HR.out w1 HQ.out.1) HN.out HP.out
      injection hg' with hg'
      injection hg' with hg'
      subst hg'
      have HOW:=zh (show Own w1 66 2 (.slice B1 (pre.length+1) c1) (pre.length+1) (pairsV (pre++ [(x.k,x.v)])) by rw[pairsV_append];exact O1.out)
      clear y2 y3
      go_wp2_with (at_builtin;refine wpList_own_src _ rfl _ _ 53 53 rfl 66 (.agg #[.string ⟨#[]⟩, .string ⟨#[]⟩]) 2 32 Tryz.info66 Tryz.underlying53 rfl (.slice B1 (pre.length+1) c1) (pre.length+1) (pairsV (pre++ [(x.k,x.v)])) rfl (by exact HOW.out.alloc _) (pairsV_one _) (.slice (some ⟨_,0,none⟩) 1 1) 1 [.string ⟨p.1.toArray⟩, .string ⟨p.2.toArray⟩] rfl (by exact pair_new _ p) (by unfold maxLen;omega) (by omega) ?_;intro B2 c2 w2 o2 g2 b2;have O2:=zh o2;have G2:=zh g2;have BB2:=zh b2;clear o2 g2 b2)
      go_roundw
      case rel=>
       have q:=out_push HQ.out.1 HQ.out.2 G2.out BB2.out
       exact⟨j+1,pre++ [(x.k,x.v)]++ [p],true,by omega,by go_num,rfl,by rw[HST.out,HS2.out],by simp only[List.length_append,List.length_singleton,Bool.toNat_true];omega,q.1,by rw[List.length_append,List.length_append,List.length_singleton,List.length_singleton,pairsV_append];exact O2.out,q.2⟩
      case measure=>simp[intOf]<;>omega
     ·have hbl:Op.bytesLess p.1 x.k=true:=by
       rw[bytesLess_eq]
       rcases slt_tri p.1 x.k with h1 | h1 | h1
       ·exact decide_eq_true h1
       ·exact absurd h1 HEQ.out
       ·exact absurd h1 hgt
      have HS2:=zh (show rstep x (pre,false) p=(pre++ [p],false) from rstep_on HEQ.out (by simp[hgt]))
      go_upto_region 6 with fail
      go_quiet (fail)
      go_upto_region 7 with fail
      go_quiet (fail)
      go_upto_region 10 with fail
      generalize hw2:World.drewN (World.drewN wr _) _=w2
      have hf2:Fresh wr w2:=by rw[<- hw2];exact((Touch.refl (fun _=>False) wr).drewN _).drewN _
      have HF2:=zh (HFR.out.trans hf2 fun _ _=>id)
      have HO2:=zh (HO.out.touch hf2 fun _ _=>id)
      have y1:w2.cell? ⟨b,1,none⟩=some (.slice (some ⟨g,0,none⟩) n c):=hf2.cell y1 id
      have k0:w2.cell? ⟨g,j*2,none⟩=some (.string ⟨p.1.toArray⟩):=hf2.cell k0 id
      have k1:w2.cell? ⟨g,j*2+1,none⟩=some (.string ⟨p.2.toArray⟩):=hf2.cell k1 id
      clear hf2 hw2 heb hbl
      go_wp2_with (at_builtin;refine wpList_own_src _ rfl _ _ 53 53 rfl 66 (.agg #[.string ⟨#[]⟩, .string ⟨#[]⟩]) 2 32 Tryz.info66 Tryz.underlying53 rfl u4 pre.length (pairsV pre) rfl (by exact HO2.out.alloc _) (pairsV_one _) (.slice (some ⟨_,0,none⟩) 1 1) 1 [.string ⟨p.1.toArray⟩, .string ⟨p.2.toArray⟩] rfl (by exact pair_new _ p) (by unfold maxLen;omega) (by omega) ?_;intro B1 c1 w1 o1 g1 b1;have O1:=zh o1;have G1:=zh g1;have BB1:=zh b1;clear o1 g1 b1)
      go_roundw
      case rel=>
       have q:=out_push HF2.out HNEW.out G1.out BB1.out
       exact⟨j+1,pre++ [p],false,by omega,by go_num,rfl,by rw[HST.out,HS2.out],by simp only[List.length_append,List.length_singleton,Bool.toNat_false];omega,q.1,by rw[List.length_append,List.length_singleton,pairsV_append];exact O1.out,q.2⟩
      case measure=>simp[intOf]<;>omega
  ·obtain rfl:j=n:=by omega
   have hall:rput x l=rfin x (pre,dn):=by
    have:=HFO.out
    rw[HN.out,List.take_length]at this
    unfold rput
    rw[this]
   have HALL:=zh hall
   clear hall y1
   have y0:∀W,Fresh W1 W->W.cell? ⟨b,1,none⟩=some (.slice A j c):=fun W hW=>(HC.out W hW).1
   have y1:=y0 wr HFR.out
   have HF0:=zh (fun W (hW:Fresh W1 W)=>(H.out.fresh (HF1.out.trans hW fun _ _=>id)).blk.frozen 1)
   clear y0
   obtain⟨oA,oc,rfl,_⟩:=HO.out.form
   cases dn with
   | true=>
    have f1:wr.frozen? ⟨b,1,none⟩=false:=HF0.out wr HFR.out
    have he:rput x l=pre:=HALL.out
    have HE:=zh he
    have HEND:=zh (put_end H.out HF1.out HFR.out HO.out HNEW.out)
    clear he
    go_wp2_with fail
    go_end0
    rw[HE.out]
    exact⟨rfl,HEND.out⟩
   | false=>
    have he:rput x l=pre++ [(x.k,x.v)]:=HALL.out
    have HE:=zh he
    clear he
    go_upto_region 12 with fail
    go_upto_region 13 with(at_builtin;refine wpList_own_src _ rfl _ _ 53 53 rfl 66 (.agg #[.string ⟨#[]⟩, .string ⟨#[]⟩]) 2 32 Tryz.info66 Tryz.underlying53 rfl (.slice oA pre.length oc) pre.length (pairsV pre) rfl (by exact HO.out.alloc _) (pairsV_one _) (.slice (some ⟨_,0,none⟩) 1 1) 1 [.string ⟨x.k.toArray⟩, .string ⟨x.v.toArray⟩] rfl (by exact pair_new _ (x.k,x.v)) (by unfold maxLen;omega) (by omega) ?_;intro B1 c1 w1 o1 g1 b1;have O1:=zh o1;have G1:=zh g1;have BB1:=zh b1;clear o1 g1 b1)
    have HQ:=zh (out_push HFR.out HNEW.out G1.out BB1.out)
    have y1:w1.cell? ⟨b,1,none⟩=some (.slice A j c):=(HC.out w1 HQ.out.1).1
    have f1:w1.frozen? ⟨b,1,none⟩=false:=HF0.out w1 HQ.out.1
    have hown1:Own w1 66 2 (.slice B1 (pre.length+1) c1) (pre++ [(x.k,x.v)]).length (pairsV (pre++ [(x.k,x.v)])):=by
     rw[List.length_append,List.length_singleton,pairsV_append]
     exact O1.out
    have HEND:=zh (put_end H.out HF1.out HQ.out.1 hown1 HQ.out.2)
    clear hown1
    go_wp2_with fail
    go_end0
    rw[HE.out]
    exact⟨rfl,HEND.out⟩
end
theorem opsV_at2{l:List Dec.Op}{j r:Nat}{x:Dec.Op}(h:l[j]? =some x)(hr:r<3):(l.flatMap fun o=> [Value.string ⟨o.k.toArray⟩, .string ⟨o.v.toArray⟩, .bool o.g])[j*3+r]? = [Value.string ⟨x.k.toArray⟩, .string ⟨x.v.toArray⟩, .bool x.g][r]? :=
 flat_at (fun o:Dec.Op=> [Value.string ⟨o.k.toArray⟩, .string ⟨o.v.toArray⟩, .bool o.g]) 3 (fun _=>rfl) l j r x h hr
def opsW(l:List Dec.Op):List Value:=l.flatMap fun o=> [Value.string ⟨o.k.toArray⟩, .string ⟨o.v.toArray⟩, .bool o.g]
theorem opsW_len(l:List Dec.Op):(opsW l).length=l.length*3:=flat_length (fun o:Dec.Op=> [Value.string ⟨o.k.toArray⟩, .string ⟨o.v.toArray⟩, .bool o.g]) 3 (fun _=>rfl) l
section
variable {w w':World}{b:Nat}{f:Int}{v:Value}{l:KL}
theorem rdo_any(h:RSt w b f v l)(hs:KSort l)(A:Option Addr)(n c:Nat)(ops:List Dec.Op)(hv:Vs w 3 A n c (opsW ops))(hA:∀a,A=some a->0<n->a.block≠b)(hl:l.length+n<=1000000):
  Calls Tryz.prog 62 #[.pointer (some ⟨b,0,none⟩), .slice A n c] w fun e w'=>e= .returned (.tuple #[])/\∃v',RSt w' b f v' (kdo l ops)/\Touch (fun k=>k=b) w w'/\∀k,v'.ownBlock=some k->v.ownBlock=some k\/(w.heap.size<=k/\k<w'.heap.size):=by
 have hln:ops.length=n:=by have:=hv.1;rw[opsW_len]at this;omega
 have hnc:=hv.2.1
 have hc2:=hv.2.2.1
 have H:=zh h;have HV:=zh hv;have HA:=zh hA;have HS:=zh hs;have HLN:=zh hln
 clear h hv hA hs hln
 go_enter Tryz.func62,Tryz.ntmps62
 go_wp2_with fail
 go_loopw [4] (fun i wr=>∃(j:Nat) (v':Value),j<=n/\i= .int .i64 (j:Int)/\RSt wr b f v' (kdo l (ops.take j))/\Touch (fun k=>k=b) w wr/\∀k,v'.ownBlock=some k->v.ownBlock=some k\/(w.heap.size<=k/\k<wr.heap.size)) (fun i _=>n-(intOf i).toNat)
 case atStart=>exact⟨0,v,Nat.zero_le _,rfl,by rw[List.take_zero];exact H.out,Touch.refl _ _,fun _=> .inl⟩
 case round=>
  obtain⟨j,v',hj,rfl,hr,ht,hn⟩:=hrel
  by_cases hlt:j<n
  ·obtain⟨x,hx⟩:∃x,ops[j]? =some x:=⟨_,List.getElem?_eq_getElem (by rw[HLN.out];exact hlt)⟩
   obtain⟨g,off,rfl,_⟩:=HV.out.2.2.2 (by omega)
   have hvr:Vs wr 3 (some ⟨g,off,none⟩) n c (opsW ops):=HV.out.touch ht (fun a ha h0 e=>HA.out a ha h0 e)
   have k0:wr.cell? ⟨g,off+j*3,none⟩=some (.string ⟨x.k.toArray⟩):=hvr.cellAt (opsV_at2 hx (r:=0) (by omega))
   have k1:wr.cell? ⟨g,off+j*3+1,none⟩=some (.string ⟨x.v.toArray⟩):=hvr.cellAt (opsV_at2 hx (r:=1) (by omega))
   have k2:wr.cell? ⟨g,off+j*3+2,none⟩=some (.bool x.g):=hvr.cellAt (opsV_at2 hx (r:=2) (by omega))
   have hts:ops.take (j+1)=ops.take j++ [x]:=by rw[List.take_add_one,hx];rfl
   have hsj:=kdo_sort (ops.take j) HS.out
   have hlj:=(ksize_kdo (ops.take j) HS.out).2
   have htl:(ops.take j).length=j:=by rw[List.length_take,HLN.out];omega
   have KP:=zh (show Calls Tryz.prog 104 #[.pointer (some ⟨b,0,none⟩),opA x] wr fun e w'=>e= .returned (.tuple #[])/\∃v2,RSt w' b f v2 (kdo l (ops.take (j+1)))/\Touch (fun k=>k=b) w w'/\∀k,v2.ownBlock=some k->v.ownBlock=some k\/(w.heap.size<=k/\k<w'.heap.size) from by
    refine(rput_any hr x (by omega)).mono ?_
    rintro e w' ⟨rfl,v2,h1,h2,h3⟩
    refine⟨rfl,v2, ?_,ht.trans h2 fun _ _ e=>e,fun k hk=> .inr ⟨Nat.le_trans ht.size (h3 k hk).1,(h3 k hk).2⟩⟩
    rw[hts,kdo_snoc,<- rput_eq hsj]
    exact h1)
   unfold opA at KP
   have hjd:decide ((j:Int)<(n:Int))=true:=decide_eq_true (by omega)
   have hji:(j:Int)<(n:Int):=by omega
   have hwk:IntKind.i64.wrap ((j:Int)+1)=(j:Int)+1:=IntWalk.i64_in _ (by omega)
   clear hr ht hn hvr hx hts hsj hlj htl
   go_wp2_with fail
   refine KP.out.mono ?_
   rintro e w4 ⟨rfl,v2,h1,h2,h3⟩
   have HE:=zh (And.intro h1 (And.intro h2 h3))
   clear h1 h2 h3 KP
   go_wp2_with fail
   go_roundw
   case rel=>exact⟨j+1,v2,by omega,by go_num,HE.out.1,HE.out.2.1,HE.out.2.2⟩
   case measure=>simp[intOf]<;>omega
  ·obtain rfl:j=n:=by omega
   have HE:=zh (And.intro hr (And.intro ht hn))
   clear hr ht hn
   go_wp2_with fail
   go_end0
   have:=HE.out.1
   rw[List.take_of_length_le (by rw[HLN.out];exact Nat.le_refl _)]at this
   exact⟨rfl,v',this,HE.out.2.1,HE.out.2.2⟩
theorem rraise_any(h:RSt w b f v l)(g:Int):Calls Tryz.prog 69 #[.pointer (some ⟨b,0,none⟩), .int .i64 g] w fun e w'=>e= .returned (.int .i64 (if g<=f then 5 else if 4503599627370496<g then 1 else 0))/\w'=w:=by
 have y:w.cell? ⟨b,0,none⟩=some (.int .i64 f):=h.blk.cell 0
 clear h
 by_cases h1:g<=f
 ·rw[if_pos h1]
  go_enter Tryz.func69,Tryz.ntmps69
  go_wp2_with fail
  go_ret
  exact⟨rfl,rfl⟩
 ·rw[if_neg h1]
  by_cases h2:4503599627370496<g
  ·rw[if_pos h2]
   go_enter Tryz.func69,Tryz.ntmps69
   go_wp2_with fail
   go_ret
   exact⟨rfl,rfl⟩
  ·rw[if_neg h2]
   go_enter Tryz.func69,Tryz.ntmps69
   go_wp2_with fail
   go_ret
   exact⟨rfl,rfl⟩
theorem ksize_take_succ{j:Nat}{x:List UInt8×List UInt8}(h:l[j]? =some x):ksize (l.take (j+1))=ksize (l.take j)+(x.1.length+x.2.length):=by
 have e:l.take (j+1)=l.take j++ [x]:=by rw[List.take_add_one,h];rfl
 rw[e,ksize_append,ksize_cons]
 rfl
theorem ksize_take_le(l:KL)(j:Nat):ksize (l.take j)<=ksize l:=by
 have:=ksize_append (l.take j) (l.drop j)
 rw[List.take_append_drop]at this
 omega
theorem rsize_any(h:RSt w b f v l)(hl:l.length<=1000000)(hz:ksize l<=1000000000):Calls Tryz.prog 65 #[.pointer (some ⟨b,0,none⟩)] w fun e w'=>e= .returned (.int .i64 (ksize l:Int))/\∃q,w'=w.drewN q:=by
 obtain⟨A,c,rfl,_,_,_⟩:=h.row.form
 obtain⟨n,hn⟩:∃n,n=l.length:=⟨_,rfl⟩
 rw[<- hn]at h hl
 have hrow:=h.row
 rw[<- hn]at hrow
 have y1:∀q,(w.drewN q).cell? ⟨b,1,none⟩=some (.slice A n c):=fun q=>h.blk.cell 1
 have HR:=zh hrow;have HN:=zh hn
 clear h hrow hn
 go_enter Tryz.func65,Tryz.ntmps65
 go_wp2_with fail
 go_loopw [3,4] (fun s i wr=>∃(j q:Nat),j<=n/\i= .int .i64 (j:Int)/\s= .int .i64 (ksize (l.take j):Int)/\wr=w.drewN q) (fun _ i _=>n-(intOf i).toNat)
 case atStart=>exact⟨0,0,Nat.zero_le _,rfl,by simp[ksize],rfl⟩
 case round=>
  obtain⟨j,q,hj,rfl,rfl,rfl⟩:=hrel
  have y0:(w.drewN q).cell? ⟨b,1,none⟩=some (.slice A n c):=y1 q
  by_cases hlt:j<n
  ·obtain⟨x,hx⟩:∃x,l[j]? =some x:=⟨_,List.getElem?_eq_getElem (by rw[<- HN.out];exact hlt)⟩
   obtain⟨g,rfl,_,_⟩:=RSt.spot HR.out HN.out hx
   have k0:∀q,(w.drewN q).cell? ⟨g,j*2,none⟩=some (.string ⟨x.1.toArray⟩):=fun q=>by
    obtain⟨g',e,h1,h2⟩:=RSt.spot HR.out HN.out hx
    cases e
    exact h1
   have k1:∀q,(w.drewN q).cell? ⟨g,j*2+1,none⟩=some (.string ⟨x.2.toArray⟩):=fun q=>by
    obtain⟨g',e,h1,h2⟩:=RSt.spot HR.out HN.out hx
    cases e
    exact h2
   have hz1:=ksize_take_succ hx
   have hz2:=ksize_take_le l (j+1)
   have HZ:=zh hz1
   obtain⟨s,hs⟩:∃s,s=ksize (l.take j):=⟨_,rfl⟩
   rw[<- hs]at hz1 HZ ⊢
   have hw1:IntKind.i64.wrap ((s:Int)+(x.1.length:Int))=(s:Int)+(x.1.length:Int):=IntWalk.i64_in _ (by omega)
   have hw2:IntKind.i64.wrap ((s:Int)+(x.1.length:Int)+(x.2.length:Int))=(s:Int)+(x.1.length:Int)+(x.2.length:Int):=IntWalk.i64_in _ (by omega)
   have hjd:decide ((j:Int)<(n:Int))=true:=decide_eq_true (by omega)
   have hji:(j:Int)<(n:Int):=by omega
   have hwk:IntKind.i64.wrap ((j:Int)+1)=(j:Int)+1:=IntWalk.i64_in _ (by omega)
   clear hx hz1 hz2 hs
   go_upto_region 5 with fail
   go_quiet (fail)
   go_wp2_with fail
   go_roundw
   case rel=>exact⟨j+1,_,by omega,by go_num,by rw[HZ.out];push_cast;rw[<- Int.add_assoc],rfl⟩
   case measure=>simp[intOf]<;>omega
  ·obtain rfl:j=n:=by omega
   go_wp2_with fail
   go_ret
   refine⟨?_,q,rfl⟩
   rw[List.take_of_length_le (by rw[HN.out];exact Nat.le_refl _)]
   rfl
end
section
variable {w w':World}{b:Nat}{f:Int}{v:Value}{l:KL}
theorem rcopy_any(h:RSt w b f v l)(hl:l.length<=1000000):Calls Tryz.prog 61 #[.pointer (some ⟨b,0,none⟩)] w fun e w'=>
  Fresh w w'/\∃b' v',e= .returned (.pointer (some ⟨b',0,none⟩))/\w.heap.size<=b'/\RSt w' b' f v' l/\∀k,v'.ownBlock=some k->w.heap.size<=k/\k<w'.heap.size:=by
 obtain⟨A,c,rfl,_,_,_⟩:=h.row.form
 obtain⟨n,hn⟩:∃n,n=l.length:=⟨_,rfl⟩
 rw[<- hn]at h hl
 have hrow:=h.row
 rw[<- hn]at hrow
 have HS:=zh (show∀W,Fresh w W->W.cell? ⟨b,0,none⟩=some (.int .i64 f)/\W.cell? ⟨b,1,none⟩=some (.slice A n c) from fun W hW=>⟨(h.fresh hW).blk.cell 0,(h.fresh hW).blk.cell 1⟩)
 have HR:=zh (show∀W,Fresh w W->Src Tryz.prog 2 53 (.slice A n c) n (pairsV l) W from fun W hW=>(hrow.fresh hW).src Tryz.underlying53 (pairsV_one _))
 have HN:=zh hn
 clear h hrow hn
 obtain⟨y0,y1⟩:=HS.out w (Touch.refl _ _)
 go_enter Tryz.func61,Tryz.ntmps61
 go_upto_region 1 with fail
 go_region_held3 (fun W=>W.cell? ⟨b,0,none⟩=some (.int .i64 f)/\W.cell? ⟨b,1,none⟩=some (.slice A n c))
  (first | exact HS.out _ (by repeat (first | exact Touch.refl _ _ | refine Touch.alloc ?_ _ | refine Touch.drew ?_ | refine Touch.trans ?_ HFA.out (fun _ _=>id))) | go_keep)
  (first
  | (refine step_cp_src _ rfl _ _ 53 53 rfl 66 (.agg #[.string ⟨#[]⟩, .string ⟨#[]⟩]) 2 32 Tryz.info66 Tryz.underlying53 rfl (some ⟨_,0,none⟩) rfl (.slice A n c) n (pairsV l) rfl (HR.out _ (by repeat (first | exact Touch.refl _ _ | refine Touch.alloc ?_ _ | refine Touch.drew ?_))) (by unfold maxLen;omega) (by omega) ?_;intro BA cA2 wA hA hfA hoA;have HA:=zh hA;have HFA:=zh hfA;have HOA:=zh hoA;clear hA hfA hoA))
 all_goals
  go_wp2_with fail
  go_ret
  have hfa:Fresh w wA:=(by repeat (first | exact Touch.refl _ _ | refine Touch.alloc ?_ _ | refine Touch.drew ?_ | refine Touch.trans ?_ HFA.out (fun _ _=>id)))
  have s1:=hfa.size
  refine⟨hfa.alloc _,wA.heap.size, .slice BA n cA2,rfl,s1,⟨Blk.new wA _ _, ?_⟩,fun k hk=> ?_⟩
  ·rw[<- HN.out]
   exact HA.out.fresh ((Touch.refl _ wA).alloc _)
  ·have s2:=HFA.out.size
   rw[World.size_alloc]
   rcases HOA.out with e | ⟨e,e2⟩<;>(rw[hk]at e;simp only[Value.ownBlock,Option.some.injEq,World.size_alloc,World.size_drew]at e s2;(try simp only[World.size_alloc,World.size_drew]at e2);omega)
end
end Go.Proofs.YtjehlgblkfofpaaGreat