/- The claims' texts, several in one: Tle. Conditions stand with each theorem. -/
import Derived.Test.YtjehlgblkfofpaaGreatZa18
set_option maxHeartbeats 4000000
set_option maxRecDepth 100000
namespace Go.Proofs.YtjehlgblkfofpaaGreat
open Go.RowKit
attribute [local go_sem] Oper.semAt_some
def LKe(E:TypeId->Prop)(S:Nat->Prop)(B:Nat)(W W':World):Prop:=(∀k t cs,¬S k->(k<B\/¬E t)->Blk W k t cs->Blk W' k t cs)/\∀(p:Addr) (v:Value),¬S p.block->p.block<B->W.cell? p=some v->W'.cell? p=some v
theorem LKe.trans_{E:TypeId->Prop}{S:Nat->Prop}{Z:Nat}{A B C:World}(h:LKe E S Z A B)(h':LKe E S Z B C):LKe E S Z A C:=⟨fun k t cs hk hz hb=>h'.1 k t cs hk hz (h.1 k t cs hk hz hb),fun p v hk hz hb=>h'.2 p v hk hz (h.2 p v hk hz hb)⟩
theorem LKe.touch{E:TypeId->Prop}{S:Nat->Prop}{Z:Nat}{A B:World}(h:Touch S A B):LKe E S Z A B:=⟨fun _ _ _ hk _ hb=>hb.touch h hk,fun _ _ hk _ hb=>h.cell hb hk⟩
theorem LKe.fresh{E:TypeId->Prop}{S:Nat->Prop}{Z:Nat}{A B:World}(h:Fresh A B):LKe E S Z A B:= .touch (h.mono fun _ _=>False.elim)
theorem LKe.own{E:TypeId->Prop}{S:Nat->Prop}{Z:Nat}{W W':World}{e:TypeId}{sz n:Nat}{v:Value}{us:List Value}(h:LKe E S Z W W')(ho:Own W e sz v n us)(he:¬E e)(hn:∀k,v.ownBlock=some k->¬S k):Own W' e sz v n us:=by
 rcases ho.2 with hnil | ⟨g,cap,cur,rfl,hh,rest⟩
 ·exact⟨ho.1, .inl hnil⟩
 ·exact⟨ho.1, .inr ⟨g,cap,cur,rfl,h.1 g e cur (hn g rfl) (.inr he) hh,rest⟩⟩
theorem LKe.bs{E:TypeId->Prop}{S:Nat->Prop}{Z:Nat}{W W':World}{A:Option Addr}{n c:Nat}{xs:List UInt8}(h:LKe E S Z W W')(hb:Bs W A n c xs)(hn:∀a,A=some a->0<n->¬S a.block/\a.block<Z):Bs W' A n c xs:=
 hb.keep fun h0 p v hp ⟨a,ha,e⟩=>h.2 p v (by rw[e];exact(hn a ha h0).1) (by rw[e];exact(hn a ha h0).2) hp
theorem LKe.recs{E:TypeId->Prop}{S R:Nat->Prop}{Z:Nat}{W W':World}{vs:List Value}{rows:List (List UInt8)}(h:LKe E S Z W W')(hr:RecsOf W R vs rows)(hn:∀k,R k->¬S k/\k<Z):RecsOf W' R vs rows:=
 ⟨hr.len,fun i b hb=>by
  obtain⟨A,c,h1,h2,h3⟩:=hr.at_ i b hb
  have h4:=h.bs h2 fun a ha h0=>hn _ (h3 a ha h0).1
  refine⟨A,c,h1,h4,fun a ha h0=>⟨(h3 a ha h0).1, ?_⟩⟩
  obtain⟨b',o',e,hc⟩:=h4.2.2.2 h0
  have h5:=World.block_lt_of_cell? W' _ (hc 0 (b[0]'(by have:=h4.1;omega)) (List.getElem?_eq_getElem _))
  rw[ha]at e
  injection e with e
  rw[e]
  exact h5,hr.one⟩
theorem log_tolde(E:TypeId->Prop)(hE:¬E 29)(m fb bl bd:Nat)(R:Nat->Prop)(l0:Lg)(sv rv:Value)(vs:List Value)(S:Nat->Prop)(w:World)(hm:1<=m)(hb:Blk w fb 91 #[.pointer (some ⟨bl,0,none⟩)])(hL:LM w bl bd R l0 sv rv vs)(hnx:l0.c.next<=1000000000)(hrl:∀b∈l0.c.rows,b.length<=100000000)
  (hS:∀k,S k->k<w.heap.size) (hp:∀k,R k->¬S k/\k<w.heap.size):
  SeqF Fence.wide m Tryz.prog 89 #[.pointer (some ⟨fb,0,none⟩)] rcEnc (RcOk w.heap.size l0.c.first l0.c.rows) (LKe E S w.heap.size) (fun ys=>ys.length=l0.c.rows.length) (fun pre=>pre.length<=l0.c.rows.length) l0.c.rows.length w:=fun l J Jx W hW hJ hJx hY h0=>by
 have hBW:Blk W fb 91 #[.pointer (some ⟨bl,0,none⟩)]:=(hW.block fb hb.lt).trans hb
 have hwW:Touch (fun _=>False) w W:=Touch.ofBelow hW _
 have hLW:LM W bl bd R l0 sv rv vs:=hL.fresh hwW
 have hsz:=hW.size
 have hlen:l0.c.first+l0.c.rows.length<=1000000000:=hnx
 refine callsIn_of_wp Tryz.func89 rfl trivial ?_ rfl
 simp only[Tryz.ntmps89,List.size_toArray,List.length_cons,List.length_nil,Nat.reduceAdd,Nat.reduceSub,Array.replicate_succ,Array.replicate_zero,List.push_toArray,List.append_toArray,List.nil_append,List.cons_append]
 refine wpIn_wide.2 ?_
 have hform:=hLW.rows.form
 have HJ:=zh hJ;have HY:=zh hY;have HJ0:=zh h0;have HP:=zh hp;have HS:=zh hS;have HRL:=zh hrl
 have HREC:=zh hLW.recs
 have c0:W.cell? ⟨fb,0,none⟩=some (.pointer (some ⟨bl,0,none⟩)):=hBW.cell 0
 have c3:W.cell? ⟨bl,3,none⟩=some (.int .i64 (l0.c.first:Int)):=hLW.blk.cell 3
 have c4:W.cell? ⟨bl,4,none⟩=some rv:=hLW.blk.cell 4
 have HST:=zh (show∀V,Fresh W V->Fresh W V/\V.cell? ⟨fb,0,none⟩=some (.pointer (some ⟨bl,0,none⟩))/\V.cell? ⟨bl,3,none⟩=some (.int .i64 (l0.c.first:Int))/\V.cell? ⟨bl,4,none⟩=some rv from fun V hV=>⟨hV,hV.cell c0 id,hV.cell c3 id,hV.cell c4 id⟩)
 have KC:=zh (show∀V,Fresh W V->Calls Tryz.prog 90 #[rv] V fun e w'=>Fresh V w'/\∃B c',e= .returned (.slice B l0.c.rows.length c')/\Own w' 29 1 (.slice B l0.c.rows.length c') l0.c.rows.length vs/\∀k,(Value.slice B l0.c.rows.length c').ownBlock=some k->V.heap.size<=k from fun V hV=>cloneR_any rv l0.c.rows.length vs V (hLW.rows.fresh hV) hLW.recs.one (by omega))
 clear hb hL hBW hLW hJ hY h0 hp hW hwW hS hrl hform
 go_upto_region 0 with fail
 go_region_held (fun V=>Fresh W V/\V.cell? ⟨fb,0,none⟩=some (.pointer (some ⟨bl,0,none⟩))/\V.cell? ⟨bl,3,none⟩=some (.int .i64 (l0.c.first:Int))/\V.cell? ⟨bl,4,none⟩=some rv)
  (first | exact HST.out _ ((Touch.refl _ W).drew) | exact HST.out _ (Touch.refl _ W) | assumption)
  (first
   | (go_at_call 90;refine(KC.out _ (And.left (by assumption))).mono ?_;rintro e w3 ⟨t3,B,c,rfl,ho3,hn3⟩;have k2:=HST.out w3 ((And.left (by assumption:Fresh W _/\ _)).trans t3 fun _ _=>id);have HO1:=zh ho3;have HNEW:=zh (show∀k,(Value.slice B l0.c.rows.length c).ownBlock=some k->W.heap.size<=k from fun k hk=>Nat.le_trans (Touch.size (And.left (by assumption:Fresh W _/\ _))) (hn3 k hk));clear ho3 hn3))
 have HF1:=zh k2.1
 have HJ1:=zh (HJ.out [] _ _ HJ0.out HF1.out)
 have HV1:=zh (HREC.out.touch HF1.out fun _ _=>id)
 clear k2 c0 c3 c4
 go_wp2_with fail
 go_loopw [18] (fun i wr=>∃pre:List RcY,pre.length<=l0.c.rows.length/\i= .int .i64 pre.length/\J pre wr/\Own wr 29 1 (.slice B l0.c.rows.length c) l0.c.rows.length vs/\RecsOf wr R vs l0.c.rows/\True) (fun i _=>l0.c.rows.length-(intOf i).toNat)
 case atStart=>
  exact⟨[],Nat.zero_le _,rfl,HJ1.out,HO1.out,HV1.out,trivial⟩
 case round=>
  obtain⟨pre,hpl,rfl,hj,ho,hv,hsz1⟩:=hrel
  have HJR:=zh hj;have HOR:=zh ho;have HVR:=zh hv
  obtain⟨k,hk⟩:∃k,k=pre.length:=⟨_,rfl⟩
  rw[<- hk]at hpl ⊢
  have HK:=zh hk
  clear hj ho hv hk
  by_cases hlt:k<l0.c.rows.length
  ·obtain⟨b,hbk⟩:∃b,l0.c.rows[k]? =some b:=⟨_,List.getElem?_eq_getElem hlt⟩
   obtain⟨A,cb,hvk,hbs,hRk⟩:=HVR.out.at_ k b hbk
   obtain⟨g,rfl⟩:∃g,B=some ⟨g,0,none⟩:=by
    obtain⟨A',c',hv,_,_,hA'⟩:=HOR.out.form
    injection hv with e1 _ _
    rcases hA' with⟨_,h0,_⟩ | ⟨g,hg⟩
    ·omega
    ·exact⟨g,e1.trans hg⟩
   have hck:wr.cell? ⟨g,k,none⟩=some (.slice A b.length cb):=by
    have:=HOR.out.cell (j:=k) (by omega)
    rw[hvk]at this
    simpa using this
   have KB:=zh (clone_any A b.length cb b wr hbs (by have:=HRL.out b (List.mem_of_getElem? hbk);omega))
   have HBK:=zh hbk
   have hwi:IntKind.i64.wrap ((l0.c.first:Int)+(k:Int))=(l0.c.first:Int)+(k:Int):=IntWalk.i64_in _ (by omega)
   clear hbs hRk hvk hbk
   refine wpIn_wide (n:=m).1 ?_
   gi_wp2
   refine⟨trivial,(callsIn_wide (n:=m-1).2 KB.out).mono ?_⟩
   rintro e w3 ⟨hf3,B3,c3,rfl,hr3,hn3⟩
   have HF3:=zh hf3
   have HX:=zh (show RcOk w.heap.size l0.c.first l0.c.rows pre (l0.c.first+k,b, .slice B3 b.length c3) w3 from⟨by rw[HK.out],by rw[<- HK.out];exact HBK.out,hr3,fun q hq=>by
    cases B3 with
    | none=>cases hq
    | some a=>
     have h1:=hn3 a rfl
     have h3:=HNEW.out g rfl
     have h4:=HOR.out.lt g rfl
     have hak:a.block=q:=by simpa [Value.ownBlock] using hq
     omega⟩)
   have HJ3:=zh (HJ.out pre _ _ HJR.out hf3)
   have hy0:=HY.out pre (l0.c.first+k,b, .slice B3 b.length c3) w3 HJ3.out HX.out (by have:=HK.out;omega)
   have HSUM:=zh (show ((l0.c.first+k:Nat):Int)=(l0.c.first:Int)+(k:Int) by omega)
   clear hf3 hr3 hn3
   obtain⟨fn,tmps,assign,body,hy,hR⟩:=hy0
   dsimp only[rcEnc]at hy
   rw[HSUM.out]at hy
   gi_wp2
   refine hR.mono ?_
   rintro e W3 (⟨rfl,hJ3,hk3⟩ | ⟨rfl,hJx3⟩)
   ·have HOW:=zh (hk3.own ((HOR.out.touch HF3.out fun _ _=>id)) hE fun q hq e=>by
     have h1:=HNEW.out q hq
     have h2:=HS.out q e
     omega)
    have HVW:=zh (show RecsOf W3 R vs l0.c.rows from hk3.recs (HVR.out.touch HF3.out fun _ _=>id) HP.out)
    have HJW:=zh hJ3
    clear hk3 hJ3 hR
    gi_wp2
    go_roundw
    case rel=>
     exact⟨_,by simp;have:=HK.out;omega,by have:=HK.out;go_num,HJW.out,HOW.out,HVW.out,trivial⟩
    case measure=>simp[intOf]<;>omega
   ·have HJW:=zh hJx3
    clear hJx3 hR
    gi_wp2
    refine bodyPost_ret (results_none rfl _ _ _) rfl ?_
    exact⟨⟨_,rfl⟩, .inr ⟨_,by have:=HK.out;simp;omega,HJW.out⟩⟩
  ·obtain rfl:k=l0.c.rows.length:=by omega
   go_wp2_with fail
   go_end0
   exact⟨⟨_,rfl⟩, .inl ⟨pre,HK.out.symm,HJR.out⟩⟩
end Go.Proofs.YtjehlgblkfofpaaGreat