/- The claims' texts, several in one: RndQ, Tid, Free, Sgs, SeqO, Told, Fra, Fto, Sqf, Sqg. Conditions stand with each theorem. -/
import Derived.Test.YtjehlgblkfofpaaGreatZa17
import Derived.RangeFuncNested
import Derived.RangeFuncBound
import Derived.RangeFuncCalls
import Derived.RangeFuncLeaves
import Derived.Shelf.Abstract
import Derived.Shelf.RegionOpen
import Derived.WalkKit
import Derived.OwnWalkIn
import Derived.TacticsInMore
import Derived.LoopNIn
import Derived.LoopIn
import Derived.ScopeJumps
import Derived.Sort.BigQuietIn
import Derived.StillTail
import Derived.BigQuiet
import Derived.Test.YtjehlgblkfofpaaGreatZa02
set_option maxHeartbeats 8000000
set_option maxRecDepth 200000
namespace Go.Proofs.YtjehlgblkfofpaaGreat
open Go.RowKit
variable {F:Fence}{n:Nat}{P:Program}{md:Region.Mode}{ops:Array Oper}{Q:Exit->Act->World->Prop}
theorem op_round{o:Oper}(l:Nat)(hro:F.round=none)(hd:∀c,o.op≠ .defer c){a:Act}{w:World}{K:Act->World->Prop}(h:o.wpIn F n P a w K Q):o.wpIn (F.inRound l) n P a w K Q:=by
 unfold Oper.wpIn at h ⊢
 rw[hro]at h
 rw[Fence.inRound_round,Oper.semAt_some l _ _ hd]
 exact h
theorem opIn_round{i:Nat}(l:Nat)(hro:F.round=none)(hd:∀o∈ops.toList,∀c,o.op≠ .defer c){a:Act}{w:World}{K:Act->World->Prop}(h:wpOpIn F n P ops Q i K a w):wpOpIn (F.inRound l) n P ops Q i K a w:=by
 unfold wpOpIn at h ⊢
 split
 ·rename_i ho
  simpa only[ho] using h
 ·rename_i o ho
  simp only[ho]at h
  split
  ·rename_i hw
   simp only[hw,if_true]at h
   exact op_round l hro (hd o (by obtain⟨hi,e⟩:=Array.getElem?_eq_some_iff.1 ho;rw[<- e];exact Array.getElem_mem_toList hi)) h
  ·rename_i hw
   simp only[hw]at h
   exact h
theorem anyIn_round(l:Nat)(hro:F.round=none)(hd:∀o∈ops.toList,∀c,o.op≠ .defer c):∀(fuel:Nat) (listed:Array Bool) (a:Act) (w:World),wpAnyIn F n P md ops Q fuel listed a w->wpAnyIn (F.inRound l) n P md ops Q fuel listed a w
 | 0,_,_,_,h=>h
 | fuel+1,_,_,_,h=>⟨h.1,fun i hi=>opIn_round l hro hd (wpOpIn_mono (fun a' w' h'=>anyIn_round l hro hd fuel _ a' w' h') (h.2 i hi))⟩
theorem region_round{id:Nat}{a:Act}{w:World}{ol:List Oper}(l:Nat)(hro:F.round=none)(hd:∀o∈ol,∀c,o.op≠ .defer c)(hm:P.follows .mixedOrders=true)(hB:Region.lexB .any ol.toArray=true)
  (h:wpQuietIn F n P ol.toArray (fun w'=>∃n,w'=w.drewN n) (fun a'=>∀w',(∃n,w'=w.drewN n)->Q .normal a' w') ol a):(Code.region id ol.toArray true).wpIn (F.inRound l) n P Q a w:=by
 simp only[Region.lexB,Bool.and_eq_true]at hB
 refine wpIn_region_any hm (anyIn_round l hro hd _ _ _ _ ?_)
 refine wpAnyIn_of_quiet (C:=fun w'=>∃n,w'=w.drewN n) (Q:=fun a'=>∀w',(∃n,w'=w.drewN n)->Q .normal a' w') hro (fun _ w' hw' h=>h w' hw') _ _ _ _ ⟨1,rfl⟩ ?_
 have:=wpAnyQIn_lex (F:=F) (n:=n) (C:=fun w'=>∃n,w'=w.drewN n) (md:= .any) hB.1 ol 0 (Array.replicate ol.length false) a (by simp) (by simpa using hB.2) h
 simpa using this
theorem still_of_quiet{o:Oper}{a:Act}{w:World}{K K':Act->Prop}(hk:∀a,K a->K' a)(h:o.quiet P a (fun w'=>w'=w) K):o.still P a w K':=by
 obtain⟨v,hv,hK⟩:=h
 have hq:=hv w rfl
 unfold Oper.still
 unfold Oper.quietAt at hq
 generalize (execOp a.eval o).run P w=r at hq ⊢
 cases r with
 | ok x w'=>
  cases x with
  | value y=>
   obtain⟨rfl,rfl⟩:=hq
   exact⟨rfl,hk _ hK⟩
  | skip=>
   obtain⟨rfl,rfl⟩:=hq
   exact⟨rfl,hk _ hK⟩
  | enter f args=>
   obtain⟨rfl,hc⟩:=hq
   exact⟨rfl,v,hc,hk _ hK⟩
  | _=>exact hq.elim
 | halt x w'=>exact hq.elim
theorem wpStill_of_quiet{w:World}{R:Act->Prop}:∀(ol:List Oper) (a:Act),wpQuiet P ops (fun w'=>w'=w) R ol a->wpStill P ops w R ol a
 | [],_,h=>h
 | o :: rest,a,h=>by
  unfold wpQuiet at h
  unfold wpStill
  split at h
  ·rename_i hw
   rw[if_pos hw]
   exact still_of_quiet (fun a' h'=>wpStill_of_quiet rest a' h') h
  ·rename_i hw
   rw[if_neg hw]
   exact wpStill_of_quiet rest _ h
theorem region_tail{id:Nat}{a:Act}{w:World}{ol:List Oper}(m:Nat)(hm:P.follows .mixedOrders=true)(hB:Region.lexTailB .any ol.toArray m=true){l1 l2:List Oper}(h1:ol.take m=l1)(h2:ol.drop m=l2)
  (h:wpQuiet P ol.toArray (fun w'=>w'=w.drew) (fun a'=>wpList P ol.toArray Q l2 a' w.drew) l1 a):(Code.region id ol.toArray true).wp P Q a w:=by
 subst h1 h2
 exact wp_region_still_tail m hm hB (wpStill_of_quiet _ _ h)
theorem segsC_get(l:List Seg)(i:Nat){s:Seg}(h:l[i]? =some s){j:Nat}(hj:j<8):(segsC l)[i*8+j]? =(segC s)[j]? :=by
 have h1:(segsC l).drop (i*8)=segsC (l.drop i):=segsC_drop l i
 have h2:l.drop i=s :: l.drop (i+1):=by
  obtain⟨hi,e⟩:=List.getElem?_eq_some_iff.1 h
  rw[List.drop_eq_getElem_cons hi,e]
 rw[<- List.getElem?_drop,h1,h2]
 show (segC s++segsC (l.drop (i+1)))[j]? = _
 rw[List.getElem?_append_left (by rw[segC_len];exact hj)]
def lenCell(w:World)(bl:Nat):Nat:=match w.cell? ⟨bl,2,none⟩ with
 | some (.slice _ n _)=>n
 | _=>0
section
variable {w:World}{bl bd:Nat}{R S:Nat->Prop}{l:Lg}{sv rv:Value}{vs:List Value}{d:Dk}{K:Nat}
def TidyEnd(w:World)(bl bd:Nat)(R S:Nat->Prop)(l:Lg)(sv rv:Value)(vs:List Value)(d:Dk)(e:Ending)(w':World):Prop:=
 e= .returned (.tuple #[])/\∃S' sv',LX w w' bl bd S R sv rv { l with segs:=(tidyP l.c.first d l.segs).2 } (tidyP l.c.first d l.segs).1 S' R sv' rv vs
theorem LX.tail{w1 w2:World}{S1:Nat->Prop}{l1:Lg}{d1:Dk}{s:Seg}{r:List Seg}{g q n c:Nat}(hl:l1.segs=s :: r)(h:LX w w1 bl bd S R sv rv l1 d1 S1 R (.slice (some ⟨g,q,none⟩) n c) rv vs)
  (hw:w2=w1.setCell ⟨bl,2,none⟩ (.slice (some ⟨g,q+8,none⟩) (n-1) (c-1))):LX w w2 bl bd S R sv rv { l1 with segs:=r } d1 S1 R (.slice (some ⟨g,q+8,none⟩) (n-1) (c-1)) rv vs:=by
 have hm:=h.ld.lm
 have hT:Touch (·=bl) w1 w2:=by rw[hw];exact(Touch.refl (·=bl) w1).setCell (p:=⟨bl,2,none⟩) (.inr rfl) _
 have hn:n=r.length+1:=by
  have h1:=hm.segs.1
  obtain⟨A',c',e,_⟩:=hm.segs.form
  injection e with _ e _
  rw[e,hl]
  rfl
 have hd:=hm.segs
 rw[hl,show (s :: r).length=n from hn.symm]at hd
 have hd:=hd.drop (k:=1) (by omega)
 rw[segsC_drop (s :: r) 1,Nat.one_mul]at hd
 refine h.own (hT.mono fun k _ hk=> .inl hk) ⟨?_, ?_, ?_, ?_⟩ (fun k hk=> .inl ?_) fun k hk=> .inl hk
 ·have:=hm.blk.set_ 2 (.slice (some ⟨g,q+8,none⟩) (n-1) (c-1))
  rw[<- hw]at this
  simpa using this
 ·show Ow w2 _ 8 _ r.length (segsC r)
  rw[show r.length=n-1 by omega]
  refine hd.touch hT fun k hk e=>hm.segs.ne_blk hm.blk (by decide) ?_
  simp only[Value.ownBlock,Option.some.injEq]at hk ⊢
  exact hk.trans e
 ·exact hm.rows.touch hT fun k hk e=>hm.rows.ne_blk hm.blk (by decide) (by rw[hk,e])
 ·exact hm.recs.touch hT fun k hk e=>h.ld.nR k (.inl e) hk
 ·rcases hk with hk | hk | hk
  ·exact .inl hk
  ·exact .inr (.inl (by simpa [Value.ownBlock] using hk))
  ·exact .inr (.inr hk)
theorem tidy_any(h:LD w bl bd S R l d sv rv vs)(hs:d.small K)(hK:K+l.segs.length<=900000000)(hfl:∀s∈l.segs,s.file<9223372036854775808):
  Calls Tryz.prog 80 #[.pointer (some ⟨bl,0,none⟩)] w (TidyEnd w bl bd R S l sv rv vs d):=by
 have H0:=zh h.same
 have HFL:=zh hfl;have HS:=zh hs;have HK:=zh hK
 clear h hfl hs hK
 go_enter Tryz.func80,Tryz.ntmps80
 go_wp2_with fail
 go_loopw [] (fun wr=>∃d' segs' S' sv',LX w wr bl bd S R sv rv { l with segs:=segs' } d' S' R sv' rv vs/\tidyP l.c.first d l.segs=tidyP l.c.first d' segs'/\d'.small (K+(l.segs.length-segs'.length))/\segs'.length<=l.segs.length/\∀s∈segs',s.file<9223372036854775808) (fun wr=>lenCell wr bl)
 case atStart=>exact⟨d,l.segs,S,sv,H0.out,rfl,by rw[Nat.sub_self];exact HS.out,Nat.le_refl _,HFL.out⟩
 case round=>
  obtain⟨d',segs',S',sv',hx,heq,hsm,hle,hff⟩:=hrel
  have HX:=zh hx;have HEQ:=zh heq;have HSM:=zh hsm;have HLE:=zh hle;have HFF:=zh hff
  have hm:=hx.ld.lm
  obtain⟨A,c,rfl,hnc,hcm,hA⟩:=hm.segs.form
  dsimp only at hnc hA
  have c0:wr.cell? ⟨bl,0,none⟩=some (.pointer (some ⟨bd,0,none⟩)):=hm.blk.cell 0
  have c2:wr.cell? ⟨bl,2,none⟩=some (.slice A segs'.length c):=hm.blk.cell 2
  have c3:wr.cell? ⟨bl,3,none⟩=some (.int .i64 (l.c.first:Int)):=hm.blk.cell 3
  have f2:=hm.blk.frozen 2
  have hsegs:=hm.segs
  clear hx heq hsm hle hff hm
  by_cases h1:segs'.length<=1
  ·have hg1:decide ((1:Int)<(segs'.length:Int))=false:=by simp;omega
   have hg2:¬(1:Int)<(segs'.length:Int):=by omega
   have HT:=zh (show tidyP l.c.first d' segs'=(d',segs') by
    rcases segs' with _ | ⟨s,_ | ⟨t,r⟩⟩
    ·rfl
    ·rfl
    ·simp at h1)
   clear hsegs hA
   go_wp2_with fail
   go_quiet (fail)
   go_wp2_with fail
   go_end0
   refine⟨rfl,S', .slice A segs'.length c, ?_⟩
   rw[HEQ.out,HT.out]
   exact HX.out.fresh ((Touch.refl _ wr).drewN _)
  ·obtain⟨s,t,r,rfl⟩:∃s t r,segs'=s :: t :: r:=by
    rcases segs' with _ | ⟨s,_ | ⟨t,r⟩⟩
    ·simp at h1
    ·simp at h1
    ·exact⟨s,t,r,rfl⟩
   obtain⟨g,o,rfl⟩:∃g o,A=some ⟨g,o*8,none⟩:=by
    rcases hA with⟨_,h2,_⟩ | ⟨g,o,e⟩
    ·simp at h2
    ·exact⟨g,_,e⟩
   generalize hq:o*8=q at*
   have hgv:∀j,j<8->wr.cell? ⟨g,q+j,none⟩=(segC s)[j]? :=fun j hj=>by
    rw[hsegs.cell (j:=j) (by simp only[List.length_cons];omega)]
    have:=segsC_get (s :: t :: r) 0 (s:=s) rfl hj
    rwa [Nat.zero_mul,Nat.zero_add]at this
   have g7:wr.cell? ⟨g,q+7,none⟩=some (.int .i64 (s.last:Int)):=hgv 7 (by omega)
   have g5:wr.cell? ⟨g,q+5,none⟩=some (.int .i64 (s.file:Int)):=hgv 5 (by omega)
   clear hgv hsegs hA
   have hn1:(1:Int)<(((s :: t :: r).length:Nat):Int):=by simp only[List.length_cons];omega
   obtain⟨n,hn⟩:∃n,n=(s :: t :: r).length:=⟨_,rfl⟩
   rw[<- hn]at c2 hn1 hnc
   have HN:=zh hn
   have hg1:decide ((1:Int)<(n:Int))=true:=by simp;omega
   have hn2:2<=n:=by rw[hn];simp only[List.length_cons];omega
   have hz:¬c=1:=by omega
   clear hn
   by_cases hlast:s.last<=l.c.first
   ·have hl1:(s.last:Int)<=(l.c.first:Int):=by omega
    have hl2:decide ((s.last:Int)<=(l.c.first:Int))=true:=by simpa using hl1
    have HST:=zh (show∀W,Fresh wr W->Fresh wr W/\W.cell? ⟨bl,0,none⟩=some (.pointer (some ⟨bd,0,none⟩))/\W.cell? ⟨bl,2,none⟩=some (.slice (some ⟨g,q,none⟩) n c)/\W.cell? ⟨g,q+5,none⟩=some (.int .i64 (s.file:Int)) from fun W hW=>⟨hW,hW.cell c0 id,hW.cell c2 id,hW.cell g5 id⟩)
    have HWF:=zh (HFF.out s (List.mem_cons_self ..))
    have KD:=zh (show∀W,Fresh wr W->Calls Tryz.prog 116 #[.pointer (some ⟨bd,0,none⟩), .int .i64 (s.file:Int)] W fun e w'=>e= .returned (.int .i64 (d'.why s.file))/\Touch S' W w'/\Disk w' (more S' W w') bd (d'.delete s.file) from fun W hW=>disk_delete (HX.out.ld.dk.fresh hW) HSM.out (by have:=HK.out;omega) (nat_wf HWF.out))
    have hc1:(1:Int)<=(c:Int):=by omega
    have HM:=zh (show lenCell wr bl=n by unfold lenCell;rw[c2])
    clear HST
    by_cases hw:d'.why s.file=0
    ·have HT:=zh (show tidyP l.c.first d' (s :: t :: r)=tidyP l.c.first (d'.delete s.file) (t :: r) by
      rw[tidyP,if_pos hlast,if_pos hw])
     rw[hw]at KD
     clear hw
     go_wp2_with fail
     go_quiet (fail)
     go_wp2_with fail
     refine region_tail 11 (by kernel_rfl) (by kernel_rfl) rfl rfl ?_
     simp only[List.take_succ_cons,List.take_zero,List.drop_succ_cons,List.drop_zero]
     repeat (go_big_quiet_step (fail))
     refine wpQuiet_nil ?_
     go_wp2_with fail
     refine(KD.out _ (by first | exact(Touch.refl _ wr).drewN _ | exact((Touch.refl _ wr).drewN _).drew)).mono ?_
     rintro e w2 ⟨rfl,ht2,hd2⟩
     have HX2:=zh (LX.disk (HX.out.fresh (by first | exact(Touch.refl _ wr).drewN _ | exact((Touch.refl _ wr).drewN _).drew)) ht2 hd2)
     clear ht2 hd2 KD c0 c2 c3 f2 g5 g7 HX
     have c2:w2.cell? ⟨bl,2,none⟩=some (.slice (some ⟨g,q,none⟩) n c):=by rw[HN.out];exact HX2.out.ld.lm.blk.cell 2
     have f2:=HX2.out.ld.lm.blk.frozen 2
     go_wp2_with fail
     go_roundw
     case rel=>
      have hx2:=HX2.out
      rw[<- HN.out]at hx2
      have hx3:=LX.tail rfl hx2 rfl
      refine⟨_,t :: r,_,_,hx3,HEQ.out.trans HT.out, ?_, ?_,fun x hx=>HFF.out x (List.mem_cons_of_mem _ hx)⟩
      ·exact(delete_small HSM.out).mono (by have:=HLE.out;simp only[List.length_cons]at this ⊢;omega)
      ·have:=HLE.out;simp only[List.length_cons]at this ⊢;omega
     case measure=>
      have h0:(w2.setCell ⟨bl,2,none⟩ (.slice (some ⟨g,q+8,none⟩) (n-1) (c-1))).cell? ⟨bl,2,none⟩=some (.slice (some ⟨g,q+8,none⟩) (n-1) (c-1)):=World.cell?_setCell_same' _ _ _ (by rw[c2];rfl)
      rw[HM.out]
      unfold lenCell
      rw[h0]
      show n-1<n
      omega
    ·have HT:=zh (show tidyP l.c.first d' (s :: t :: r)=(d'.delete s.file,s :: t :: r) by
      rw[tidyP,if_pos hlast,if_neg hw])
     have hw2:¬d'.why (s.file:Int)=0:=hw
     clear hw
     generalize d'.why (s.file:Int)=y at*
     go_wp2_with fail
     go_quiet (fail)
     go_wp2_with fail
     refine region_tail 11 (by kernel_rfl) (by kernel_rfl) rfl rfl ?_
     simp only[List.take_succ_cons,List.take_zero,List.drop_succ_cons,List.drop_zero]
     repeat (go_big_quiet_step (fail))
     refine wpQuiet_nil ?_
     go_wp2_with fail
     refine(KD.out _ (by first | exact(Touch.refl _ wr).drewN _ | exact((Touch.refl _ wr).drewN _).drew)).mono ?_
     rintro e w2 ⟨rfl,ht2,hd2⟩
     have HX2:=zh (LX.disk (HX.out.fresh (by first | exact(Touch.refl _ wr).drewN _ | exact((Touch.refl _ wr).drewN _).drew)) ht2 hd2)
     clear ht2 hd2 KD c0 c2 c3 f2 g5 g7 HX
     go_wp2_with fail
     refine bodyPost_ret (results_none rfl _ _ _) rfl ?_
     have hx2:=HX2.out
     refine⟨rfl,more S' (wr.drewN (nq+1)) w2, .slice (some ⟨g,q,none⟩) (s :: t :: r).length c, ?_⟩
     rw[HEQ.out,HT.out]
     exact hx2
   ·have hl1:¬(s.last:Int)<=(l.c.first:Int):=by omega
    have hl2:decide ((s.last:Int)<=(l.c.first:Int))=false:=by simp;omega
    have HT:=zh (show tidyP l.c.first d' (s :: t :: r)=(d',s :: t :: r) by
     unfold tidyP
     rw[if_neg hlast])
    go_wp2_with fail
    go_quiet (fail)
    go_wp2_with fail
    go_end0
    refine⟨rfl,S', .slice (some ⟨g,q,none⟩) (s :: t :: r).length c, ?_⟩
    rw[HEQ.out,HT.out]
    exact HX.out.fresh ((Touch.refl _ wr).drewN _)
end
attribute [local go_sem] Oper.semAt_some
theorem BSet.grown{w w':World}{b:Nat}{l:List Int}{row:Option Nat}(h:BSet w b l)(hg:w.grownBy w' row)(hn:some b≠row):BSet w' b l:=h.heap (hg.block b h.lt hn)
theorem BSet.ne_own{w:World}{b:Nat}{l:List Int}{e:TypeId}{sz n:Nat}{v:Value}{us:List Value}(h:BSet w b l)(ho:Own w e sz v n us):some b≠v.ownBlock:=by
 intro hb
 rcases ho.2 with hnil | ⟨g,cap,cur,rfl,hh,_⟩
 ·rw[hnil.1]at hb
  cases hb
 ·injection hb with hb
  exact h.ne_blk (t:=e) hh hb
def segF(segs:List Seg):List Int:=segs.map fun s=>(s.file:Int)
theorem isSeg_mem(segs:List Seg)(f:Fl):isSeg segs f=true↔f.n∈segF segs:=by
 unfold isSeg segF
 rw[List.any_eq_true,List.mem_map]
 constructor
 ·rintro⟨s,h1,h2⟩;exact⟨s,h1,of_decide_eq_true h2⟩
 ·rintro⟨s,h1,h2⟩;exact⟨s,h1,decide_eq_true h2⟩
theorem strangeN_mem{fs:List Fl}{base:Nat}{segs:List Seg}{m:Int}(h:m∈strangeN fs base segs):m∈fs.map Fl.n:=by
 unfold strangeN at h
 obtain⟨f,h1,h2⟩:=List.mem_map.1 h
 exact List.mem_map.2 ⟨f,(List.mem_filter.1 h1).1,h2⟩
theorem strangeN_snoc(fs:List Fl)(f:Fl)(base:Nat)(segs:List Seg):strangeN (fs++ [f]) base segs=if (inR base f && !isSeg segs f)=true then strangeN fs base segs++ [f.n] else strangeN fs base segs:=by
 unfold strangeN
 rw[List.filter_append,List.map_append]
 by_cases h:(inR base f && !isSeg segs f)=true
 ·rw[if_pos h,List.filter_cons,if_pos h]
  rfl
 ·rw[if_neg h,List.filter_cons,if_neg h]
  simp
theorem used_all(fs:List Fl)(base:Nat)(segs:List Seg)(m:Int):m∈(strangeN fs base segs).reverse++segF segs↔m∈usedN fs base segs:=by
 unfold usedN strangeN
 rw[List.mem_append,List.mem_append,List.mem_reverse]
 constructor
 ·rintro(h | h)
  ·obtain⟨f,h1,h2⟩:=List.mem_map.1 h
   obtain⟨h3,h4⟩:=List.mem_filter.1 h1
   rw[Bool.and_eq_true]at h4
   exact .inr (List.mem_map.2 ⟨f,List.mem_filter.2 ⟨h3,h4.1⟩,h2⟩)
  ·exact .inl h
 ·rintro(h | h)
  ·exact .inr h
  ·obtain⟨f,h1,h2⟩:=List.mem_map.1 h
   obtain⟨h3,h4⟩:=List.mem_filter.1 h1
   by_cases hs:isSeg segs f=true
   ·exact .inr (h2 ▸ (isSeg_mem segs f).1 hs)
   ·exact .inl (List.mem_map.2 ⟨f,List.mem_filter.2 ⟨h3,by rw[h4];simp[hs]⟩,h2⟩)
theorem nodup_take{α:Type}{l:List α}(h:l.Nodup){j:Nat}{x:α}(hj:l[j]? =some x):x ∉ l.take j:=by
 intro hx
 obtain⟨i,hi,e⟩:=List.mem_iff_getElem.1 hx
 rw[List.length_take]at hi
 rw[List.getElem_take]at e
 obtain⟨hj1,hj2⟩:=List.getElem?_eq_some_iff.1 hj
 have:=(List.getElem_inj h).1 (e.trans hj2.symm)
 omega
theorem intsV_append(a b:List Int):intsV (a++b)=intsV a++intsV b:=by simp[intsV]
theorem free_step{w wr w4 w5 w6:World}{v:Value}{T U:List Int}{x:Int}{B B4:Option Addr}{n cf c4:Nat}{fsV:List Value}
  (hf:Fresh w wr) (hof:Own wr 3 1 (.slice B n cf) n fsV) (_ho:Own wr 3 1 v T.length (intsV T)) (hn:∀q,v.ownBlock=some q->w5.heap.size<=q) (hz:w5.heap.size<=wr.heap.size)
  {o:Obj} (g4:(wr.alloc o).grownBy w4 v.ownBlock) (b4:(Value.slice B4 (T.length+1) c4).ownBlock=v.ownBlock\/(Value.slice B4 (T.length+1) c4).ownBlock=some (wr.alloc o).heap.size)
  (o4:Own w4 3 1 (.slice B4 (T.length+1) c4) (T.length+1) (intsV T++ [.int .i64 x])) (hb4:BSet w4 w.heap.size U) (_hb6:BSet w6 w.heap.size (x :: U)) (g6:w4.grownBy w6 (some w.heap.size)) (h5:w.heap.size<=w5.heap.size) (hof5:Own w5 3 1 (.slice B n cf) n fsV):
  Own w6 3 1 (.slice B4 (T.length+1) c4) (T.length+1) (intsV T++ [.int .i64 x])/\(∀q,(Value.slice B4 (T.length+1) c4).ownBlock=some q->w5.heap.size<=q)/\Fresh w w6/\Own w6 3 1 (.slice B n cf) n fsV/\w5.heap.size<=w6.heap.size:=by
 have hs4:=g4.size
 have hs6:=g6.size
 have hsa:(wr.alloc o).heap.size=wr.heap.size+1:=World.size_alloc _ _
 have hx:∀q,(Value.slice B4 (T.length+1) c4).ownBlock=some q->w5.heap.size<=q:=fun q hq=>by
  rcases b4 with e | e
  ·exact hn q (e.symm.trans hq)
  ·rw[hq]at e
   injection e with e
   omega
 have hf4:Fresh w w4:=(hf.alloc o).grown g4 fun q hq=> .inl (by have:=hn q hq;omega)
 have hof4:Own w4 3 1 (.slice B n cf) n fsV:=(hof.alloc o).grown g4 fun k hk e=>by
  have h3:=hof5.lt k hk
  have h4:=hn k e.symm
  omega
 refine⟨o4.grown g6 fun k hk e=> ?_,hx,hf4.grown g6 fun q hq=> .inl (by injection hq with hq;omega),hof4.grown g6 fun k hk e=> ?_,by omega⟩
 ·exact hb4.ne_own o4 (by rw[<- e,hk])
 ·exact hb4.ne_own hof4 (by rw[<- e,hk])
section
variable {w:World}{bl bd:Nat}{R S:Nat->Prop}{l:Lg}{sv rv:Value}{vs:List Value}{d:Dk}{K:Nat}
def FreeEnd(w:World)(l:Lg)(d:Dk)(e:Ending)(w':World):Prop:=
 Fresh w w'/\∃B c,e= .returned (.tuple #[.int .i64 (freeP (usedN d.fs l.base l.segs) l.base:Nat), .slice B (strangeN d.fs l.base l.segs).length c])/\
  Own w' 3 1 (.slice B (strangeN d.fs l.base l.segs).length c) (strangeN d.fs l.base l.segs).length (intsV (strangeN d.fs l.base l.segs))/\∀q,(Value.slice B (strangeN d.fs l.base l.segs).length c).ownBlock=some q->w.heap.size<=q
theorem free_any(h:LM w bl bd R l sv rv vs)(hD:Disk w S bd d)(hs:d.small K)(hK:K<=900000000)(hnd:(d.fs.map Fl.n).Nodup)(hfw:∀f∈d.fs,(Lit.int .i64 f.n).wf=true)
  (hsl:l.segs.length+d.fs.length<=1000000) (hfl:∀s∈l.segs,s.file<4611686018427387904) (hbase:l.base<=100000000):
  Calls Tryz.prog 142 #[.pointer (some ⟨bl,0,none⟩)] w (FreeEnd w l d):=by
 have H:=zh h;have HD:=zh hD;have HS:=zh hs;have HND:=zh hnd;have HFW:=zh hfw;have HFL:=zh hfl
 obtain⟨A,c,rfl,hnc,hcm,hA⟩:=h.segs.form
 have c0:w.cell? ⟨bl,0,none⟩=some (.pointer (some ⟨bd,0,none⟩)):=h.blk.cell 0
 have c1:w.cell? ⟨bl,1,none⟩=some (.int .i64 (l.base:Int)):=h.blk.cell 1
 have c2:w.cell? ⟨bl,2,none⟩=some (.slice A l.segs.length c):=h.blk.cell 2
 obtain⟨w1,hw1⟩:∃w1,w1=w.alloc (.map #[] 0):=⟨_,rfl⟩
 have hf1:Fresh w w1:=by rw[hw1];exact(Touch.refl _ w).alloc _
 have hb1:BSet w1 w.heap.size []:=by rw[hw1];exact BSet.new w
 have HF1:=zh hf1;have HB1:=zh hb1;have HW1:=zh hw1
 have d2:=hf1.cell c2 id
 rw[hw1]at d2
 clear h hD hs hnd hfw hfl hf1 hb1 hw1
 have hmm:= @run_makeMap Tryz.prog
 go_enter Tryz.func142,Tryz.ntmps142
 go_wp2_with fail
 go_loopw [15] (fun i wr=>∃k:Nat,k<=l.segs.length/\i= .int .i64 k/\Fresh w wr/\BSet wr w.heap.size (segF (l.segs.take k)).reverse) (fun i _=>l.segs.length-(intOf i).toNat)
 case atStart=>
  rw[<- HW1.out]
  exact⟨0,Nat.zero_le _,rfl,HF1.out,HB1.out⟩
 case round=>
  obtain⟨k,hk,rfl,hf,hb⟩:=hrel
  have HF:=zh hf;have HB:=zh hb
  by_cases hlt:k<l.segs.length
  ·obtain⟨s,hsk⟩:∃s,l.segs[k]? =some s:=⟨_,List.getElem?_eq_getElem hlt⟩
   obtain⟨g,o,rfl⟩:∃g o,A=some ⟨g,o*8,none⟩:=by
    rcases hA with⟨_,h2,_⟩ | ⟨g,o,e⟩
    ·omega
    ·exact⟨g,_,e⟩
   have hsg:=(H.out.segs.fresh hf)
   have cg:∀j,j<8->wr.cell? ⟨g,o*8+(k*8+j),none⟩=(segC s)[j]? :=fun j hj=>by
    rw[hsg.cell (j:=k*8+j) (by omega),segsC_get _ _ hsk hj]
   have g0:wr.cell? ⟨g,o*8+k*8,none⟩=some (.int .i64 (s.number:Int)):=cg 0 (by omega)
   have g1:wr.cell? ⟨g,o*8+k*8+1,none⟩=some (.int .i64 (s.ahead:Int)):=cg 1 (by omega)
   have g2:wr.cell? ⟨g,o*8+k*8+2,none⟩=some (.int .i64 (s.first:Int)):=cg 2 (by omega)
   have g3:wr.cell? ⟨g,o*8+k*8+3,none⟩=some (.int .i64 (s.next:Int)):=cg 3 (by omega)
   have g4:wr.cell? ⟨g,o*8+k*8+4,none⟩=some (.bool s.whole):=cg 4 (by omega)
   have g5:wr.cell? ⟨g,o*8+k*8+5,none⟩=some (.int .i64 (s.file:Int)):=cg 5 (by omega)
   have g6:wr.cell? ⟨g,o*8+k*8+6,none⟩=some (.int .i64 (s.size:Int)):=cg 6 (by omega)
   have g7:wr.cell? ⟨g,o*8+k*8+7,none⟩=some (.int .i64 (s.last:Int)):=cg 7 (by omega)
   have hws:(Lit.int .i64 (s.file:Int)).wf=true:=nat_wf (by have:=HFL.out s (List.mem_of_getElem? hsk);omega)
   have hbl:(segF (l.segs.take k)).reverse.length<maxLen:=by unfold maxLen segF;rw[List.length_reverse,List.length_map,List.length_take];omega
   obtain⟨w4,hput,hb4,hg4⟩:=(hb.touch ((Touch.refl (fun _=>False) wr).alloc (.cells #[.int .i64 (s.number:Int), .int .i64 (s.ahead:Int), .int .i64 (s.first:Int), .int .i64 (s.next:Int), .bool s.whole, .int .i64 (s.file:Int), .int .i64 (s.size:Int), .int .i64 (s.last:Int)] 145)) id).put hws hbl
   have HF4:=zh (show Fresh w w4 from(hf.alloc _).grown hg4 fun q hq=> .inl (by injection hq with hq;omega))
   have HB4:=zh hb4
   have hseg:segF (l.segs.take (k+1))=segF (l.segs.take k)++ [(s.file:Int)]:=by
    unfold segF
    rw[List.take_add_one,hsk,List.map_append]
    rfl
   have HSEG:=zh hseg
   clear hf hb hsg cg hb4 hg4 hbl hws hseg
   go_wp2_with fail
   go_roundw
   case rel=>exact⟨k+1,by omega,by go_num,HF4.out,by rw[HSEG.out,List.reverse_append];exact HB4.out⟩
   case measure=>simp[intOf]<;>omega
  ·obtain rfl:k=l.segs.length:=by omega
   rw[List.take_length]at HB
   have HFL2:=zh (disk_files (HD.out.fresh hf) HS.out (by omega))
   have e0:wr.cell? ⟨bl,0,none⟩=some (.pointer (some ⟨bd,0,none⟩)):=hf.cell c0 id
   clear hf hb hA
   go_wp2_with fail
   refine HFL2.out.mono ?_
   rintro e w5 ⟨hf5,B,cf,rfl,ho5,hn5⟩
   have HF5:=zh (HF.out.trans hf5 fun _ _=>id)
   have HB5:=zh (HB.out.touch hf5 id)
   have HO5:=zh ho5
   have HN5:=zh (show∀k,(Value.slice B d.fs.length cf).ownBlock=some k->w.heap.size<=k from fun k hk=>Nat.le_trans HF.out.size (hn5 k hk))
   have HSZ5:=zh (show∀k,(Value.slice B d.fs.length cf).ownBlock=some k->wr.heap.size<=k from hn5)
   obtain⟨BA,bc,hBv,_,_,hBA⟩:=ho5.form
   injection hBv with hB1 _ hB2
   subst hB1 hB2
   clear hf5 ho5 hn5 HFL2 e0
   go_wp2_with fail
   go_loopw [3,29] (fun v i wx=>∃(j:Nat) (T:List Int),j<=d.fs.length/\i= .int .i64 j/\T=strangeN (d.fs.take j) l.base l.segs/\Own wx 3 1 v T.length (intsV T)/\(∀q,v.ownBlock=some q->w5.heap.size<=q)/\Fresh w wx/\Own wx 3 1 (.slice B d.fs.length cf) d.fs.length (intsV (d.fs.map Fl.n))/\BSet wx w.heap.size (T.reverse++(segF l.segs).reverse)/\w5.heap.size<=wx.heap.size) (fun _ i _=>d.fs.length-(intOf i).toNat)
   case atStart=>exact⟨0, [],Nat.zero_le _,rfl,rfl,Own.nil_ _ _ _,fun q hq=>(by cases hq),HF5.out,HO5.out,HB5.out,Nat.le_refl _⟩
   case round=>
    obtain⟨j,T,hj,rfl,hT,ho,hn,hf,hof,hb,hsz⟩:=hrel
    obtain⟨VA,vc,rfl,_,_,_⟩:=ho.form
    have HT:=zh hT;have HO:=zh ho;have HN:=zh hn;have HF:=zh hf;have HOF:=zh hof;have HB:=zh hb;have HZ:=zh hsz
    clear hT
    by_cases hlt:j<d.fs.length
    ·obtain⟨f,hfj⟩:∃f,d.fs[j]? =some f:=⟨_,List.getElem?_eq_getElem hlt⟩
     obtain⟨gB,rfl⟩:∃g,B=some ⟨g,0,none⟩:=by
      rcases hBA with⟨_,h2,_⟩ | ⟨g,e⟩
      ·omega
      ·exact⟨g,e⟩
     have cfj:wr.cell? ⟨gB,j,none⟩=some (.int .i64 f.n):=by
      rw[hof.cell (j:=j) (by omega),intsV_get,List.getElem?_map,hfj]
      rfl
     have e1:wr.cell? ⟨bl,1,none⟩=some (.int .i64 (l.base:Int)):=hf.cell c1 id
     have hsn:strangeN (d.fs.take (j+1)) l.base l.segs=if (inR l.base f && !isSeg l.segs f)=true then T++ [f.n] else T:=by
      rw[List.take_add_one,hfj,HT.out]
      exact strangeN_snoc _ _ _ _
     have HSN:=zh hsn
     have HFJ:=zh hfj
     have hwr:IntKind.i64.wrap ((l.base:Int)+1048576)=(l.base:Int)+1048576:=IntWalk.i64_in _ (by omega)
     have hfw:=HFW.out f (List.mem_of_getElem? hfj)
     have hlk:=hb.look hfw
     have HFWF:=zh hfw
     clear hsn hfj ho hn hof hb hf hfw
     by_cases h1:(l.base:Int)<=f.n
     ·by_cases h2:f.n<(l.base:Int)+1048576
      ·have h1d:decide ((l.base:Int)<=f.n)=true:=by simpa using h1
       have h2d:decide (f.n<(l.base:Int)+1048576)=true:=by simpa using h2
       by_cases h3:f.n∈T.reverse++(segF l.segs).reverse
       ·rw[decide_eq_true h3]at hlk
        have HEND:=zh (show T=strangeN (d.fs.take (j+1)) l.base l.segs by
         have hs:isSeg l.segs f=true:=by
          rw[isSeg_mem]
          rcases List.mem_append.1 h3 with h | h
          ·exfalso
           rw[List.mem_reverse,HT.out]at h
           have h4:=strangeN_mem h
           rw[List.map_take]at h4
           exact nodup_take HND.out (by rw[List.getElem?_map,HFJ.out];rfl) h4
          ·exact List.mem_reverse.1 h
         rw[HSN.out,if_neg (by rw[Bool.and_eq_true,hs];simp)])
        clear h3
        go_wp2_with fail
        go_roundw
        case rel=>exact⟨j+1,T,by omega,by go_num,HEND.out,HO.out,HN.out,HF.out,HOF.out,HB.out,HZ.out⟩
        case measure=>simp[intOf]<;>omega
       ·rw[decide_eq_false h3]at hlk
        have HEND:=zh (show T++ [f.n]=strangeN (d.fs.take (j+1)) l.base l.segs by
         have hs:¬isSeg l.segs f=true:=fun e=>h3 (List.mem_append_right _ (List.mem_reverse.2 ((isSeg_mem _ _).1 e)))
         rw[HSN.out,if_pos (by rw[Bool.and_eq_true,inR_iff];exact⟨⟨h1,h2⟩,by simp[hs]⟩)])
        have hTl:T.length<=1000000:=by
         rw[HT.out]
         unfold strangeN
         rw[List.length_map]
         have h5:=List.length_filter_le (fun f=>inR l.base f && !isSeg l.segs f) (d.fs.take j)
         rw[List.length_take]at h5
         omega
        have hUl:(T.reverse++(segF l.segs).reverse).length<maxLen:=by
         rw[List.length_append,List.length_reverse,List.length_reverse]
         unfold maxLen segF
         rw[List.length_map]
         omega
        have HUL:=zh hUl
        clear h3 hUl
        go_wp2_with (at_builtin;refine wpList_own_src _ rfl _ _ 22 22 rfl 3 (.int .i64 0) 1 8 Tryz.info3 Tryz.underlying22 rfl (.slice VA T.length vc) T.length (intsV T) rfl (HO.out.alloc _) (intsV_one _) (.slice (some ⟨wr.heap.size,0,none⟩) 1 1) 1 [.int .i64 f.n] rfl (int_new _ _) (by unfold maxLen;omega) (by omega) ?_;intro B4 c4 w4 o4 g4 b4;have hbw4:=(HB.out.touch ((Touch.refl (fun _=>False) wr).alloc _) id).grown g4 (HB.out.ne_own HO.out);obtain⟨w6,hput,hb6,hg6⟩:=hbw4.put HFWF.out HUL.out;have HB6:=zh hb6;have HG6:=zh hg6;have HO4:=zh o4;have HG4:=zh g4;have HB4:=zh b4;have HBW4:=zh hbw4;clear hb6 hg6 o4 g4 b4 hbw4)
        have hfin:=free_step HF.out HOF.out HO.out HN.out HZ.out HG4.out HB4.out HO4.out HBW4.out HB6.out HG6.out HF5.out.size HO5.out
        go_roundw
        case rel=>exact⟨j+1,T++ [f.n],by omega,by go_num,HEND.out,by rw[List.length_append,intsV_append];exact hfin.1,hfin.2.1,hfin.2.2.1,hfin.2.2.2.1,by rw[List.reverse_append];exact HB6.out,hfin.2.2.2.2⟩
        case measure=>simp[intOf]<;>omega
      ·have h2d:decide (f.n<(l.base:Int)+1048576)=false:=by simpa using h2
       have h1d:decide ((l.base:Int)<=f.n)=true:=by simpa using h1
       have HEND:=zh (show T=strangeN (d.fs.take (j+1)) l.base l.segs by
        rw[HSN.out,if_neg (by rw[Bool.and_eq_true,inR_iff];rintro⟨⟨_,h⟩,_⟩;exact h2 h)])
       clear hlk
       go_wp2_with fail
       go_roundw
       case rel=>exact⟨j+1,T,by omega,by go_num,HEND.out,HO.out,HN.out,HF.out,HOF.out,HB.out,HZ.out⟩
       case measure=>simp[intOf]<;>omega
     ·have h1d:decide ((l.base:Int)<=f.n)=false:=by simpa using h1
      have HEND:=zh (show T=strangeN (d.fs.take (j+1)) l.base l.segs by
       rw[HSN.out,if_neg (by rw[Bool.and_eq_true,inR_iff];rintro⟨⟨h,_⟩,_⟩;exact h1 h)])
      clear hlk
      go_wp2_with fail
      go_roundw
      case rel=>exact⟨j+1,T,by omega,by go_num,HEND.out,HO.out,HN.out,HF.out,HOF.out,HB.out,HZ.out⟩
      case measure=>simp[intOf]<;>omega
    ·obtain rfl:j=d.fs.length:=by omega
     rw[List.take_length]at HT
     have e1:wr.cell? ⟨bl,1,none⟩=some (.int .i64 (l.base:Int)):=hf.cell c1 id
     obtain⟨p1,p2,p3,p4⟩:=freeP_spec (usedN d.fs l.base l.segs) l.base
     have hU:∀m:Int,m∈T.reverse++(segF l.segs).reverse↔m∈usedN d.fs l.base l.segs:=fun m=>by
      rw[<- used_all,HT.out,List.mem_append,List.mem_append]
      exact or_congr Iff.rfl List.mem_reverse
     have hul:(usedN d.fs l.base l.segs).length<=1000000:=by
      unfold usedN
      rw[List.length_append,List.length_map,List.length_map]
      have:=List.length_filter_le (inR l.base) d.fs
      omega
     obtain⟨FR,hFR⟩:∃FR,FR=freeP (usedN d.fs l.base l.segs) l.base:=⟨_,rfl⟩
     rw[<- hFR]at p1 p2 p3 p4
     have HFR:=zh hFR
     have HLK:=zh (show∀k:Nat,k<=200000000->(Instr.lookup 217 (.map (some w.heap.size)) (.int .i64 (k:Int)) false).run Tryz.prog wr= .ok (.bool (decide ((k:Int)∈usedN d.fs l.base l.segs))) wr from fun k hk=>by
      rw[hb.look (nat_wf (by omega))]
      exact congrArg (fun x=>Result.ok (Value.bool x) wr) (decide_eq_decide.2 (hU k)))
     have P3:=zh p3;have P4:=zh p4
     have hF2:FR<=200000000:=by omega
     clear hU hb hof hn ho hf hFR p3 p4
     go_wp2_with fail
     go_loopw [2] (fun i wx=>∃k:Nat,l.base<=k/\k<=FR/\i= .int .i64 k/\wx=wr) (fun i _=>FR-(intOf i).toNat)
     case atStart=>exact⟨l.base,Nat.le_refl _,p1,rfl,rfl⟩
     case round=>
      obtain⟨k,hk1,hk2,rfl,rfl⟩:=hrel
      have hlk:=HLK.out k (by omega)
      by_cases hlt:k<FR
      ·rw[decide_eq_true (P3.out k hk1 hlt)]at hlk
       go_wp2_with fail
       go_roundw
       case rel=>exact⟨k+1,by omega,by omega,by go_num,trivial⟩
       case measure=>simp[intOf]<;>omega
      ·obtain rfl:k=FR:=by omega
       rw[decide_eq_false P4.out]at hlk
       go_wp2_with fail
       go_ret2
       rw[HT.out]at HO HN
       exact⟨HF.out,VA,vc,by rw[<- HFR.out,HT.out];rfl,HO.out,fun q hq=>Nat.le_trans HF5.out.size (HN.out q hq)⟩
end
end Go.Proofs.YtjehlgblkfofpaaGreat
namespace Go.Proofs.YtjehlgblkfofpaaGreat
open Go.RowKit
theorem segsC_set:∀(l:List Seg) (k:Nat) {s s':Seg} {j:Nat} {u:Value},l[k]? =some s->j<8->segC s'=(segC s).set j u->(segsC l).set (k*8+j) u=segsC (l.set k s')
 | [],k,_,_,_,_,h,_,_=>by simp at h
 | a :: l,0,s,s',j,u,h,hj,he=>by
  simp only[List.getElem?_cons_zero,Option.some.injEq]at h
  subst h
  show (segC a++segsC l).set (0*8+j) u=segC s'++segsC l
  rw[Nat.zero_mul,Nat.zero_add,List.set_append,if_pos (by rw[segC_len];exact hj),he]
 | a :: l,k+1,s,s',j,u,h,hj,he=>by
  rw[List.getElem?_cons_succ]at h
  show (segC a++segsC l).set ((k+1)*8+j) u=segC a++segsC (l.set k s')
  rw[List.set_append,if_neg (by rw[segC_len];omega),segC_len,show (k+1)*8+j-8=k*8+j by omega,segsC_set l k h hj he]
section
variable {w w':World}{bl bd:Nat}{R S R' S':Nat->Prop}{l' l2:Lg}{sv rv sv' rv':Value}{vs':List Value}{d':Dk}
theorem blk_type{w:World}{g:Nat}{t t':TypeId}{cs cs':Array Value}(h:Blk w g t cs)(h':Blk w g t' cs'):t=t':=by
 have:=h.symm.trans h'
 injection this with this
 injection this
theorem LX.seg{g q n c k j:Nat}{s s':Seg}{u:Value}(h:LX w w' bl bd S R sv rv l' d' S' R' (.slice (some ⟨g,q,none⟩) n c) rv' vs')(hk:l'.segs[k]? =some s)(hj:j<8)(he:segC s'=(segC s).set j u)(hl:l2={ l' with segs:=l'.segs.set k s' }):
  LX w (w'.setCell ⟨g,q+(k*8+j),none⟩ u) bl bd S R sv rv l2 d' S' R' (.slice (some ⟨g,q,none⟩) n c) rv' vs':=by
 subst hl
 have hm:=h.ld.lm
 have hT:Touch (·=g) w' (w'.setCell ⟨g,q+(k*8+j),none⟩ u):=(Touch.refl (·=g) w').setCell (p:=⟨g,q+(k*8+j),none⟩) (.inr rfl) _
 have hkl:=(List.getElem?_eq_some_iff.1 hk).1
 have hn:n=l'.segs.length:=by
  obtain⟨A',c',e,_⟩:=hm.segs.form
  injection e
 have hso:=hm.segs
 rw[<- hn]at hso
 have hseg:=hso.stored (j:=k*8+j) (by omega) u
 rw[segsC_set l'.segs k hk hj he,hn]at hseg
 refine h.own (hT.mono fun k _ hk=> .inr (.inl (by rw[hk];rfl))) ⟨?_, ?_, ?_, ?_⟩ (fun k hk=> .inl hk) fun k hk=> .inl hk
 ·exact hm.blk.touch hT fun e=>hm.segs.ne_blk hm.blk (by decide) (by rw[e];rfl)
 ·show Ow _ _ 8 _ (l'.segs.set k s').length _
  rw[List.length_set,<- hn]
  rw[<- hn]at hseg
  exact hseg
 ·exact hm.rows.touch hT fun k hk e=>hm.segs.ne_ow hm.rows (by decide) g rfl (by rw[hk,e])
 ·exact hm.recs.touch hT fun k hk e=>h.ld.nR k (.inr (.inl (by rw[e];rfl))) hk
theorem LX.snoc{w2:World}{B:Option Addr}{c:Nat}{s:Seg}(h:LX w w' bl bd S R sv rv l' d' S' R' sv' rv' vs')(ho:Ow w2 145 8 (.slice B (l'.segs.length+1) c) (l'.segs.length+1) (segsC l'.segs++segC s)){w1:World}(hf:Fresh w' w1)(hg:w1.grownBy w2 sv'.ownBlock)
  (hb:(Value.slice B (l'.segs.length+1) c).ownBlock=sv'.ownBlock\/(Value.slice B (l'.segs.length+1) c).ownBlock=some w1.heap.size) (hl:l2={ l' with segs:=l'.segs++ [s] }):
  LX w (w2.setCell ⟨bl,2,none⟩ (.slice B (l'.segs.length+1) c)) bl bd S R sv rv l2 d' S' R' (.slice B (l'.segs.length+1) c) rv' vs':=by
 subst hl
 have hm:=h.ld.lm
 have hm1:=hm.fresh hf
 obtain⟨x,hx⟩:∃x,x=Value.slice B (l'.segs.length+1) c:=⟨_,rfl⟩
 rw[<- hx]at ho hb ⊢
 have hT1:Touch (lfoot bl sv' rv') w' w2:=(hf.mono fun _ _=>False.elim).grown hg fun q hq=> .inr (.inr (.inl hq))
 have hb2:Blk w2 bl 138 _:=hm1.blk.grown hg fun e=>hm1.segs.ne_blk hm1.blk (by decide) e.symm
 have hT:Touch (lfoot bl sv' rv') w' (w2.setCell ⟨bl,2,none⟩ x):=hT1.setCell (p:=⟨bl,2,none⟩) (.inr (.inl rfl)) _
 have hT2:Touch (·=bl) w2 (w2.setCell ⟨bl,2,none⟩ x):=(Touch.refl (·=bl) w2).setCell (p:=⟨bl,2,none⟩) (.inr rfl) _
 have hs1:=hf.size
 refine h.own hT ⟨?_, ?_, ?_, ?_⟩ (fun k hk=> ?_) fun k hk=> .inl hk
 ·simpa using hb2.set_ 2 x
 ·show Ow _ _ 8 x (l'.segs++ [s]).length _
  rw[List.length_append,List.length_singleton,segsC_append]
  rw[show segsC [s]=segC s from by simp[segsC]]
  exact ho.touch hT2 fun k hk e=>ho.ne_blk hb2 (by decide) (by rw[hk,e])
 ·refine(hm1.rows.grown hg fun k hk e=> ?_).touch hT2 fun k hk e=> ?_
  ·exact hm1.segs.ne_ow hm1.rows (by decide) k e.symm hk
  ·exact hm.rows.ne_blk hm.blk (by decide) (by rw[hk,e])
 ·refine(hm.recs.touch ((hf.mono fun _ _=>False.elim:Touch (fun k=>sv'.ownBlock=some k) w' w1).grown hg fun q hq=> .inr hq) fun k hk e=>h.ld.nR k (.inr (.inl e)) hk).touch hT2 fun k hk e=>h.ld.nR k (.inl e) hk
 ·rcases hk with hk | hk | hk
  ·exact .inl (.inl hk)
  ·rcases hb with e | e
   ·exact .inl (.inr (.inl (e.symm.trans hk)))
   ·refine .inr ?_
    rw[hk]at e
    injection e with e
    exact⟨by omega,fun hr=>by have:=h.ld.Rlt k hr;omega⟩
  ·exact .inl (.inr (.inr hk))
end
theorem Fresh.grown_{w w':World}(h:Fresh w w'):w.grownBy w' none:=⟨h.os,h.tape,h.output,h.size,fun k hk _=>h.block k hk id⟩
def SeqO{α:Type}(F:Fence)(n:Nat)(P:Program)(g:Nat)(lb:Array Value)(encs:α->Array Value)(Ok:List α->α->World->Prop)(Kp:World->World->Prop)(S Sp:List α->Prop)(N:Nat)(w:World):Prop:=
 ∀(l:Nat) (J Jx:List α->World->Prop) (W:World),Below w.heap.size w W->AbidesFrom W.heap.size J->AbidesFrom W.heap.size Jx->
  (∀pre x W1,J pre W1->Ok pre x W1->pre.length<N->YieldAt F (n-1) P l (encs x) W1 fun e W'=>
   (e= .returned (.bool true)/\J (pre++ [x]) W'/\Kp W1 W')\/(e= .returned (.bool false)/\Jx (pre++ [x]) W'))->
  J [] W->CallsIn F n P g (#[.func (.yield l) #[] #[]]++lb) W fun e W'=>(∃v,e= .returned v)/\((∃xs,S xs/\J xs W')\/(∃pre,Sp pre/\Jx pre W'))
section
variable {F:Fence}{n:Nat}{P:Program}
def Rec(k:Nat)(r:Loop)(W:World):Prop:=W.heap[k+1]? =some (.loop r)/\W.heap[k]? =some (.deferred (some []))
theorem Rec.lt{k:Nat}{r:Loop}{W:World}(h:Rec k r W):k+1<W.heap.size:=(Array.getElem?_eq_some_iff.1 h.1).1
theorem Rec.put{k:Nat}{r:Loop}{W:World}(h:Rec k r W)(r':Loop):Rec k r' (W.putObj (k+1) (.loop r')):=⟨World.putObj_heap_same h.lt,(World.putObj_heap_other (by omega)).trans h.2⟩
theorem Rec.others{k:Nat}{r:Loop}{W W':World}(h:Rec k r W)(hk:KeepsOthers W W'):Rec k r W':=⟨hk.same _ _ h.1 rfl,hk.same _ _ h.2 rfl⟩
theorem Rec.kept{k:Nat}{r:Loop}{A B:World}{row:Option Nat}(h:Rec k r A)(hg:A.grownBy B row)(hr:∀q,row=some q->∃o:Obj,A.heap[q]? =some o/\o.isWalk=true):Rec k r B:=
 ⟨(grownBy_keeps hg hr h.1 rfl).trans h.1,(grownBy_keeps hg hr h.2 rfl).trans h.2⟩
theorem range_ok{α:Type}{g:Operand}{ps:Array Tmp}{assign body:Code}{Q:Exit->Act->World->Prop}{a:Act}{w:World}
  (hro:F.round=none) (h1:1<=n) {gf:Nat} {lb:Array Value} (hg:a.eval g= .func (.func gf) #[] lb) (hFg:F.fn gf) (eg:∀args w,(callFunc gf args).run P w= .ok (.enter gf args) w)
  {encs:α->Array Value} {Ok:List α->α->World->Prop} {Kp:World->World->Prop} {S Sp:List α->Prop} {N:Nat} (hseq:SeqO F (n-1) P gf lb encs Ok Kp S Sp N w)
  (hOk:∀(pre:List α) (x:α) (W:World) (l:Nat) (o o':Obj),Ok pre x W->W.heap[l]? =some o->o.isCells=false->Ok pre x (W.putObj l o'))
  (hOkF:∀(pre:List α) (x:α) (W W1:World),Ok pre x W->Fresh W W1->Ok pre x W1)
  (R:α->Act->World->Prop) (hRp:∀(x:α) (b:Act) (W:World) (l:Nat) (o o':Obj),R x b W->W.heap[l]? =some o->o.isCells=false->R x b (W.putObj l o')) (hKf:∀{A B:World},Fresh A B->Kp A B)
  (hKt:∀{A B C:World},Kp A B->Kp B C->Kp A C) (hKb:∀(W:World) (l:Nat) (o o':Obj),w.heap.size<=l->W.heap[l]? =some o->o.isCells=false->o.isWalk=false->Kp W (W.putObj l o')) (hps:∀x,(encs x).size=ps.size)
  (I:List α->World->Prop) (Ix:List α->World->Prop) (hI:OwnFrom w.heap.size I) (hIx:OwnFrom w.heap.size Ix) (h0:I [] w)
  (hassign:∀(l:Nat) (pre:List α) (x:α) (W:World) (K:Act->World->Prop),Ok pre x W->(∀a₁ W₁,Fresh W W₁->R x a₁ W₁->K a₁ W₁)->
   assign.wpIn (F.inRound l) (n-1-1) P (Exit.then K (fun _ _ _=>False)) { tmps:=(ps.zip (encs x)).foldl (fun t (p,v)=>t.setIfInBounds p v) a.tmps,defers:= [] } W)
  (hbody:∀(l:Nat) (pre:List α) (x:α) (a₁:Act) (W:World),I pre W->Ok pre x W->R x a₁ W->pre.length<N->body.wpIn (F.inRound l) (n-1-1) P
   (ownPostK Kp I (fun c xs W'=>c= .ret/\Ix xs W') (pre++ [x]) W) a₁ W)
  (hdone:∀(D:Nat) (xs:List α) (W:World),w.heap.size<=D->S xs->I xs W->W.heap[D]? =some (.deferred (some []))->Q .normal { a with defers:={ target:= .collected D,args:= #[] } :: a.defers } W)
  (hstop:∀(D:Nat) (pre:List α) (W:World),w.heap.size<=D->Sp pre->Ix pre W->W.heap[D]? =some (.deferred (some []))->Code.ret.wpIn F n P Q { a with defers:={ target:= .collected D,args:= #[] } :: a.defers } W):
  (Code.rangeFunc g ps assign body).wpIn F n P Q a w:=by
 refine wpIn_rangeFunc fun fn hfn=> ?_
 rw[hro]
 obtain⟨rec,hrec⟩:∃rec:LoopState->Option Code->Loop,rec=fun st pe=>{ state:=st,pending:=pe,fn,tmps:=a.tmps,params:=ps,assign,body,defers:=w.heap.size }:=⟨_,rfl⟩
 have hst:∀st pe st',({ rec st pe with state:=st' }:Loop)=rec st' pe:=by subst hrec;intros;rfl
 have hsp:∀st pe st' pe',({ rec st pe with state:=st',pending:=pe' }:Loop)=rec st' pe':=by subst hrec;intros;rfl
 obtain⟨W1,hW1⟩:∃W1,(w.alloc (.deferred (some []))).alloc (.loop (rec .ready none))=W1:=⟨_,rfl⟩
 have hR1:Rec w.heap.size (rec .ready none) W1:=by
  rw[<- hW1]
  refine⟨?_,(Below.heap_alloc _ _ _ (by simp)).trans (World.alloc_heap_new w _)⟩
  have:=World.alloc_heap_new (w.alloc (.deferred (some []))) (.loop (rec .ready none))
  rwa [World.size_alloc]at this
 have hsz:w.heap.size+2=W1.heap.size:=by rw[<- hW1];simp
 have hw1:Below w.heap.size w W1:=by rw[<- hW1];exact((Below.refl _ w).alloc (Nat.le_refl _) _).alloc (by simp) _
 have hI1:I [] W1:=by rw[<- hW1];exact hI.alloc _ (hI.alloc _ h0)
 have hwalk:∀{A:World} {row:Option Nat},(∀r,row=some r->W1.heap.size<=r/\∃o:Obj,A.heap[r]? =some o/\o.isWalk=true)->∀r,row=some r->w.heap.size<=r/\∃o:Obj,A.heap[r]? =some o/\o.isCells=false:=by
  intro A row hr r e
  obtain⟨hb,o,ho,hw⟩:=hr r e
  exact⟨by omega,o,ho,Obj.not_cells_of_walk hw⟩
 refine⟨w.heap.size+1, [{ target:= .collected w.heap.size,args:= #[] }],W1,{ target:= .fn (.func gf) lb,args:= #[.func (.yield (w.heap.size+1)) #[] #[]] },W1,gf,
  #[.func (.yield (w.heap.size+1)) #[] #[]]++lb,W1,by rw[<- hW1,hrec];exact run_enterLoop_outer _ _ _ _ _,by simp only[resolve,hg];simp[go_sem], ?_,by simp[invoke,go_sem,eg],fun _=>h1, ?_⟩
 ·intro f' hf'
  simp[Target.leads]at hf'
  subst hf'
  exact hFg
 refine(hseq (w.heap.size+1) (fun pre W=>I pre W/\Rec w.heap.size (rec .ready none) W) (fun pre W=>Ix pre W/\Rec w.heap.size (rec .done (some .ret)) W) W1 hw1
  (fun s A B row hs hg' hr=>⟨hI s A B row hs.1 hg' (hwalk hr),hs.2.kept hg' fun q e=>(hr q e).2⟩) (fun s A B row hs hg' hr=>⟨hIx s A B row hs.1 hg' (hwalk hr),hs.2.kept hg' fun q e=>(hr q e).2⟩) ?_ ⟨hI1,hR1⟩).mono ?_
 ·-- one round
  rintro pre x W ⟨hi,hl⟩ hok hlen
  have hy:=run_yield (P:=P) (args:=encs x) hl.1 (by rw[hrec];exact hps x)
  rw[hrec]at hy
  refine⟨fn,_,assign,body,hy,roundIn_of_wpIn hfn (hassign _ pre x W _ hok fun b0 W0 hf0 hr0=> ?_)⟩
  have hl0:Rec w.heap.size (rec .ready none) W0:=⟨hf0.heap hl.1 id,hf0.heap hl.2 id⟩
  have hi0:I pre W0:=hI pre W W0 none hi hf0.grown_ (fun r e=>by cases e)
  refine⟨_,run_beginRound hl0.1 (by rw[hrec]), ?_⟩
  rw[hst]
  have hb:=hl0.put (rec .busy none)
  have hq:=hKt (hKf hf0) (hKb W0 _ _ (.loop (rec .busy none)) (by omega) hl0.1 rfl rfl)
  refine wpIn_mono (hbody _ pre x b0 _ (hI.putObj _ hi0 (by omega) hl0.1 rfl) (hOk _ _ _ _ _ _ (hOkF _ _ _ _ hok hf0) hl0.1 rfl) (hRp _ _ _ _ _ _ hr0 hl0.1 rfl) hlen) ?_
  rintro e a3 W3 hp
  cases e with
  | normal=>
   obtain⟨hk3,hkp3,hi3⟩:=hp
   have hr3:=hb.others hk3
   have hend:=run_endRound (P:=P) none hr3.1
   rw[hsp]at hend
   exact⟨_,_,hend, .inl ⟨rfl,⟨hI.putObj _ hi3 (by omega) hr3.1 rfl,hr3.put _⟩,hKt (hKt hq hkp3) (hKb _ _ _ _ (by omega) hr3.1 rfl rfl)⟩⟩
  | ret=>
   obtain⟨hk3,_,hi3⟩:=hp
   have hr3:=hb.others hk3
   have hend:=run_endRound (P:=P) (some .ret) hr3.1
   rw[hsp]at hend
   exact⟨_,_,hend, .inr ⟨rfl,hIx.putObj _ hi3 (by omega) hr3.1 rfl,hr3.put _⟩⟩
  | exit id=>exact absurd hp.2.1 (by simp)
  | goto t=>exact absurd hp.2.1 (by simp)
  | panic ch=>exact hp.elim
  | outgrown=>exact hp.elim
 ·-- behind the iterator
  rintro e W2 ⟨⟨v,rfl⟩,(⟨xs,hS,hi,hl⟩ | ⟨pre,hSp,hi,hl⟩)⟩
  ·have hend:=run_endLoop (P:=P) hl.1 (by rw[hrec];simp)
   rw[hst]at hend
   rw[show (rec .ready none).pending=none by rw[hrec]]at hend
   exact⟨none,_,hend,hdone _ xs _ (Nat.le_refl _) hS (hI.putObj _ hi (by omega) hl.1 rfl) (hl.put _).2⟩
  ·have hend:=run_endLoop (P:=P) hl.1 (by rw[hrec];simp)
   rw[hst]at hend
   rw[show (rec .done (some .ret)).pending=some .ret by rw[hrec]]at hend
   exact⟨some .ret,_,hend,hstop _ pre _ (Nat.le_refl _) hSp (hIx.putObj _ hi (by omega) hl.1 rfl) (hl.put _).2⟩
end
attribute [local go_sem] Oper.semAt_some
theorem Blk.own_{A B:World}{row:Option Nat}{g:Nat}{t:TypeId}{cs:Array Value}(h:Blk A g t cs)(hg:A.grownBy B row)(hr:∀r,row=some r->∃o:Obj,A.heap[r]? =some o/\o.isCells=false):Blk B g t cs:=by
 refine h.grown hg fun e=> ?_
 obtain⟨o,ho,hc⟩:=hr g e.symm
 have:=h.symm.trans ho
 injection this with this
 subst this
 simp[Obj.isCells]at hc
theorem own_own_{A B:World}{row:Option Nat}{b:Nat}{e:TypeId}{sz n:Nat}{v:Value}{us:List Value}(h:A.ownsRow b e sz v n us)(hg:A.grownBy B row)(hr:∀r,row=some r->∃o:Obj,A.heap[r]? =some o/\o.isCells=false):B.ownsRow b e sz v n us:=by
 refine⟨h.1, ?_⟩
 rcases h.2 with hnil | ⟨g,cap,cur,rfl,hb',hh,rest⟩
 ·exact .inl hnil
 ·exact .inr ⟨g,cap,cur,rfl,hb',Blk.own_ (t:=e) hh hg hr,rest⟩
theorem putHr{W:World}{l:Nat}{o:Obj}(hl:W.heap[l]? =some o)(hc:o.isCells=false):∀r,some l=some r->∃o:Obj,W.heap[r]? =some o/\o.isCells=false:=fun r e=>by cases e;exact⟨o,hl,hc⟩
def LKp(S:Nat->Prop)(B:Nat)(W W':World):Prop:=(∀k t cs,¬S k->(k<B\/t≠5)->Blk W k t cs->Blk W' k t cs)/\∀(p:Addr) (v:Value),¬S p.block->p.block<B->W.cell? p=some v->W'.cell? p=some v
theorem LKp.trans_{S:Nat->Prop}{Z:Nat}{A B C:World}(h:LKp S Z A B)(h':LKp S Z B C):LKp S Z A C:=⟨fun k t cs hk hz hb=>h'.1 k t cs hk hz (h.1 k t cs hk hz hb),fun p v hk hz hb=>h'.2 p v hk hz (h.2 p v hk hz hb)⟩
theorem LKp.touch{S:Nat->Prop}{Z:Nat}{A B:World}(h:Touch S A B):LKp S Z A B:=⟨fun _ _ _ hk _ hb=>hb.touch h hk,fun _ _ hk _ hb=>h.cell hb hk⟩
theorem LKp.fresh{S:Nat->Prop}{Z:Nat}{A B:World}(h:Fresh A B):LKp S Z A B:= .touch (h.mono fun _ _=>False.elim)
theorem LKp.own{S:Nat->Prop}{Z:Nat}{W W':World}{e:TypeId}{sz n:Nat}{v:Value}{us:List Value}(h:LKp S Z W W')(ho:Own W e sz v n us)(he:e≠5)(hn:∀k,v.ownBlock=some k->¬S k):Own W' e sz v n us:=by
 rcases ho.2 with hnil | ⟨g,cap,cur,rfl,hh,rest⟩
 ·exact⟨ho.1, .inl hnil⟩
 ·exact⟨ho.1, .inr ⟨g,cap,cur,rfl,h.1 g e cur (hn g rfl) (.inr he) hh,rest⟩⟩
theorem LKp.bs{S:Nat->Prop}{Z:Nat}{W W':World}{A:Option Addr}{n c:Nat}{xs:List UInt8}(h:LKp S Z W W')(hb:Bs W A n c xs)(hn:∀a,A=some a->0<n->¬S a.block/\a.block<Z):Bs W' A n c xs:=
 hb.keep fun h0 p v hp ⟨a,ha,e⟩=>h.2 p v (by rw[e];exact(hn a ha h0).1) (by rw[e];exact(hn a ha h0).2) hp
theorem LKp.recs{S R:Nat->Prop}{Z:Nat}{W W':World}{vs:List Value}{rows:List (List UInt8)}(h:LKp S Z W W')(hr:RecsOf W R vs rows)(hn:∀k,R k->¬S k/\k<Z):RecsOf W' R vs rows:=
 ⟨hr.len,fun i b hb=>by
  obtain⟨A,c,h1,h2,h3⟩:=hr.at_ i b hb
  have h4:=h.bs h2 fun a ha h0=>hn _ (h3 a ha h0).1
  refine⟨A,c,h1,h4,fun a ha h0=>⟨(h3 a ha h0).1, ?_⟩⟩
  obtain⟨b',o',e,hc⟩:=h4.2.2.2 h0
  have h5:=World.block_lt_of_cell? W' _ (hc 0 (b[0]'(by have:=h4.1;omega)) (List.getElem?_eq_getElem _))
  rw[ha]at e
  injection e with e
  rw[e]
  exact h5,hr.one⟩
abbrev RcY:=Nat×List UInt8×Value
def rcEnc(x:RcY):Array Value:= #[.int .i64 (x.1:Int),x.2.2]
def RcOk(base first:Nat)(rows:List (List UInt8))(pre:List RcY)(x:RcY)(W:World):Prop:=x.1=first+pre.length/\rows[pre.length]? =some x.2.1/\Row W x.2.2 x.2.1/\(∀k,x.2.2.ownBlock=some k->base<=k)
theorem RcOk.put{base first:Nat}{rows:List (List UInt8)}{pre:List RcY}{x:RcY}{W:World}{l:Nat}{o o':Obj}(h:RcOk base first rows pre x W)(hl:W.heap[l]? =some o)(hc:o.isCells=false):RcOk base first rows pre x (W.putObj l o'):=
 ⟨h.1,h.2.1,own_own_ h.2.2.1 (grownBy_putObj' W l o') (putHr hl hc),h.2.2.2⟩
theorem RcOk.fresh{base first:Nat}{rows:List (List UInt8)}{pre:List RcY}{x:RcY}{W W1:World}(h:RcOk base first rows pre x W)(hf:Fresh W W1):RcOk base first rows pre x W1:=
 ⟨h.1,h.2.1,h.2.2.1.touch hf fun _ _=>id,h.2.2.2⟩
theorem log_told(m fb bl bd:Nat)(R:Nat->Prop)(l0:Lg)(sv rv:Value)(vs:List Value)(S:Nat->Prop)(w:World)(hm:1<=m)(hb:Blk w fb 91 #[.pointer (some ⟨bl,0,none⟩)])(hL:LM w bl bd R l0 sv rv vs)(hnx:l0.c.next<=1000000000)(hrl:∀b∈l0.c.rows,b.length<=100000000)
  (hS:∀k,S k->k<w.heap.size) (hp:∀k,R k->¬S k/\k<w.heap.size):
  SeqO Fence.wide m Tryz.prog 89 #[.pointer (some ⟨fb,0,none⟩)] rcEnc (RcOk w.heap.size l0.c.first l0.c.rows) (LKp S w.heap.size) (fun ys=>ys.length=l0.c.rows.length) (fun pre=>pre.length<=l0.c.rows.length) l0.c.rows.length w:=fun l J Jx W hW hJ hJx hY h0=>by
 have hBW:Blk W fb 91 #[.pointer (some ⟨bl,0,none⟩)]:=(hW.block fb hb.lt).trans hb
 have hwW:Touch (fun _=>False) w W:=Touch.ofBelow hW _
 have hLW:LM W bl bd R l0 sv rv vs:=hL.fresh hwW
 have hsz:=hW.size
 have hlen:l0.c.first+l0.c.rows.length<=1000000000:=hnx
 refine callsIn_of_wp Tryz.func89 rfl trivial ?_ rfl
 simp only[Tryz.ntmps89,List.size_toArray,List.length_cons,List.length_nil,Nat.reduceAdd,Nat.reduceSub,Array.replicate_succ,Array.replicate_zero,List.push_toArray,List.append_toArray,List.nil_append,List.cons_append]
 refine wpIn_wide.2 ?_
 have hform:=hLW.rows.form
 have HJ:=zh hJ;have HY:=zh hY;have HJ0:=zh h0;have HP:=zh hp;have HS:=zh hS;have HRL:=zh hrl
 have HREC:=zh hLW.recs
 have c0:W.cell? ⟨fb,0,none⟩=some (.pointer (some ⟨bl,0,none⟩)):=hBW.cell 0
 have c3:W.cell? ⟨bl,3,none⟩=some (.int .i64 (l0.c.first:Int)):=hLW.blk.cell 3
 have c4:W.cell? ⟨bl,4,none⟩=some rv:=hLW.blk.cell 4
 have HST:=zh (show∀V,Fresh W V->Fresh W V/\V.cell? ⟨fb,0,none⟩=some (.pointer (some ⟨bl,0,none⟩))/\V.cell? ⟨bl,3,none⟩=some (.int .i64 (l0.c.first:Int))/\V.cell? ⟨bl,4,none⟩=some rv from fun V hV=>⟨hV,hV.cell c0 id,hV.cell c3 id,hV.cell c4 id⟩)
 have KC:=zh (show∀V,Fresh W V->Calls Tryz.prog 90 #[rv] V fun e w'=>Fresh V w'/\∃B c',e= .returned (.slice B l0.c.rows.length c')/\Own w' 29 1 (.slice B l0.c.rows.length c') l0.c.rows.length vs/\∀k,(Value.slice B l0.c.rows.length c').ownBlock=some k->V.heap.size<=k from fun V hV=>cloneR_any rv l0.c.rows.length vs V (hLW.rows.fresh hV) hLW.recs.one (by omega))
 clear hb hL hBW hLW hJ hY h0 hp hW hwW hS hrl hform
 go_upto_region 0 with fail
 go_region_held (fun V=>Fresh W V/\V.cell? ⟨fb,0,none⟩=some (.pointer (some ⟨bl,0,none⟩))/\V.cell? ⟨bl,3,none⟩=some (.int .i64 (l0.c.first:Int))/\V.cell? ⟨bl,4,none⟩=some rv)
  (first | exact HST.out _ ((Touch.refl _ W).drew) | exact HST.out _ (Touch.refl _ W) | assumption)
  (first
   | (go_at_call 90;refine(KC.out _ (And.left (by assumption))).mono ?_;rintro e w3 ⟨t3,B,c,rfl,ho3,hn3⟩;have k2:=HST.out w3 ((And.left (by assumption:Fresh W _/\ _)).trans t3 fun _ _=>id);have HO1:=zh ho3;have HNEW:=zh (show∀k,(Value.slice B l0.c.rows.length c).ownBlock=some k->W.heap.size<=k from fun k hk=>Nat.le_trans (Touch.size (And.left (by assumption:Fresh W _/\ _))) (hn3 k hk));clear ho3 hn3))
 have HF1:=zh k2.1
 have HJ1:=zh (HJ.out [] _ _ none HJ0.out HF1.out.grown_ (fun r e=>by cases e))
 have HV1:=zh (HREC.out.touch HF1.out fun _ _=>id)
 clear k2 c0 c3 c4
 go_wp2_with fail
 go_loopw [18] (fun i wr=>∃pre:List RcY,pre.length<=l0.c.rows.length/\i= .int .i64 pre.length/\J pre wr/\Own wr 29 1 (.slice B l0.c.rows.length c) l0.c.rows.length vs/\RecsOf wr R vs l0.c.rows/\True) (fun i _=>l0.c.rows.length-(intOf i).toNat)
 case atStart=>
  exact⟨[],Nat.zero_le _,rfl,HJ1.out,HO1.out,HV1.out,trivial⟩
 case round=>
  obtain⟨pre,hpl,rfl,hj,ho,hv,hsz1⟩:=hrel
  have HJR:=zh hj;have HOR:=zh ho;have HVR:=zh hv
  obtain⟨k,hk⟩:∃k,k=pre.length:=⟨_,rfl⟩
  rw[<- hk]at hpl ⊢
  have HK:=zh hk
  clear hj ho hv hk
  by_cases hlt:k<l0.c.rows.length
  ·obtain⟨b,hbk⟩:∃b,l0.c.rows[k]? =some b:=⟨_,List.getElem?_eq_getElem hlt⟩
   obtain⟨A,cb,hvk,hbs,hRk⟩:=HVR.out.at_ k b hbk
   obtain⟨g,rfl⟩:∃g,B=some ⟨g,0,none⟩:=by
    obtain⟨A',c',hv,_,_,hA'⟩:=HOR.out.form
    injection hv with e1 _ _
    rcases hA' with⟨_,h0,_⟩ | ⟨g,hg⟩
    ·omega
    ·exact⟨g,e1.trans hg⟩
   have hck:wr.cell? ⟨g,k,none⟩=some (.slice A b.length cb):=by
    have:=HOR.out.cell (j:=k) (by omega)
    rw[hvk]at this
    simpa using this
   have KB:=zh (clone_any A b.length cb b wr hbs (by have:=HRL.out b (List.mem_of_getElem? hbk);omega))
   have HBK:=zh hbk
   have hwi:IntKind.i64.wrap ((l0.c.first:Int)+(k:Int))=(l0.c.first:Int)+(k:Int):=IntWalk.i64_in _ (by omega)
   clear hbs hRk hvk hbk
   refine wpIn_wide (n:=m).1 ?_
   gi_wp2
   refine⟨trivial,(callsIn_wide (n:=m-1).2 KB.out).mono ?_⟩
   rintro e w3 ⟨hf3,B3,c3,rfl,hr3,hn3⟩
   have HF3:=zh hf3
   have HX:=zh (show RcOk w.heap.size l0.c.first l0.c.rows pre (l0.c.first+k,b, .slice B3 b.length c3) w3 from⟨by rw[HK.out],by rw[<- HK.out];exact HBK.out,hr3,fun q hq=>by
    cases B3 with
    | none=>cases hq
    | some a=>
     have h1:=hn3 a rfl
     have h3:=HNEW.out g rfl
     have h4:=HOR.out.lt g rfl
     have hak:a.block=q:=by simpa [Value.ownBlock] using hq
     omega⟩)
   have HJ3:=zh (HJ.out pre _ _ none HJR.out hf3.grown_ (fun r e=>by cases e))
   have hy0:=HY.out pre (l0.c.first+k,b, .slice B3 b.length c3) w3 HJ3.out HX.out (by have:=HK.out;omega)
   have HSUM:=zh (show ((l0.c.first+k:Nat):Int)=(l0.c.first:Int)+(k:Int) by omega)
   clear hf3 hr3 hn3
   obtain⟨fn,tmps,assign,body,hy,hR⟩:=hy0
   dsimp only[rcEnc]at hy
   rw[HSUM.out]at hy
   gi_wp2
   refine hR.mono ?_
   rintro e W3 (⟨rfl,hJ3,hk3⟩ | ⟨rfl,hJx3⟩)
   ·have HOW:=zh (hk3.own ((HOR.out.touch HF3.out fun _ _=>id)) (by decide) fun q hq e=>by
     have h1:=HNEW.out q hq
     have h2:=HS.out q e
     omega)
    have HVW:=zh (show RecsOf W3 R vs l0.c.rows from hk3.recs (HVR.out.touch HF3.out fun _ _=>id) HP.out)
    have HJW:=zh hJ3
    clear hk3 hJ3 hR
    gi_wp2
    go_roundw
    case rel=>
     exact⟨_,by simp;have:=HK.out;omega,by have:=HK.out;go_num,HJW.out,HOW.out,HVW.out,trivial⟩
    case measure=>simp[intOf]<;>omega
   ·have HJW:=zh hJx3
    clear hJx3 hR
    gi_wp2
    refine bodyPost_ret (results_none rfl _ _ _) rfl ?_
    exact⟨⟨_,rfl⟩, .inr ⟨_,by have:=HK.out;simp;omega,HJW.out⟩⟩
  ·obtain rfl:k=l0.c.rows.length:=by omega
   go_wp2_with fail
   go_end0
   exact⟨⟨_,rfl⟩, .inl ⟨pre,HK.out.symm,HJR.out⟩⟩
theorem LKp.put{S:Nat->Prop}{Z:Nat}(W:World)(l:Nat)(o o':Obj)(hl:W.heap[l]? =some o)(hc:o.isCells=false):LKp S Z W (W.putObj l o'):=by
 refine⟨fun _ _ _ _ _ hb=>hb.own_ (grownBy_putObj' W l o') (putHr hl hc),fun p v _ _ hp=> ?_⟩
 by_cases hpl:p.block=l
 ·subst hpl
  unfold World.cell? at hp
  rw[hl]at hp
  cases o<;>simp_all [Obj.isCells]
 ·rw[World.cell?_of_block (World.putObj_heap_other hpl)]
  exact hp
theorem lall_any(bl:Nat)(w:World):Calls Tryz.prog 52 #[.pointer (some ⟨bl,0,none⟩)] w fun e w'=>e= .returned (.func (.func 89) #[] #[.pointer (some ⟨w.heap.size,0,none⟩)])/\w'=w.alloc (.cells #[.pointer (some ⟨bl,0,none⟩)] 91):=by
 go_enter Tryz.func52,Tryz.ntmps52
 go_wp2_with fail
 go_ret
 exact⟨rfl,rfl⟩
end Go.Proofs.YtjehlgblkfofpaaGreat
namespace Go.Proofs.YtjehlgblkfofpaaGreat
def framesTo(first from_:Nat)(rows:List (List UInt8))(k:Nat):List UInt8:=encs (putsOf (max first from_) ((rows.take k).drop (from_-first)))
theorem framesTo_zero(first from_:Nat)(rows:List (List UInt8)):framesTo first from_ rows 0= []:=by simp[framesTo,putsOf,encs]
theorem putsOf_snoc:∀(l:List (List UInt8)) (n:Nat) (b:List UInt8),putsOf n (l++ [b])=putsOf n l++ [It.put (n+l.length) b]
 | [],n,b=>by simp[putsOf]
 | a :: l,n,b=>by
  show It.put n a :: putsOf (n+1) (l++ [b])=It.put n a :: (putsOf (n+1) l++ [It.put (n+(l.length+1)) b])
  rw[putsOf_snoc l (n+1) b,show n+1+l.length=n+(l.length+1) by omega]
theorem framesTo_succ{first from_:Nat}{rows:List (List UInt8)}{k:Nat}{b:List UInt8}(h:rows[k]? =some b):
  framesTo first from_ rows (k+1)=if from_<=first+k then framesTo first from_ rows k++(It.put (first+k) b).enc else framesTo first from_ rows k:=by
 have hk:=(List.getElem?_eq_some_iff.1 h).1
 have ht:rows.take (k+1)=rows.take k++ [b]:=by rw[List.take_add_one,h];rfl
 have hl:(rows.take k).length=k:=by rw[List.length_take];omega
 unfold framesTo
 rw[ht]
 split
 ·rename_i hle
  rw[List.drop_append_of_le_length (by omega),putsOf_snoc,List.length_drop,hl,show max first from_+(k-(from_-first))=first+k by omega]
  simp[encs]
 ·rename_i hle
  rw[List.drop_of_length_le (by rw[List.length_append,hl];simp;omega),List.drop_of_length_le (by omega)]
end Go.Proofs.YtjehlgblkfofpaaGreat
namespace Go.Proofs.YtjehlgblkfofpaaGreat
open Go.RowKit
def SeqF{α:Type}(F:Fence)(n:Nat)(P:Program)(g:Nat)(lb:Array Value)(encs:α->Array Value)(Ok:List α->α->World->Prop)(Kp:World->World->Prop)(S Sp:List α->Prop)(N:Nat)(w:World):Prop:=
 ∀(l:Nat) (J Jx:List α->World->Prop) (W:World),Below w.heap.size w W->(∀s A B,J s A->Fresh A B->J s B)->(∀s A B,Jx s A->Fresh A B->Jx s B)->
  (∀pre x W1,J pre W1->Ok pre x W1->pre.length<N->YieldAt F (n-1) P l (encs x) W1 fun e W'=>
   (e= .returned (.bool true)/\J (pre++ [x]) W'/\Kp W1 W')\/(e= .returned (.bool false)/\Jx (pre++ [x]) W'))->
  J [] W->CallsIn F n P g (#[.func (.yield l) #[] #[]]++lb) W fun e W'=>(∃v,e= .returned v)/\((∃xs,S xs/\J xs W')\/(∃pre,Sp pre/\Jx pre W'))
def KeepsLoops(W W':World):Prop:=∀(k:Nat) (o:Obj),W.heap[k]? =some o->o.isCells=false->o.isWalk=false->W'.heap[k]? =some o
def fPost{α:Type}(Kp:World->World->Prop)(I Ix:List α->World->Prop)(xs:List α)(W:World):Exit->Act->World->Prop
 | .normal,_,W'=>KeepsLoops W W'/\Kp W W'/\I xs W'
 | .ret,_,W'=>KeepsLoops W W'/\Ix xs W'
 | _,_,_=>False
section
variable {F:Fence}{n:Nat}{P:Program}
theorem Rec.loops{k:Nat}{r:Loop}{W W':World}(h:Rec k r W)(hk:KeepsLoops W W'):Rec k r W':=⟨hk _ _ h.1 rfl rfl,hk _ _ h.2 rfl rfl⟩
theorem range_fr{α:Type}{g:Operand}{ps:Array Tmp}{assign body:Code}{Q:Exit->Act->World->Prop}{a:Act}{w:World}
  (hro:F.round=none) (h1:1<=n) {gf:Nat} {lb:Array Value} (hg:a.eval g= .func (.func gf) #[] lb) (hFg:F.fn gf) (eg:∀args w,(callFunc gf args).run P w= .ok (.enter gf args) w)
  {encs:α->Array Value} {Ok:List α->α->World->Prop} {Kp:World->World->Prop} {S Sp:List α->Prop} {N:Nat} (hseq:SeqF F (n-1) P gf lb encs Ok Kp S Sp N w)
  (hOk:∀(pre:List α) (x:α) (W:World) (l:Nat) (o o':Obj),Ok pre x W->W.heap[l]? =some o->o.isCells=false->Ok pre x (W.putObj l o'))
  (hOkF:∀(pre:List α) (x:α) (W W1:World),Ok pre x W->Fresh W W1->Ok pre x W1)
  (R:α->Act->World->Prop) (hRp:∀(x:α) (b:Act) (W:World) (l:Nat) (o o':Obj),R x b W->W.heap[l]? =some o->o.isCells=false->R x b (W.putObj l o')) (hKf:∀{A B:World},Fresh A B->Kp A B)
  (hKt:∀{A B C:World},Kp A B->Kp B C->Kp A C) (hKb:∀(W:World) (l:Nat) (o o':Obj),w.heap.size<=l->W.heap[l]? =some o->o.isCells=false->o.isWalk=false->Kp W (W.putObj l o')) (hps:∀x,(encs x).size=ps.size)
  (I:List α->World->Prop) (Ix:List α->World->Prop) (hI:∀s A B,I s A->Fresh A B->I s B) (hIx:∀s A B,Ix s A->Fresh A B->Ix s B)
  (hIl:∀s A k r r',I s A->w.heap.size<=k->A.heap[k]? =some (.loop r)->I s (A.putObj k (.loop r'))) (hIxl:∀s A k r r',Ix s A->w.heap.size<=k->A.heap[k]? =some (.loop r)->Ix s (A.putObj k (.loop r'))) (h0:I [] w)
  (hassign:∀(l:Nat) (pre:List α) (x:α) (W:World) (K:Act->World->Prop),Ok pre x W->(∀a₁ W₁,Fresh W W₁->R x a₁ W₁->K a₁ W₁)->
   assign.wpIn (F.inRound l) (n-1-1) P (Exit.then K (fun _ _ _=>False)) { tmps:=(ps.zip (encs x)).foldl (fun t (p,v)=>t.setIfInBounds p v) a.tmps,defers:= [] } W)
  (hbody:∀(l:Nat) (pre:List α) (x:α) (a₁:Act) (W:World),I pre W->Ok pre x W->R x a₁ W->pre.length<N->body.wpIn (F.inRound l) (n-1-1) P
   (fPost Kp I Ix (pre++ [x]) W) a₁ W)
  (hdone:∀(D:Nat) (xs:List α) (W:World),w.heap.size<=D->S xs->I xs W->W.heap[D]? =some (.deferred (some []))->Q .normal { a with defers:={ target:= .collected D,args:= #[] } :: a.defers } W)
  (hstop:∀(D:Nat) (pre:List α) (W:World),w.heap.size<=D->Sp pre->Ix pre W->W.heap[D]? =some (.deferred (some []))->Code.ret.wpIn F n P Q { a with defers:={ target:= .collected D,args:= #[] } :: a.defers } W):
  (Code.rangeFunc g ps assign body).wpIn F n P Q a w:=by
 refine wpIn_rangeFunc fun fn hfn=> ?_
 rw[hro]
 obtain⟨rec,hrec⟩:∃rec:LoopState->Option Code->Loop,rec=fun st pe=>{ state:=st,pending:=pe,fn,tmps:=a.tmps,params:=ps,assign,body,defers:=w.heap.size }:=⟨_,rfl⟩
 have hst:∀st pe st',({ rec st pe with state:=st' }:Loop)=rec st' pe:=by subst hrec;intros;rfl
 have hsp:∀st pe st' pe',({ rec st pe with state:=st',pending:=pe' }:Loop)=rec st' pe':=by subst hrec;intros;rfl
 obtain⟨W1,hW1⟩:∃W1,(w.alloc (.deferred (some []))).alloc (.loop (rec .ready none))=W1:=⟨_,rfl⟩
 have hR1:Rec w.heap.size (rec .ready none) W1:=by
  rw[<- hW1]
  refine⟨?_,(Below.heap_alloc _ _ _ (by simp)).trans (World.alloc_heap_new w _)⟩
  have:=World.alloc_heap_new (w.alloc (.deferred (some []))) (.loop (rec .ready none))
  rwa [World.size_alloc]at this
 have hsz:w.heap.size+2=W1.heap.size:=by rw[<- hW1];simp
 have hw1:Below w.heap.size w W1:=by rw[<- hW1];exact((Below.refl _ w).alloc (Nat.le_refl _) _).alloc (by simp) _
 have hI1:I [] W1:=by rw[<- hW1];exact hI _ _ _ h0 (((Touch.refl _ w).alloc _).alloc _)
 refine⟨w.heap.size+1, [{ target:= .collected w.heap.size,args:= #[] }],W1,{ target:= .fn (.func gf) lb,args:= #[.func (.yield (w.heap.size+1)) #[] #[]] },W1,gf,
  #[.func (.yield (w.heap.size+1)) #[] #[]]++lb,W1,by rw[<- hW1,hrec];exact run_enterLoop_outer _ _ _ _ _,by simp only[resolve,hg];simp[go_sem], ?_,by simp[invoke,go_sem,eg],fun _=>h1, ?_⟩
 ·intro f' hf'
  simp[Target.leads]at hf'
  subst hf'
  exact hFg
 refine(hseq (w.heap.size+1) (fun pre W=>I pre W/\Rec w.heap.size (rec .ready none) W) (fun pre W=>Ix pre W/\Rec w.heap.size (rec .done (some .ret)) W) W1 hw1
  (fun s A B hs hf=>⟨hI s A B hs.1 hf,hf.heap hs.2.1 id,hf.heap hs.2.2 id⟩) (fun s A B hs hf=>⟨hIx s A B hs.1 hf,hf.heap hs.2.1 id,hf.heap hs.2.2 id⟩) ?_ ⟨hI1,hR1⟩).mono ?_
 ·-- one round
  rintro pre x W ⟨hi,hl⟩ hok hlen
  have hy:=run_yield (P:=P) (args:=encs x) hl.1 (by rw[hrec];exact hps x)
  rw[hrec]at hy
  refine⟨fn,_,assign,body,hy,roundIn_of_wpIn hfn (hassign _ pre x W _ hok fun b0 W0 hf0 hr0=> ?_)⟩
  have hl0:Rec w.heap.size (rec .ready none) W0:=⟨hf0.heap hl.1 id,hf0.heap hl.2 id⟩
  have hi0:I pre W0:=hI pre W W0 hi hf0
  refine⟨_,run_beginRound hl0.1 (by rw[hrec]), ?_⟩
  rw[hst]
  have hb:=hl0.put (rec .busy none)
  have hq:=hKt (hKf hf0) (hKb W0 _ _ (.loop (rec .busy none)) (by omega) hl0.1 rfl rfl)
  refine wpIn_mono (hbody _ pre x b0 _ (hIl _ _ _ _ _ hi0 (by omega) hl0.1) (hOk _ _ _ _ _ _ (hOkF _ _ _ _ hok hf0) hl0.1 rfl) (hRp _ _ _ _ _ _ hr0 hl0.1 rfl) hlen) ?_
  rintro e a3 W3 hp
  cases e with
  | normal=>
   obtain⟨hk3,hkp3,hi3⟩:=hp
   have hr3:=hb.loops hk3
   have hend:=run_endRound (P:=P) none hr3.1
   rw[hsp]at hend
   exact⟨_,_,hend, .inl ⟨rfl,⟨hIl _ _ _ _ _ hi3 (by omega) hr3.1,hr3.put _⟩,hKt (hKt hq hkp3) (hKb _ _ _ _ (by omega) hr3.1 rfl rfl)⟩⟩
  | ret=>
   obtain⟨hk3,hi3⟩:=hp
   have hr3:=hb.loops hk3
   have hend:=run_endRound (P:=P) (some .ret) hr3.1
   rw[hsp]at hend
   exact⟨_,_,hend, .inr ⟨rfl,hIxl _ _ _ _ _ hi3 (by omega) hr3.1,hr3.put _⟩⟩
  | exit id=>exact hp.elim
  | goto t=>exact hp.elim
  | panic ch=>exact hp.elim
  | outgrown=>exact hp.elim
 ·-- behind the iterator
  rintro e W2 ⟨⟨v,rfl⟩,(⟨xs,hS,hi,hl⟩ | ⟨pre,hSp,hi,hl⟩)⟩
  ·have hend:=run_endLoop (P:=P) hl.1 (by rw[hrec];simp)
   rw[hst]at hend
   rw[show (rec .ready none).pending=none by rw[hrec]]at hend
   exact⟨none,_,hend,hdone _ xs _ (Nat.le_refl _) hS (hIl _ _ _ _ _ hi (by omega) hl.1) (hl.put _).2⟩
  ·have hend:=run_endLoop (P:=P) hl.1 (by rw[hrec];simp)
   rw[hst]at hend
   rw[show (rec .done (some .ret)).pending=some .ret by rw[hrec]]at hend
   exact⟨some .ret,_,hend,hstop _ pre _ (Nat.le_refl _) hSp (hIxl _ _ _ _ _ hi (by omega) hl.1) (hl.put _).2⟩
end
def ranged{α:Type}(a:Act)(ps:Array Tmp)(encs:α->Array Value)(sets:α->List (Tmp×Value))(x:α):Act:=
 { tmps:=(sets x).foldl (fun t p=>t.setIfInBounds p.1 p.2) ((ps.zip (encs x)).foldl (fun t (p,v)=>t.setIfInBounds p v) a.tmps),defers:= [] }
section
variable {F:Fence}{n:Nat}{P:Program}
theorem range_fs{α:Type}{g:Operand}{ps:Array Tmp}{assign body:Code}{Q:Exit->Act->World->Prop}{a:Act}{w:World}
  (hro:F.round=none) (h1:1<=n) {gf:Nat} {lb:Array Value} (hg:a.eval g= .func (.func gf) #[] lb) (hFg:F.fn gf) (eg:∀args w,(callFunc gf args).run P w= .ok (.enter gf args) w)
  {encs:α->Array Value} {Ok:List α->α->World->Prop} {Kp:World->World->Prop} {S Sp:List α->Prop} {N:Nat} (hseq:SeqF F (n-1) P gf lb encs Ok Kp S Sp N w)
  (hOk:∀(pre:List α) (x:α) (W:World) (l:Nat) (o o':Obj),Ok pre x W->W.heap[l]? =some o->o.isCells=false->Ok pre x (W.putObj l o'))
  (hOkF:∀(pre:List α) (x:α) (W W1:World),Ok pre x W->Fresh W W1->Ok pre x W1)
  (sets:α->List (Tmp×Value)) (hKf:∀{A B:World},Fresh A B->Kp A B)
  (hKt:∀{A B C:World},Kp A B->Kp B C->Kp A C) (hKb:∀(W:World) (l:Nat) (o o':Obj),w.heap.size<=l->W.heap[l]? =some o->o.isCells=false->o.isWalk=false->Kp W (W.putObj l o')) (hps:∀x,(encs x).size=ps.size)
  (I:List α->World->Prop) (Ix:List α->World->Prop) (hI:∀s A B,I s A->Fresh A B->I s B) (hIx:∀s A B,Ix s A->Fresh A B->Ix s B)
  (hIl:∀s A k r r',I s A->w.heap.size<=k->A.heap[k]? =some (.loop r)->I s (A.putObj k (.loop r'))) (hIxl:∀s A k r r',Ix s A->w.heap.size<=k->A.heap[k]? =some (.loop r)->Ix s (A.putObj k (.loop r'))) (h0:I [] w)
  (hassign:∀(l:Nat) (pre:List α) (x:α) (W:World) (K:Act->World->Prop),Ok pre x W->(∀a₁ W₁,Fresh W W₁->a₁=ranged a ps encs sets x->K a₁ W₁)->
   assign.wpIn (F.inRound l) (n-1-1) P (Exit.then K (fun _ _ _=>False)) { tmps:=(ps.zip (encs x)).foldl (fun t (p,v)=>t.setIfInBounds p v) a.tmps,defers:= [] } W)
  (hbody:∀(l:Nat) (pre:List α) (x:α) (a₁:Act) (W:World),I pre W->Ok pre x W->a₁=ranged a ps encs sets x->pre.length<N->body.wpIn (F.inRound l) (n-1-1) P
   (fPost Kp I Ix (pre++ [x]) W) a₁ W)
  (hdone:∀(D:Nat) (xs:List α) (W:World),w.heap.size<=D->S xs->I xs W->W.heap[D]? =some (.deferred (some []))->Q .normal { a with defers:={ target:= .collected D,args:= #[] } :: a.defers } W)
  (hstop:∀(D:Nat) (pre:List α) (W:World),w.heap.size<=D->Sp pre->Ix pre W->W.heap[D]? =some (.deferred (some []))->Code.ret.wpIn F n P Q { a with defers:={ target:= .collected D,args:= #[] } :: a.defers } W):
  (Code.rangeFunc g ps assign body).wpIn F n P Q a w:=
 range_fr hro h1 hg hFg eg hseq hOk hOkF (fun x b _=>b=ranged a ps encs sets x) (fun _ _ _ _ _ _ h _ _=>h) hKf hKt hKb hps I Ix hI hIx hIl hIxl h0 hassign hbody hdone hstop
end
end Go.Proofs.YtjehlgblkfofpaaGreat