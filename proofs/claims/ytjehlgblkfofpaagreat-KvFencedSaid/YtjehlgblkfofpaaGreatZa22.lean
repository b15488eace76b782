/- The claims' texts, several in one: Held, Frw. Conditions stand with each theorem. -/
import Derived.Test.YtjehlgblkfofpaaGreatZa18
import Derived.OrdersHeld
import Derived.OrdersIn
import Derived.RangeFuncIn
import Derived.ControlIn
import Derived.Deep.RegionHeld3
set_option maxHeartbeats 4000000
set_option maxRecDepth 100000
namespace Go.Proofs.YtjehlgblkfofpaaGreat
open Go.RowKit
section
variable {P:Program}{md:Region.Mode}{ops:Array Oper}{Q:Exit->Act->World->Prop}
theorem rowsIn_of{n:Nat}{row:String}{args:Array Value}{w:World}{R:Value->World->Prop}(h:Rows P row args w R):RowsIn Fence.wide n P row args w R:=fun c cs _=>by
 obtain⟨v,w',r,s⟩:=h c cs
 exact⟨v,w',r,stepsIn_wide.2 s⟩
theorem opIn_of_op{n i:Nat}{K:Act->World->Prop}{a:Act}{w:World}(hL:¬LetsOut Q)(h:wpOp P ops Q i K a w):wpOpIn Fence.wide n P ops Q i K a w:=by
 unfold wpOp at h
 unfold wpOpIn
 split
 ·rename_i ho
  simpa only[ho] using h
 ·rename_i o ho
  simp only[ho]at h
  split
  ·rename_i hw
   simp only[hw,if_true]at h
   have h:=h.resolve_right fun h'=>hL h'.2
   unfold Oper.wp at h
   unfold Oper.wpIn
   refine⟨fun _ _=>trivial, ?_⟩
   rw[show Fence.wide.round=none from rfl,Oper.semAt_none]
   generalize (execOp a.eval o).run P w=r at*
   cases r with
   | ok x w'=>cases x<;>simp only[Oper.upon,Oper.uponIn]at h ⊢<;>first | exact h | exact⟨(fun h'=>by cases h'),callsIn_wide.2 h⟩ | exact⟨(fun h'=>by cases h'),rowsIn_of h⟩
   | halt x w'=>cases x<;>simp only[Oper.upon,Oper.uponIn]at h ⊢<;>exact h
  ·rename_i hw
   simp only[hw]at h
   exact⟨fun _ _=>trivial,h⟩
theorem anyIn_of_any{n:Nat}(hL:¬LetsOut Q):∀(fuel:Nat) (listed:Array Bool) (a:Act) (w:World),wpAny P md ops Q fuel listed a w->wpAnyIn Fence.wide n P md ops Q fuel listed a w
 | 0,_,_,_,h=>h
 | fuel+1,_,_,_,h=>⟨h.1,fun i hi=>opIn_of_op hL (wpOp_mono (fun a' w' h'=>anyIn_of_any hL fuel _ a' w' h') (h.2 i hi))⟩
theorem region_held_round{id n:Nat}{a:Act}{w:World}{ol:List Oper}(S:World->Prop)(l:Nat)(hL:¬LetsOut Q)(hd:∀o∈ol,∀c,o.op≠ .defer c)(hm:P.follows .mixedOrders=true)
  (hS:S w.drew) (h:S w.drew->wpAnyH P .any ol.toArray Q S ol.toArray.size (Array.replicate ol.toArray.size false) a w.drew):(Code.region id ol.toArray true).wpIn (Fence.wide.inRound l) n P Q a w:=
 wpIn_region_any hm (anyIn_round l rfl hd _ _ _ _ (anyIn_of_any hL _ _ _ _ (wpAny_of_held _ _ _ _ (h hS))))
theorem take_l{S:World->Prop}{ol:List Oper}{i:Nat}{oi:Oper}{v:Value}{fuel:Nat}{listed:Array Bool}{a:Act}{w:World}(hi:ol[i]? =some oi)
  (hs:Region.noSelect ol.toArray=true) (hf:Region.free md ol.toArray listed i=true) (hr:(Region.ready md ol.toArray listed).contains i=true)
  (hQ:∀c a w,Q (.panic c) (a.put oi.dst v) w->Q (.panic c) a w) (hy:YieldsIf P ol.toArray S oi v a) (hS:S w)
  (h:wpAnyH P md ol.toArray Q S fuel (listed.setIfInBounds i true) (a.put oi.dst v) w):wpAnyH P md ol.toArray Q S (fuel+1) listed a w:=
 wpAnyH_take (by simpa using hi) hs hf hr hQ hy hS h
theorem ready_l{S:World->Prop}{ol:List Oper}{fuel:Nat}{listed:Array Bool}{a:Act}{w:World}{i:Nat}{o:Oper}(hr:Region.ready md ol.toArray listed= [i])(ho:ol[i]? =some o)
  (h:∀K':Act->World->Prop,Shut (∀a w,S w->(S w->wpAnyH P md ol.toArray Q S fuel (listed.setIfInBounds i true) a w)->K' a w)->if Region.wanted o (yielded ol.toArray a.tmps)=true then Oper.wp P o a w K' Q else K' (a.put o.dst undef) w):
  wpAnyH P md ol.toArray Q S (fuel+1) listed a w:=
 wpAnyH_ready hr (by simp) (AllReadyH.cons (by simpa using ho) h AllReadyH.nil)
end
attribute [local go_sem] Oper.semAt_some
theorem Own.own_{A B:World}{row:Option Nat}{e:TypeId}{sz n:Nat}{v:Value}{us:List Value}(h:Own A e sz v n us)(hg:A.grownBy B row)(hr:∀r,row=some r->∃o:Obj,A.heap[r]? =some o/\o.isCells=false):Own B e sz v n us:=by
 rcases h.2 with hnil | ⟨g,cap,cur,rfl,hh,rest⟩
 ·exact⟨h.1, .inl hnil⟩
 ·exact⟨h.1, .inr ⟨g,cap,cur,rfl,Blk.own_ (t:=e) hh hg hr,rest⟩⟩
def FrI(b3 b5 z from_ first:Nat)(rows:List (List UInt8))(w:World)(pre:List RcY)(V:World):Prop:=
 (∃vb,Blk V b3 3 #[.int .i64 (from_:Int)]/\Blk V b5 29 #[vb]/\Own V 5 1 vb (framesTo first from_ rows pre.length).length (u8s (framesTo first from_ rows pre.length))/\(∀q,vb.ownBlock=some q->z<=q)/\z<=V.heap.size)/\Below w.heap.size w V
theorem FrI.own_{b3 b5 z from_ first:Nat}{rows:List (List UInt8)}{w w2:World}(h2:w.heap.size<=w2.heap.size):OwnFrom w2.heap.size (FrI b3 b5 z from_ first rows w):=
 OwnFrom.and (Own.from (fun _ _ _ _ hs hg hr=>by obtain⟨vb,q1,q2,q3,q4,q5⟩:=hs;exact⟨vb,q1.own_ hg hr,q2.own_ hg hr,q3.own_ hg hr,q4,Nat.le_trans q5 hg.size⟩) _) (ownFrom_below (Nat.le_refl _) h2)
theorem sum_take_le(f:List UInt8->Nat):∀(l:List (List UInt8)) (k:Nat),((l.take k).map f).sum<=(l.map f).sum
 | [],k=>by simp
 | a :: l,0=>by simp
 | a :: l,k+1=>by
  have:=sum_take_le f l k
  simp only[List.take_succ_cons,List.map_cons,List.sum_cons]
  omega
theorem sum_drop_le(f:List UInt8->Nat):∀(l:List (List UInt8)) (k:Nat),((l.drop k).map f).sum<=(l.map f).sum
 | [],k=>by simp
 | a :: l,0=>by simp
 | a :: l,k+1=>by
  have:=sum_drop_le f l k
  simp only[List.drop_succ_cons,List.map_cons,List.sum_cons]
  omega
theorem putsOf_len:∀(l:List (List UInt8)) (n:Nat),(encs (putsOf n l)).length=(l.map fun b=>b.length+25).sum
 | [],n=>by simp[putsOf,encs]
 | a :: l,n=>by
  have ih:=putsOf_len l (n+1)
  have he:(It.put n a).enc.length=a.length+25:=by
   have h1:(It.put n a).enc=metaF 114 [n]++Enc.frame a:=rfl
   rw[h1,List.length_append,metaF_len,Enc.frame_len]
   simp only[List.length_cons,List.length_nil]
   omega
  rw[List.map_cons,List.sum_cons,<- ih,<- he]
  show (encs (It.put n a :: putsOf (n+1) l)).length= _
  simp[encs]
theorem framesTo_le(first from_:Nat)(rows:List (List UInt8))(k:Nat):(framesTo first from_ rows k).length<=(encs (putsOf first rows)).length:=by
 unfold framesTo
 rw[putsOf_len,putsOf_len]
 exact Nat.le_trans (sum_drop_le _ _ _) (sum_take_le _ _ _)
theorem LKp.grown{S:Nat->Prop}{Z:Nat}{A B:World}{row:Option Nat}(hg:A.grownBy B row)(hr:∀r,row=some r->Z<=r/\∀t cs,t≠5->¬Blk A r t cs):LKp S Z A B:=by
 refine⟨fun k t cs _ hz hb=>hb.grown hg fun e=> ?_,fun p v _ hz hp=> ?_⟩
 ·obtain⟨h1,h2⟩:=hr k e.symm
  rcases hz with hz | hz
  ·omega
  ·exact h2 t cs hz hb
 ·rw[World.cell?_of_block (hg.block p.block (World.block_lt_of_cell? A p hp) fun e=>by have:=(hr p.block e.symm).1;omega)]
  exact hp
theorem keepsF{V W:World}(h:Fresh V W):KeepsOthers V W:=⟨h.size,fun _ _ hk _=>h.heap hk id⟩
theorem Own.cells_row{w:World}{e:TypeId}{sz n:Nat}{v:Value}{us:List Value}(h:Own w e sz v n us){j:Nat}(hj:v.ownBlock=some j):∃cs,Blk w j e cs:=by
 rcases h.2 with hnil | ⟨g,cap,cur,rfl,hh,_⟩
 ·rcases hnil with⟨rfl,_⟩
  cases hj
 ·injection hj with hj
  subst hj
  exact⟨_,hh⟩
theorem blk_typ2{w:World}{g:Nat}{t t':TypeId}{cs cs':Array Value}(h:Blk w g t cs)(h':Blk w g t' cs'):t=t':=by
 have:=h.symm.trans h'
 injection this with this
 injection this
theorem fr_end{w V w3 w4:World}{z from_ first i:Nat}{rows:List (List UInt8)}{pre:List RcY}{b:List UInt8}{v vb:Value}{B4:Option Addr}{c4:Nat}
  (h3:Blk V w.heap.size 3 #[.int .i64 (from_:Int)]) (h5:Blk V (w.heap.size+1) 29 #[vb]) (ho:Own V 5 1 vb (framesTo first from_ rows pre.length).length (u8s (framesTo first from_ rows pre.length)))
  (hn:∀q,vb.ownBlock=some q->z<=q) (hbl:Below w.heap.size w V) (hsu:framesTo first from_ rows (pre.length+1)=if from_<=first+pre.length then framesTo first from_ rows pre.length++(It.put (first+pre.length) b).enc else framesTo first from_ rows pre.length)
  (hi:i=first+pre.length) (hge:from_<=i) (hf:Fresh V w3) (g4:w3.grownBy w4 vb.ownBlock)
  (b4:(Value.slice B4 ((framesTo first from_ rows pre.length).length+(It.put i b).enc.length) c4).ownBlock=vb.ownBlock\/(Value.slice B4 ((framesTo first from_ rows pre.length).length+(It.put i b).enc.length) c4).ownBlock=some w3.heap.size)
  (o4:Own w4 5 1 (.slice B4 ((framesTo first from_ rows pre.length).length+(It.put i b).enc.length) c4) ((framesTo first from_ rows pre.length).length+(It.put i b).enc.length) (u8s (framesTo first from_ rows pre.length)++u8s (It.put i b).enc))
  (hz:w.heap.size+1<z/\z<=V.heap.size):
  KeepsOthers V (w4.setCell ⟨w.heap.size+1,0,none⟩ (.slice B4 ((framesTo first from_ rows pre.length).length+(It.put i b).enc.length) c4))/\
  LKp (fun k=>k=w.heap.size+1) z V (w4.setCell ⟨w.heap.size+1,0,none⟩ (.slice B4 ((framesTo first from_ rows pre.length).length+(It.put i b).enc.length) c4))/\
  FrI w.heap.size (w.heap.size+1) z from_ first rows w (pre++ [(i,b,v)]) (w4.setCell ⟨w.heap.size+1,0,none⟩ (.slice B4 ((framesTo first from_ rows pre.length).length+(It.put i b).enc.length) c4)):=by
 obtain⟨x,hx⟩:∃x,x=Value.slice B4 ((framesTo first from_ rows pre.length).length+(It.put i b).enc.length) c4:=⟨_,rfl⟩
 rw[<- hx]at b4 o4 ⊢
 have ho3:=ho.touch hf fun _ _=>id
 have h33:=h3.touch hf id
 have h53:=h5.touch hf id
 have h34:=h33.grown g4 fun e=>ho3.ne_blk h33 (by decide) e.symm
 have h54:=h53.grown g4 fun e=>ho3.ne_blk h53 (by decide) e.symm
 have hsz3:=hf.size
 have hsz4:=g4.size
 obtain⟨W,hW⟩:∃W,W=w4.setCell ⟨w.heap.size+1,0,none⟩ x:=⟨_,rfl⟩
 have hT:Touch (fun k=>k=w.heap.size+1) w4 W:=by rw[hW];exact(Touch.refl (fun k=>k=w.heap.size+1) w4).setCell (p:=⟨w.heap.size+1,0,none⟩) (.inr rfl) _
 have hxn:∀q,x.ownBlock=some q->z<=q:=by
  intro q hq
  rcases b4 with e | e
  ·exact hn q (e.symm.trans hq)
  ·rw[hq]at e
   injection e with e
   omega
 have h5W:Blk W (w.heap.size+1) 29 #[x]:=by rw[hW];simpa using h54.set_ 0 x
 rw[<- hW]
 refine⟨?_, ?_,⟨x,h34.touch hT (by omega),h5W, ?_,hxn,Nat.le_trans (by omega) hT.size⟩, ?_⟩
 ·refine(keepsF hf).trans ((KeepsOthers.of_grownBy g4 fun j o hj hjo=> ?_).trans (by rw[hW];exact KeepsOthers.setCell _ _ _))
  obtain⟨cs,hcs⟩:=ho3.cells_row hj
  have:=hjo.symm.trans hcs
  injection this with this
  rw[this]
  rfl
 ·refine(LKp.fresh hf).trans_ ((LKp.grown g4 fun r hr=>⟨hn r hr,fun t cs ht hb=> ?_⟩).trans_ (LKp.touch hT))
  obtain⟨cs',hcs⟩:=ho3.cells_row hr
  exact ht (blk_typ2 hb hcs)
 ·rw[List.length_append,List.length_singleton,hsu,if_pos (by omega),<- hi,List.length_append,u8s_append]
  exact o4.touch hT fun q hq e=>by have:=hxn q hq;omega
 ·have h1:=hbl.trans (hf.bel.mono hbl.size)
  have h2:=h1.grown g4 (by omega) fun k hk=>by have:=hn k hk;omega
  rw[hW]
  exact h2.setCell (p:=⟨w.heap.size+1,0,none⟩) (by show w.heap.size<=w.heap.size+1;omega) _
section
variable {w:World}{bl bd:Nat}{R:Nat->Prop}{l:Lg}{sv rv:Value}{vs:List Value}
theorem lframes_any(h:LM w bl bd R l sv rv vs)(hnx:l.c.next<=1000000000)(hrl:∀b∈l.c.rows,b.length<=100000000)(hsz:l.c.size<=1000000000)(hR:∀k,R k->k<w.heap.size){from_:Nat}(_hf:from_<=1000000000):
  Calls Tryz.prog 113 #[.pointer (some ⟨bl,0,none⟩), .int .i64 (from_:Int)] w fun e w'=>Fresh w w'/\∃v,e= .returned v/\Own w' 5 1 v (framesTo l.c.first from_ l.c.rows l.c.rows.length).length (u8s (framesTo l.c.first from_ l.c.rows l.c.rows.length))/\∀q,v.ownBlock=some q->w.heap.size<=q:=by
 have H:=zh h
 have HSZ:=zh hsz
 clear h hsz
 refine(callsIn_wide (n:=3)).1 ?_
 refine callsIn_of_wp_marks Tryz.func113 rfl trivial ?_ rfl
 simp only[Tryz.ntmps113,List.size_toArray,List.length_cons,List.length_nil,Nat.reduceAdd,Nat.reduceSub,Array.replicate_succ,Array.replicate_zero,List.push_toArray,List.append_toArray,List.nil_append,List.cons_append]
 refine wpIn_wide.2 ?_
 obtain⟨w0,hw0⟩:∃w0,w0=(w.alloc (.cells #[.int .i64 (from_:Int)] 3)).alloc (.cells #[.slice none 0 0] 29):=⟨_,rfl⟩
 have HW0:=zh hw0
 have HF0:=zh (show Fresh w w0 by rw[hw0];exact((Touch.refl _ w).alloc _).alloc _)
 have H3:=zh (show Blk w0 w.heap.size 3 #[.int .i64 (from_:Int)] by rw[hw0];exact(Blk.new _ _ _).alloc _)
 have HRL:=zh hrl
 have H5:=zh (show Blk w0 (w.heap.size+1) 29 #[.slice none 0 0] by rw[hw0];have:=Blk.new (w.alloc (.cells #[.int .i64 (from_:Int)] 3)) 29 #[.slice none 0 0];rwa [World.size_alloc]at this)
 clear hw0
 go_wp2_with fail
 rw[<- HW0.out]
 refine(lall_any bl w0).mono ?_
 rintro e w1 ⟨rfl,hw1⟩
 have HF1:=zh (show Fresh w0 w1 by rw[hw1];exact(Touch.refl _ _).alloc _)
 have HA:=zh (show Blk w1 w0.heap.size 91 #[.pointer (some ⟨bl,0,none⟩)] by rw[hw1];exact Blk.new _ _ _)
 have HN1:=zh ((H.out.fresh HF0.out).fresh HF1.out)
 have hs0:=HF0.out.size
 have hs1:=HF1.out.size
 have HZ:=zh (show w.heap.size+1<w1.heap.size by have:=H5.out.lt;omega)
 clear hw1
 go_wp2_with fail
 refine wpIn_wide (n:=3).1 ?_
 refine range_ok (F:=Fence.wide) (n:=3) rfl (by decide) (gf:=89) (lb:= #[.pointer (some ⟨w0.heap.size,0,none⟩)]) rfl trivial (enters_of Tryz.func89 (by kernel_rfl) rfl)
  (log_told 2 w0.heap.size bl bd R l sv rv vs (fun k=>k=w.heap.size+1) w1 (by decide) HA.out HN1.out hnx hrl
   (fun k hk=>by have:=H5.out.lt;omega) (fun k hk=>⟨fun e=>by have:=hR k hk;omega,by have:=hR k hk;have:=H5.out.lt;omega⟩))
  (fun pre x V l o o' hok hl hc=>hok.put hl hc) (fun pre x V V1 hok hf=>hok.fresh hf)
  (fun x b V=>b={ tmps:= #[.pointer (some ⟨bl,0,none⟩), .int .i64 (from_:Int),undef, .pointer (some ⟨w.heap.size,0,none⟩), .slice none 0 0, .pointer (some ⟨w.heap.size+1,0,none⟩), .int .i64 (x.1:Int),x.2.2, .pointer (some ⟨bl,0,none⟩), .func (.func 89) #[] #[.pointer (some ⟨w0.heap.size,0,none⟩)], .int .i64 (x.1:Int),x.2.2,undef,undef,undef,undef,undef,undef,undef,undef,undef],defers:= [] })
  (fun x b V l o o' h hl hc=>h)
  (fun h=>LKp.fresh h) (fun h1 h2=>h1.trans_ h2) (fun V l o o' _ hl hc _=>LKp.put V l o o' hl hc) (fun _=>rfl)
  (FrI w.heap.size (w.heap.size+1) w1.heap.size from_ l.c.first l.c.rows w) (fun _ V=>FrI w.heap.size (w.heap.size+1) w1.heap.size from_ l.c.first l.c.rows w [] V/\False) (FrI.own_ (by omega)) (fun _ _ _ _ h=>h.2.elim)
  ⟨⟨.slice none 0 0,H3.out.touch HF1.out id,H5.out.touch HF1.out id,by rw[show ([]:List RcY).length=0 from rfl,framesTo_zero];exact Own.nil_ _ _ _,(fun q hq=>by cases hq),Nat.le_refl _⟩,Fresh.bel (HF0.out.trans HF1.out fun _ _=>id)⟩ ?assign ?body ?done ?stop
 case assign=>
  rintro l' pre ⟨i,b,v⟩ V K hok hK
  clear hok
  simp only[rcEnc,List.zip_toArray,List.size_toArray,List.zip_cons_cons,List.zip_nil_left]
  gi_wp2
  exact hK _ _ (Touch.refl _ V) rfl
 case body=>
  rintro l' pre ⟨i,b,v⟩ a₁ V ⟨⟨vb,h3,h5,ho,hn,hVsz⟩,hbl⟩ ⟨hi,hbk,hrow,hnew⟩ rfl hlt
  dsimp only at hi hbk hrow hnew
  have c3:=h3.cell 0
  have c5:=h5.cell 0
  have f5:=h5.frozen 0
  simp only[List.getElem?_toArray,List.getElem?_cons_zero]at c3 c5
  have HSU:=zh (framesTo_succ (first:=l.c.first) (from_:=from_) hbk)
  by_cases hge:from_<=i
  ·have hge2:(from_:Int)<=(i:Int):=by omega
   have H3:=zh h3;have H5:=zh h5;have HO:=zh ho;have HN:=zh hn;have HBL:=zh hbl;have HROW:=zh hrow;have HI:=zh hi
   have HW1:=zh (show w.heap.size+1<w1.heap.size/\w1.heap.size<=V.heap.size from⟨HZ.out,hVsz⟩)
   have HLN:=zh (show (framesTo l.c.first from_ l.c.rows pre.length).length+(It.put i b).enc.length<=1000000000 by
    have h1:=framesTo_le l.c.first from_ l.c.rows (pre.length+1)
    rw[HSU.out,if_pos (by omega),<- hi,List.length_append]at h1
    exact Nat.le_trans h1 HSZ.out)
   obtain⟨A,cb,rfl,hbs⟩:∃A cb,v= .slice A b.length cb/\Bs V A b.length cb b:=by
    obtain⟨A,cb,hv,_⟩:=hrow.form
    exact⟨A,cb,hv,by rw[hv]at hrow;exact hrow.bs⟩
   have KFR:=zh (framed_any i (by have:=(List.getElem?_eq_some_iff.1 hbk).1;unfold Ct.next at hnx;omega) A b.length cb b V.drew (hbs.drew) (HRL.out b (List.mem_of_getElem? hbk)))
   clear hbs
   clear h3 h5 ho hn hbl hrow hnew hi
   gi_wp2
   refine region_held_round (fun _=>True) l' (by rintro⟨_,_,h⟩;exact h) (by simp) (by kernel_rfl) trivial (fun _=> ?_)
   refine take_l (i:=1) (v:= ?_) rfl (by kernel_rfl) (by kernel_rfl) (by kernel_rfl) (fun _ _ _ h=>h) (Or.inl ⟨by rfl, ?_⟩) trivial ?_
   rotate_left
   ·intro W _
    go_simp
    all_goals with_reducible rfl
   try simp only[Act.put,List.setIfInBounds_toArray,List.set_cons_zero,List.set_cons_succ]
   refine take_l (i:=2) (v:= ?_) rfl (by kernel_rfl) (by kernel_rfl) (by kernel_rfl) (fun _ _ _ h=>h) (Or.inl ⟨by rfl, ?_⟩) trivial ?_
   rotate_left
   ·intro W _
    go_simp
    all_goals with_reducible rfl
   try simp only[Act.put,List.setIfInBounds_toArray,List.set_cons_zero,List.set_cons_succ]
   refine wpAnyH_ready (rs:= [0,3]) (by kernel_rfl) (by simp) (AllReadyH.cons rfl (fun K hK=> ?_) (AllReadyH.cons rfl (fun K hK=> ?_) AllReadyH.nil))
   ·-- the load first
    go_simp
    refine hK.out _ _ trivial (fun _=> ?_)
    clear hK K
    try simp only[Act.put,List.setIfInBounds_toArray,List.set_cons_zero,List.set_cons_succ]
    refine ready_l (i:=3) (by kernel_rfl) rfl (fun K hK=> ?_)
    go_simp
    refine KFR.out.mono ?_
    rintro e w3 ⟨hf3,g3,c3,rfl,hg3,hbs3⟩
    have HF3:=zh (show Fresh V w3 from((Touch.refl (fun _=>False) V).drew).trans hf3 fun _ _=>id)
    have HBS3:=zh hbs3
    have B5:=zh (H5.out.touch HF3.out id)
    have d5:=B5.out.cell 0
    have f5:=B5.out.frozen 0
    simp only[List.getElem?_toArray,List.getElem?_cons_zero]at d5
    clear hf3 hg3 hbs3
    refine hK.out _ _ trivial (fun _=> ?_)
    clear hK K KFR
    try simp only[Act.put,List.setIfInBounds_toArray,List.set_cons_zero,List.set_cons_succ]
    refine ready_l (i:=4) (by kernel_rfl) rfl (fun K hK=> ?_)
    refine step_own_src _ rfl _ _ 29 29 rfl 5 (.int .u8 0) 1 1 Tryz.info5 Tryz.underlying29 rfl vb _ _ rfl (HO.out.touch HF3.out fun _ _=>id) (u8s_one _) (.slice (some ⟨g3,0,none⟩) (It.put i b).enc.length c3) (It.put i b).enc.length (u8s (It.put i b).enc) rfl (Bs.src HBS3.out (t:=29) (e':=5) Tryz.underlying29) (by have:=HLN.out;unfold maxLen;omega) (by have:=HLN.out;omega) ?_
    intro B4 c4 w4 o4 g4 b4
    have hrow4:=HO.out.touch HF3.out fun _ _=>id
    have HB4:=zh (B5.out.grown g4 fun e=>hrow4.ne_blk B5.out (by decide) e.symm)
    have e5:=HB4.out.cell 0
    have f5':=HB4.out.frozen 0
    simp only[List.getElem?_toArray,List.getElem?_cons_zero]at e5
    refine hK.out _ _ trivial (fun _=> ?_)
    clear hK K
    try simp only[Act.put,List.setIfInBounds_toArray,List.set_cons_zero,List.set_cons_succ]
    refine ready_l (i:=5) (by kernel_rfl) rfl (fun K hK=> ?_)
    go_simp
    refine hK.out _ _ trivial (fun _=> ?_)
    clear hK K
    try simp only[Act.put,List.setIfInBounds_toArray,List.set_cons_zero,List.set_cons_succ]
    refine wpAnyH_done (by kernel_rfl) ?_ _
    gi_wp2
    exact fr_end H3.out H5.out HO.out HN.out HBL.out HSU.out HI.out hge HF3.out g4 b4 o4 HW1.out
   ·-- the call first
    go_simp
    refine KFR.out.mono ?_
    rintro e w3 ⟨hf3,g3,c3,rfl,hg3,hbs3⟩
    have HF3:=zh (show Fresh V w3 from((Touch.refl (fun _=>False) V).drew).trans hf3 fun _ _=>id)
    have HBS3:=zh hbs3
    have B5:=zh (H5.out.touch HF3.out id)
    have d5:=B5.out.cell 0
    have f5:=B5.out.frozen 0
    simp only[List.getElem?_toArray,List.getElem?_cons_zero]at d5
    clear hf3 hg3 hbs3
    refine hK.out _ _ trivial (fun _=> ?_)
    clear hK K KFR
    try simp only[Act.put,List.setIfInBounds_toArray,List.set_cons_zero,List.set_cons_succ]
    refine ready_l (i:=0) (by kernel_rfl) rfl (fun K hK=> ?_)
    go_simp
    refine hK.out _ _ trivial (fun _=> ?_)
    clear hK K
    try simp only[Act.put,List.setIfInBounds_toArray,List.set_cons_zero,List.set_cons_succ]
    refine ready_l (i:=4) (by kernel_rfl) rfl (fun K hK=> ?_)
    refine step_own_src _ rfl _ _ 29 29 rfl 5 (.int .u8 0) 1 1 Tryz.info5 Tryz.underlying29 rfl vb _ _ rfl (HO.out.touch HF3.out fun _ _=>id) (u8s_one _) (.slice (some ⟨g3,0,none⟩) (It.put i b).enc.length c3) (It.put i b).enc.length (u8s (It.put i b).enc) rfl (Bs.src HBS3.out (t:=29) (e':=5) Tryz.underlying29) (by have:=HLN.out;unfold maxLen;omega) (by have:=HLN.out;omega) ?_
    intro B4 c4 w4 o4 g4 b4
    have hrow4:=HO.out.touch HF3.out fun _ _=>id
    have HB4:=zh (B5.out.grown g4 fun e=>hrow4.ne_blk B5.out (by decide) e.symm)
    have e5:=HB4.out.cell 0
    have f5':=HB4.out.frozen 0
    simp only[List.getElem?_toArray,List.getElem?_cons_zero]at e5
    refine hK.out _ _ trivial (fun _=> ?_)
    clear hK K
    try simp only[Act.put,List.setIfInBounds_toArray,List.set_cons_zero,List.set_cons_succ]
    refine ready_l (i:=5) (by kernel_rfl) rfl (fun K hK=> ?_)
    go_simp
    refine hK.out _ _ trivial (fun _=> ?_)
    clear hK K
    try simp only[Act.put,List.setIfInBounds_toArray,List.set_cons_zero,List.set_cons_succ]
    refine wpAnyH_done (by kernel_rfl) ?_ _
    gi_wp2
    exact fr_end H3.out H5.out HO.out HN.out HBL.out HSU.out HI.out hge HF3.out g4 b4 o4 HW1.out
  ·have hge2:¬(from_:Int)<=(i:Int):=by omega
   have H3:=zh h3;have H5:=zh h5;have HO:=zh ho;have HN:=zh hn;have HBL:=zh hbl;have HI:=zh hi
   clear h3 h5 ho hn hbl hrow hnew hi
   gi_wp2
   refine⟨KeepsOthers.refl _,LKp.fresh (Touch.refl _ _),⟨vb,H3.out,H5.out, ?_,HN.out,hVsz⟩,HBL.out⟩
   rw[List.length_append,List.length_singleton,HSU.out,if_neg (by have:=HI.out;omega)]
   exact HO.out
 case done=>
  rintro D ys V hD hS ⟨⟨vb,h3,h5,ho,hn,hVsz⟩,hbl⟩ hKD
  have c5:=h5.cell 0
  simp only[List.getElem?_toArray,List.getElem?_cons_zero]at c5
  have HO:=zh ho;have HN:=zh hn;have HBL:=zh hbl;have HKD:=zh hKD;have HD:=zh hD;have HS:=zh hS
  clear h3 h5 ho hn hbl hKD hD hS
  go_wp2_with fail
  have hKD:=HKD.out
  refine⟨by simp, .inl ⟨_,_,rfl,run_takeDeferred hKD, ?_⟩⟩
  refine⟨vb,by simp[results,Tryz.results113,go_sem],Touch.ofBelow (HBL.out.trans (belowK_b (w:=w) (Nat.le_refl _) _ D _ _ (by have:=HD.out;omega) hKD rfl rfl)) _,vb,rfl, ?_,fun q hq=>by have:=HN.out q hq;omega⟩
  have:=HO.out.own_ (grownBy_putObj' _ D (.deferred none)) (putHr hKD rfl)
  rwa [HS.out]at this
 case stop=>exact fun D pre V hD hs hx _=>hx.2.elim
end
end Go.Proofs.YtjehlgblkfofpaaGreat