/- The claims' texts, several in one: Kst, Em, Ksm, Kco, Kra, Kcp. Conditions stand with each theorem. -/
import Derived.Test.YtjehlgblkfofpaaGreatZa19
import Derived.Test.YtjehlgblkfofpaaGreatZa21
import Derived.Test.YtjehlgblkfofpaaGreatZa23
import Derived.Deep.RegionHeld3
import Derived.Test.YtjehlgblkfofpaaGreatZa16
set_option maxHeartbeats 16000000
set_option maxRecDepth 200000
namespace Go.Proofs.YtjehlgblkfofpaaGreat
open Go.RowKit
attribute [local go_sem] Oper.semAt_some
theorem Tryz.info31:(Tryz.prog.info? 31).map (fun i=>(i.zero,i.size,i.bytes))=some (some (.agg #[.string ⟨#[]⟩, .string ⟨#[]⟩, .bool false]),3,40):=by kernel_rfl
theorem opsV_one(l:List Dec.Op):∀u∈opsV l,u.oneCell'=true:=by
 intro u hu
 obtain⟨o,_,ho⟩:=List.mem_flatMap.1 hu
 simp only[opV,List.mem_cons,List.not_mem_nil,or_false]at ho
 rcases ho with rfl | rfl | rfl<;>rfl
theorem cloneops_any(A:Option Addr)(n c:Nat)(l:List Dec.Op)(w:World)(hv:Vs w 3 A n c (opsV l))(hn:n<=1048576)(h0:0<n):
  Calls Tryz.prog 47 #[.slice A n c] w fun e w'=>Fresh w w'/\∃B c',e= .returned (.slice B n c')/\Vs w' 3 B n c' (opsV l)/\∀a,B=some a->w.heap.size<=a.block/\a.block<w'.heap.size:=by
 have hl:=hv.1
 obtain⟨i,hi,hz,hs,hb⟩:=info_parts Tryz.info31
 obtain⟨b,o,rfl,hc⟩:=hv.2.2.2 h0
 refine(AnyE.slices_Clone Tryz.cloneOps i _ 3 40 hi hz hs hb rfl (by decide) (fun _=>by kernel_rfl) b o n c (opsV l) w hl (by unfold maxLen;omega) (by omega) (fun j u hu=>hc j u hu) (opsV_one l)).mono ?_
 rintro e w' ⟨v',rfl,hr,hnn,hbel⟩
 have ho:=Own.ofRow hr
 obtain⟨B,c',rfl,h1,h2,hB⟩:=ho.form
 refine⟨Touch.ofBelow hbel _,B,c',rfl,⟨hl,h1,h2,fun h0=> ?_⟩,fun q hq=> ?_⟩
 ·rcases hB with⟨_,h3,_⟩ | ⟨g,rfl⟩
  ·omega
  ·exact⟨g,0,rfl,fun j u hu=>by
    have hj:=(List.getElem?_eq_some_iff.1 hu).1
    rw[hl]at hj
    rw[Nat.zero_add,ho.cell (j:=j) hj]
    exact hu⟩
 ·subst hq
  rcases hr.2 with⟨h3,_⟩ | ⟨g,cap,cur,h3,hge,hg,_⟩
  ·exact absurd h3 hnn
  ·injection h3 with h3
   injection h3 with h3
   subst h3
   exact⟨hge,(Array.getElem?_eq_some_iff.1 hg).1⟩
theorem LD.away{w w':World}{bl bd:Nat}{S R Q:Nat->Prop}{l:Lg}{d:Dk}{sv rv:Value}{vs:List Value}(h:LD w bl bd S R l d sv rv vs)(ht:Touch Q w w')(hn:∀k,Q k->¬(lfoot bl sv rv k\/R k\/S k)):LD w' bl bd S R l d sv rv vs:=
 ⟨h.lm.touch ht fun k hk hq=>hn k hq (hk.elim .inl fun e=> .inr (.inl e)),h.dk.touch ht fun k hk hq=>hn k hq (.inr (.inr hk)),h.dis,h.nR,fun k hk=>Nat.lt_of_lt_of_le (h.Rlt k hk) ht.size⟩
structure SD(w:World)(bs bl bd:Nat)(S R:Nat->Prop)(l:Lg)(d:Dk)(sv rv:Value)(vs:List Value)(cs:Array Value)(kv:Value)(mb:Nat)(fence:Int)(has:KL)(cm:Nat):Prop where
 ld:LD w bl bd S R l d sv rv vs
 ct:CM w bs 2 96 cs kv mb has
 s0:cs[0]? =some (.pointer (some ⟨bl,0,none⟩))
 s1:cs[1]? =some (.int .i64 fence)
 s5:cs[5]? =some (.int .i64 (cm:Int))
 apart:∀k,(k=bs\/cfoot kv mb k)->¬(lfoot bl sv rv k\/R k\/S k)
structure SX(w w':World)(bs bl bd:Nat)(S R:Nat->Prop)(sv rv kv:Value)(mb:Nat)(l':Lg)(d':Dk)(S' R':Nat->Prop)(sv' rv':Value)(vs':List Value)(cs':Array Value)(kv':Value)(fence':Int)(has':KL)(cm':Nat):Prop where
 sd:SD w' bs bl bd S' R' l' d' sv' rv' vs' cs' kv' mb fence' has' cm'
 tch:Touch (fun k=>(k=bs\/cfoot kv mb k)\/lfoot bl sv rv k\/S k) w w'
 sS:∀k,S' k->S k\/w.heap.size<=k
 sR:∀k,R' k->R k\/w.heap.size<=k
 sF:∀k,lfoot bl sv' rv' k->lfoot bl sv rv k\/w.heap.size<=k
 sK:∀k,kv'.ownBlock=some k->kv.ownBlock=some k\/w.heap.size<=k
section
variable {w w' w'':World}{bs bl bd mb cm cm' cm2:Nat}{S R S' R' S2 R2:Nat->Prop}{l l' l2:Lg}{d d' d2:Dk}{sv rv kv sv' rv' kv' sv2 rv2 kv2:Value}{vs vs' vs2:List Value}{cs cs' cs2:Array Value}{fence fence' fence2:Int}{has has' has2:KL}
theorem SD.fresh(h:SD w bs bl bd S R l d sv rv vs cs kv mb fence has cm)(hf:Fresh w w'):SD w' bs bl bd S R l d sv rv vs cs kv mb fence has cm:=⟨h.ld.fresh hf,h.ct.fresh hf,h.s0,h.s1,h.s5,h.apart⟩
theorem SD.same(h:SD w bs bl bd S R l d sv rv vs cs kv mb fence has cm):SX w w bs bl bd S R sv rv kv mb l d S R sv rv vs cs kv fence has cm:=⟨h,Touch.refl _ _,fun _=> .inl,fun _=> .inl,fun _=> .inl,fun _=> .inl⟩
theorem SX.trans(h:SX w w' bs bl bd S R sv rv kv mb l' d' S' R' sv' rv' vs' cs' kv' fence' has' cm')(h2:SX w' w'' bs bl bd S' R' sv' rv' kv' mb l2 d2 S2 R2 sv2 rv2 vs2 cs2 kv2 fence2 has2 cm2):
  SX w w'' bs bl bd S R sv rv kv mb l2 d2 S2 R2 sv2 rv2 vs2 cs2 kv2 fence2 has2 cm2:=by
 have hs:=h.tch.size
 refine⟨h2.sd,h.tch.trans h2.tch fun k hk hx=> ?_,fun k hk=> ?_,fun k hk=> ?_,fun k hk=> ?_,fun k hk=> ?_⟩
 ·rcases hx with(e | e | e) | e | e
  ·exact .inl (.inl e)
  ·exact(h.sK k e).elim (fun e=> .inl (.inr (.inl e))) fun e=>by omega
  ·exact .inl (.inr (.inr e))
  ·exact(h.sF k e).elim (fun e=> .inr (.inl e)) fun e=>by omega
  ·exact(h.sS k e).elim (fun e=> .inr (.inr e)) fun e=>by omega
 ·exact(h2.sS k hk).elim (h.sS k) fun e=> .inr (by omega)
 ·exact(h2.sR k hk).elim (h.sR k) fun e=> .inr (by omega)
 ·exact(h2.sF k hk).elim (h.sF k) fun e=> .inr (by omega)
 ·exact(h2.sK k hk).elim (h.sK k) fun e=> .inr (by omega)
theorem SX.fresh(h:SX w w' bs bl bd S R sv rv kv mb l' d' S' R' sv' rv' vs' cs' kv' fence' has' cm')(hf:Fresh w' w''):SX w w'' bs bl bd S R sv rv kv mb l' d' S' R' sv' rv' vs' cs' kv' fence' has' cm':=
 ⟨h.sd.fresh hf,h.tch.trans hf fun _ _=>False.elim,h.sS,h.sR,h.sF,h.sK⟩
theorem SD.log(h:SD w bs bl bd S R l d sv rv vs cs kv mb fence has cm)(hx:LX w w' bl bd S R sv rv l' d' S' R' sv' rv' vs'):SX w w' bs bl bd S R sv rv kv mb l' d' S' R' sv' rv' vs' cs kv fence has cm:=by
 have hc:∀k,(k=bs\/cfoot kv mb k)->¬(lfoot bl sv rv k\/S k):=fun k hk e=>h.apart k hk (e.elim .inl fun e=> .inr (.inr e))
 refine⟨⟨hx.ld,h.ct.touch hx.tch hc,h.s0,h.s1,h.s5,fun k hk e=> ?_⟩,hx.tch.mono fun k _ e=> .inr e,hx.sS,hx.sR,hx.sF,fun _=> .inl⟩
 have hlt:=h.ct.lt k hk
 rcases e with e | e | e
 ·exact(hx.sF k e).elim (fun e=>h.apart k hk (.inl e)) fun e=>by omega
 ·exact(hx.sR k e).elim (fun e=>h.apart k hk (.inr (.inl e))) fun e=>by omega
 ·exact(hx.sS k e).elim (fun e=>h.apart k hk (.inr (.inr e))) fun e=>by omega
theorem SD.put(h:SD w bs bl bd S R l d sv rv vs cs kv mb fence has cm)(hp:PutW w bs 2 96 cs kv mb has' w'):∃cs' kv',SX w w' bs bl bd S R sv rv kv mb l d S R sv rv vs cs' kv' fence has' cm:=by
 obtain⟨cs',kv',h1,h2,h3,h4,h5⟩:=hp
 refine⟨cs',kv',⟨h.ld.away h2 fun k hk=>h.apart k hk,h1,by rw[h5 0 (by omega)];exact h.s0,by rw[h5 1 (by omega)];exact h.s1,by rw[h5 5 (by omega)];exact h.s5,fun k hk e=> ?_⟩,h2.mono fun k _ e=> .inl e,fun _=> .inl,fun _=> .inl,fun _=> .inl,h3⟩
 have old:∀q,(q=bs\/cfoot kv mb q)->(lfoot bl sv rv q\/R q\/S q)->False:=fun q hq e=>h.apart q hq e
 rcases hk with hk | hk | hk
 ·exact old k (.inl hk) e
 ·rcases h3 k hk with hk | hk
  ·exact old k (.inr (.inl hk)) e
  ·rcases e with e | e | e
   ·have:=h.ld.lm.lt k e;omega
   ·have:=h.ld.Rlt k e;omega
   ·have:=h.ld.dk.below k e;omega
 ·exact old k (.inr (.inr hk)) e
theorem SD.cell(h:SD w bs bl bd S R l d sv rv vs cs kv mb fence has cm){i:Nat}(hi:i=1\/i=5)(u:Value)(hf:i=1->u= .int .i64 fence')(hf':i≠1->fence'=fence)(hc:i=5->u= .int .i64 (cm':Int))(hc':i≠5->cm'=cm):
  SX w (w.setCell ⟨bs,i,none⟩ u) bs bl bd S R sv rv kv mb l d S R sv rv vs (cs.setIfInBounds i u) kv fence' has cm':=by
 have ht:Touch (fun k=>k=bs) w (w.setCell ⟨bs,i,none⟩ u):=(show Touch (fun k=>k=bs) w w from Touch.refl _ w).setCell (p:=⟨bs,i,none⟩) (.inr rfl) u
 have hne:=h.ct.ne
 have hil:i<cs.size:=by
  have h5:=(Array.getElem?_eq_some_iff.1 h.s5).1
  omega
 refine⟨⟨h.ld.away ht fun k hk=>h.apart k (.inl hk),⟨h.ct.blk.set_ _ _, ?_, ?_, ?_,h.ct.keys.far (p:=⟨bs,i,none⟩) hne.1 _,h.ct.map.heap (Below.heap_setCell w ⟨bs,i,none⟩ _ mb hne.2.1),h.ct.sort,h.ct.tne⟩, ?_, ?_, ?_,h.apart⟩,ht.mono fun k _ e=> .inl (.inl e),fun _=> .inl,fun _=> .inl,fun _=> .inl,fun _=> .inl⟩
 ·rw[Array.getElem?_setIfInBounds_ne (by omega)];exact h.ct.c0
 ·rw[Array.getElem?_setIfInBounds_ne (by omega)];exact h.ct.c1
 ·rw[Array.getElem?_setIfInBounds_ne (by omega)];exact h.ct.c2
 ·rw[Array.getElem?_setIfInBounds_ne (by omega)];exact h.s0
 ·rcases hi with rfl | rfl
  ·rw[Array.getElem?_setIfInBounds_self_of_lt hil,hf rfl]
  ·rw[Array.getElem?_setIfInBounds_ne (by omega),hf' (by decide)];exact h.s1
 ·rcases hi with rfl | rfl
  ·rw[Array.getElem?_setIfInBounds_ne (by omega),hc' (by decide)];exact h.s5
  ·rw[Array.getElem?_setIfInBounds_self_of_lt hil,hc rfl]
end
def kIsStr:Option TypeDesc->Bool
 | some (.struct _)=>true
 | _=>false
theorem content_desc:∃fs,Tryz.prog.underlying 94=some (.struct fs):=by
 have h:kIsStr (Tryz.prog.underlying 94)=true:=by kernel_rfl
 generalize Tryz.prog.underlying 94=o at*
 cases o with
 | none=>cases h
 | some d=>cases d<;>first | exact⟨_,rfl⟩ | cases h
theorem results_content{fn:Func}(h:fn.results= #[.cell 0 94])(tmps:Array Value)(w:World)(g:Nat)(cs:Array Value)
  (hp:tmps.getD 0 undef= .pointer (some ⟨g,0,none⟩)) (hg:Blk w g 94 cs) (hs:cs.size=3):
  (results fn tmps).run Tryz.prog w= .ok (.agg cs) w:=by
 obtain⟨fs,hu⟩:=content_desc
 have hi:(Tryz.prog.info? 94).map (·.size)=some cs.size:=by rw[hs];kernel_rfl
 exact results_cell_row h tmps w g 94 cs (0,0) _ hp hg hu rfl hi
structure EmEnd(w:World)(e:Ending)(w':World):Prop where
 fresh:Fresh w w'
 res:∃mb,w.heap.size<=mb/\SMap w' mb []/\e= .returned (.agg #[.slice none 0 0, .map (some mb), .int .i64 0])
theorem empty_any(w:World):Calls Tryz.prog 51 #[] w (EmEnd w):=by
 have hmm:= @run_makeMap Tryz.prog
 go_enter Tryz.func51,Tryz.ntmps51
 go_wp2_with fail
 have HZ:=(Blk.new w 94 #[.slice none 0 0, .map (some (w.heap.size+1)), .int .i64 0]).alloc (.map #[] 0)
 have hm:=SMap.new (w.alloc (.cells #[.slice none 0 0, .map (some (w.heap.size+1)), .int .i64 0] 94))
 have hsz:(w.alloc (.cells #[.slice none 0 0, .map (some (w.heap.size+1)), .int .i64 0] 94)).heap.size=w.heap.size+1:=World.size_alloc _ _
 rw[hsz]at hm
 refine bodyPost_ret (results_content rfl _ _ _ _ rfl HZ rfl) rfl ?_
 exact⟨((Touch.refl _ w).alloc _).alloc _,w.heap.size+1,by omega,hm,rfl⟩
section
variable {w:World}{bs bl bd mb cm:Nat}{S R:Nat->Prop}{l:Lg}{d:Dk}{sv rv kv:Value}{vs:List Value}{cs:Array Value}{fence:Int}{has:KL}
theorem kvget_any(h:SD w bs bl bd S R l d sv rv vs cs kv mb fence has cm)(k:List UInt8)(hk:k.length<=maxLen):
  Calls Tryz.prog 27 #[.pointer (some ⟨bs,0,none⟩), .string ⟨k.toArray⟩] w fun e w'=>e= .returned (.tuple #[.string ⟨((kget k has).getD []).toArray⟩, .bool (kget k has).isSome])/\w'=w:=by
 have y3:w.cell? ⟨bs,3,none⟩=some (.map (some mb)):=h.ct.cells.2.1
 have lk:=h.ct.map.look2 hk
 generalize ((kget k has).getD [])=v at*
 generalize (kget k has).isSome=r at*
 clear h
 go_enter Tryz.func27,Tryz.ntmps27
 go_wp2_with fail
 go_ret2
 exact⟨rfl,rfl⟩
theorem kvfence_any(h:SD w bs bl bd S R l d sv rv vs cs kv mb fence has cm):Calls Tryz.prog 35 #[.pointer (some ⟨bs,0,none⟩)] w fun e w'=>e= .returned (.int .i64 fence)/\w'=w:=by
 have y:w.cell? ⟨bs,1,none⟩=some (.int .i64 fence):=(h.ct.blk.cell 1).trans h.s1
 clear h
 go_enter Tryz.func35,Tryz.ntmps35
 go_wp2_with fail
 go_ret
 exact⟨rfl,rfl⟩
theorem kvlen_any(h:SD w bs bl bd S R l d sv rv vs cs kv mb fence has cm):Calls Tryz.prog 18 #[.pointer (some ⟨bs,0,none⟩)] w fun e w'=>e= .returned (.int .i64 (has.length:Int))/\w'=w:=by
 obtain⟨A,c,rfl,_⟩:=h.ct.keys.form
 have y:w.cell? ⟨bs,2,none⟩=some (.slice A has.length c):=h.ct.cells.1
 clear h
 go_enter Tryz.func18,Tryz.ntmps18
 go_wp2_with fail
 go_ret
 exact⟨rfl,rfl⟩
theorem kvsize_any(h:SD w bs bl bd S R l d sv rv vs cs kv mb fence has cm):Calls Tryz.prog 64 #[.pointer (some ⟨bs,0,none⟩)] w fun e w'=>e= .returned (.int .i64 (ksize has:Int))/\w'=w:=by
 have y:w.cell? ⟨bs,4,none⟩=some (.int .i64 (ksize has:Int)):=h.ct.cells.2.2
 clear h
 go_enter Tryz.func64,Tryz.ntmps64
 go_wp2_with fail
 go_ret
 exact⟨rfl,rfl⟩
theorem kvcommits_any(h:SD w bs bl bd S R l d sv rv vs cs kv mb fence has cm):Calls Tryz.prog 68 #[.pointer (some ⟨bs,0,none⟩)] w fun e w'=>e= .returned (.int .i64 (cm:Int))/\w'=w:=by
 have y:w.cell? ⟨bs,5,none⟩=some (.int .i64 (cm:Int)):=(h.ct.blk.cell 5).trans h.s5
 clear h
 go_enter Tryz.func68,Tryz.ntmps68
 go_wp2_with fail
 go_ret
 exact⟨rfl,rfl⟩
end
theorem scanf_any(bs:Nat)(p q:ByteArray)(w:World):Calls Tryz.prog 19 #[.pointer (some ⟨bs,0,none⟩), .string p, .string q] w fun e w'=>
  e= .returned (.func (.func 56) #[] #[.pointer (some ⟨w.heap.size,0,none⟩), .pointer (some ⟨w.heap.size+1,0,none⟩), .pointer (some ⟨w.heap.size+1+1,0,none⟩)])/\Fresh w w'/\
  Blk w' w.heap.size 33 #[.pointer (some ⟨bs,0,none⟩)]/\Blk w' (w.heap.size+1) 9 #[.string p]/\Blk w' (w.heap.size+1+1) 9 #[.string q]:=by
 obtain⟨w1,hw1⟩:∃w1,w1=w.alloc (.cells #[.pointer (some ⟨bs,0,none⟩)] 33):=⟨_,rfl⟩
 obtain⟨w2,hw2⟩:∃w2,w2=w1.alloc (.cells #[.string p] 9):=⟨_,rfl⟩
 have h1:w1.heap.size=w.heap.size+1:=by rw[hw1,World.size_alloc]
 have h2:w2.heap.size=w.heap.size+1+1:=by rw[hw2,World.size_alloc,h1]
 have HB:=zh (show∀o,Fresh w (w2.alloc o)/\Blk (w2.alloc o) w.heap.size 33 #[.pointer (some ⟨bs,0,none⟩)]/\Blk (w2.alloc o) (w.heap.size+1) 9 #[.string p] from fun o=>by
  refine⟨?_, ?_, ?_⟩
  ·rw[hw2,hw1];exact(((Touch.refl _ w).alloc _).alloc _).alloc _
  ·rw[hw2,hw1];exact((Blk.new _ _ _).alloc _).alloc _
  ·have:=(Blk.new w1 9 #[.string p]).alloc o
   rw[h1]at this
   rw[hw2]
   exact this)
 have HN:=zh (show Blk (w2.alloc (.cells #[.string q] 9)) (w.heap.size+1+1) 9 #[.string q] by rw[<- h2];exact Blk.new _ _ _)
 have HW1:=zh hw1;have HW2:=zh hw2
 clear h1 h2 hw1 hw2
 go_enter Tryz.func19,Tryz.ntmps19
 go_wp2_with fail
 go_ret
 rw[<- HW1.out,<- HW2.out]
 exact⟨rfl,(HB.out _).1,(HB.out _).2.1,(HB.out _).2.2,HN.out⟩
theorem BegB.m_{l:Lg}{d:Dk}{K f nx m m':Nat}(h:BegB l d K f nx m)(hm:m'<=300000000):BegB l d K f nx m':=⟨h.sm,h.K,h.n,h.base,h.seg,h.first,h.next,h.lnext,hm⟩
def SB(w w':World)(bs bl bd:Nat)(S R:Nat->Prop)(sv rv kv:Value)(mb:Nat)(l':Lg)(d':Dk)(fence':Int)(has':KL)(cm':Nat):Prop:=
 ∃S' R' sv' rv' vs' cs' kv',SX w w' bs bl bd S R sv rv kv mb l' d' S' R' sv' rv' vs' cs' kv' fence' has' cm'
section
variable {w:World}{bs bl bd mb cm:Nat}{S R:Nat->Prop}{l:Lg}{d:Dk}{sv rv kv:Value}{vs:List Value}{cs:Array Value}{fence:Int}{has:KL}
theorem SX.sb{w w':World}{l':Lg}{d':Dk}{S' R':Nat->Prop}{sv' rv' kv':Value}{vs':List Value}{cs':Array Value}{fence':Int}{has':KL}{cm':Nat}(h:SX w w' bs bl bd S R sv rv kv mb l' d' S' R' sv' rv' vs' cs' kv' fence' has' cm'):SB w w' bs bl bd S R sv rv kv mb l' d' fence' has' cm':=
 ⟨_,_,_,_,_,_,_,h⟩
inductive CoEnd(w:World)(bs bl bd:Nat)(S R:Nat->Prop)(sv rv kv:Value)(mb:Nat)(l:Lg)(d:Dk)(fence:Int)(has:KL)(cm:Nat)(f:Int)(ops:List Dec.Op)(e:Ending)(w':World):Prop
 | fenced (h:f≠fence) (he:e= .returned (.int .i64 5)) (hf:Fresh w w')
 | form (h:f=fence) (h2:ops.all rightB=false) (he:e= .returned (.int .i64 2)) (hf:Fresh w w')
 | large (h:f=fence) (h2:ops.all rightB=true) (h3:longB ops=true) (he:e= .returned (.int .i64 9)) (hf:Fresh w w')
 | none_ (h:f=fence) (h2:ops= []) (he:e= .returned (.int .i64 0)) (hf:Fresh w w')
 | bad (h:f=fence) (h2:ops.all rightB=true) (h3:ops≠ []) (ys:List UInt8) (hy:Enc.ops ops=some ys) (hl:ys.length<=1048512) (he:e= .returned (.int .i64 (appendP d l (111 :: ys)).2.2.2)) (hn:(appendP d l (111 :: ys)).2.2.2≠0)
   (hs:SB w w' bs bl bd S R sv rv kv mb (appendP d l (111 :: ys)).2.1 (appendP d l (111 :: ys)).1 fence has cm)
 | good (h:f=fence) (h2:ops.all rightB=true) (h3:ops≠ []) (ys:List UInt8) (hy:Enc.ops ops=some ys) (hl:ys.length<=1048512) (he:e= .returned (.int .i64 0)) (hn:(appendP d l (111 :: ys)).2.2.2=0)
   (hs:SB w w' bs bl bd S R sv rv kv mb (appendP d l (111 :: ys)).2.1 (appendP d l (111 :: ys)).1 fence (kdo has ops) (cm+1))
theorem long_some{ops:List Dec.Op}(h:longB ops=false):∃ys,Enc.ops ops=some ys/\ys.length<=1048512:=by
 unfold longB at h
 split at h
 ·cases h
 ·rename_i ys hy
  exact⟨ys,hy,by have:=of_decide_eq_false h;omega⟩
theorem right_len{ops:List Dec.Op}(h:ops.all rightB=true):∀x∈ops,x.k.length<=200/\x.v.length<=65536:=by
 intro x hx
 have:=List.all_eq_true.1 h x hx
 unfold rightB at this
 simp only[Bool.and_eq_true,decide_eq_true_eq]at this
 exact⟨this.1.1.2,this.1.2⟩
theorem opsum_le:∀(l:List Dec.Op),(∀x∈l,x.k.length+x.v.length<=65736)->opsum l<=l.length*65736
 | [],_=>by simp[opsum]
 | o :: r,h=>by
  have h1:=opsum_le r fun x hx=>h x (List.mem_cons_of_mem _ hx)
  have h2:=h o (List.mem_cons_self ..)
  have e:opsum (o :: r)=o.k.length+o.v.length+opsum r:=by simp[opsum]
  rw[e,List.length_cons,Nat.add_mul]
  omega
theorem commit_any(h:SD w bs bl bd S R l d sv rv vs cs kv mb fence has cm)(f:Int)(A:Option Addr)(n c:Nat)(ops:List Dec.Op)(hv:Vs w 3 A n c (opsV ops))(hA:∀a,A=some a->0<n->¬((a.block=bs\/cfoot kv mb a.block)\/lfoot bl sv rv a.block\/S a.block)/\a.block<w.heap.size)
  (hn:n<=10000) (hb:∀x∈ops,x.k.length<=maxLen/\x.v.length<=maxLen) (hl:has.length<=50000) (hz:ksize has<=100000000) (hcm:cm<=1000000000) {K:Nat} (hB:BegB l d K l.c.first l.c.next 0) (hns:l.segs.length<1024):
  Calls Tryz.prog 15 #[.pointer (some ⟨bs,0,none⟩), .int .i64 f, .slice A n c] w (CoEnd w bs bl bd S R sv rv kv mb l d fence has cm f ops):=by
 have hln:ops.length=n:=by have:=hv.1;rw[opsV_length]at this;omega
 have hnc:=hv.2.1
 have hc2:=hv.2.2.1
 unfold maxLen at hc2
 have hAlt:∀a,A=some a->0<n->a.block<w.heap.size:=fun a ha h0=>(hA a ha h0).2
 have KB:=zh (show∀W,Fresh w W->Calls Tryz.prog 39 #[.slice A n c, .func (.func 40) #[] #[]] W fun e w'=>e= .returned (.bool (!ops.all rightB))/\Fresh W w' from fun W hW=>anybad_any A n c ops W (hv.touch hW fun _ _ _=>id))
 have KL:=zh (show∀W,Fresh w W->Calls Tryz.prog 42 #[.slice A n c] W fun e w'=>e= .returned (.bool (longB ops))/\Fresh W w' from fun W hW=>long_any A n c ops W (hv.touch hW fun _ _ _=>id) (fun a ha h0=>Nat.lt_of_lt_of_le (hAlt a ha h0) hW.size) (by omega) hb)
 have KO:=zh (show∀W,Fresh w W->Calls Tryz.prog 43 #[.slice A n c] W (EncEnd W (Enc.ops ops)) from fun W hW=>cops_any A n c ops W (hv.touch hW fun _ _ _=>id) (fun a ha h0=>Nat.lt_of_lt_of_le (hAlt a ha h0) hW.size) (by omega) hb)
 have y1:w.cell? ⟨bs,1,none⟩=some (.int .i64 fence):=(h.ct.blk.cell 1).trans h.s1
 have H:=zh h;have HV:=zh hv;have HA:=zh hA;have HLN:=zh hln;have HB:=zh hB
 clear h hv hA hln hb hB hAlt
 by_cases hf:f=fence
 ·subst hf
  obtain⟨r,hr⟩:∃r,r=ops.all rightB:=⟨_,rfl⟩
  rw[<- hr]at KB
  have HR:=zh hr
  clear hr
  cases r with
  | false=>
   go_enter Tryz.func15,Tryz.ntmps15
   go_wp2_with fail
   refine(KB.out w (Touch.refl _ _)).mono ?_
   rintro e w2 ⟨rfl,hf2⟩
   have HF2:=zh hf2
   clear hf2 KB
   go_wp2_with fail
   go_ret
   exact .form rfl HR.out.symm rfl HF2.out
  | true=>
   obtain⟨q,hq⟩:∃q,q=longB ops:=⟨_,rfl⟩
   rw[<- hq]at KL
   have HQ:=zh hq
   clear hq
   cases q with
   | true=>
    go_enter Tryz.func15,Tryz.ntmps15
    go_wp2_with fail
    refine(KB.out w (Touch.refl _ _)).mono ?_
    rintro e w2 ⟨rfl,hf2⟩
    have HF2:=zh hf2
    clear hf2 KB
    go_wp2_with fail
    refine(KL.out w2 HF2.out).mono ?_
    rintro e w3 ⟨rfl,hf3⟩
    have HF3:=zh (HF2.out.trans hf3 fun _ _=>id)
    clear hf3 KL
    go_wp2_with fail
    go_ret
    exact .large rfl HR.out.symm HQ.out.symm rfl HF3.out
   | false=>
    by_cases h0:n=0
    ·subst h0
     go_enter Tryz.func15,Tryz.ntmps15
     go_wp2_with fail
     refine(KB.out w (Touch.refl _ _)).mono ?_
     rintro e w2 ⟨rfl,hf2⟩
     have HF2:=zh hf2
     clear hf2 KB
     go_wp2_with fail
     refine(KL.out w2 HF2.out).mono ?_
     rintro e w3 ⟨rfl,hf3⟩
     have HF3:=zh (HF2.out.trans hf3 fun _ _=>id)
     clear hf3 KL
     go_wp2_with fail
     go_ret
     exact .none_ rfl (List.length_eq_zero_iff.1 HLN.out) rfl HF3.out
    ·have hne:¬(n:Int)=0:=by omega
     obtain⟨ys,hy,hyl⟩:=long_some HQ.out.symm
     rw[hy]at KO
     have HY:=zh hy
     clear hy
     go_enter Tryz.func15,Tryz.ntmps15
     go_wp2_with fail
     refine(KB.out w (Touch.refl _ _)).mono ?_
     rintro e w2 ⟨rfl,hf2⟩
     have HF2:=zh hf2
     clear hf2 KB
     go_wp2_with fail
     refine(KL.out w2 HF2.out).mono ?_
     rintro e w3 ⟨rfl,hf3⟩
     have HF3:=zh (HF2.out.trans hf3 fun _ _=>id)
     clear hf3 KL
     go_wp2_with fail
     refine(KO.out w3 HF3.out).mono ?_
     rintro e w4 ⟨B,c4,rfl,hrow,hnb,hf4⟩
     have HF4:=zh (HF3.out.trans hf4 fun _ _=>id)
     have hbs:=hrow.bs
     have HBS:=zh hbs
     have H4:=zh (H.out.fresh HF4.out)
     have KR:=zh (show∀W,Fresh w4 W->Calls Tryz.prog 45 #[.int .u8 111, .slice B ys.length c4] W fun e w'=>Fresh W w'/\∃B c',e= .returned (.slice B (ys.length+1) c')/\Row w' (.slice B (ys.length+1) c') (111 :: ys)/\∀q,(Value.slice B (ys.length+1) c').ownBlock=some q->W.heap.size<=q from fun W hW=>record_any 111 B ys.length c4 ys W (hbs.fresh hW) (by omega))
     obtain⟨er,her⟩:∃er,er=(appendP d l (111 :: ys)).2.2.2:=⟨_,rfl⟩
     obtain⟨ix,hix⟩:∃ix:Int,ix=((appendP d l (111 :: ys)).2.2.1:Int):=⟨_,rfl⟩
     have KA:=zh (show∀W B5 c5,Fresh w4 W->Bs W B5 (ys.length+1) c5 (111 :: ys)->(∀q,(Value.slice B5 (ys.length+1) c5).ownBlock=some q->w4.heap.size<=q)->Calls Tryz.prog 44 #[.pointer (some ⟨bl,0,none⟩), .slice B5 (ys.length+1) c5] W fun e w'=>e= .returned (.tuple #[.int .i64 ix, .int .i64 er])/\SB w w' bs bl bd S R sv rv kv mb (appendP d l (111 :: ys)).2.1 (appendP d l (111 :: ys)).1 f has cm from fun W B5 c5 hW hb5 hn5=>by
      have hd:=H4.out.fresh hW
      refine(lappend_any hd.ld hb5 (fun a ha h0=> ?_) (HB.out.m_ (by omega)) hns (by omega)).mono ?_
      ·subst ha
       have hge:w4.heap.size<=a.block:=hn5 a.block rfl
       obtain⟨b',o',e',hc'⟩:=hb5.2.2.2 h0
       injection e' with e'
       have hlt:=World.block_lt_of_cell? _ _ (hc' 0 _ rfl)
       refine⟨fun hx=> ?_,fun hx=> ?_,by rw[e'];exact hlt⟩
       ·have:=H4.out.ld.lm.lt _ hx;omega
       ·have:=H4.out.ld.dk.below _ hx;omega
      ·rintro e w' ⟨rfl,S',R',sv',rv',vs',hx⟩
       exact⟨by rw[her,hix],(SX.trans (H.out.same.fresh (HF4.out.trans hW fun _ _=>id)) (hd.log hx)).sb⟩)
     have HER:=zh her
     clear hf4 hrow hnb hbs KO y1 her hix
     have hc0:∀W,Fresh w4 W->W.cell? ⟨bs,0,none⟩=some (.pointer (some ⟨bl,0,none⟩)):=fun W hW=>((H4.out.fresh hW).ct.blk.cell 0).trans H4.out.s0
     have HC0:=zh hc0
     clear hc0
     go_upto_region 10 with fail
     go_cut [9,10] from 30 to 39 (fun _ v W=>v= .int .i64 er/\SB w W bs bl bd S R sv rv kv mb (appendP d l (111 :: ys)).2.1 (appendP d l (111 :: ys)).1 f has cm)
     case first=>
      go_region_held (fun W=>W.cell? ⟨bs,0,none⟩=some (.pointer (some ⟨bl,0,none⟩)))
       (first | exact HC0.out _ ((Touch.refl _ w4).drew) | exact HC0.out _ HF5.out | exact z6 | assumption)
       (first
        | (go_at_call 45;refine(KR.out _ ((Touch.refl _ w4).drew)).mono ?_;rintro e w5 ⟨hf5,B5,c5,rfl,hr5,hn5⟩;have HF5:=zh (show Fresh w4 w5 from((Touch.refl _ w4).drew).trans hf5 fun _ _=>id);have HBS5:=zh (show Bs w5 B5 (ys.length+1) c5 (111 :: ys) from hr5.bs);have HN5:=zh (show∀q,(Value.slice B5 (ys.length+1) c5).ownBlock=some q->w4.heap.size<=q from hn5);clear hf5 hr5 hn5)
        | (go_at_call 44;refine(KA.out _ _ _ HF5.out HBS5.out HN5.out).mono ?_;rintro e w6 ⟨rfl,hsb⟩;have z6:w6.cell? ⟨bs,0,none⟩=some (.pointer (some ⟨bl,0,none⟩)):=(by obtain⟨S',R',sv',rv',vs',cs',kv',hx⟩:=hsb;exact(hx.sd.ct.blk.cell 0).trans hx.sd.s0);have HSB:=zh hsb;clear hsb))
      all_goals
       go_wp2_with fail
       go_meet
       case rel=>exact⟨rfl,HSB.out⟩
     case rest=>
      obtain⟨rfl,hsb⟩:=hcut
      have HSB:=zh hsb
      clear hsb KR KA
      by_cases he:er=0
      ·subst he
       obtain⟨w6,hw6⟩:∃w6,w6=wc:=⟨_,rfl⟩
       rw[<- hw6]at HSB ⊢
       clear hw6
       obtain⟨S',R',sv',rv',vs',cs',kv',hx⟩:=HSB.out
       have KC:=zh (cloneops_any A n c ops w6 (HV.out.touch hx.tch fun a ha h0 hq=>(HA.out a ha h0).1 hq) (by omega) (by omega))
       have HX:=zh hx
       have hrl:=right_len HR.out.symm
       have hos:=opsum_le ops fun x hx=>by have:=hrl x hx;omega
       have KD:=zh (show∀w7 B7 c7,Fresh w6 w7->Vs w7 3 B7 n c7 (opsV ops)->(∀a,B7=some a->w6.heap.size<=a.block/\a.block<w7.heap.size)->Calls Tryz.prog 46 #[.pointer (some ⟨bs,0,none⟩), .slice B7 n c7] w7 fun e w'=>e= .returned (.tuple #[])/\PutW w7 bs 2 96 cs' kv' mb (kdo has ops) w' from fun w7 B7 c7 hW hv7 hn7=>by
        refine do_any (hx.sd.ct.fresh hW) B7 n c7 ops hv7 (fun a ha h0=>⟨fun hk=> ?_,(hn7 a ha).2⟩) (fun x hx=>by have:=hrl x hx;omega) (by rw[HLN.out];omega) (by rw[HLN.out]at hos;omega)
        have h1:=hx.sd.ct.lt _ hk
        have h2:=(hn7 a ha).1
        omega)
       clear hx hrl hos
       go_wp2_with fail
       refine KC.out.mono ?_
       rintro e w7 ⟨hf7,B7,c7,rfl,hv7,hn7⟩
       have KD7:=zh (KD.out w7 B7 c7 hf7 hv7 hn7)
       have HF7:=zh hf7
       clear hf7 hv7 hn7 KC KD
       go_wp2_with fail
       refine KD7.out.mono ?_
       rintro e w8 ⟨rfl,hp8⟩
       obtain⟨cs8,kv8,hx8⟩:=(HX.out.sd.fresh HF7.out).put hp8
       have HX8:=zh hx8
       have y5:w8.cell? ⟨bs,5,none⟩=some (.int .i64 (cm:Int)):=(hx8.sd.ct.blk.cell 5).trans hx8.sd.s5
       have f5:w8.frozen? ⟨bs,5,none⟩=false:=hx8.sd.ct.blk.frozen 5
       have hwk:IntKind.i64.wrap ((cm:Int)+1)=(cm:Int)+1:=IntWalk.i64_in _ (by omega)
       clear hp8 hx8 KD7
       go_wp2_with fail
       go_ret
       have hx9:=HX8.out.sd.cell (i:=5) (fence':=f) (cm':=cm+1) (.inr rfl) (.int .i64 ((cm:Int)+1)) (fun e=>by cases e) (fun _=>rfl) (fun _=>by rw[show ((cm+1:Nat):Int)=(cm:Int)+1 from rfl]) (fun e=>absurd rfl e)
       exact .good rfl HR.out.symm (fun e=>h0 (by rw[<- HLN.out,e];rfl)) ys HY.out hyl rfl HER.out.symm (((HX.out.fresh HF7.out).trans HX8.out).trans hx9).sb
      ·have heb:(er != 0)=true:=bne_iff_ne.2 he
       have HE:=zh he
       clear he
       go_wp2_with fail
       go_ret
       exact .bad rfl HR.out.symm (fun e=>h0 (by rw[<- HLN.out,e];rfl)) ys HY.out hyl (by rw[<- HER.out];rfl) (by rw[<- HER.out];exact HE.out) HSB.out
 ·have hfb:(f != fence)=true:=bne_iff_ne.2 hf
  go_enter Tryz.func15,Tryz.ntmps15
  go_wp2_with fail
  go_ret
  exact .fenced hf rfl (Touch.refl _ _)
end
theorem numberE_plain(n:Int):Enc.numberE n=Enc.plain n:=by
 unfold Enc.numberE Enc.cat
 cases Enc.plain n with
 | none=>rfl
 | some y=>simp[Enc.nil0]
theorem plain_ok{n:Int}(h0:0<=n)(h1:n<=4503599627370496):∃ys,Enc.plain n=some ys/\ys.length<=8:=by
 have e:Enc.plain n=some (Enc.numB n.toNat):=by unfold Enc.plain Enc.number;rw[if_neg (by omega)]
 exact⟨_,e,Enc.number_size (lo:=0) (hi:=4503599627370496) (by omega) e⟩
theorem fenced_any(k:UInt8)(n:Int)(ys:List UInt8)(hy:Enc.plain n=some ys)(hyl:ys.length<=100)(w:World):
  Calls Tryz.prog 70 #[.int .u8 (k.toNat:Int), .int .i64 n] w fun e w'=>Fresh w w'/\∃B c',e= .returned (.slice B (ys.length+1) c')/\Row w' (.slice B (ys.length+1) c') (k :: ys)/\∀q,(Value.slice B (ys.length+1) c').ownBlock=some q->w.heap.size<=q:=by
 have KN:=zh (numberE_any n w)
 have KR:=zh (fun (A:Option Addr) (c:Nat) (W:World) (h:Bs W A ys.length c ys)=>record_any k A ys.length c ys W h (by omega))
 have HY:=zh hy
 generalize (k.toNat:Int)=kk at*
 clear hy
 go_enter Tryz.func70,Tryz.ntmps70
 go_wp2_with fail
 refine KN.out.mono ?_
 intro e w2 hend
 rw[numberE_plain,HY.out]at hend
 obtain⟨A,c,rfl,hrow,_,hf2⟩:=hend
 have KR2:=zh (KR.out A c w2 hrow.bs)
 have HF2:=zh hf2
 clear hrow hf2 KN KR
 go_wp2_with fail
 refine KR2.out.mono ?_
 rintro e w3 ⟨hf3,B,c',rfl,hr3,hn3⟩
 have HF3:=zh hf3;have HR3:=zh hr3;have HN3:=zh hn3
 clear hf3 hr3 hn3 KR2
 go_wp2_with fail
 go_ret
 exact⟨HF2.out.trans HF3.out fun _ _=>id,B,c',rfl,HR3.out,fun q hq=>Nat.le_trans HF2.out.size (HN3.out q hq)⟩
section
variable {w:World}{bs bl bd mb cm:Nat}{S R:Nat->Prop}{l:Lg}{d:Dk}{sv rv kv:Value}{vs:List Value}{cs:Array Value}{fence:Int}{has:KL}
theorem SD.app(h:SD w bs bl bd S R l d sv rv vs cs kv mb fence has cm){K:Nat}(hB:BegB l d K l.c.first l.c.next 0)(hns:l.segs.length<1024){W:World}{B:Option Addr}{m c:Nat}{xs:List UInt8}(hW:Fresh w W)(hb:Bs W B m c xs)(hm:m<=1048576)
  (hn:∀q,(Value.slice B m c).ownBlock=some q->w.heap.size<=q):
  Calls Tryz.prog 44 #[.pointer (some ⟨bl,0,none⟩), .slice B m c] W fun e w'=>e= .returned (.tuple #[.int .i64 ((appendP d l xs).2.2.1:Int), .int .i64 (appendP d l xs).2.2.2])/\SB w w' bs bl bd S R sv rv kv mb (appendP d l xs).2.1 (appendP d l xs).1 fence has cm:=by
 have hd:=h.fresh hW
 refine(lappend_any hd.ld hb (fun a ha h0=> ?_) (hB.m_ (by omega)) hns hm).mono ?_
 ·subst ha
  have hge:w.heap.size<=a.block:=hn a.block rfl
  obtain⟨b',o',e',hc'⟩:=hb.2.2.2 h0
  injection e' with e'
  have hlt:=World.block_lt_of_cell? _ _ (hc' 0 _ (List.getElem?_eq_getElem (by have:=hb.1;omega)))
  refine⟨fun hx=> ?_,fun hx=> ?_,by rw[e'];exact hlt⟩
  ·have:=h.ld.lm.lt _ hx;omega
  ·have:=h.ld.dk.below _ hx;omega
 ·rintro e w' ⟨rfl,S',R',sv',rv',vs',hx⟩
  exact⟨rfl,(SX.trans (h.same.fresh hW) (hd.log hx)).sb⟩
inductive RaEnd(w:World)(bs bl bd:Nat)(S R:Nat->Prop)(sv rv kv:Value)(mb:Nat)(l:Lg)(d:Dk)(fence:Int)(has:KL)(cm:Nat)(f:Int)(e:Ending)(w':World):Prop
 | fenced (h:f<=fence) (he:e= .returned (.int .i64 5)) (hf:Fresh w w')
 | arg (h:fence<f) (h2:4503599627370496<f) (he:e= .returned (.int .i64 1)) (hf:Fresh w w')
 | bad (h:fence<f) (h2:f<=4503599627370496) (ys:List UInt8) (hy:Enc.plain f=some ys) (he:e= .returned (.int .i64 (appendP d l (102 :: ys)).2.2.2)) (hn:(appendP d l (102 :: ys)).2.2.2≠0)
   (hs:SB w w' bs bl bd S R sv rv kv mb (appendP d l (102 :: ys)).2.1 (appendP d l (102 :: ys)).1 fence has cm)
 | good (h:fence<f) (h2:f<=4503599627370496) (ys:List UInt8) (hy:Enc.plain f=some ys) (he:e= .returned (.int .i64 0)) (hn:(appendP d l (102 :: ys)).2.2.2=0)
   (hs:SB w w' bs bl bd S R sv rv kv mb (appendP d l (102 :: ys)).2.1 (appendP d l (102 :: ys)).1 f has (cm+1))
theorem raise_any(h:SD w bs bl bd S R l d sv rv vs cs kv mb fence has cm)(f:Int)(hf0:0<=fence)(hcm:cm<=1000000000){K:Nat}(hB:BegB l d K l.c.first l.c.next 0)(hns:l.segs.length<1024):
  Calls Tryz.prog 36 #[.pointer (some ⟨bs,0,none⟩), .int .i64 f] w (RaEnd w bs bl bd S R sv rv kv mb l d fence has cm f):=by
 have y1:w.cell? ⟨bs,1,none⟩=some (.int .i64 fence):=(h.ct.blk.cell 1).trans h.s1
 have H:=zh h;have HB:=zh hB
 clear h hB
 by_cases hf:f<=fence
 ·go_enter Tryz.func36,Tryz.ntmps36
  go_wp2_with fail
  go_ret
  exact .fenced hf rfl (Touch.refl _ _)
 ·have hlt:fence<f:=by omega
  by_cases h52:4503599627370496<f
  ·go_enter Tryz.func36,Tryz.ntmps36
   go_wp2_with fail
   go_ret
   exact .arg hlt h52 rfl (Touch.refl _ _)
  ·obtain⟨ys,hy,hyl⟩:=plain_ok (n:=f) (by omega) (by omega)
   have KF:=zh (show∀W,Calls Tryz.prog 70 #[.int .u8 102, .int .i64 f] W fun e w'=>Fresh W w'/\∃B c',e= .returned (.slice B (ys.length+1) c')/\Row w' (.slice B (ys.length+1) c') (102 :: ys)/\∀q,(Value.slice B (ys.length+1) c').ownBlock=some q->W.heap.size<=q from fun W=>fenced_any 102 f ys hy (by omega) W)
   obtain⟨er,her⟩:∃er,er=(appendP d l (102 :: ys)).2.2.2:=⟨_,rfl⟩
   obtain⟨ix,hix⟩:∃ix:Int,ix=((appendP d l (102 :: ys)).2.2.1:Int):=⟨_,rfl⟩
   have KA:=zh (show∀W B5 c5,Fresh w W->Bs W B5 (ys.length+1) c5 (102 :: ys)->(∀q,(Value.slice B5 (ys.length+1) c5).ownBlock=some q->w.heap.size<=q)->Calls Tryz.prog 44 #[.pointer (some ⟨bl,0,none⟩), .slice B5 (ys.length+1) c5] W fun e w'=>e= .returned (.tuple #[.int .i64 ix, .int .i64 er])/\SB w w' bs bl bd S R sv rv kv mb (appendP d l (102 :: ys)).2.1 (appendP d l (102 :: ys)).1 fence has cm from fun W B5 c5 hW hb5 hn5=>by
    rw[her,hix]
    exact H.out.app HB.out hns hW hb5 (by omega) hn5)
   have HER:=zh her;have HY:=zh hy
   have HC0:=zh (show∀W,Fresh w W->W.cell? ⟨bs,0,none⟩=some (.pointer (some ⟨bl,0,none⟩)) from fun W hW=>((H.out.fresh hW).ct.blk.cell 0).trans H.out.s0)
   clear her hix hy
   go_enter Tryz.func36,Tryz.ntmps36
   go_upto_region 5 with fail
   clear y1
   go_cut [5,6] from 16 to 25 (fun _ v W=>v= .int .i64 er/\SB w W bs bl bd S R sv rv kv mb (appendP d l (102 :: ys)).2.1 (appendP d l (102 :: ys)).1 fence has cm)
   case first=>
    go_region_held (fun W=>W.cell? ⟨bs,0,none⟩=some (.pointer (some ⟨bl,0,none⟩)))
     (first | exact HC0.out _ ((Touch.refl _ w).drew) | exact HC0.out _ HF5.out | exact z6 | assumption)
     (first
      | (go_at_call 70;refine(KF.out _).mono ?_;rintro e w5 ⟨hf5,B5,c5,rfl,hr5,hn5⟩;have HF5:=zh (show Fresh w w5 from((Touch.refl _ w).drew).trans hf5 fun _ _=>id);have HBS5:=zh (show Bs w5 B5 (ys.length+1) c5 (102 :: ys) from hr5.bs);have HN5:=zh (show∀q,(Value.slice B5 (ys.length+1) c5).ownBlock=some q->w.heap.size<=q from hn5);clear hf5 hr5 hn5)
      | (go_at_call 44;refine(KA.out _ _ _ HF5.out HBS5.out HN5.out).mono ?_;rintro e w6 ⟨rfl,hsb⟩;have z6:w6.cell? ⟨bs,0,none⟩=some (.pointer (some ⟨bl,0,none⟩)):=(by obtain⟨S',R',sv',rv',vs',cs',kv',hx⟩:=hsb;exact(hx.sd.ct.blk.cell 0).trans hx.sd.s0);have HSB:=zh hsb;clear hsb))
    all_goals
     go_wp2_with fail
     go_meet
     case rel=>exact⟨rfl,HSB.out⟩
   case rest=>
    obtain⟨rfl,hsb⟩:=hcut
    have HSB:=zh hsb
    clear hsb KF KA
    by_cases he:er=0
    ·subst he
     obtain⟨w6,hw6⟩:∃w6,w6=wc:=⟨_,rfl⟩
     rw[<- hw6]at HSB ⊢
     clear hw6
     obtain⟨S',R',sv',rv',vs',cs',kv',hx⟩:=HSB.out
     have hx7:=hx.sd.cell (i:=1) (fence':=f) (cm':=cm) (.inl rfl) (.int .i64 f) (fun _=>rfl) (fun e=>absurd rfl e) (fun e=>by cases e) (fun _=>rfl)
     have HX7:=zh (hx.trans hx7)
     obtain⟨w7,hw7⟩:∃w7,w7=w6.setCell ⟨bs,1,none⟩ (.int .i64 f):=⟨_,rfl⟩
     have y1:w6.cell? ⟨bs,1,none⟩=some (.int .i64 fence):=(hx.sd.ct.blk.cell 1).trans hx.sd.s1
     have f1:w6.frozen? ⟨bs,1,none⟩=false:=hx.sd.ct.blk.frozen 1
     rw[<- hw7]at HX7
     have y5:w7.cell? ⟨bs,5,none⟩=some (.int .i64 (cm:Int)):=(HX7.out.sd.ct.blk.cell 5).trans HX7.out.sd.s5
     have f5:w7.frozen? ⟨bs,5,none⟩=false:=HX7.out.sd.ct.blk.frozen 5
     have hwk:IntKind.i64.wrap ((cm:Int)+1)=(cm:Int)+1:=IntWalk.i64_in _ (by omega)
     have HW7:=zh hw7
     clear hx hx7 hw7
     go_upto_region 9 with fail
     rw[<- HW7.out]
     clear y1 f1
     go_wp2_with fail
     go_ret
     have hx9:=HX7.out.sd.cell (i:=5) (fence':=f) (cm':=cm+1) (.inr rfl) (.int .i64 ((cm:Int)+1)) (fun e=>by cases e) (fun _=>rfl) (fun _=>by rw[show ((cm+1:Nat):Int)=(cm:Int)+1 from rfl]) (fun e=>absurd rfl e)
     exact .good hlt (by omega) ys HY.out rfl HER.out.symm (HX7.out.trans hx9).sb
    ·have heb:(er != 0)=true:=bne_iff_ne.2 he
     have HE:=zh he
     clear he
     go_wp2_with fail
     go_ret
     exact .bad hlt (by omega) ys HY.out (by rw[<- HER.out];rfl) (by rw[<- HER.out];exact HE.out) HSB.out
theorem part_any(h:SD w bs bl bd S R l d sv rv vs cs kv mb fence has cm)(A:Option Addr)(n c:Nat)(ops:List Dec.Op)(hv:Vs w 3 A n c (opsV ops))(hA:∀a,A=some a->0<n->a.block<w.heap.size)(hn:n<=1048576)(hb:∀x∈ops,x.k.length<=maxLen/\x.v.length<=maxLen)
  (ys:List UInt8) (hy:Enc.ops ops=some ys) (hyl:ys.length<=1048512) {K:Nat} (hB:BegB l d K l.c.first l.c.next 0) (hns:l.segs.length<1024):
  Calls Tryz.prog 106 #[.pointer (some ⟨bs,0,none⟩), .slice A n c] w fun e w'=>e= .returned (.int .i64 (appendP d l (112 :: ys)).2.2.2)/\SB w w' bs bl bd S R sv rv kv mb (appendP d l (112 :: ys)).2.1 (appendP d l (112 :: ys)).1 fence has cm:=by
 have KO:=zh (cops_any A n c ops w hv hA hn hb)
 rw[hy]at KO
 obtain⟨er,her⟩:∃er,er=(appendP d l (112 :: ys)).2.2.2:=⟨_,rfl⟩
 obtain⟨ix,hix⟩:∃ix:Int,ix=((appendP d l (112 :: ys)).2.2.1:Int):=⟨_,rfl⟩
 have KA:=zh (show∀W B5 c5,Fresh w W->Bs W B5 (ys.length+1) c5 (112 :: ys)->(∀q,(Value.slice B5 (ys.length+1) c5).ownBlock=some q->w.heap.size<=q)->Calls Tryz.prog 44 #[.pointer (some ⟨bl,0,none⟩), .slice B5 (ys.length+1) c5] W fun e w'=>e= .returned (.tuple #[.int .i64 ix, .int .i64 er])/\SB w w' bs bl bd S R sv rv kv mb (appendP d l (112 :: ys)).2.1 (appendP d l (112 :: ys)).1 fence has cm from fun W B5 c5 hW hb5 hn5=>by
  rw[her,hix]
  exact h.app hB hns hW hb5 (by omega) hn5)
 have HC0:=zh (show∀W,Fresh w W->W.cell? ⟨bs,0,none⟩=some (.pointer (some ⟨bl,0,none⟩)) from fun W hW=>((h.fresh hW).ct.blk.cell 0).trans h.s0)
 rw[<- her]
 clear hv hA hb hB her hix h hy
 go_enter Tryz.func106,Tryz.ntmps106
 go_wp2_with fail
 refine KO.out.mono ?_
 rintro e w4 ⟨B,c4,rfl,hrow,hnb,hf4⟩
 have HF4:=zh hf4
 have hbs:=hrow.bs
 have KR:=zh (show∀W,Fresh w4 W->Calls Tryz.prog 45 #[.int .u8 112, .slice B ys.length c4] W fun e w'=>Fresh W w'/\∃B c',e= .returned (.slice B (ys.length+1) c')/\Row w' (.slice B (ys.length+1) c') (112 :: ys)/\∀q,(Value.slice B (ys.length+1) c').ownBlock=some q->W.heap.size<=q from fun W hW=>record_any 112 B ys.length c4 ys W (hbs.fresh hW) (by omega))
 clear hf4 hrow hnb hbs KO
 go_upto_region 2 with fail
 go_cut [7,8] from 15 to 24 (fun _ v W=>v= .int .i64 er/\SB w W bs bl bd S R sv rv kv mb (appendP d l (112 :: ys)).2.1 (appendP d l (112 :: ys)).1 fence has cm)
 case first=>
  go_region_held (fun W=>W.cell? ⟨bs,0,none⟩=some (.pointer (some ⟨bl,0,none⟩)))
   (first | exact HC0.out _ (HF4.out.drew) | exact HC0.out _ HF5.out | exact z6 | assumption)
   (first
    | (go_at_call 45;refine(KR.out _ ((Touch.refl _ w4).drew)).mono ?_;rintro e w5 ⟨hf5,B5,c5,rfl,hr5,hn5⟩;have HF5:=zh (show Fresh w w5 from(HF4.out.drew).trans hf5 fun _ _=>id);have HBS5:=zh (show Bs w5 B5 (ys.length+1) c5 (112 :: ys) from hr5.bs);have HN5:=zh (show∀q,(Value.slice B5 (ys.length+1) c5).ownBlock=some q->w.heap.size<=q from fun q hq=>Nat.le_trans HF4.out.size (hn5 q hq));clear hf5 hr5 hn5)
    | (go_at_call 44;refine(KA.out _ _ _ HF5.out HBS5.out HN5.out).mono ?_;rintro e w6 ⟨rfl,hsb⟩;have z6:w6.cell? ⟨bs,0,none⟩=some (.pointer (some ⟨bl,0,none⟩)):=(by obtain⟨S',R',sv',rv',vs',cs',kv',hx⟩:=hsb;exact(hx.sd.ct.blk.cell 0).trans hx.sd.s0);have HSB:=zh hsb;clear hsb))
  all_goals
   go_wp2_with fail
   go_meet
   case rel=>exact⟨rfl,HSB.out⟩
 case rest=>
  obtain⟨rfl,hsb⟩:=hcut
  have HSB:=zh hsb
  clear hsb KR KA
  go_wp2_with fail
  go_ret
  exact⟨rfl,HSB.out⟩
end
theorem op_new(w:World)(o:Dec.Op):Src Tryz.prog 3 28 (.slice (some ⟨w.heap.size,0,none⟩) 1 1) 1 [.string ⟨o.k.toArray⟩, .string ⟨o.v.toArray⟩, .bool o.g] (w.alloc (.cells #[.string ⟨o.k.toArray⟩, .string ⟨o.v.toArray⟩, .bool o.g] 31)):=by
 refine Src.ofSlice _ Tryz.underlying28 _ _ _ _ rfl (fun j u hu=> ?_) (fun u hu=> ?_)
 ·rw[add_flat,Nat.zero_add,(Blk.new w 31 #[.string ⟨o.k.toArray⟩, .string ⟨o.v.toArray⟩, .bool o.g]).cell]
  simpa using hu
 ·simp only[List.mem_cons,List.not_mem_nil,or_false]at hu
  rcases hu with rfl | rfl | rfl<;>rfl
def cp1(d:Dk)(l:Lg):Dk×Lg×Nat×Int:=appendP d l [98]
def cp2(d:Dk)(l:Lg)(ys:List UInt8):Dk×Lg×Nat×Int:=appendP (cp1 d l).1 (cp1 d l).2.1 (112 :: ys)
def cp3(d:Dk)(l:Lg)(ys zs:List UInt8):Dk×Lg×Nat×Int:=appendP (cp2 d l ys).1 (cp2 d l ys).2.1 (101 :: zs)
def cp4(d:Dk)(l:Lg)(ys zs:List UInt8):Dk×Lg×Int:=cutM (cp3 d l ys zs).1 (cp3 d l ys zs).2.1 (l.c.next:Int)
inductive CpEnd(w:World)(bs bl bd:Nat)(S R:Nat->Prop)(sv rv kv:Value)(mb:Nat)(l:Lg)(d:Dk)(fence:Int)(has:KL)(cm:Nat)(ys zs:List UInt8)(e:Ending)(w':World):Prop
 | idle (h:l.c.first=l.c.next) (he:e= .returned (.int .i64 0)) (hf:Fresh w w')
 | bad1 (h:l.c.first≠l.c.next) (he:e= .returned (.int .i64 (cp1 d l).2.2.2)) (hn:(cp1 d l).2.2.2≠0) (hs:SB w w' bs bl bd S R sv rv kv mb (cp1 d l).2.1 (cp1 d l).1 fence has cm)
 | bad2 (h:l.c.first≠l.c.next) (h1:(cp1 d l).2.2.2=0) (he:e= .returned (.int .i64 (cp2 d l ys).2.2.2)) (hn:(cp2 d l ys).2.2.2≠0) (hs:SB w w' bs bl bd S R sv rv kv mb (cp2 d l ys).2.1 (cp2 d l ys).1 fence has cm)
 | bad3 (h:l.c.first≠l.c.next) (h1:(cp1 d l).2.2.2=0) (h2:(cp2 d l ys).2.2.2=0) (he:e= .returned (.int .i64 (cp3 d l ys zs).2.2.2)) (hn:(cp3 d l ys zs).2.2.2≠0) (hs:SB w w' bs bl bd S R sv rv kv mb (cp3 d l ys zs).2.1 (cp3 d l ys zs).1 fence has cm)
 | cut (h:l.c.first≠l.c.next) (h1:(cp1 d l).2.2.2=0) (h2:(cp2 d l ys).2.2.2=0) (h3:(cp3 d l ys zs).2.2.2=0) (he:e= .returned (.int .i64 (cp4 d l ys zs).2.2)) (hs:SB w w' bs bl bd S R sv rv kv mb (cp4 d l ys zs).2.1 (cp4 d l ys zs).1 fence has cm)
structure PartW(w wr:World)(has:KL)(j:Nat)(v:Value):Prop where
 own:Own wr 31 3 v j (opsV (opsOf (has.take j)))
 new:∀k,v.ownBlock=some k->w.heap.size<=k
 fr:Fresh w wr
section
variable {w:World}{bs bl bd mb cm:Nat}{S R:Nat->Prop}{l:Lg}{d:Dk}{sv rv kv:Value}{vs:List Value}{cs:Array Value}{fence:Int}{has:KL}
theorem SD.cut_(h:SD w bs bl bd S R l d sv rv vs cs kv mb fence has cm)(before:Int){K:Nat}(hB:BegB l d K 0 0 0)(hns:l.segs.length<1024)(hrl:∀b∈l.c.rows,b.length<=100000000)(hsz:l.c.size<=100000000):
  Calls Tryz.prog 107 #[.pointer (some ⟨bl,0,none⟩), .int .i64 before] w fun e w'=>e= .returned (.int .i64 (cutM d l before).2.2)/\SB w w' bs bl bd S R sv rv kv mb (cutM d l before).2.1 (cutM d l before).1 fence has cm:=by
 refine(lcutw_any h.ld before hB hns hrl hsz).mono ?_
 rintro e w' ⟨rfl,S',R',sv',rv',vs',hx⟩
 exact⟨rfl,(h.log hx).sb⟩
theorem SX.sb_trans{w' w'':World}{l' l2:Lg}{d' d2:Dk}{S' R':Nat->Prop}{sv' rv' kv':Value}{vs':List Value}{cs':Array Value}{fence' fence2:Int}{has' has2:KL}{cm' cm2:Nat}(h:SX w w' bs bl bd S R sv rv kv mb l' d' S' R' sv' rv' vs' cs' kv' fence' has' cm')
  (h2:SB w' w'' bs bl bd S' R' sv' rv' kv' mb l2 d2 fence2 has2 cm2):SB w w'' bs bl bd S R sv rv kv mb l2 d2 fence2 has2 cm2:=by
 obtain⟨_,_,_,_,_,_,_,hx⟩:=h2
 exact(h.trans hx).sb
theorem Own.vs3{w:World}{v:Value}{n:Nat}{us:List Value}{e:TypeId}(h:Own w e 3 v n us):∃B c,v= .slice B n c/\Vs w 3 B n c us/\∀a,B=some a->0<n->a.block<w.heap.size:=by
 obtain⟨B,c,rfl,h1,h2,hB⟩:=h.form
 refine⟨B,c,rfl,⟨h.1,h1,h2,fun h0=> ?_⟩,fun a ha _=>h.lt a.block (by rw[ha];rfl)⟩
 rcases hB with⟨_,h3,_⟩ | ⟨g,rfl⟩
 ·omega
 ·exact⟨g,0,rfl,fun j u hu=>by
   have hj:=(List.getElem?_eq_some_iff.1 hu).1
   rw[h.1]at hj
   rw[Nat.zero_add,h.cell (j:=j) hj]
   exact hu⟩
theorem compact_any(h:SD w bs bl bd S R l d sv rv vs cs kv mb fence has cm)(hnx:l.c.next<=100000000)(hlen:has.length<=50000)(hwt:wgt has<=1048512)(ys zs:List UInt8)(hy:Enc.ops (opsOf has)=some ys)(hyl:ys.length<=1048512)(hz:Enc.plain fence=some zs)(hzl:zs.length<=8)
  {K:Nat} (hB:BegB l d K l.c.first l.c.next 0) (hns:l.segs.length<1024) (hB1:BegB (cp1 d l).2.1 (cp1 d l).1 K (cp1 d l).2.1.c.first (cp1 d l).2.1.c.next 0) (hns1:(cp1 d l).2.1.segs.length<1024)
  (hB2:BegB (cp2 d l ys).2.1 (cp2 d l ys).1 K (cp2 d l ys).2.1.c.first (cp2 d l ys).2.1.c.next 0) (hns2:(cp2 d l ys).2.1.segs.length<1024) (hB3:BegB (cp3 d l ys zs).2.1 (cp3 d l ys zs).1 K 0 0 0) (hns3:(cp3 d l ys zs).2.1.segs.length<1024)
  (hrl:∀b∈(cp3 d l ys zs).2.1.c.rows,b.length<=100000000) (hsz:(cp3 d l ys zs).2.1.c.size<=100000000):
  Calls Tryz.prog 66 #[.pointer (some ⟨bs,0,none⟩)] w (CpEnd w bs bl bd S R sv rv kv mb l d fence has cm ys zs):=by
 have y0:w.cell? ⟨bs,0,none⟩=some (.pointer (some ⟨bl,0,none⟩)):=(h.ct.blk.cell 0).trans h.s0
 have KN:=zh (next_any h.ld.lm (by omega))
 have KF:=zh (fun q=>first_any (h.ld.lm.fresh (show Fresh w (w.drewN q) from(Touch.refl _ w).drewN q)))
 have H:=zh h
 have y0q:∀q,(w.drewN q).cell? ⟨bs,0,none⟩=some (.pointer (some ⟨bl,0,none⟩)):=fun _=>y0
 have HCP:=zh (And.intro hB (And.intro hB1 (And.intro hB2 (And.intro hB3 (And.intro hrl hsz)))))
 have HY:=zh hy;have HZ:=zh hz
 clear h hB hB1 hB2 hB3 hrl hsz hy hz
 by_cases hidle:l.c.first=l.c.next
 ·have hie:(l.c.first:Int)=(l.c.next:Int):=by omega
  go_enter Tryz.func66,Tryz.ntmps66
  go_wp2_with fail
  refine KN.out.mono ?_
  rintro e w1 ⟨rfl,q,rfl⟩
  go_wp2_with fail
  refine(KF.out q).mono ?_
  rintro e w2 ⟨rfl,rfl⟩
  clear KF KN y0 y0q
  go_wp2_with fail
  go_ret
  exact .idle hidle rfl ((Touch.refl _ w).drewN q)
 ·have hie:¬(l.c.first:Int)=(l.c.next:Int):=by omega
  have HID:=zh hidle
  obtain⟨e1,he1⟩:∃e1,e1=(cp1 d l).2.2.2:=⟨_,rfl⟩
  obtain⟨i1,hi1⟩:∃i1:Int,i1=((cp1 d l).2.2.1:Int):=⟨_,rfl⟩
  have KA1:=zh (show∀q,Calls Tryz.prog 44 #[.pointer (some ⟨bl,0,none⟩), .slice (some ⟨w.heap.size,0,none⟩) 1 1] ((w.drewN q).alloc (.cells #[.int .u8 98] 5)) fun e w'=>e= .returned (.tuple #[.int .i64 i1, .int .i64 e1])/\SB w w' bs bl bd S R sv rv kv mb (cp1 d l).2.1 (cp1 d l).1 fence has cm from fun q=>by
   rw[he1,hi1]
   exact H.out.app HCP.out.1 hns (((Touch.refl _ w).drewN q).alloc _) (Row.lit1 (w.drewN q) 98 98 rfl).bs (by omega) (fun q hq=>by simp[Value.ownBlock]at hq;omega))
  have HE1:=zh he1
  clear hidle he1 hi1
  go_enter Tryz.func66,Tryz.ntmps66
  go_wp2_with fail
  refine KN.out.mono ?_
  rintro e w1 ⟨rfl,q,rfl⟩
  go_wp2_with fail
  refine(KF.out q).mono ?_
  rintro e w2 ⟨rfl,rfl⟩
  have KA:=zh (KA1.out q)
  clear KF KN KA1 y0
  have y0a:∀o,((w.drewN q).alloc o).cell? ⟨bs,0,none⟩=some (.pointer (some ⟨bl,0,none⟩)):=fun o=>(show Fresh (w.drewN q) _ from(Touch.refl _ _).alloc o).cell (y0q q) id
  go_wp2_with fail
  refine KA.out.mono ?_
  rintro e w3 ⟨rfl,hsb⟩
  have HSB1:=zh hsb
  clear hsb KA y0q y0a
  by_cases h1:e1=0
  ·subst h1
   obtain⟨S1,R1,sv1,rv1,vs1,cs1,kv1,hx1⟩:=HSB1.out
   obtain⟨A,kc,hkv,hkc1,hkc2,hkA⟩:=hx1.sd.ct.keys.form
   subst hkv
   have HX1:=zh hx1
   have c2:w3.cell? ⟨bs,2,none⟩=some (.slice A has.length kc):=hx1.sd.ct.cells.1
   have HKA:=zh hkA
   unfold maxLen at hkc2
   clear hx1 hkA
   go_wp2_with fail
   go_loopw [6,7,46] (fun v s i wr=>∃j:Nat,j<=has.length/\i= .int .i64 (j:Int)/\s= .int .i64 (wgt (has.take j):Int)/\PartW w3 wr has j v) (fun _ _ i _=>has.length-(intOf i).toNat)
   case atStart=>exact⟨0,Nat.zero_le _,rfl,by simp[wgt],⟨by simpa [opsOf,opsV] using Own.nil_ _ _ _,fun k hk=>(by cases hk),Touch.refl _ _⟩⟩
   case round=>
    clear c2
    obtain⟨j,hj,rfl,rfl,hp⟩:=hrel
    have HP:=zh hp
    have hw0:=wt_take has j
    by_cases hlt:j<has.length
    ·obtain⟨x,hx⟩:∃x,has[j]? =some x:=⟨_,List.getElem?_eq_getElem hlt⟩
     have hsd:=HX1.out.sd.fresh hp.fr
     obtain⟨g,rfl⟩:∃g,A=some ⟨g,0,none⟩:=by
      rcases HKA.out with⟨_,h2,_⟩ | hA
      ·omega
      ·exact hA
     have k0:wr.cell? ⟨g,j,none⟩=some (.string ⟨x.1.toArray⟩):=by
      rw[hsd.ct.keys.cell (j:=j) (by omega),keysV_get,hx]
      rfl
     have m0:wr.cell? ⟨bs,3,none⟩=some (.map (some mb)):=hsd.ct.cells.2.1
     have hw1:=wt_take has (j+1)
     have hts:has.take (j+1)=has.take j++ [x]:=by rw[List.take_add_one,hx];rfl
     have hw2:wgt (has.take (j+1))=wgt (has.take j)+(x.1.length+x.2.length+32):=by rw[hts,wt_append,wt_one]
     have hgx:kget x.1 has=some x.2:=kget_of_mem hsd.ct.sort (List.mem_of_getElem? hx)
     have lk:(Instr.lookup 92 (.map (some mb)) (.string ⟨x.1.toArray⟩) false).run Tryz.prog wr= .ok (.string ⟨x.2.toArray⟩) wr:=by
      have:=hsd.ct.map.look (k:=x.1) (by unfold maxLen;omega)
      rw[hgx]at this
      exact this
     obtain⟨W1,hW1⟩:∃W1,W1=wr.alloc (.cells #[.string ⟨x.1.toArray⟩, .string ⟨x.2.toArray⟩, .bool false] 31):=⟨_,rfl⟩
     have hf1:Fresh wr W1:=by rw[hW1];exact(Touch.refl _ wr).alloc _
     have hb1:Blk W1 wr.heap.size 31 #[.string ⟨x.1.toArray⟩, .string ⟨x.2.toArray⟩, .bool false]:=by rw[hW1];exact Blk.new _ _ _
     have z0:W1.cell? ⟨wr.heap.size,0,none⟩=some (.string ⟨x.1.toArray⟩):=hb1.cell 0
     have z1:W1.cell? ⟨wr.heap.size,1,none⟩=some (.string ⟨x.2.toArray⟩):=hb1.cell 1
     have z2:W1.cell? ⟨wr.heap.size,2,none⟩=some (.bool false):=hb1.cell 2
     have hq1:IntKind.i64.wrap ((x.1.length:Int)+(x.2.length:Int))=(x.1.length:Int)+(x.2.length:Int):=IntWalk.i64_in _ (by omega)
     have hq2:IntKind.i64.wrap ((x.1.length:Int)+(x.2.length:Int)+32)=(x.1.length:Int)+(x.2.length:Int)+32:=IntWalk.i64_in _ (by omega)
     have hq3:IntKind.i64.wrap ((wgt (has.take j):Int)+((x.1.length:Int)+(x.2.length:Int)+32))=(wgt (has.take j):Int)+((x.1.length:Int)+(x.2.length:Int)+32):=IntWalk.i64_in _ (by omega)
     have hq4:¬(1048512:Int)<(wgt (has.take j):Int)+((x.1.length:Int)+(x.2.length:Int)+32):=by omega
     have hq5:decide ((1048512:Int)<(wgt (has.take j):Int)+((x.1.length:Int)+(x.2.length:Int)+32))=false:=decide_eq_false hq4
     have hwk:IntKind.i64.wrap ((j:Int)+1)=(j:Int)+1:=IntWalk.i64_in _ (by omega)
     have hjd:decide ((j:Int)<(has.length:Int))=true:=decide_eq_true (by omega)
     have hji:(j:Int)<(has.length:Int):=by omega
     have HO:=zh ((hp.own.touch hf1 fun _ _=>id).alloc (.cells #[.string ⟨x.1.toArray⟩, .string ⟨x.2.toArray⟩, .bool false] 31))
     have HF1:=zh (hp.fr.trans hf1 fun _ _=>id)
     have HW1:=zh hW1;have HTS:=zh hts;have HW2:=zh hw2
     have HS1:=zh (show Src Tryz.prog 3 28 (.slice (some ⟨W1.heap.size,0,none⟩) 1 1) 1 [.string ⟨x.1.toArray⟩, .string ⟨x.2.toArray⟩, .bool false] (W1.alloc (.cells #[.string ⟨x.1.toArray⟩, .string ⟨x.2.toArray⟩, .bool false] 31)) from op_new W1 ⟨x.1,x.2,false⟩)
     clear hp hx hsd hts hgx hW1 hf1 hb1 hw2
     go_upto_region 13 with fail
     rw[<- HW1.out]
     clear k0 m0 lk
     go_wp2_with (at_builtin;refine wpList_own_src _ rfl _ _ 28 28 rfl 31 (.agg #[.string ⟨#[]⟩, .string ⟨#[]⟩, .bool false]) 3 40 Tryz.info31 Tryz.underlying28 rfl u6 j _ rfl HO.out (opsV_one _) (.slice (some ⟨W1.heap.size,0,none⟩) 1 1) 1 [.string ⟨x.1.toArray⟩, .string ⟨x.2.toArray⟩, .bool false] rfl HS1.out (by unfold maxLen;omega) (by omega) ?_;intro B6 c6 w6 o6 g6 b6;have O6:=zh o6;have G6:=zh g6;have B6h:=zh b6;clear o6 g6 b6)
     go_roundw
     case rel=>
      refine⟨j+1,by omega,by go_num,by rw[HW2.out];push_cast;rfl,⟨?_,fun k hk=> ?_, ?_⟩⟩
      ·have:=O6.out
       rw[HTS.out]
       have e:opsV (opsOf (has.take j++ [x]))=opsV (opsOf (has.take j))++ [.string ⟨x.1.toArray⟩, .string ⟨x.2.toArray⟩, .bool false]:=by simp[opsV,opsOf,opV]
       rw[e]
       exact this
      ·rcases B6h.out with e | e
       ·rw[e]at hk;exact HP.out.new k hk
       ·rw[hk]at e
        injection e with e
        have h1:=HF1.out.size
        rw[e,World.size_alloc]
        omega
      ·exact(HF1.out.alloc _).grown G6.out fun q hq=> .inl (HP.out.new q hq)
     case measure=>simp[intOf]<;>omega
    ·obtain rfl:j=has.length:=by omega
     have hown:=hp.own
     rw[List.take_of_length_le (Nat.le_refl _)]at hown
     obtain⟨B,c6,rfl,hvs,hvb⟩:=hown.vs3
     obtain⟨e2,he2⟩:∃e2,e2=(cp2 d l ys).2.2.2:=⟨_,rfl⟩
     have hol:(opsOf has).length=has.length:=by simp[opsOf]
     have hsd:=HX1.out.sd.fresh hp.fr
     have KP:=zh (show Calls Tryz.prog 106 #[.pointer (some ⟨bs,0,none⟩), .slice B has.length c6] wr fun e w'=>e= .returned (.int .i64 e2)/\SB w w' bs bl bd S R sv rv kv mb (cp2 d l ys).2.1 (cp2 d l ys).1 fence has cm from by
      refine(part_any hsd B has.length c6 (opsOf has) hvs hvb (by omega) (fun x hx=> ?_) ys HY.out hyl HCP.out.2.1 hns1).mono ?_
      ·obtain⟨y,hy,rfl⟩:=List.mem_map.1 hx
       obtain⟨t,ht⟩:=List.mem_iff_getElem?.1 hy
       have h1:has.take (t+1)=has.take t++ [y]:=by rw[List.take_add_one,ht];rfl
       have h2:=wt_take has (t+1)
       rw[h1,wt_append,wt_one]at h2
       unfold maxLen
       exact⟨by show y.1.length<= _;omega,by show y.2.length<= _;omega⟩
      ·rintro e w' ⟨rfl,hsb⟩
       exact⟨by rw[he2];rfl,(HX1.out.fresh hp.fr).sb_trans hsb⟩)
     have HE2:=zh he2
     clear hown hvs hvb he2 hol hsd hp hw0 HP HX1 HKA
     go_wp2_with fail
     refine KP.out.mono ?_
     rintro e w4 ⟨rfl,hsb⟩
     have HSB2:=zh hsb
     clear hsb KP
     by_cases h2:e2=0
     ·subst h2
      obtain⟨S2,R2,sv2,rv2,vs2,cs2,kv2,hx2⟩:=HSB2.out
      have HX2:=zh hx2
      obtain⟨e3,he3⟩:∃e3,e3=(cp3 d l ys zs).2.2.2:=⟨_,rfl⟩
      obtain⟨i3,hi3⟩:∃i3:Int,i3=((cp3 d l ys zs).2.2.1:Int):=⟨_,rfl⟩
      have KF:=zh (show∀W,Calls Tryz.prog 70 #[.int .u8 101, .int .i64 fence] W fun e w'=>Fresh W w'/\∃B c',e= .returned (.slice B (zs.length+1) c')/\Row w' (.slice B (zs.length+1) c') (101 :: zs)/\∀q,(Value.slice B (zs.length+1) c').ownBlock=some q->W.heap.size<=q from fun W=>fenced_any 101 fence zs HZ.out (by omega) W)
      have KA:=zh (show∀W B5 c5,Fresh w4 W->Bs W B5 (zs.length+1) c5 (101 :: zs)->(∀q,(Value.slice B5 (zs.length+1) c5).ownBlock=some q->w4.heap.size<=q)->Calls Tryz.prog 44 #[.pointer (some ⟨bl,0,none⟩), .slice B5 (zs.length+1) c5] W fun e w'=>e= .returned (.tuple #[.int .i64 i3, .int .i64 e3])/\SB w w' bs bl bd S R sv rv kv mb (cp3 d l ys zs).2.1 (cp3 d l ys zs).1 fence has cm from fun W B5 c5 hW hb5 hn5=>by
       refine(hx2.sd.app HCP.out.2.2.1 hns2 hW hb5 (by omega) hn5).mono ?_
       rintro e w' ⟨rfl,hsb⟩
       exact⟨by rw[he3,hi3];rfl,hx2.sb_trans hsb⟩)
      have HC0:=zh (show∀W,Fresh w4 W->W.cell? ⟨bs,0,none⟩=some (.pointer (some ⟨bl,0,none⟩))/\W.cell? ⟨bs,1,none⟩=some (.int .i64 fence) from fun W hW=>⟨((hx2.sd.fresh hW).ct.blk.cell 0).trans hx2.sd.s0,((hx2.sd.fresh hW).ct.blk.cell 1).trans hx2.sd.s1⟩)
      have HE3:=zh he3
      clear hx2 he3 hi3
      go_upto_region 25 with fail
      go_cut [14,15] from 91 to 104 (fun _ v W=>v= .int .i64 e3/\SB w W bs bl bd S R sv rv kv mb (cp3 d l ys zs).2.1 (cp3 d l ys zs).1 fence has cm)
      case first=>
       go_region_held (fun W=>W.cell? ⟨bs,0,none⟩=some (.pointer (some ⟨bl,0,none⟩))/\W.cell? ⟨bs,1,none⟩=some (.int .i64 fence))
        (first | exact HC0.out _ ((Touch.refl _ w4).drew) | exact HC0.out _ HF5.out | exact z6 | assumption)
        (first
         | (go_at_call 70;refine(KF.out _).mono ?_;rintro e w5 ⟨hf5,B5,c5,rfl,hr5,hn5⟩;have HF5:=zh (show Fresh w4 w5 from((Touch.refl _ w4).drew).trans hf5 fun _ _=>id);have HBS5:=zh (show Bs w5 B5 (zs.length+1) c5 (101 :: zs) from hr5.bs);have HN5:=zh (show∀q,(Value.slice B5 (zs.length+1) c5).ownBlock=some q->w4.heap.size<=q from hn5);clear hf5 hr5 hn5)
         | (go_at_call 44;refine(KA.out _ _ _ HF5.out HBS5.out HN5.out).mono ?_;rintro e w6 ⟨rfl,hsb⟩;have z6:w6.cell? ⟨bs,0,none⟩=some (.pointer (some ⟨bl,0,none⟩))/\w6.cell? ⟨bs,1,none⟩=some (.int .i64 fence):=(by obtain⟨S',R',sv',rv',vs',cs',kv',hx⟩:=hsb;exact⟨(hx.sd.ct.blk.cell 0).trans hx.sd.s0,(hx.sd.ct.blk.cell 1).trans hx.sd.s1⟩);have HSB:=zh hsb;clear hsb))
       all_goals
        go_wp2_with fail
        go_meet
        case rel=>exact⟨rfl,HSB.out⟩
      case rest=>
       obtain⟨rfl,hsb⟩:=hcut
       have HSB3:=zh hsb
       clear hsb KF KA
       obtain⟨w6,hw6⟩:∃w6,w6=wc:=⟨_,rfl⟩
       rw[<- hw6]at HSB3 ⊢
       clear hw6
       by_cases h3:e3=0
       ·subst h3
        obtain⟨S3,R3,sv3,rv3,vs3,cs3,kv3,hx3⟩:=HSB3.out
        obtain⟨e4,he4⟩:∃e4,e4=(cp4 d l ys zs).2.2:=⟨_,rfl⟩
        have KC:=zh (show Calls Tryz.prog 107 #[.pointer (some ⟨bl,0,none⟩), .int .i64 (l.c.next:Int)] w6 fun e w'=>e= .returned (.int .i64 e4)/\SB w w' bs bl bd S R sv rv kv mb (cp4 d l ys zs).2.1 (cp4 d l ys zs).1 fence has cm from by
         refine(hx3.sd.cut_ (l.c.next:Int) HCP.out.2.2.2.1 hns3 HCP.out.2.2.2.2.1 HCP.out.2.2.2.2.2).mono ?_
         rintro e w' ⟨rfl,hsb⟩
         exact⟨by rw[he4];rfl,hx3.sb_trans hsb⟩)
        have y0:w6.cell? ⟨bs,0,none⟩=some (.pointer (some ⟨bl,0,none⟩)):=(hx3.sd.ct.blk.cell 0).trans hx3.sd.s0
        have HE4:=zh he4
        clear hx3 he4
        go_wp2_with fail
        refine KC.out.mono ?_
        rintro e w7 ⟨rfl,hsb⟩
        have HSB4:=zh hsb
        clear hsb KC y0
        go_wp2_with fail
        go_ret
        exact .cut HID.out HE1.out.symm HE2.out.symm HE3.out.symm (by rw[<- HE4.out];rfl) HSB4.out
       ·have heb:(e3 != 0)=true:=bne_iff_ne.2 h3
        have HN:=zh h3
        clear h3
        go_wp2_with fail
        go_ret
        exact .bad3 HID.out HE1.out.symm HE2.out.symm (by rw[<- HE3.out];rfl) (by rw[<- HE3.out];exact HN.out) HSB3.out
     ·have heb:(e2 != 0)=true:=bne_iff_ne.2 h2
      have HN:=zh h2
      clear h2
      go_wp2_with fail
      go_ret
      exact .bad2 HID.out HE1.out.symm (by rw[<- HE2.out];rfl) (by rw[<- HE2.out];exact HN.out) HSB2.out
  ·have heb:(e1 != 0)=true:=bne_iff_ne.2 h1
   have HN:=zh h1
   clear h1
   go_wp2_with fail
   go_ret
   exact .bad1 HID.out (by rw[<- HE1.out];rfl) (by rw[<- HE1.out];exact HN.out) HSB1.out
end
end Go.Proofs.YtjehlgblkfofpaaGreat