/- The claims' texts, several in one: Cm, Kb, Kd, Kc. Conditions stand with each theorem. -/
import Derived.Test.YtjehlgblkfofpaaGreatZa13
import Derived.Test.YtjehlgblkfofpaaGreatZa18
import Derived.Deep.CutRange
import Derived.Deep.RegionLaw
import Derived.Deep.RegionHeld3
import Derived.BigQuiet
import Derived.Test.YtjehlgblkfofpaaGreatZa11
set_option maxHeartbeats 16000000
set_option maxRecDepth 200000
namespace Go.Proofs.YtjehlgblkfofpaaGreat
open Go.RowKit
attribute [local go_sem] Oper.semAt_some
structure FrOf(w:World) where
 W:World
 h:Fresh w W
instance (w:World):Inhabited (FrOf w):=⟨⟨w,Touch.refl _ w⟩⟩
theorem wp_region_fresh{P:Program}{id:Nat}{Q:Exit->Act->World->Prop}{a:Act}{w:World}{l:List Oper}(hm:P.follows .mixedOrders=true)(hB:Region.lexB .any l.toArray=true)
  (h:wpQuiet P l.toArray (fun w'=>∃p:FrOf w,w'=p.W) (fun a'=>∀w',(∃p:FrOf w,w'=p.W)->Q .normal a' w') l a):(Code.region id l.toArray true).wp P Q a w:=
 wp_region_quiet (C:=fun w'=>∃p:FrOf w,w'=p.W) hm hB ⟨⟨_,(Touch.refl (fun _=>False) w).drew⟩,rfl⟩ (by simpa using h)
theorem Calls.fr_of{P:Program}{f:FuncId}{args:Array Value}{w:World}{p:FrOf w}{v:Value}(h:Calls P f args p.W fun e w'=>e= .returned v/\Fresh p.W w'):Calls P f args p.W fun e w'=>e= .returned v/\∃p':FrOf w,w'=p'.W:=
 h.mono fun _ w' ⟨he,hf⟩=>⟨he,⟨w',p.h.trans hf fun _ _=>id⟩,rfl⟩
structure CM(w:World)(b o:Nat)(t:TypeId)(cs:Array Value)(kv:Value)(mb:Nat)(l:KL):Prop where
 blk:Blk w b t cs
 c0:cs[o]? =some kv
 c1:cs[o+1]? =some (.map (some mb))
 c2:cs[o+2]? =some (.int .i64 (ksize l:Int))
 keys:Own w 9 1 kv l.length (keysV l)
 map:SMap w mb l
 sort:KSort l
 tne:t≠9
def cfoot(kv:Value)(mb k:Nat):Prop:=kv.ownBlock=some k\/k=mb
section
variable {w w':World}{b o:Nat}{t:TypeId}{cs:Array Value}{kv:Value}{mb:Nat}{l:KL}
theorem CM.touch{S:Nat->Prop}(h:CM w b o t cs kv mb l)(ht:Touch S w w')(hn:∀k,(k=b\/cfoot kv mb k)->¬S k):CM w' b o t cs kv mb l:=
 ⟨h.blk.touch ht (hn b (.inl rfl)),h.c0,h.c1,h.c2,h.keys.touch ht fun k hk=>hn k (.inr (.inl hk)),h.map.touch ht (hn mb (.inr (.inr rfl))),h.sort,h.tne⟩
theorem CM.fresh(h:CM w b o t cs kv mb l)(ht:Fresh w w'):CM w' b o t cs kv mb l:=h.touch ht fun _ _=>id
theorem CM.lt(h:CM w b o t cs kv mb l):∀k,(k=b\/cfoot kv mb k)->k<w.heap.size:=by
 rintro k (rfl | hk | rfl)
 ·exact h.blk.lt
 ·exact h.keys.lt k hk
 ·exact h.map.lt
theorem CM.ne(h:CM w b o t cs kv mb l):kv.ownBlock≠some b/\mb≠b/\kv.ownBlock≠some mb:=by
 refine⟨h.keys.ne_blk h.blk (fun e=>h.tne e.symm),h.map.ne_blk h.blk,fun e=> ?_⟩
 rcases h.keys.2 with⟨rfl,_⟩ | ⟨g,cap,cur,rfl,hg,_⟩
 ·cases e
 ·simp only[Value.ownBlock,Option.some.injEq]at e
  exact h.map.ne_blk (g:=g) (t:=9) hg e.symm
theorem CM.cells(h:CM w b o t cs kv mb l):w.cell? ⟨b,o,none⟩=some kv/\w.cell? ⟨b,o+1,none⟩=some (.map (some mb))/\w.cell? ⟨b,o+2,none⟩=some (.int .i64 (ksize l:Int)):=
 ⟨(h.blk.cell o).trans h.c0,(h.blk.cell (o+1)).trans h.c1,(h.blk.cell (o+2)).trans h.c2⟩
end
theorem keysV_append(a b:KL):keysV (a++b)=keysV a++keysV b:=by simp[keysV]
theorem keysV_take(l:KL)(i:Nat):keysV (l.take i)=(keysV l).take i:=by simp[keysV]
theorem keysV_drop(l:KL)(i:Nat):keysV (l.drop i)=(keysV l).drop i:=by simp[keysV]
theorem keysV_new{l:KL}{x:Dec.Op}(hs:KSort l)(h:kget x.k l=none)(hg:x.g=false):keysV (kput x l)=(keysV l).take (kpos x.k l)++ [.string ⟨x.k.toArray⟩]++(keysV l).drop (kpos x.k l)/\(kput x l).length=l.length+1:=by
 have hle:=kpos_le (k:=x.k) l
 rw[kput_new hs h,if_neg (by simp[hg])]
 refine⟨?_, ?_⟩
 ·rw[keysV_append,keysV_take,List.append_assoc]
  congr 1
  show Value.string ⟨x.k.toArray⟩ :: keysV (l.drop _)= _
  rw[keysV_drop]
  rfl
 ·simp only[List.length_append,List.length_take,List.length_cons,List.length_drop]
  omega
theorem keysV_gone{l:KL}{x:Dec.Op}{v:List UInt8}(hs:KSort l)(h:kget x.k l=some v)(hg:x.g=true):keysV (kput x l)=(keysV l).take (kpos x.k l)++(keysV l).drop (kpos x.k l+1)/\(kput x l).length=l.length-1/\kpos x.k l<l.length:=by
 have hlt:=(List.getElem?_eq_some_iff.1 ((kget_pos hs).1 h)).1
 rw[kput_old hs h,if_pos hg,List.append_nil]
 refine⟨?_, ?_,hlt⟩
 ·rw[keysV_append,keysV_take,keysV_drop]
 ·simp only[List.length_append,List.length_take,List.length_drop]
  omega
theorem keysV_set{l:KL}{x:Dec.Op}{v:List UInt8}(hs:KSort l)(h:kget x.k l=some v)(hg:x.g=false):keysV (kput x l)=keysV l/\(kput x l).length=l.length:=by
 have hp:=(kget_pos hs).1 h
 have hlt:=(List.getElem?_eq_some_iff.1 hp).1
 rw[kput_old hs h,if_neg (by simp[hg])]
 refine⟨?_, ?_⟩
 ·rw[keysV_append,keysV_append,keysV_take,keysV_drop]
  conv=>rhs;rw[<- List.take_append_drop (kpos x.k l) (keysV l)]
  have hd:(keysV l).drop (kpos x.k l)= .string ⟨x.k.toArray⟩ :: (keysV l).drop (kpos x.k l+1):=by
   rw[List.drop_eq_getElem_cons (by rw[keysV_len];exact hlt)]
   congr 1
   have:=keysV_get l (kpos x.k l)
   rw[hp,List.getElem?_eq_getElem (by rw[keysV_len];exact hlt)]at this
   simpa using this
  rw[hd,List.append_assoc]
  rfl
 ·simp only[List.length_append,List.length_take,List.length_cons,List.length_drop,List.length_nil]
  omega
structure PStep(w W:World)(b o:Nat)(t:TypeId)(cs:Array Value)(kv:Value)(mb:Nat)(kv':Value)(n:Nat)(us:List Value)(l:KL)(sz:Int)(cs':Array Value):Prop where
 blk:Blk W b t cs'
 c0:cs'[o]? =some kv'
 c1:cs'[o+1]? =some (.map (some mb))
 c2:cs'[o+2]? =some (.int .i64 sz)
 keys:Own W 9 1 kv' n us
 map:SMap W mb l
 sort:KSort l
 tne:t≠9
 tch:Touch (fun k=>k=b\/cfoot kv mb k) w W
 new:∀k,kv'.ownBlock=some k->kv.ownBlock=some k\/w.heap.size<=k
 size:cs'.size=cs.size
 far:∀j,(j<o\/o+2<j)->cs'[j]? =cs[j]?
section
variable {w W W':World}{b o:Nat}{t:TypeId}{cs cs':Array Value}{kv kv':Value}{mb n:Nat}{us:List Value}{l:KL}{sz:Int}
theorem CM.start(h:CM w b o t cs kv mb l):PStep w w b o t cs kv mb kv l.length (keysV l) l (ksize l) cs:=
 ⟨h.blk,h.c0,h.c1,h.c2,h.keys,h.map,h.sort,h.tne,Touch.refl _ _,fun _=> .inl,rfl,fun _ _=>rfl⟩
theorem PStep.fresh(h:PStep w W b o t cs kv mb kv' n us l sz cs')(hf:Fresh W W'):PStep w W' b o t cs kv mb kv' n us l sz cs':=
 ⟨h.blk.touch hf id,h.c0,h.c1,h.c2,h.keys.touch hf fun _ _=>id,h.map.touch hf id,h.sort,h.tne,h.tch.trans hf fun _ _=>False.elim,h.new,h.size,h.far⟩
theorem PStep.cells(h:PStep w W b o t cs kv mb kv' n us l sz cs'):W.cell? ⟨b,o,none⟩=some kv'/\W.cell? ⟨b,o+1,none⟩=some (.map (some mb))/\W.cell? ⟨b,o+2,none⟩=some (.int .i64 sz):=
 ⟨(h.blk.cell o).trans h.c0,(h.blk.cell (o+1)).trans h.c1,(h.blk.cell (o+2)).trans h.c2⟩
theorem PStep.ne(h:PStep w W b o t cs kv mb kv' n us l sz cs'):kv'.ownBlock≠some b/\mb≠b/\kv'.ownBlock≠some mb:=by
 refine⟨h.keys.ne_blk h.blk (fun e=>h.tne e.symm),h.map.ne_blk h.blk,fun e=> ?_⟩
 rcases h.keys.2 with⟨rfl,_⟩ | ⟨g,cap,cur,rfl,hg,_⟩
 ·cases e
 ·simp only[Value.ownBlock,Option.some.injEq]at e
  exact h.map.ne_blk (g:=g) (t:=9) hg e.symm
theorem PStep.setSize(h:PStep w W b o t cs kv mb kv' n us l sz cs')(z:Int):PStep w (W.setCell ⟨b,o+2,none⟩ (.int .i64 z)) b o t cs kv mb kv' n us l z (cs'.setIfInBounds (o+2) (.int .i64 z)):=by
 have hlt:o+2<cs'.size:=(Array.getElem?_eq_some_iff.1 h.c2).1
 have hn:=h.ne
 refine⟨h.blk.set_ _ _, ?_, ?_, ?_,h.keys.far (p:=⟨b,o+2,none⟩) hn.1 _,h.map.heap (Below.heap_setCell W ⟨b,o+2,none⟩ _ mb hn.2.1),h.sort,h.tne,h.tch.setCell (p:=⟨b,o+2,none⟩) (.inr (.inl rfl)) _,h.new,by rw[Array.size_setIfInBounds];exact h.size,fun j hj=> ?_⟩
 ·rw[Array.getElem?_setIfInBounds_ne (by omega)];exact h.c0
 ·rw[Array.getElem?_setIfInBounds_ne (by omega)];exact h.c1
 ·rw[Array.getElem?_setIfInBounds_self_of_lt hlt]
 ·rw[Array.getElem?_setIfInBounds_ne (by omega)];exact h.far j hj
theorem PStep.setKeys{m:Nat}{B:Option Addr}{c':Nat}{vs:List Value}(h:PStep w W b o t cs kv mb kv' n us l sz cs')(ht:Touch (fun q=>kv'.ownBlock=some q) W W')(ho:Own W' 9 1 (.slice B m c') m vs)
  (hn:∀q,(Value.slice B m c').ownBlock=some q->kv'.ownBlock=some q\/W.heap.size<=q):PStep w (W'.setCell ⟨b,o,none⟩ (.slice B m c')) b o t cs kv mb (.slice B m c') m vs l sz (cs'.setIfInBounds o (.slice B m c')):=by
 have hlt:o<cs'.size:=(Array.getElem?_eq_some_iff.1 h.c0).1
 have hne:=h.ne
 have hb:Blk W' b t cs':=h.blk.touch ht hne.1
 have hm:SMap W' mb l:=h.map.touch ht hne.2.2
 have hs:=h.tch.size
 refine⟨hb.set_ _ _, ?_, ?_, ?_,ho.far (p:=⟨b,o,none⟩) (ho.ne_blk hb (fun e=>h.tne e.symm)) _,hm.heap (Below.heap_setCell W' ⟨b,o,none⟩ _ mb hne.2.1),h.sort,h.tne, ?_,fun k hk=> ?_,by rw[Array.size_setIfInBounds];exact h.size,fun j hj=> ?_⟩
 ·rw[Array.getElem?_setIfInBounds_self_of_lt hlt]
 ·rw[Array.getElem?_setIfInBounds_ne (by omega)];exact h.c1
 ·rw[Array.getElem?_setIfInBounds_ne (by omega)];exact h.c2
 ·exact(h.tch.trans ht fun q hq hx=>(h.new q hx).elim (fun e=> .inr (.inl e)) (fun e=>by omega)).setCell (p:=⟨b,o,none⟩) (.inr (.inl rfl)) _
 ·rcases hn k hk with e | e
  ·exact h.new k e
  ·exact .inr (by omega)
 ·rw[Array.getElem?_setIfInBounds_ne (by omega)];exact h.far j hj
theorem PStep.setMap{l':KL}(h:PStep w W b o t cs kv mb kv' n us l sz cs')(ht:Touch (fun q=>q=mb) W W')(hm:SMap W' mb l')(hs:KSort l'):PStep w W' b o t cs kv mb kv' n us l' sz cs':=by
 have hne:=h.ne
 have hz:=h.tch.size
 refine⟨h.blk.touch ht (fun e=>hne.2.1 e.symm),h.c0,h.c1,h.c2,h.keys.touch ht fun k hk e=>hne.2.2 (by rw[hk,e]),hm,hs,h.tne,h.tch.trans ht fun q hq hx=> .inr (.inr hx),h.new,h.size,h.far⟩
end
def PutEnd(w:World)(b o:Nat)(t:TypeId)(cs:Array Value)(kv:Value)(mb:Nat)(l:KL)(e:Ending)(w':World):Prop:=
 e= .returned (.tuple #[])/\∃cs' kv',CM w' b o t cs' kv' mb l/\Touch (fun k=>k=b\/cfoot kv mb k) w w'/\(∀k,kv'.ownBlock=some k->kv.ownBlock=some k\/w.heap.size<=k)/\cs'.size=cs.size/\∀j,(j<o\/o+2<j)->cs'[j]? =cs[j]?
section
variable {w:World}{b o:Nat}{t:TypeId}{cs:Array Value}{kv:Value}{mb:Nat}{l:KL}
theorem kput_any(h:CM w b o t cs kv mb l)(x:Dec.Op)(hk:x.k.length<=1000000)(hv:x.v.length<=1000000)(hl:l.length<=400000000)(hz:ksize l<=1000000000):
  Calls Tryz.prog 55 #[.pointer (some ⟨b,o,none⟩),opA x] w (PutEnd w b o t cs kv mb (kput x l)):=by
 obtain⟨W1,hW1⟩:∃W1,W1=w.alloc (.cells #[.string ⟨x.k.toArray⟩, .string ⟨x.v.toArray⟩, .bool x.g] 31):=⟨_,rfl⟩
 have hf1:Fresh w W1:=by rw[hW1];exact(Touch.refl _ w).alloc _
 have hb1:Blk W1 w.heap.size 31 #[.string ⟨x.k.toArray⟩, .string ⟨x.v.toArray⟩, .bool x.g]:=by rw[hW1];exact Blk.new _ _ _
 have H:=zh h;have HW1:=zh hW1;have HF1:=zh hf1;have HB1:=zh hb1
 have hm:x.k.length<=maxLen:=by unfold maxLen;omega
 have HC:=zh (show∀W,Fresh W1 W->W.cell? ⟨b,o,none⟩=some kv/\W.cell? ⟨b,o+1,none⟩=some (.map (some mb))/\W.cell? ⟨b,o+2,none⟩=some (.int .i64 (ksize l:Int))/\W.cell? ⟨w.heap.size,0,none⟩=some (.string ⟨x.k.toArray⟩)/\W.cell? ⟨w.heap.size,1,none⟩=some (.string ⟨x.v.toArray⟩)/\W.cell? ⟨w.heap.size,2,none⟩=some (.bool x.g) from fun W hW=>by
  have c:=((h.fresh hf1).fresh hW).cells
  have d:=hb1.touch hW id
  exact⟨c.1,c.2.1,c.2.2,d.cell 0,d.cell 1,d.cell 2⟩)
 have KL2:=zh (show∀W,Fresh W1 W->(Instr.lookup 92 (.map (some mb)) (.string ⟨x.k.toArray⟩) true).run Tryz.prog W= .ok (.tuple #[.string ⟨((kget x.k l).getD []).toArray⟩, .bool (kget x.k l).isSome]) W from fun W hW=>((h.fresh hf1).fresh hW).map.look2 hm)
 have KS:=zh (show∀W,Fresh W1 W->Calls Tryz.prog 57 #[kv, .string ⟨x.k.toArray⟩] W fun e w'=>e= .returned (.tuple #[.int .i64 (kpos x.k l:Nat), .bool (kget x.k l).isSome])/\Fresh W w' from fun W hW=>by
  refine(search_any ((h.fresh hf1).fresh hW).keys h.sort (by omega) x.k).mono ?_
  rintro e w' ⟨rfl,q,rfl⟩
  exact⟨rfl,(Touch.refl _ W).drewN q⟩)
 clear h hW1 hf1 hb1
 go_enter Tryz.func55,Tryz.ntmps55
 unfold opA
 go_upto_region 1 with fail
 rw[<- HW1.out]
 have e0:=fun r:FrOf W1=>(HC.out r.W r.h).1
 have e1:=fun r:FrOf W1=>(HC.out r.W r.h).2.1
 have e3:=fun r:FrOf W1=>(HC.out r.W r.h).2.2.2.1
 have el:=fun r:FrOf W1=>KL2.out r.W r.h
 refine wp_region_fresh (by kernel_rfl) (by kernel_rfl) ?_
 repeat (go_big_quiet_step (fail))
 refine wpQuiet_nil ?_
 rintro W2 ⟨p2,hW2⟩
 have HF2:=zh (show Fresh W1 W2 by rw[hW2];exact p2.h)
 clear hW2 p2 e0 e1 e3 el
 go_upto_region 2 with fail
 have e0:=fun r:FrOf W2=>(HC.out r.W (HF2.out.trans r.h fun _ _=>id)).1
 have e3:=fun r:FrOf W2=>(HC.out r.W (HF2.out.trans r.h fun _ _=>id)).2.2.2.1
 refine wp_region_fresh (by kernel_rfl) (by kernel_rfl) ?_
 repeat (go_big_quiet_step (first | (go_at_call 57;exact Calls.fr_of (KS.out _ (HF2.out.trans (FrOf.h _) fun _ _=>id)))))
 refine wpQuiet_nil ?_
 rintro W3 ⟨p3,hW3⟩
 have HF3:=zh (show Fresh W1 W3 by rw[hW3];exact HF2.out.trans p3.h fun _ _=>id)
 clear hW3 p3 e0 e3
 have hlt2:=kpos_le (k:=x.k) l
 have hstart:=zh (H.out.start.fresh (HF1.out.trans HF3.out fun _ _=>id))
 have hxk:IntKind.i64.wrap ((x.k.length:Int)+(x.v.length:Int))=(x.k.length:Int)+(x.v.length:Int):=IntWalk.i64_in _ (by omega)
 cases hg:kget x.k l with
 | some was=>
  have hsp:=ksize_split H.out.sort hg
  have hwas:x.k.length+was.length<=ksize l:=by omega
  have hw1:IntKind.i64.wrap ((x.k.length:Int)+(was.length:Int))=(x.k.length:Int)+(was.length:Int):=IntWalk.i64_in _ (by omega)
  have hw2:IntKind.i64.wrap ((ksize l:Int)-((x.k.length:Int)+(was.length:Int)))=(ksize l:Int)-((x.k.length:Int)+(was.length:Int)):=IntWalk.i64_in _ (by omega)
  obtain⟨s1,hs1⟩:∃s1:Int,s1=(ksize l:Int)-((x.k.length:Int)+(was.length:Int)):=⟨_,rfl⟩
  obtain⟨W4,hW4⟩:∃W4,W4=(W3.setCell ⟨b,o+2,none⟩ (.int .i64 s1)).drew:=⟨_,rfl⟩
  have HP4:=zh (show PStep w W4 b o t cs kv mb kv l.length (keysV l) l s1 (cs.setIfInBounds (o+2) (.int .i64 s1)) by rw[hW4];exact(hstart.out.setSize s1).fresh ((Touch.refl _ _).drew))
  have HC3:=HC.out W3 HF3.out
  have e2:W3.drew.cell? ⟨b,o+2,none⟩=some (.int .i64 (ksize l:Int)):=HC3.2.2.1
  have e3:W3.drew.cell? ⟨w.heap.size,0,none⟩=some (.string ⟨x.k.toArray⟩):=HC3.2.2.2.1
  have ef:W3.drew.frozen? ⟨b,o+2,none⟩=false:=hstart.out.blk.frozen _
  have HG:=zh hg
  have HB4:=zh (show Blk W4 w.heap.size 31 #[.string ⟨x.k.toArray⟩, .string ⟨x.v.toArray⟩, .bool x.g] by
   rw[hW4]
   exact((HB1.out.touch HF3.out id).far (p:=⟨b,o+2,none⟩) (by have:=(H.out.lt b (.inl rfl));show w.heap.size≠b;omega) _).touch (show Fresh _ _ from(Touch.refl _ _).drew) id)
  rw[hs1]at hW4
  have HW4:=zh hW4
  have HS1:=zh hs1
  have hpl:kpos x.k l<l.length:=(List.getElem?_eq_some_iff.1 ((kget_pos H.out.sort).1 hg)).1
  clear HC3 hg hs1 hW4 hsp
  simp only[Option.isSome_some,Option.getD_some]
  go_upto_region 4 with fail
  refine region_tail 13 (by kernel_rfl) (by kernel_rfl) rfl rfl ?_
  simp only[List.take_succ_cons,List.take_zero,List.drop_succ_cons,List.drop_zero]
  repeat (go_big_quiet_step (fail))
  refine wpQuiet_nil ?_
  go_upto_region 9 with fail
  rw[<- HW4.out]
  clear e2 e3 ef HW4 hw1 hw2
  have y0:W4.cell? ⟨w.heap.size,0,none⟩=some (.string ⟨x.k.toArray⟩):=HB4.out.cell 0
  have y2:W4.cell? ⟨w.heap.size,2,none⟩=some (.bool x.g):=HB4.out.cell 2
  obtain⟨gg,hgg⟩:∃gg,gg=x.g:=⟨_,rfl⟩
  rw[<- hgg]at y2
  have HGG:=zh hgg
  clear hgg
  cases gg with
  | true=>
   have y1:W4.cell? ⟨b,o,none⟩=some kv:=HP4.out.cells.1
   have hwk:IntKind.i64.wrap ((kpos x.k l:Int)+1)=(kpos x.k l:Int)+1:=IntWalk.i64_in _ (by omega)
   have KD:=zh (keydel_any HP4.out.keys hpl)
   go_upto_region 10 with fail
   go_wp2_with fail
   refine KD.out.mono ?_
   rintro e W5 ⟨B,c',rfl,ho5,ht5,hn5⟩
   obtain⟨W6,hW6⟩:∃W6,W6=W5.setCell ⟨b,o,none⟩ (.slice B (l.length-1) c'):=⟨_,rfl⟩
   have HP6:=zh (show PStep w W6 b o t cs kv mb (.slice B (l.length-1) c') (l.length-1) ((keysV l).take (kpos x.k l)++(keysV l).drop (kpos x.k l+1)) l s1 _ by rw[hW6];exact HP4.out.setKeys ht5 ho5 hn5)
   have z1:W5.frozen? ⟨b,o,none⟩=false:=(HP4.out.blk.touch ht5 HP4.out.ne.1).frozen _
   have z0:W5.cell? ⟨b,o,none⟩=some kv:=((HP4.out.blk.touch ht5 HP4.out.ne.1).cell o).trans HP4.out.c0
   have HB6:=zh (show Blk W6 w.heap.size 31 #[.string ⟨x.k.toArray⟩, .string ⟨x.v.toArray⟩, .bool x.g] by
    rw[hW6]
    exact(HB4.out.touch ht5 fun e=>by have:=H.out.keys.lt _ e;omega).far (p:=⟨b,o,none⟩) (by have:=(H.out.lt b (.inl rfl));show w.heap.size≠b;omega) _)
   have HW6:=zh hW6
   clear y0 y1 y2 KD ho5 ht5 hn5 hW6
   go_upto_region 11 with fail
   rw[<- HW6.out]
   clear z0 z1
   obtain⟨W7,hrun,hm7,htm7⟩:=(HP6.out.fresh ((Touch.refl _ W6).drew)).map.del HGG.out.symm H.out.sort hm 0
   have HP7:=zh ((HP6.out.fresh ((Touch.refl _ W6).drew)).setMap (mapTurned_touch htm7) hm7 (kput_sort H.out.sort))
   have u0:W6.drew.cell? ⟨b,o+1,none⟩=some (.map (some mb)):=HP6.out.cells.2.1
   have u1:W6.drew.cell? ⟨w.heap.size,0,none⟩=some (.string ⟨x.k.toArray⟩):=HB6.out.cell 0
   clear hm7 htm7 hm
   refine region_tail 6 (by kernel_rfl) (by kernel_rfl) rfl rfl ?_
   simp only[List.take_succ_cons,List.take_zero,List.drop_succ_cons,List.drop_zero]
   repeat (go_big_quiet_step (fail))
   refine wpQuiet_nil ?_
   go_wp2_with fail
   go_end0
   have hg:=HG.out
   obtain⟨k1,k2,k3⟩:=keysV_gone H.out.sort hg HGG.out.symm
   have k4:=ksize_old (o:=x) H.out.sort hg
   rw[if_pos HGG.out.symm]at k4
   have P:=HP7.out
   have hsz:s1=(ksize (kput x l):Int):=by have:=HS1.out;omega
   exact⟨rfl,_,_,⟨P.blk,P.c0,P.c1,by rw[<- hsz];exact P.c2,by rw[k1,k2];exact P.keys,P.map,P.sort,P.tne⟩,P.tch,P.new,P.size,P.far⟩
  | false=>
   have y1:W4.cell? ⟨w.heap.size,1,none⟩=some (.string ⟨x.v.toArray⟩):=HB4.out.cell 1
   obtain⟨W5,hrun,hm5,hg5⟩:=(HP4.out.fresh ((Touch.refl _ W4).drew)).map.put HGG.out.symm H.out.sort hm (by unfold maxLen;omega)
   have ht5:Touch (fun q=>q=mb) W4.drew W5:=⟨hg5.os,hg5.tape,hg5.output,hg5.size,fun q hq hn=>hg5.block q hq (fun e=>hn (by simpa using e))⟩
   have HP5:=zh ((HP4.out.fresh ((Touch.refl _ W4).drew)).setMap ht5 hm5 (kput_sort H.out.sort))
   have HB5:=zh (HB4.out.touch ((show Fresh W4 _ from(Touch.refl _ W4).drew)) id |>.touch ht5 (by have:=H.out.map.lt;omega))
   have u0:W4.drew.cell? ⟨b,o+1,none⟩=some (.map (some mb)):=HP4.out.cells.2.1
   have u1:W4.drew.cell? ⟨w.heap.size,0,none⟩=some (.string ⟨x.k.toArray⟩):=y0
   have u2:W4.drew.cell? ⟨w.heap.size,1,none⟩=some (.string ⟨x.v.toArray⟩):=y1
   clear hm5 hg5 ht5 hm
   go_upto_region 7 with fail
   refine region_tail 8 (by kernel_rfl) (by kernel_rfl) rfl rfl ?_
   simp only[List.take_succ_cons,List.take_zero,List.drop_succ_cons,List.drop_zero]
   repeat (go_big_quiet_step (fail))
   refine wpQuiet_nil ?_
   have hs1r:0<=s1/\s1<=1000000000:=by
    have h1:=HS1.out
    have h2:=ksize_split H.out.sort HG.out
    omega
   have v0:W5.drew.cell? ⟨b,o+2,none⟩=some (.int .i64 s1):=HP5.out.cells.2.2
   have v1:W5.drew.cell? ⟨w.heap.size,0,none⟩=some (.string ⟨x.k.toArray⟩):=HB5.out.cell 0
   have v2:W5.drew.cell? ⟨w.heap.size,1,none⟩=some (.string ⟨x.v.toArray⟩):=HB5.out.cell 1
   have vf:W5.drew.frozen? ⟨b,o+2,none⟩=false:=HP5.out.blk.frozen _
   have hw3:IntKind.i64.wrap (s1+((x.k.length:Int)+(x.v.length:Int)))=s1+((x.k.length:Int)+(x.v.length:Int)):=IntWalk.i64_in _ (by omega)
   have HP8:=zh ((HP5.out.setSize (s1+((x.k.length:Int)+(x.v.length:Int)))).fresh ((Touch.refl _ _).drew))
   go_upto_region 8 with fail
   clear u0 u1 u2 hrun
   refine region_tail 14 (by kernel_rfl) (by kernel_rfl) rfl rfl ?_
   simp only[List.take_succ_cons,List.take_zero,List.drop_succ_cons,List.drop_zero]
   repeat (go_big_quiet_step (fail))
   refine wpQuiet_nil ?_
   go_wp2_with fail
   go_end0
   have P:=HP8.out
   have hg:=HG.out
   obtain⟨k1,k2⟩:=keysV_set H.out.sort hg HGG.out.symm
   have k4:=ksize_old (o:=x) H.out.sort hg
   rw[if_neg (by rw[<- HGG.out];simp)]at k4
   have hsz:s1+((x.k.length:Int)+(x.v.length:Int))=(ksize (kput x l):Int):=by have:=HS1.out;omega
   exact⟨rfl,_,_,⟨P.blk,P.c0,P.c1,by rw[<- hsz];exact P.c2,by rw[k1,k2];exact P.keys,P.map,P.sort,P.tne⟩,P.tch,P.new,P.size,P.far⟩
 | none=>
  simp only[Option.isSome_none,Option.getD_none]
  have HG:=zh hg
  have HB3:=zh (HB1.out.touch HF3.out id)
  have y0:W3.cell? ⟨w.heap.size,0,none⟩=some (.string ⟨x.k.toArray⟩):=HB3.out.cell 0
  have y1:W3.cell? ⟨w.heap.size,1,none⟩=some (.string ⟨x.v.toArray⟩):=HB3.out.cell 1
  have y2:W3.cell? ⟨w.heap.size,2,none⟩=some (.bool x.g):=HB3.out.cell 2
  obtain⟨gg,hgg⟩:∃gg,gg=x.g:=⟨_,rfl⟩
  rw[<- hgg]at y2
  have HGG:=zh hgg
  clear hgg hg
  cases gg with
  | true=>
   go_wp2_with fail
   all_goals
    go_end0
    have hg:=HG.out
    have k0:kput x l=l:=by rw[kput_new H.out.sort hg,if_pos HGG.out.symm]
    have P:=hstart.out
    exact⟨rfl,_,_,⟨P.blk,P.c0,P.c1,by rw[k0];exact P.c2,by rw[k0];exact P.keys,by rw[k0];exact P.map,by rw[k0];exact P.sort,P.tne⟩,P.tch,P.new,P.size,P.far⟩
  | false=>
   have HC3:=zh (show∀W,Fresh W3 W->W.cell? ⟨b,o,none⟩=some kv/\W.cell? ⟨w.heap.size,0,none⟩=some (.string ⟨x.k.toArray⟩) from fun W hW=>⟨(HC.out W (HF3.out.trans hW fun _ _=>id)).1,hW.cell y0 id⟩)
   have KI:=zh (show∀W vb,Fresh W3 W->W3.heap.size<=vb->Blk W vb 9 #[.string ⟨x.k.toArray⟩]->Calls Tryz.prog 99 #[kv, .int .i64 (kpos x.k l:Nat), .slice (some ⟨vb,0,none⟩) 1 1] W (RowEnd W kv (l.length+1) ((keysV l).take (kpos x.k l)++ [.string ⟨x.k.toArray⟩]++(keysV l).drop (kpos x.k l))) from fun W vb hW hn hb=>
    insert_any (hstart.out.fresh hW).keys (by omega) hlt2 x.k hb (fun e=>by have h1:=H.out.keys.lt vb e;have h2:=(HF1.out.trans HF3.out fun _ _=>id).size;omega))
   go_upto_region 6 with fail
   go_cut [] from 44 to 55 (fun W=>∃B c',PStep w W b o t cs kv mb (.slice B (l.length+1) c') (l.length+1) ((keysV l).take (kpos x.k l)++ [.string ⟨x.k.toArray⟩]++(keysV l).drop (kpos x.k l)) l (ksize l:Int) (cs.setIfInBounds o (.slice B (l.length+1) c'))/\Blk W w.heap.size 31 #[.string ⟨x.k.toArray⟩, .string ⟨x.v.toArray⟩, .bool x.g])
   case first=>
    have q0:∀W,Fresh W3 W->W.cell? ⟨b,o,none⟩=some kv:=fun W hW=>(HC3.out W hW).1
    have q1:∀q,(W3.drewN q).cell? ⟨b,o,none⟩=some kv:=fun q=>q0 _ ((Touch.refl _ W3).drewN q)
    have q2:∀u,(W3.alloc u).cell? ⟨b,o,none⟩=some kv:=fun u=>q0 _ ((Touch.refl _ W3).alloc u)
    have q3:W3.cell? ⟨b,o,none⟩=some kv:=q0 _ (Touch.refl _ W3)
    have q4:∀u,(W3.alloc u).cell? ⟨w.heap.size,0,none⟩=some (.string ⟨x.k.toArray⟩):=fun u=>(HC3.out _ ((Touch.refl _ W3).alloc u)).2
    clear q0
    have P3:=zh (hstart.out.fresh (show Fresh W3 (W3.alloc (.cells #[.string ⟨x.k.toArray⟩] 9)).drew from((Touch.refl _ W3).alloc _).drew))
    have HB3a:=zh (HB3.out.touch (show Fresh W3 (W3.alloc (.cells #[.string ⟨x.k.toArray⟩] 9)).drew from((Touch.refl _ W3).alloc _).drew) id)
    have KI2:=zh (KI.out (W3.alloc (.cells #[.string ⟨x.k.toArray⟩] 9)).drew W3.heap.size (((Touch.refl _ W3).alloc _).drew) (Nat.le_refl _) (Blk.new W3 _ _))
    go_region_law (go_simp;go_at_call 99;refine KI2.out.mono ?_;rintro e W5 ⟨B,c',rfl,ho5,ht5,hn5⟩;have hbk:=P3.out.blk.touch ht5 P3.out.ne.1;have z0:W5.cell? ⟨b,o,none⟩=some kv:=(hbk.cell o).trans P3.out.c0;have z1:W5.frozen? ⟨b,o,none⟩=false:=hbk.frozen _;have HP5:=zh (P3.out.setKeys ht5 ho5 hn5);have HT5:=zh ht5;clear ho5 ht5 hn5 hbk)
    all_goals
     go_wp2_with fail
     go_meet
     case rel=>
      refine⟨B,c',HP5.out, ?_⟩
      exact(HB3a.out.touch HT5.out fun e=>by have h1:=H.out.keys.lt _ e;omega).far (p:=⟨b,o,none⟩) (by have:=(H.out.lt b (.inl rfl));show w.heap.size≠b;omega) _
   case rest=>
    obtain⟨B,c',hp4,hb4⟩:=hcut
    obtain⟨W4,hW4⟩:∃W4,W4=wc:=⟨_,rfl⟩
    rw[<- hW4]at hp4 hb4 ⊢
    clear hW4
    obtain⟨s1,hs1⟩:∃s1:Int,s1=(ksize l:Int):=⟨_,rfl⟩
    rw[<- hs1]at hp4
    have HS1:=zh hs1
    have HP4:=zh hp4
    have hs1r:0<=s1/\s1<=1000000000:=by omega
    obtain⟨W5,hrun,hm5,hg5⟩:=(hp4.fresh ((Touch.refl _ W4).drew)).map.put HGG.out.symm H.out.sort hm (by unfold maxLen;omega)
    have ht5:Touch (fun q=>q=mb) W4.drew W5:=⟨hg5.os,hg5.tape,hg5.output,hg5.size,fun q hq hn=>hg5.block q hq (fun e=>hn (by simpa using e))⟩
    have HP5:=zh ((hp4.fresh ((Touch.refl _ W4).drew)).setMap ht5 hm5 (kput_sort H.out.sort))
    have HB5:=zh (hb4.touch ((show Fresh W4 _ from(Touch.refl _ W4).drew)) id |>.touch ht5 (by have:=H.out.map.lt;omega))
    have u0:W4.drew.cell? ⟨b,o+1,none⟩=some (.map (some mb)):=hp4.cells.2.1
    have u1:W4.drew.cell? ⟨w.heap.size,0,none⟩=some (.string ⟨x.k.toArray⟩):=hb4.cell 0
    have u2:W4.drew.cell? ⟨w.heap.size,1,none⟩=some (.string ⟨x.v.toArray⟩):=hb4.cell 1
    clear hm5 hg5 ht5 hm hp4 hb4 hs1 y0 y1 y2
    go_upto_region 7 with fail
    refine region_tail 8 (by kernel_rfl) (by kernel_rfl) rfl rfl ?_
    simp only[List.take_succ_cons,List.take_zero,List.drop_succ_cons,List.drop_zero]
    repeat (go_big_quiet_step (fail))
    refine wpQuiet_nil ?_
    have v0:W5.drew.cell? ⟨b,o+2,none⟩=some (.int .i64 s1):=HP5.out.cells.2.2
    have v1:W5.drew.cell? ⟨w.heap.size,0,none⟩=some (.string ⟨x.k.toArray⟩):=HB5.out.cell 0
    have v2:W5.drew.cell? ⟨w.heap.size,1,none⟩=some (.string ⟨x.v.toArray⟩):=HB5.out.cell 1
    have vf:W5.drew.frozen? ⟨b,o+2,none⟩=false:=HP5.out.blk.frozen _
    have hw3:IntKind.i64.wrap (s1+((x.k.length:Int)+(x.v.length:Int)))=s1+((x.k.length:Int)+(x.v.length:Int)):=IntWalk.i64_in _ (by omega)
    have HP8:=zh ((HP5.out.setSize (s1+((x.k.length:Int)+(x.v.length:Int)))).fresh ((Touch.refl _ _).drew))
    go_upto_region 8 with fail
    clear u0 u1 u2 hrun
    refine region_tail 14 (by kernel_rfl) (by kernel_rfl) rfl rfl ?_
    simp only[List.take_succ_cons,List.take_zero,List.drop_succ_cons,List.drop_zero]
    repeat (go_big_quiet_step (fail))
    refine wpQuiet_nil ?_
    go_wp2_with fail
    go_end0
    have P:=HP8.out
    have hg:=HG.out
    obtain⟨k1,k2⟩:=keysV_new H.out.sort hg HGG.out.symm
    have k4:=ksize_new (o:=x) H.out.sort hg
    rw[if_neg (by rw[<- HGG.out];simp)]at k4
    have hsz:s1+((x.k.length:Int)+(x.v.length:Int))=(ksize (kput x l):Int):=by have:=HS1.out;omega
    exact⟨rfl,_,_,⟨P.blk,P.c0,P.c1,by rw[<- hsz];exact P.c2,by rw[k1,k2];exact P.keys,P.map,P.sort,P.tne⟩,P.tch,P.new,P.size,P.far⟩
end
theorem record_any(k:UInt8)(A:Option Addr)(n c:Nat)(xs:List UInt8)(w:World)(h:Bs w A n c xs)(hn:n<=100000000):
  Calls Tryz.prog 45 #[.int .u8 (k.toNat:Int), .slice A n c] w fun e w'=>Fresh w w'/\∃B c',e= .returned (.slice B (n+1) c')/\Row w' (.slice B (n+1) c') (k :: xs)/\∀q,(Value.slice B (n+1) c').ownBlock=some q->w.heap.size<=q:=by
 obtain⟨m,hm⟩:∃m:Int,m=(k.toNat:Int):=⟨_,rfl⟩
 rw[<- hm]
 have hxl:=h.1
 have hl:=zh (Row.lit1 w m k hm)
 have hb:=zh (h.fresh (show Fresh w (w.alloc (.cells #[.int .u8 m] 5)) from(Touch.refl _ w).alloc _))
 clear h
 have HM:=zh hm
 have HXL:=zh hxl
 clear hm
 go_enter Tryz.func45,Tryz.ntmps45
 go_wp2_with (at_builtin;refine wpList_row_bsX _ rfl _ _ 29 rfl Tryz.info5 Tryz.underlying29 (.slice (some ⟨w.heap.size,0,none⟩) 1 1) [k] rfl hl.out A n c xs rfl hb.out (by rw[hxl,List.length_singleton];omega) ?_;intro B c' w' h1 h2 h3;rw[HXL.out,List.length_singleton,Nat.add_comm]at h1 h3 ⊢;have H1:=zh h1;have H2:=zh h2;have H3:=zh h3;clear h1 h2 h3)
 go_ret
 have hg:Fresh w w':=((Touch.refl _ w).alloc _).grown H2.out fun q hq=> .inl (by simp[Value.ownBlock]at hq;omega)
 refine⟨hg,B,c',rfl,H1.out,fun q hq=> ?_⟩
 rcases H3.out with e | e
 ·rw[e]at hq
  simp[Value.ownBlock]at hq
  omega
 ·rw[hq]at e
  injection e with e
  rw[e,World.size_alloc]
  omega
theorem right_any(o:Dec.Op)(w:World):Calls Tryz.prog 41 #[opA o] w fun e w'=>e= .returned (.bool (rightB o))/\Fresh w w':=by
 obtain⟨W1,hW1⟩:∃W1,W1=w.alloc (.cells #[.string ⟨o.k.toArray⟩, .string ⟨o.v.toArray⟩, .bool o.g] 31):=⟨_,rfl⟩
 have hb1:Blk W1 w.heap.size 31 #[.string ⟨o.k.toArray⟩, .string ⟨o.v.toArray⟩, .bool o.g]:=by rw[hW1];exact Blk.new _ _ _
 have HF:=zh (show Fresh w W1 by rw[hW1];exact(Touch.refl _ w).alloc _)
 have y0:W1.cell? ⟨w.heap.size,0,none⟩=some (.string ⟨o.k.toArray⟩):=hb1.cell 0
 have y1:W1.cell? ⟨w.heap.size,1,none⟩=some (.string ⟨o.v.toArray⟩):=hb1.cell 1
 have y2:W1.cell? ⟨w.heap.size,2,none⟩=some (.bool o.g):=hb1.cell 2
 have n0:(⟨o.k.toArray⟩:ByteArray).toList=o.k:=by simp[ByteArray.toList_eq]
 have n1:(⟨o.v.toArray⟩:ByteArray).toList=o.v:=by simp[ByteArray.toList_eq]
 have HW1:=zh hW1
 clear hb1 hW1 n0 n1
 go_enter Tryz.func41,Tryz.ntmps41
 unfold opA
 go_upto_region 1 with fail
 rw[<- HW1.out]
 go_wp2_with fail
 all_goals
  go_ret
  refine⟨congrArg (fun b=>Ending.returned (Value.bool b)) ?_,HF.out⟩
  unfold rightB
  by_cases a1:o.k= []<;>by_cases a2:o.k.length<=200<;>by_cases a3:o.v.length<=65536<;>cases a4:o.g<;>simp_all<;>omega
def PutW(w:World)(b o:Nat)(t:TypeId)(cs:Array Value)(kv:Value)(mb:Nat)(l:KL)(w':World):Prop:=
 ∃cs' kv',CM w' b o t cs' kv' mb l/\Touch (fun k=>k=b\/cfoot kv mb k) w w'/\(∀k,kv'.ownBlock=some k->kv.ownBlock=some k\/w.heap.size<=k)/\cs'.size=cs.size/\∀j,(j<o\/o+2<j)->cs'[j]? =cs[j]?
section
variable {w w' w'':World}{b o:Nat}{t:TypeId}{cs:Array Value}{kv:Value}{mb:Nat}{l l':KL}
theorem CM.putw(h:CM w b o t cs kv mb l):PutW w b o t cs kv mb l w:=⟨cs,kv,h,Touch.refl _ _,fun _=> .inl,rfl,fun _ _=>rfl⟩
theorem PutW.then_{cs':Array Value}{kv':Value}(hs:w.heap.size<=w'.heap.size)(h2:Touch (fun k=>k=b\/cfoot kv mb k) w w')(h3:∀k,kv'.ownBlock=some k->kv.ownBlock=some k\/w.heap.size<=k)(h4:cs'.size=cs.size)
  (h5:∀j,(j<o\/o+2<j)->cs'[j]? =cs[j]?) (h:PutW w' b o t cs' kv' mb l' w''):PutW w b o t cs kv mb l' w'':=by
 obtain⟨cs2,kv2,g1,g2,g3,g4,g5⟩:=h
 refine⟨cs2,kv2,g1,h2.trans g2 fun k hk hx=> ?_,fun k hk=> ?_,g4.trans h4,fun j hj=>(g5 j hj).trans (h5 j hj)⟩
 ·rcases hx with e | e | e
  ·exact .inl e
  ·exact(h3 k e).elim (fun e=> .inr (.inl e)) fun e=>by omega
  ·exact .inr (.inr e)
 ·rcases g3 k hk with e | e
  ·exact h3 k e
  ·exact .inr (by omega)
theorem do_any{bs:Nat}(h:CM w bs 2 t cs kv mb l)(A:Option Addr)(n c:Nat)(ops:List Dec.Op)(hv:Vs w 3 A n c (opsV ops))(hA:∀a,A=some a->0<n->¬(a.block=bs\/cfoot kv mb a.block)/\a.block<w.heap.size)
  (hb:∀x∈ops,x.k.length<=1000000/\x.v.length<=1000000) (hl:l.length+ops.length<=400000000) (hz:ksize l+opsum ops<=1000000000):
  Calls Tryz.prog 46 #[.pointer (some ⟨bs,0,none⟩), .slice A n c] w fun e w'=>e= .returned (.tuple #[])/\PutW w bs 2 t cs kv mb (kdo l ops) w':=by
 have hln:ops.length=n:=by have:=hv.1;rw[opsV_length]at this;omega
 have hc2:=hv.2.2.1
 unfold maxLen at hc2
 have hnc:=hv.2.1
 have H:=zh h;have HV:=zh hv;have HA:=zh hA;have HB:=zh hb;have HLN:=zh hln
 have HL:=zh hl;have HZ:=zh hz
 have hn5:n<=400000000:=by omega
 clear h hv hA hb hln hl hz
 go_enter Tryz.func46,Tryz.ntmps46
 go_wp2_with fail
 go_loopw [8] (fun i wr=>∃j:Nat,j<=n/\i= .int .i64 (j:Int)/\PutW w bs 2 t cs kv mb (kdo l (ops.take j)) wr) (fun i _=>n-(intOf i).toNat)
 case atStart=>exact⟨0,Nat.zero_le _,rfl,by rw[List.take_zero];exact H.out.putw⟩
 case round=>
  obtain⟨j,hj,rfl,hp⟩:=hrel
  by_cases hlt:j<n
  ·obtain⟨x,hx⟩:∃x,ops[j]? =some x:=⟨_,List.getElem?_eq_getElem (by rw[HLN.out];exact hlt)⟩
   obtain⟨cs',kv',hcm,ht,hnk,hsz,hfar⟩:=hp
   obtain⟨b,off,rfl,_⟩:=HV.out.2.2.2 (by omega)
   have hvr:Vs wr 3 (some ⟨b,off,none⟩) n c (opsV ops):=HV.out.touch ht (by rintro a ha h0 hx;exact(HA.out a ha h0).1 hx)
   have k0:wr.cell? ⟨b,off+j*3,none⟩=some (.string ⟨x.k.toArray⟩):=hvr.cellAt (opsV_at hx 0 (by omega))
   have k1:wr.cell? ⟨b,off+j*3+1,none⟩=some (.string ⟨x.v.toArray⟩):=hvr.cellAt (opsV_at hx 1 (by omega))
   have k2:wr.cell? ⟨b,off+j*3+2,none⟩=some (.bool x.g):=hvr.cellAt (opsV_at hx 2 (by omega))
   have hts:ops.take (j+1)=ops.take j++ [x]:=by rw[List.take_add_one,hx];rfl
   have hxm:=HB.out x (List.mem_of_getElem? hx)
   obtain⟨W1,hW1⟩:∃W1,W1=wr.alloc (.cells #[.string ⟨x.k.toArray⟩, .string ⟨x.v.toArray⟩, .bool x.g] 31):=⟨_,rfl⟩
   have hf1:Fresh wr W1:=by rw[hW1];exact(Touch.refl _ wr).alloc _
   have hb1:Blk W1 wr.heap.size 31 #[.string ⟨x.k.toArray⟩, .string ⟨x.v.toArray⟩, .bool x.g]:=by rw[hW1];exact Blk.new _ _ _
   have hkd:=ksize_kdo (ops.take j) (l:=l) H.out.sort
   have hos:=opsum_take ops j
   have htl:(ops.take j).length=j:=by rw[List.length_take,HLN.out];omega
   have KP:=zh (show∀W,Fresh W1 W->Calls Tryz.prog 55 #[.pointer (some ⟨bs,2,none⟩),opA x] W fun e w'=>e= .returned (.tuple #[])/\PutW w bs 2 t cs kv mb (kdo l (ops.take (j+1))) w' from fun W hW=>by
    refine(kput_any ((hcm.fresh hf1).fresh hW) x hxm.1 hxm.2 (by have:=HL.out;have:=HLN.out;omega) (by have:=HZ.out;omega)).mono ?_
    rintro e w' ⟨rfl,hq⟩
    refine⟨rfl, ?_⟩
    rw[hts,kdo_snoc]
    have hf2:Fresh wr W:=hf1.trans hW fun _ _=>id
    exact PutW.then_ (Nat.le_trans ht.size hf2.size) (ht.trans hf2 fun _ _=>False.elim) hnk hsz hfar hq)
   have HW1:=zh hW1;have HB1:=zh hb1
   have hjd:decide ((j:Int)<(n:Int))=true:=decide_eq_true (by omega)
   have hji:(j:Int)<(n:Int):=by omega
   have hwk:IntKind.i64.wrap ((j:Int)+1)=(j:Int)+1:=IntWalk.i64_in _ (by omega)
   clear hcm ht hnk hsz hfar hvr hx hts hW1 hf1 hb1 hkd hos htl hxm
   unfold opA at KP
   go_upto_region 3 with fail
   rw[<- HW1.out]
   have y0:W1.drew.cell? ⟨wr.heap.size,0,none⟩=some (.string ⟨x.k.toArray⟩):=HB1.out.cell 0
   have y1:W1.drew.cell? ⟨wr.heap.size,1,none⟩=some (.string ⟨x.v.toArray⟩):=HB1.out.cell 1
   have y2:W1.drew.cell? ⟨wr.heap.size,2,none⟩=some (.bool x.g):=HB1.out.cell 2
   clear k0 k1 k2
   refine region_tail 4 (by kernel_rfl) (by kernel_rfl) rfl rfl ?_
   simp only[List.take_succ_cons,List.take_zero,List.drop_succ_cons,List.drop_zero]
   repeat (go_big_quiet_step (fail))
   refine wpQuiet_nil ?_
   go_wp2_with fail
   refine(KP.out _ ((Touch.refl _ W1).drew)).mono ?_
   rintro e W4 ⟨rfl,hp4⟩
   have HP4:=zh hp4
   clear hp4 KP y0 y1 y2
   go_wp2_with fail
   go_roundw
   case rel=>exact⟨j+1,by omega,by go_num,HP4.out⟩
   case measure=>simp[intOf]<;>omega
  ·obtain rfl:j=n:=by omega
   go_wp2_with fail
   go_end0
   refine⟨rfl, ?_⟩
   rw[List.take_of_length_le (by rw[HLN.out];exact Nat.le_refl _)]at hp
   exact hp
end
theorem bad1_any(o:Dec.Op)(w:World):Calls Tryz.prog 40 #[opA o] w fun e w'=>e= .returned (.bool (!rightB o))/\Fresh w w':=by
 obtain⟨W1,hW1⟩:∃W1,W1=w.alloc (.cells #[.string ⟨o.k.toArray⟩, .string ⟨o.v.toArray⟩, .bool o.g] 31):=⟨_,rfl⟩
 have hb1:Blk W1 w.heap.size 31 #[.string ⟨o.k.toArray⟩, .string ⟨o.v.toArray⟩, .bool o.g]:=by rw[hW1];exact Blk.new _ _ _
 have HF:=zh (show Fresh w W1 by rw[hW1];exact(Touch.refl _ w).alloc _)
 have y0:W1.cell? ⟨w.heap.size,0,none⟩=some (.string ⟨o.k.toArray⟩):=hb1.cell 0
 have y1:W1.cell? ⟨w.heap.size,1,none⟩=some (.string ⟨o.v.toArray⟩):=hb1.cell 1
 have y2:W1.cell? ⟨w.heap.size,2,none⟩=some (.bool o.g):=hb1.cell 2
 have HW1:=zh hW1
 have KR:=zh (right_any o W1)
 unfold opA at KR ⊢
 generalize rightB o=r at*
 clear hb1 hW1
 go_enter Tryz.func40,Tryz.ntmps40
 go_upto_region 1 with fail
 rw[<- HW1.out]
 go_wp2_with fail
 refine KR.out.mono ?_
 rintro e w2 ⟨rfl,hf2⟩
 have HF2:=zh hf2
 clear hf2 KR
 go_wp2_with fail
 go_ret
 exact⟨rfl,HF.out.trans HF2.out fun _ _=>id⟩
theorem indexbad_any(A:Option Addr)(n c:Nat)(ops:List Dec.Op)(w:World)(hv:Vs w 3 A n c (opsV ops)):
  Calls Tryz.prog 71 #[.slice A n c, .func (.func 40) #[] #[]] w fun e w'=>∃i:Int,e= .returned (.int .i64 i)/\(0<=i↔ops.all rightB=false)/\Fresh w w':=by
 have hln:ops.length=n:=by have:=hv.1;rw[opsV_length]at this;omega
 have hnc:=hv.2.1
 have hc2:=hv.2.2.1
 unfold maxLen at hc2
 have HV:=zh hv;have HLN:=zh hln
 clear hv hln
 go_enter Tryz.func71,Tryz.ntmps71
 go_wp2_with fail
 go_loopw [8] (fun i wr=>∃j:Nat,j<=n/\i= .int .i64 (j:Int)/\Fresh w wr/\(ops.take j).all rightB=true) (fun i _=>n-(intOf i).toNat)
 case atStart=>exact⟨0,Nat.zero_le _,rfl,Touch.refl _ _,by simp⟩
 case round=>
  obtain⟨j,hj,rfl,hf,hall⟩:=hrel
  have HF:=zh hf;have HALL:=zh hall
  clear hf hall
  by_cases hlt:j<n
  ·obtain⟨x,hx⟩:∃x,ops[j]? =some x:=⟨_,List.getElem?_eq_getElem (by rw[HLN.out];exact hlt)⟩
   obtain⟨b,off,rfl,_⟩:=HV.out.2.2.2 (by omega)
   have hvr:Vs wr 3 (some ⟨b,off,none⟩) n c (opsV ops):=HV.out.touch HF.out (fun _ _ _=>id)
   have k0:wr.cell? ⟨b,off+j*3,none⟩=some (.string ⟨x.k.toArray⟩):=hvr.cellAt (opsV_at hx 0 (by omega))
   have k1:wr.cell? ⟨b,off+j*3+1,none⟩=some (.string ⟨x.v.toArray⟩):=hvr.cellAt (opsV_at hx 1 (by omega))
   have k2:wr.cell? ⟨b,off+j*3+2,none⟩=some (.bool x.g):=hvr.cellAt (opsV_at hx 2 (by omega))
   have hjd:decide ((j:Int)<(n:Int))=true:=decide_eq_true (by omega)
   have hji:(j:Int)<(n:Int):=by omega
   have hwk:IntKind.i64.wrap ((j:Int)+1)=(j:Int)+1:=IntWalk.i64_in _ (by omega)
   have KB:=zh (bad1_any x wr)
   unfold opA at KB
   have HTS:=zh (show ops.take (j+1)=ops.take j++ [x] by rw[List.take_add_one,hx];rfl)
   have HX:=zh hx
   obtain⟨r,hr⟩:∃r,r=rightB x:=⟨_,rfl⟩
   rw[<- hr]at KB
   have HR:=zh hr
   clear hvr hx hr
   cases r with
   | true=>
    go_wp2_with fail
    refine KB.out.mono ?_
    rintro e w2 ⟨rfl,hf2⟩
    have HF2:=zh hf2
    clear hf2 KB
    go_wp2_with fail
    go_roundw
    case rel=>exact⟨j+1,by omega,by go_num,HF.out.trans HF2.out fun _ _=>id,by rw[HTS.out,List.all_append,HALL.out];simp[<- HR.out]⟩
    case measure=>simp[intOf]<;>omega
   | false=>
    go_wp2_with fail
    refine KB.out.mono ?_
    rintro e w2 ⟨rfl,hf2⟩
    have HF2:=zh hf2
    clear hf2 KB
    go_wp2_with fail
    go_ret
    refine⟨j,rfl,⟨fun _=> ?_,fun _=>by omega⟩,HF.out.trans HF2.out fun _ _=>id⟩
    rw[List.all_eq_false]
    exact⟨x,List.mem_of_getElem? HX.out,by rw[<- HR.out];simp⟩
  ·obtain rfl:j=n:=by omega
   go_wp2_with fail
   go_ret
   refine⟨-1,rfl,⟨fun h=>by omega,fun h=> ?_⟩,HF.out⟩
   have:=HALL.out
   rw[List.take_of_length_le (by rw[HLN.out];exact Nat.le_refl _),h]at this
   cases this
theorem anybad_any(A:Option Addr)(n c:Nat)(ops:List Dec.Op)(w:World)(hv:Vs w 3 A n c (opsV ops)):
  Calls Tryz.prog 39 #[.slice A n c, .func (.func 40) #[] #[]] w fun e w'=>e= .returned (.bool (!ops.all rightB))/\Fresh w w':=by
 have KI:=zh (indexbad_any A n c ops w hv)
 clear hv
 go_enter Tryz.func39,Tryz.ntmps39
 go_wp2_with fail
 refine KI.out.mono ?_
 rintro e w2 ⟨i,rfl,hi,hf2⟩
 have HF2:=zh hf2
 have hd:decide (0<=i)= !ops.all rightB:=by
  cases hh:ops.all rightB with
  | true=>exact decide_eq_false fun h=>by have:=hi.1 h;rw[hh]at this;cases this
  | false=>exact decide_eq_true (hi.2 hh)
 have HD:=zh hd
 clear hf2 KI hi hd
 go_wp2_with fail
 go_ret
 exact⟨by show Ending.returned (Value.bool (decide (0<=i)))= _;rw[HD.out],HF2.out⟩
theorem long_any(A:Option Addr)(n c:Nat)(l:List Dec.Op)(w:World)(hv:Vs w 3 A n c (opsV l))(hA:∀a,A=some a->0<n->a.block<w.heap.size)(hn:n<=1048576)(hs:∀o∈l,o.k.length<=maxLen/\o.v.length<=maxLen):
  Calls Tryz.prog 42 #[.slice A n c] w fun e w'=>e= .returned (.bool (longB l))/\Fresh w w':=by
 have KO:=zh (cops_any A n c l w hv hA hn hs)
 clear hv hA hs
 obtain⟨r,hr⟩:∃r,r=longB l:=⟨_,rfl⟩
 rw[<- hr]
 have HR:=zh hr
 clear hr
 go_enter Tryz.func42,Tryz.ntmps42
 go_wp2_with fail
 refine KO.out.mono ?_
 intro e w2 hend
 cases he:Enc.ops l with
 | none=>
  rw[he]at hend
  obtain⟨rfl,hf2⟩:=hend
  have HF2:=zh hf2;have HEO:=zh he
  clear hf2 KO he
  go_wp2_with fail
  go_ret
  exact⟨by show Ending.returned (Value.bool true)= _;rw[HR.out];unfold longB;rw[HEO.out],HF2.out⟩
 | some ys=>
  rw[he]at hend
  obtain⟨B,c',rfl,_,_,hf2⟩:=hend
  have HF2:=zh hf2;have HEO:=zh he
  clear hf2 KO he
  have HB:=zh (show decide ((1048512:Int)<(ys.length:Int))=r by
   rw[HR.out]
   unfold longB
   rw[HEO.out]
   exact decide_eq_decide.2 (by omega))
  go_wp2_with fail
  go_ret
  exact⟨by show Ending.returned (Value.bool (decide ((1048512:Int)<(ys.length:Int))))= _;rw[HB.out],HF2.out⟩
end Go.Proofs.YtjehlgblkfofpaaGreat