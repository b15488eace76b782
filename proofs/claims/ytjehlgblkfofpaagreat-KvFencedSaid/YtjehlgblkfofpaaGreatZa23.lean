/- The claims' texts, several in one: Cuw, Rep. Conditions stand with each theorem. -/
import Derived.Test.YtjehlgblkfofpaaGreatZa20
import Derived.Test.YtjehlgblkfofpaaGreatZa22
import Derived.Deep.CutRange
import Derived.Test.YtjehlgblkfofpaaGreatZa15
import Derived.Deep.RegionHeld3
import Derived.Deep.RegionLaw
set_option maxHeartbeats 16000000
set_option maxRecDepth 200000
namespace Go.Proofs.YtjehlgblkfofpaaGreat
open Go.RowKit
attribute [local go_sem] Oper.semAt_some
theorem framesTo_cut{c:Ct}{b:Nat}(h:c.first<b):framesTo c.first b c.rows c.rows.length=encs (c.cut b).puts:=by
 unfold framesTo Ct.puts Ct.cut
 rw[if_pos h,List.take_length,Nat.max_eq_right (Nat.le_of_lt h)]
def cutWM(d:Dk)(l:Lg)(b:Nat):Dk×Lg×Int:=
 if 2*(encs (l.c.cut b).puts).length+4096<sizes l.segs then ((beginP d l true b b (encs (l.c.cut b).puts)).1,begL d l true b b (encs (l.c.cut b).puts),(beginP d l true b b (encs (l.c.cut b).puts)).2.2) else writeP d l (It.cut b).enc
def cutM(d:Dk)(l:Lg)(before:Int):Dk×Lg×Int:=
 if min before l.c.next<=l.c.first then (d,{ l with failed:=false },0)
 else if (cutWM d l (min before l.c.next).toNat).2.2≠0 then cutWM d l (min before l.c.next).toNat
 else ((tidyP (min before l.c.next).toNat (cutWM d l (min before l.c.next).toNat).1 (cutWM d l (min before l.c.next).toNat).2.1.segs).1,
  { (cutWM d l (min before l.c.next).toNat).2.1 with c:=l.c.cut (min before l.c.next).toNat,segs:=(tidyP (min before l.c.next).toNat (cutWM d l (min before l.c.next).toNat).1 (cutWM d l (min before l.c.next).toNat).2.1.segs).2 },0)
section
variable {w w':World}{bl bd:Nat}{R S R' S':Nat->Prop}{l l':Lg}{sv rv sv' rv':Value}{vs vs':List Value}{d d':Dk}{K:Nat}
theorem BegB.with{f n m f' n' m':Nat}(h:BegB l d K f n m)(h1:f'<=1000000000)(h2:n'<=1000000000)(h3:m'<=300000000):BegB l d K f' n' m':=⟨h.sm,h.K,h.n,h.base,h.seg,h1,h2,h.lnext,h3⟩
theorem begL_c(d:Dk)(l:Lg)(whole:Bool)(first next:Nat)(xs:List UInt8):(begL d l whole first next xs).c=l.c:=by
 unfold begL
 split<;>rfl
theorem cutWM_d(d:Dk)(l:Lg)(b:Nat):(cutWM d l b).1=(cutW d l b).1:=by
 unfold cutWM cutW
 split<;>rfl
theorem cutWM_c(d:Dk)(l:Lg)(b:Nat):(cutWM d l b).2.1.c=l.c:=by
 unfold cutWM
 split
 ·exact begL_c _ _ _ _ _ _
 ·exact write_c _ _ _
theorem cutWM_segs{b:Nat}(h:(cutWM d l b).2.2=0):(cutWM d l b).2.1.segs.length<=l.segs.length+1/\∀t∈(cutWM d l b).2.1.segs,(∃s'∈l.segs,t.file=s'.file)\/t.file=freeP (usedN d.fs l.base l.segs) l.base:=by
 unfold cutWM at h ⊢
 split at h
 ·rename_i hc
  rw[if_pos hc]
  obtain⟨s0,s,h1,h2,h3⟩:=begin_segs h
  dsimp only
  rw[h1,h2,if_pos rfl]
  refine⟨by simp,fun t ht=> ?_⟩
  rcases List.mem_append.1 ht with ht | ht
  ·obtain⟨y,hy,hye⟩:=List.mem_map.1 ht
   exact .inl ⟨y,hy,by rw[<- hye]⟩
  ·rw[List.mem_singleton]at ht
   exact .inr (by rw[ht];exact h3)
 ·rename_i hc
  rw[if_neg hc]
  obtain⟨s0,s,h1,h2,h3⟩:=write_segs h
  rw[h1]
  exact⟨h2,h3⟩
theorem LX.cutX{m:Nat}{rv2:Value}{vs2:List Value}{w'':World}(h:LX w w' bl bd S R sv rv l' d' S' R' sv' rv' vs')(ht:Touch (·=bl) w' w'')(hm:LM w'' bl bd R' { l' with c:=l'.c.cut m } sv' rv2 vs2)(ho:∀k,rv2.ownBlock=some k->rv'.ownBlock=some k):
  LX w w'' bl bd S R sv rv { l' with c:=l'.c.cut m } d' S' R' sv' rv2 vs2:=
 h.own (ht.mono fun k _ hk=> .inl hk) hm (fun k hk=>by
  rcases hk with hk | hk | hk
  ·exact .inl (.inl hk)
  ·exact .inl (.inr (.inl hk))
  ·exact .inl (.inr (.inr (ho k hk)))) fun k hk=> .inl hk
theorem sizes_le:∀(l:List Seg) (n:Nat),l.length<=n->(∀s∈l,s.size<=1000000000)->sizes l<=n*1000000000
 | [],n,_,_=>by simp[sizes]
 | a :: l,0,h,_=>by simp at h
 | a :: l,n+1,h,hs=>by
  have ih:=sizes_le l n (by simpa using h) fun s h=>hs s (List.mem_cons_of_mem _ h)
  have h0:=hs a (List.mem_cons_self ..)
  show a.size+sizes l<= _
  omega
def CutWEnd(w:World)(bl bd:Nat)(R S:Nat->Prop)(l:Lg)(sv rv:Value)(d:Dk)(before:Int)(e:Ending)(w':World):Prop:=
 e= .returned (.int .i64 (cutM d l before).2.2)/\LB w w' bl bd S R sv rv (cutM d l before).2.1 (cutM d l before).1
theorem lcutw_any(h:LD w bl bd S R l d sv rv vs)(before:Int)(hb:BegB l d K 0 0 0)(hn:l.segs.length<1024)(hrl:∀b∈l.c.rows,b.length<=100000000)(hsz:l.c.size<=100000000):
  Calls Tryz.prog 107 #[.pointer (some ⟨bl,0,none⟩), .int .i64 before] w (CutWEnd w bl bd R S l sv rv d before):=by
 have hnx:l.c.next<=1000000000:=hb.lnext
 have KN:=zh (next_any h.lm hnx)
 have c3:∀q,(w.drewN q).cell? ⟨bl,3,none⟩=some (.int .i64 (l.c.first:Int)):=fun q=>h.lm.blk.cell 3
 by_cases hle:min before (l.c.next:Int)<=(l.c.first:Int)
 ·have f5:∀q,(w.drewN q).frozen? ⟨bl,5,none⟩=false:=fun q=>h.lm.blk.frozen 5
  have e5:∀q,(w.drewN q).cell? ⟨bl,5,none⟩=some (.bool l.failed):=fun q=>h.lm.blk.cell 5
  have H:=zh h
  have HLE:=zh hle
  have hle2:decide (min before (l.c.next:Int)<=(l.c.first:Int))=true:=by simpa using hle
  clear h
  go_enter Tryz.func107,Tryz.ntmps107
  go_wp2_with fail
  refine KN.out.mono ?_
  rintro e w2 ⟨rfl,q,rfl⟩
  go_wp2_with fail
  go_ret
  have hc:cutM d l before=(d,{ l with failed:=false },0):=by unfold cutM;rw[if_pos HLE.out]
  unfold CutWEnd
  rw[hc]
  refine⟨rfl,_,_,_,_,_,(H.out.same.fresh ((Touch.refl _ w).drewN q)).block ((Touch.refl (·=bl) (w.drewN q)).setCell (p:=⟨bl,5,none⟩) (.inr rfl) _) rfl rfl ?_⟩
  have:=(H.out.lm.blk.drewN q).set_ 5 (.bool false)
  simpa using this
 ·obtain⟨b,hbb⟩:∃b:Nat,min before (l.c.next:Int)=(b:Int):=⟨(min before (l.c.next:Int)).toNat,by omega⟩
  have hfb:l.c.first<b:=by omega
  have hbn:b<=l.c.next:=by omega
  have hle3:¬(b:Int)<=(l.c.first:Int):=by omega
  have hle4:decide ((b:Int)<=(l.c.first:Int))=false:=by simpa using hle3
  have H:=zh h;have HB:=zh hb;have HRL:=zh hrl;have HSZ:=zh hsz;have HFB:=zh hfb;have HBN:=zh hbn
  have HCM:=zh (show cutM d l before=if (cutWM d l b).2.2≠0 then cutWM d l b else ((tidyP b (cutWM d l b).1 (cutWM d l b).2.1.segs).1,{ (cutWM d l b).2.1 with c:=l.c.cut b,segs:=(tidyP b (cutWM d l b).1 (cutWM d l b).2.1.segs).2 },0) by
   unfold cutM
   rw[if_neg hle,hbb]
   rfl)
  obtain⟨sA,sc,hsv,hsn,hsm,hsA⟩:=h.lm.segs.form
  have c2:∀q,(w.drewN q).cell? ⟨bl,2,none⟩=some (.slice sA l.segs.length sc):=fun q=>by rw[<- hsv];exact h.lm.blk.cell 2
  have HSV:=zh hsv
  have hnb:l.segs.length<=1024:=by omega
  clear h hrl hsz hle hsv
  go_enter Tryz.func107,Tryz.ntmps107
  go_wp2_with fail
  refine KN.out.mono ?_
  rintro e w2 ⟨rfl,q,rfl⟩
  clear KN
  go_wp2_with fail
  go_loopw [6,28] (fun z i wr=>∃k:Nat,k<=l.segs.length/\i= .int .i64 k/\z= .int .i64 (sizes (l.segs.take k):Nat)/\Fresh w wr) (fun _ i _=>l.segs.length-(intOf i).toNat)
  case atStart=>exact⟨0,Nat.zero_le _,rfl,rfl,(Touch.refl _ w).drewN q⟩
  case round=>
   obtain⟨k,hk,rfl,rfl,hf⟩:=hrel
   have HF:=zh hf
   by_cases hlt:k<l.segs.length
   ·obtain⟨s,hsk⟩:∃s,l.segs[k]? =some s:=⟨_,List.getElem?_eq_getElem hlt⟩
    obtain⟨g,o,rfl⟩:∃g o,sA=some ⟨g,o*8,none⟩:=by
     rcases hsA with⟨_,h2,_⟩ | ⟨g,o,e⟩
     ·omega
     ·exact⟨g,_,e⟩
    have hsg:=(H.out.lm.segs.fresh hf)
    rw[HSV.out]at hsg
    have cg:∀j,j<8->wr.cell? ⟨g,o*8+(k*8+j),none⟩=(segC s)[j]? :=fun j hj=>by
     rw[hsg.cell (j:=k*8+j) (by omega),segsC_get _ _ hsk hj]
    have g0:wr.cell? ⟨g,o*8+k*8,none⟩=some (.int .i64 (s.number:Int)):=cg 0 (by omega)
    have g1:wr.cell? ⟨g,o*8+k*8+1,none⟩=some (.int .i64 (s.ahead:Int)):=cg 1 (by omega)
    have g2:wr.cell? ⟨g,o*8+k*8+2,none⟩=some (.int .i64 (s.first:Int)):=cg 2 (by omega)
    have g3:wr.cell? ⟨g,o*8+k*8+3,none⟩=some (.int .i64 (s.next:Int)):=cg 3 (by omega)
    have g4:wr.cell? ⟨g,o*8+k*8+4,none⟩=some (.bool s.whole):=cg 4 (by omega)
    have g5:wr.cell? ⟨g,o*8+k*8+5,none⟩=some (.int .i64 (s.file:Int)):=cg 5 (by omega)
    have g6:wr.cell? ⟨g,o*8+k*8+6,none⟩=some (.int .i64 (s.size:Int)):=cg 6 (by omega)
    have g7:wr.cell? ⟨g,o*8+k*8+7,none⟩=some (.int .i64 (s.last:Int)):=cg 7 (by omega)
    have hsum:sizes (l.segs.take (k+1))=sizes (l.segs.take k)+s.size:=by
     unfold sizes
     rw[List.take_add_one,hsk,List.map_append,List.sum_append]
     simp
    have hsb:=(HB.out.seg s (List.mem_of_getElem? hsk)).2.2
    have hsle:sizes (l.segs.take k)<=1024*1000000000:=sizes_le (l.segs.take k) 1024 (by rw[List.length_take];omega) fun x hx=>(HB.out.seg x (List.mem_of_mem_take hx)).2.2
    have hwz:IntKind.i64.wrap ((sizes (l.segs.take k):Int)+(s.size:Int))=(sizes (l.segs.take k):Int)+(s.size:Int):=IntWalk.i64_in _ (by omega)
    have HSUM:=zh (show ((sizes (l.segs.take (k+1)):Nat):Int)=(sizes (l.segs.take k):Int)+(s.size:Int) by rw[hsum];omega)
    clear hf hsg cg hsum hsk hsA
    generalize sizes (l.segs.take k)=zk at*
    go_wp2_with fail
    go_roundw
    case rel=>exact⟨k+1,by omega,by go_num,by rw[HSUM.out],HF.out.alloc _⟩
    case measure=>simp[intOf]<;>omega
   ·obtain rfl:k=l.segs.length:=by omega
    rw[List.take_length]
    obtain⟨xs,hxs⟩:∃xs,xs=encs (l.c.cut b).puts:=⟨_,rfl⟩
    obtain⟨ll,hll⟩:∃ll,ll=xs.length:=⟨_,rfl⟩
    have hfr:framesTo l.c.first b l.c.rows l.c.rows.length=xs:=by rw[hxs];exact framesTo_cut hfb
    have hlle:ll<=100000000:=by
     have h1:=framesTo_le l.c.first b l.c.rows l.c.rows.length
     rw[hfr]at h1
     have h2:=HSZ.out
     unfold Ct.size Ct.puts at h2
     omega
    have KFR:=zh (show Calls Tryz.prog 113 #[.pointer (some ⟨bl,0,none⟩), .int .i64 (b:Int)] wr fun e w'=>Fresh w w'/\∃A c,e= .returned (.slice A ll c)/\Bs w' A ll c xs/\∀a,A=some a->0<ll->w.heap.size<=a.block/\a.block<w'.heap.size from by
     refine(lframes_any (H.out.lm.fresh hf) hnx HRL.out (by have:=HSZ.out;omega) (fun k hk=>Nat.lt_of_lt_of_le (H.out.Rlt k hk) hf.size) (from_:=b) (by omega)).mono ?_
     rintro e w' ⟨hf',v,rfl,ho,hn⟩
     rw[hfr,<- hll]at ho
     obtain⟨A,c,rfl,_,_,hA⟩:=ho.form
     refine⟨hf.trans hf' fun _ _=>id,A,c,rfl,Own.bs ho,fun a ha h0=> ?_⟩
     rcases hA with⟨_,h2,_⟩ | ⟨g,e⟩
     ·omega
     ·rw[ha]at e
      injection e with e
      rw[e]
      subst e
      have h1:=hn g (by rw[ha];rfl)
      have h2:=ho.lt g (by rw[ha];rfl)
      have h3:=hf.size
      exact⟨by show w.heap.size<=g;omega,h2⟩)
    obtain⟨sz,hsz⟩:∃sz,sz=sizes l.segs:=⟨_,rfl⟩
    rw[<- hsz]
    have hszl:sz<=1024*1000000000:=by rw[hsz];exact sizes_le l.segs 1024 (by omega) fun x hx=>(HB.out.seg x hx).2.2
    have hw1:IntKind.i64.wrap (2*(ll:Int))=2*(ll:Int):=IntWalk.i64_in _ (by omega)
    have hw2:IntKind.i64.wrap (2*(ll:Int)+4096)=2*(ll:Int)+4096:=IntWalk.i64_in _ (by omega)
    obtain⟨d4,hd4⟩:∃d4,d4=(cutWM d l b).1:=⟨_,rfl⟩
    obtain⟨l4,hl4⟩:∃l4,l4=(cutWM d l b).2.1:=⟨_,rfl⟩
    obtain⟨why,hwhy⟩:∃why,why=(cutWM d l b).2.2:=⟨_,rfl⟩
    have HD4:=zh hd4;have HL4:=zh hl4;have HWHY:=zh hwhy;have HXS:=zh hxs;have HLL:=zh hll;have HSZ2:=zh hsz
    have HCW:=zh (show cutWM d l b=if 2*ll+4096<sz then ((beginP d l true b b xs).1,begL d l true b b xs,(beginP d l true b b xs).2.2) else writeP d l (It.cut b).enc by
     rw[hll,hxs,hsz]
     rfl)
    clear hf hd4 hl4 hwhy hxs hll hsz hfr hsA
    go_upto_if 45 with(go_at_call 113;refine KFR.out.mono ?_;rintro e w5 ⟨hf5,A,cA,rfl,hbs5,hbn5⟩;have HF5:=zh hf5;have HBS5:=zh hbs5;have HBN5:=zh hbn5;clear hf5 hbs5 hbn5 KFR)
    go_cut [5] from 45 to 56 (fun y w6=>y= .int .i64 why/\LB w w6 bl bd S R sv rv l4 d4)
    case first=>
     by_cases hbig:2*ll+4096<sz
     ·have hb1:decide (2*(ll:Int)+4096<(sz:Int))=true:=by simp;omega
      have hb2:2*(ll:Int)+4096<(sz:Int):=by omega
      have hcw:=HCW.out
      rw[if_pos hbig]at hcw
      have HCW2:=zh hcw
      have KB:=zh (show Calls Tryz.prog 112 #[.pointer (some ⟨bl,0,none⟩), .int .u8 119, .agg #[.int .i64 0, .int .i64 0, .int .i64 (b:Int), .int .i64 (b:Int)], .slice A ll cA] w5 fun e w'=>e= .returned (.int .i64 why)/\LB w w' bl bd S R sv rv l4 d4 from by
       refine(lbegin_any (H.out.fresh HF5.out) true b b HBS5.out (fun a ha h0=>⟨fun hf=>by have h1:=H.out.lm.lt _ hf;have h2:=(HBN5.out a ha h0).1;omega,fun hs=>by have h1:=H.out.dk.below _ hs;have h2:=(HBN5.out a ha h0).1;omega,(HBN5.out a ha h0).2⟩) (HB.out.with (by omega) (by omega) (by omega))).mono ?_
       rintro e w' ⟨rfl,hlb⟩
       refine⟨by rw[HWHY.out,hcw], ?_⟩
       rw[HL4.out,HD4.out,hcw]
       exact(H.out.same.fresh HF5.out).lb hlb)
      clear hbig hcw
      go_wp2_with fail
      refine KB.out.mono ?_
      rintro e w6 ⟨rfl,hlb⟩
      have HLB:=zh hlb
      clear hlb KB
      go_wp2_with fail
      go_meet
      case rel=>exact⟨rfl,HLB.out⟩
     ·have hb1:decide (2*(ll:Int)+4096<(sz:Int))=false:=by simp;omega
      have hb2:¬ 2*(ll:Int)+4096<(sz:Int):=by omega
      have hcw:=HCW.out
      rw[if_neg hbig]at hcw
      have hel:(It.cut b).enc.length=17:=by
       show (metaF 99 [b]).length=17
       rw[metaF_len]
       rfl
      have KM:=zh (show Calls Tryz.prog 114 #[.int .u8 99, .slice (some ⟨w5.heap.size,0,none⟩) 1 1] (w5.alloc (.cells #[.int .i64 (b:Int)] 3)) fun e w'=>∃g c,e= .returned (.slice (some ⟨g,0,none⟩) 17 c)/\Calls Tryz.prog 77 #[.pointer (some ⟨bl,0,none⟩), .slice (some ⟨g,0,none⟩) 17 c] w' fun e w'=>e= .returned (.int .i64 why)/\LB w w' bl bd S R sv rv l4 d4 from by
       refine(meta_any 99 _ 1 [b] _ (int1_new w5 b) (by simp) (by simpa using (by omega:b<9223372036854775808))).mono ?_
       rintro e w6 ⟨hf6,g,c,rfl,hg,hfb⟩
       have hl:(metaF 99 [b]).length=17:=hel
       have hbs:=hfb.bs
       rw[hl]at hbs ⊢
       refine⟨g,c,rfl, ?_⟩
       have hfw:Fresh w w6:=(HF5.out.alloc _).trans hf6 fun _ _=>id
       have hg2:w.heap.size<=g:=by rw[World.size_alloc]at hg;have:=HF5.out.size;omega
       refine(lwrite_any (H.out.fresh hfw) hbs (fun a ha h0=>by
        injection ha with ha
        subst ha
        refine⟨fun hf=>by have h1:=H.out.lm.lt _ hf;have h2:g<w.heap.size:=h1;omega,fun hs=>by have h1:=H.out.dk.below _ hs;have h2:g<w.heap.size:=h1;omega, ?_⟩
        obtain⟨b',o',e,hc⟩:=hbs.2.2.2 h0
        injection e with e
        injection e with e _
        subst e
        have hc0:=World.block_lt_of_cell? _ _ (hc 0 _ (List.getElem?_eq_getElem (show 0<(metaF 99 [b]).length by omega)))
        exact hc0) (HB.out.with (by unfold Ct.next at hnx;omega) hnx (by omega)) (by omega)).mono ?_
       rintro e w' ⟨rfl,hlb⟩
       have henc:metaF 99 [b]=(It.cut b).enc:=rfl
       rw[henc]at hlb ⊢
       refine⟨by rw[HWHY.out,hcw], ?_⟩
       rw[HL4.out,HD4.out,hcw]
       exact(H.out.same.fresh hfw).lb hlb)
      clear hbig hcw hel
      go_wp2_with fail
      refine KM.out.mono ?_
      rintro e w6 ⟨g6,c6,rfl,hkw⟩
      have KW:=zh hkw
      clear hkw KM
      go_wp2_with fail
      refine KW.out.mono ?_
      rintro e w7 ⟨rfl,hlb⟩
      have HLB:=zh hlb
      clear hlb KW
      go_wp2_with fail
      go_meet
      case rel=>exact⟨rfl,HLB.out⟩
    case rest=>
     obtain⟨rfl,hlb⟩:=hcut
     have HLB:=zh hlb
     clear hlb
     by_cases hw:why=0
     ·have hwy:=HWHY.out
      rw[hw]at hwy
      obtain⟨hsl,hsf⟩:=cutWM_segs hwy.symm
      rw[<- HL4.out]at hsl hsf
      have hc4:l4.c=l.c:=by rw[HL4.out];exact cutWM_c _ _ _
      obtain⟨S4,R4,sv4,rv4,vs4,hX4⟩:=HLB.out
      have KC:=zh (lcut_any hX4.ld.lm (hX4.ld.nR bl (.inl rfl)) (by rw[hc4];exact hnx) (m:=b) (by omega))
      have HX4:=zh hX4;have HC4:=zh hc4;have HSL:=zh hsl;have HSF:=zh hsf;have HW:=zh hw
      have hcm:=HCM.out
      rw[if_neg (by rw[<- HWHY.out,hw];simp),<- HD4.out,<- HL4.out]at hcm
      have HCM2:=zh hcm
      subst hw
      clear hX4 hc4 hsl hsf hcm hwy HCM
      go_wp2_with fail
      refine KC.out.mono ?_
      rintro e w7 ⟨rfl,ht7,rv7,vs7,hm7,ho7⟩
      have HX7:=zh (HX4.out.cutX ht7 hm7 ho7)
      clear ht7 hm7 ho7 KC
      have hcf:(l4.c.cut b).first=b:=by
       rw[HC4.out]
       unfold Ct.cut
       rw[if_pos HFB.out]
      have hus:=(cutW_use d l b).1
      rw[<- cutWM_d,<- HD4.out]at hus
      have hfree:freeP (usedN d.fs l.base l.segs) l.base<=200000000:=by
       have h1:=(freeP_spec (usedN d.fs l.base l.segs) l.base).2.1
       have h2:(usedN d.fs l.base l.segs).length<=1000000:=by
        unfold usedN
        rw[List.length_append,List.length_map,List.length_map]
        have h3:=List.length_filter_le (inR l.base) d.fs
        have h4:=HB.out.n
        omega
       have h3:=HB.out.base
       omega
      have KT:=zh (tidy_any HX7.out.ld (use_small hus HB.out.sm) (by dsimp only;have:=HSL.out;have:=HB.out.K;have:=HSZ.out;omega) (fun x hx=>by
       rcases HSF.out x hx with⟨z,hz,hze⟩ | hze
       ·have:=(HB.out.seg z hz).1;omega
       ·omega))
      clear hus hfree
      go_wp2_with fail
      refine KT.out.mono ?_
      rintro e w8 ⟨rfl,S8,sv8,h8⟩
      dsimp only at h8
      rw[hcf]at h8
      have HX8:=zh (HX7.out.trans h8)
      clear h8 KT
      go_wp2_with fail
      go_ret
      unfold CutWEnd
      rw[HCM2.out]
      have h9:=HX8.out
      rw[HC4.out]at h9
      exact⟨rfl,_,_,_,_,_,h9⟩
     ·have hw2:¬why=0:=hw
      have hcm:=HCM.out
      rw[if_pos (by rw[<- HWHY.out];exact hw)]at hcm
      have HCM2:=zh hcm
      clear hw hcm HCM
      go_wp2_with fail
      go_ret
      unfold CutWEnd
      rw[HCM2.out]
      refine⟨by rw[<- HWHY.out];rfl, ?_⟩
      rw[<- HL4.out,<- HD4.out]
      exact HLB.out
end
section
variable {w w':World}{bl bd:Nat}{R S R' S':Nat->Prop}{l l':Lg}{sv rv sv' rv':Value}{vs vs':List Value}{d d':Dk}{K:Nat}
theorem cut_next_le{c:Ct}{m B:Nat}(h:c.next<=B)(hm:m<=B):(c.cut m).next<=B:=by
 unfold Ct.cut
 split
 ·unfold Ct.next at h ⊢
  simp only[List.length_drop]
  omega
 ·exact h
def RepEnd(w:World)(bl bd:Nat)(R S:Nat->Prop)(l:Lg)(sv rv:Value)(d:Dk)(i:Nat)(s:Seg)(counts:Nat)(e:Ending)(w':World):Prop:=
 e= .returned (.tuple #[])/\∃R' rv' vs',LX w w' bl bd S R sv rv { l with c:=(replayP d.fs l.c s counts).1,segs:=l.segs.set i (replayP d.fs l.c s counts).2 } d S R' sv rv' vs'
structure RJ(w wr:World)(bl bd:Nat)(S R:Nat->Prop)(sv rv:Value)(l:Lg)(d:Dk)(i:Nat)(s:Seg)(counts br:Nat)(A:Option Addr)(nn cc:Nat)(raw:List UInt8)(P0 rs:RS)(f:Nat)(R':Nat->Prop)(rv':Value)(vs':List Value):Prop where
 lx:LX w wr bl bd S R sv rv { l with c:=rs.c,segs:=l.segs.set i { s with last:=rs.last,size:=rs.size } } d S R' sv rv' vs'
 blk:Blk wr br 182 #[.slice A nn cc, .int .i64 (rs.size:Int)]
 bs:Bs wr A nn cc raw
 le:rs.size<=nn
 fu:nn<f+rs.size
 eq:playB raw counts f rs=P0
 nice:NiceB raw counts f rs
 nb:∀k,lfoot bl sv rv' k\/R' k\/S k->k≠br
 na:∀a,A=some a->0<nn->¬lfoot bl sv rv' a.block/\a.block≠br
 new:w.heap.size<=br
 fm:A=none\/∃b,A=some ⟨b,0,none⟩
def atC(w:World)(br:Nat):Nat:=match w.cell? ⟨br,1,none⟩ with
 | some (.int _ n)=>n.toNat
 | _=>0
def ptrB(v:Value):Nat:=match v with
 | .pointer (some a)=>a.block
 | _=>0
def RepJ(w:World)(bl bd:Nat)(S R:Nat->Prop)(sv rv:Value)(l:Lg)(d:Dk)(i:Nat)(s:Seg)(g q counts nn:Nat)(raw:List UInt8)(P0:RS)(a':Act)(wr:World):Prop:=
 ∃(br:Nat) (A:Option Addr) (cc:Nat) (rs:RS) (f:Nat) (R':Nat->Prop) (rv':Value) (vs':List Value),(a'.tmps.size=140/\a'.defers= []/\a'.tmps.getD 0 undef= .pointer (some ⟨bl,0,none⟩)/\a'.tmps.getD 1 undef= .pointer (some ⟨g,q+i*8,none⟩)/\a'.tmps.getD 2 undef= .int .i64 (counts:Int)/\a'.tmps.getD 6 undef= .pointer (some ⟨br,0,none⟩))/\RJ w wr bl bd S R sv rv l d i s counts br A nn cc raw P0 rs f R' rv' vs'
theorem tmps_range(t:Array Value)(n:Nat)(h:t.size=n):t=((List.range n).map fun k=>t.getD k undef).toArray:=by
 apply Array.ext
 ·simp[h]
 ·intro i h1 h2
  simp[Array.getD_eq_getD_getElem?,h1]
theorem frame140(a':Act){bl g q i counts br:Nat}(h:a'.tmps.size=140/\a'.defers= []/\a'.tmps.getD 0 undef= .pointer (some ⟨bl,0,none⟩)/\a'.tmps.getD 1 undef= .pointer (some ⟨g,q+i*8,none⟩)/\a'.tmps.getD 2 undef= .int .i64 (counts:Int)/\a'.tmps.getD 6 undef= .pointer (some ⟨br,0,none⟩)):∃u:Nat->Value,a'={ tmps:= #[.pointer (some ⟨bl,0,none⟩), .pointer (some ⟨g,q+i*8,none⟩), .int .i64 (counts:Int),u 3,u 4,u 5, .pointer (some ⟨br,0,none⟩),u 7,u 8,u 9,u 10,u 11,u 12,u 13,u 14,u 15,u 16,u 17,u 18,u 19,u 20,u 21,u 22,u 23,u 24,u 25,u 26,u 27,u 28,u 29,u 30,u 31,u 32,u 33,u 34,u 35,u 36,u 37,u 38,u 39,u 40,u 41,u 42,u 43,u 44,u 45,u 46,u 47,u 48,u 49,u 50,u 51,u 52,u 53,u 54,u 55,u 56,u 57,u 58,u 59,u 60,u 61,u 62,u 63,u 64,u 65,u 66,u 67,u 68,u 69,u 70,u 71,u 72,u 73,u 74,u 75,u 76,u 77,u 78,u 79,u 80,u 81,u 82,u 83,u 84,u 85,u 86,u 87,u 88,u 89,u 90,u 91,u 92,u 93,u 94,u 95,u 96,u 97,u 98,u 99,u 100,u 101,u 102,u 103,u 104,u 105,u 106,u 107,u 108,u 109,u 110,u 111,u 112,u 113,u 114,u 115,u 116,u 117,u 118,u 119,u 120,u 121,u 122,u 123,u 124,u 125,u 126,u 127,u 128,u 129,u 130,u 131,u 132,u 133,u 134,u 135,u 136,u 137,u 138,u 139],defers:= [] }:=by
 obtain⟨h1,h2,h3,h4,h5,h6⟩:=h
 refine⟨fun k=>a'.tmps.getD k undef, ?_⟩
 have h7:=tmps_range a'.tmps 140 h1
 obtain⟨t,df⟩:=a'
 dsimp only at*
 rw[h2,<- h3,<- h4,<- h5,<- h6]
 congr 1
def RepD(w:World)(bl bd:Nat)(S R:Nat->Prop)(sv rv:Value)(l:Lg)(d:Dk)(i:Nat)(s:Seg)(P0:RS)(a':Act)(wr:World):Prop:=
 a'.defers= []/\∃R' rv' vs',LX w wr bl bd S R sv rv { l with c:=P0.c,segs:=l.segs.set i { s with last:=P0.last,size:=P0.size } } d S R' sv rv' vs'
theorem RJ.read{w wr w2:World}{i counts br nn cc f:Nat}{s:Seg}{A:Option Addr}{raw:List UInt8}{P0 rs:RS}(h:RJ w wr bl bd S R sv rv l d i s counts br A nn cc raw P0 rs f R' rv' vs')(ht:Touch (·=br) wr w2):LX w w2 bl bd S R sv rv { l with c:=rs.c,segs:=l.segs.set i { s with last:=rs.last,size:=rs.size } } d S R' sv rv' vs'/\Bs w2 A nn cc raw:=
 ⟨h.lx.aside ht h.new h.nb,h.bs.touch ht fun a ha h0 e=>(h.na a ha h0).2 e⟩
theorem RJ.go_on{w wr W:World}{i counts br nn cc f:Nat}{s:Seg}{A:Option Addr}{raw:List UInt8}{P0 rs rs':RS}{R2:Nat->Prop}{rv2:Value}{vs2:List Value}(h:RJ w wr bl bd S R sv rv l d i s counts br A nn cc raw P0 rs (f+1) R' rv' vs')(hst:stepB raw counts rs=some rs')(hgt:rs.size<rs'.size)(hle:rs'.size<=nn)
  (hx:LX w W bl bd S R sv rv { l with c:=rs'.c,segs:=l.segs.set i { s with last:=rs'.last,size:=rs'.size } } d S R2 sv rv2 vs2) (hb:Blk W br 182 #[.slice A nn cc, .int .i64 (rs'.size:Int)]) (hB:Bs W A nn cc raw) (hnb:∀k,lfoot bl sv rv2 k\/R2 k\/S k->k≠br) (hna:∀a,A=some a->0<nn->¬lfoot bl sv rv2 a.block):
  RJ w W bl bd S R sv rv l d i s counts br A nn cc raw P0 rs' f R2 rv2 vs2:=by
 have hf:=h.fu
 have he:=h.eq
 rw[playB,hst]at he
 exact⟨hx,hb,hB,hle,by omega,he,h.nice.2.2 rs' hst,hnb,fun a ha h0=>⟨hna a ha h0,(h.na a ha h0).2⟩,h.new,h.fm⟩
theorem RJ.stop{w wr:World}{i counts br nn cc f:Nat}{s:Seg}{A:Option Addr}{raw:List UInt8}{P0 rs:RS}(h:RJ w wr bl bd S R sv rv l d i s counts br A nn cc raw P0 rs (f+1) R' rv' vs')(hst:stepB raw counts rs=none):P0=rs:=by
 have he:=h.eq
 rw[playB,hst]at he
 exact he.symm
theorem RJ.back{w wr w5:World}{i counts br nn cc f g q n c sk la:Nat}{s:Seg}{A:Option Addr}{raw:List UInt8}{P0 rs:RS}{c2:Ct}{R2:Nat->Prop}{rv2:Value}{vs2:List Value}(h:RJ w wr bl bd S R sv rv l d i s counts br A nn cc raw P0 rs (f+1) R' rv' vs')(hst:stepB raw counts rs=some ⟨c2,la,sk⟩)(hsk:rs.size<sk/\sk<=nn)(hsv:sv= .slice (some ⟨g,q,none⟩) n c)(hs:l.segs[i]? =some s)
  (hx:LX w w5 bl bd S R sv rv { l with c:=c2,segs:=l.segs.set i { s with last:=la,size:=rs.size } } d S R2 sv rv2 vs2) (hb:Blk w5 br 182 #[.slice A nn cc, .int .i64 (sk:Int)]) (hB:Bs w5 A nn cc raw) (hnb:∀k,lfoot bl sv rv2 k\/R2 k\/S k->k≠br) (hna:∀a,A=some a->0<nn->¬lfoot bl sv rv2 a.block):
  RJ w (w5.setCell ⟨g,q+i*8+6,none⟩ (.int .i64 (sk:Int))) bl bd S R sv rv l d i s counts br A nn cc raw P0 ⟨c2,la,sk⟩ f R2 rv2 vs2:=by
 have hil:=(List.getElem?_eq_some_iff.1 hs).1
 have hT:Touch (·=g) w5 (w5.setCell ⟨g,q+i*8+6,none⟩ (.int .i64 (sk:Int))):=(Touch.refl (·=g) w5).setCell (p:=⟨g,q+i*8+6,none⟩) (.inr rfl) _
 have hg:lfoot bl sv rv2 g:= .inr (.inl (by rw[hsv];rfl))
 refine h.go_on hst hsk.1 hsk.2 ?_ (hb.touch hT fun e=>hnb g (.inl hg) e.symm) (hB.touch hT fun a ha h0 e=>hna a ha h0 (by rw[e];exact hg)) hnb hna
 subst hsv
 have h1:=hx.seg (k:=i) (j:=6) (s:={ s with last:=la,size:=rs.size }) (s':={ s with last:=la,size:=sk }) (u:= .int .i64 (sk:Int)) (by dsimp only;rw[List.getElem?_set_self hil]) (by omega) rfl rfl
 dsimp only at h1
 rw[List.set_set,<- Nat.add_assoc]at h1
 exact h1
theorem seg_last{w w5:World}{i g q n c la a z:Nat}{s:Seg}{c2:Ct}{R2:Nat->Prop}{rv2:Value}{vs2:List Value}(hx:LX w w5 bl bd S R sv rv { l with c:=c2,segs:=l.segs.set i { s with last:=a,size:=z } } d S R2 sv rv2 vs2)(hsv:sv= .slice (some ⟨g,q,none⟩) n c)(hs:l.segs[i]? =some s):
  LX w (w5.setCell ⟨g,q+i*8+7,none⟩ (.int .i64 (la:Int))) bl bd S R sv rv { l with c:=c2,segs:=l.segs.set i { s with last:=la,size:=z } } d S R2 sv rv2 vs2:=by
 have hil:=(List.getElem?_eq_some_iff.1 hs).1
 subst hsv
 have h1:=hx.seg (k:=i) (j:=7) (s:={ s with last:=a,size:=z }) (s':={ s with last:=la,size:=z }) (u:= .int .i64 (la:Int)) (by dsimp only;rw[List.getElem?_set_self hil]) (by omega) rfl rfl
 dsimp only at h1
 rw[List.set_set,<- Nat.add_assoc]at h1
 exact h1
theorem atC_eq{w:World}{br:Nat}{v:Value}{n:Nat}(h:Blk w br 182 #[v, .int .i64 (n:Int)]):atC w br=n:=by
 unfold atC
 rw[h.cell 1]
 rfl
theorem seg_cell{w wr:World}{c2:Ct}{i j g q n c:Nat}{s s2:Seg}{vs2:List Value}(h:LX w wr bl bd S R sv rv { l with c:=c2,segs:=l.segs.set i s2 } d S' R' sv rv' vs2)(hsv:sv= .slice (some ⟨g,q,none⟩) n c)(hs:l.segs[i]? =some s)(hj:j<8):wr.cell? ⟨g,q+i*8+j,none⟩=(segC s2)[j]? /\wr.frozen? ⟨g,q+i*8+j,none⟩=false:=by
 have h1:=h.ld.lm.segs
 have hil:=(List.getElem?_eq_some_iff.1 hs).1
 rw[hsv]at h1
 have hn:n=(l.segs.set i s2).length:=by
  obtain⟨A',c',e,_⟩:=h1.form
  injection e
 dsimp only at h1
 rw[<- hn]at h1
 refine⟨?_,h1.frozen _⟩
 rw[List.length_set]at hn
 rw[Nat.add_assoc,h1.cell (j:=i*8+j) (by omega),segsC_get _ i (s:=s2) (by rw[List.getElem?_set_self hil]) hj]
theorem set_self:∀(l:List Seg) (i:Nat) {s:Seg},l[i]? =some s->l.set i s=l
 | [],_,_,h=>by simp at h
 | a :: l,0,s,h=>by simp at h;simp[h]
 | a :: l,i+1,s,h=>by
  rw[List.set_cons_succ,set_self l i (by simpa using h)]
theorem rj_start{w w2 w4 W:World}{i counts nn cc:Nat}{s:Seg}{A:Option Addr}{raw:List UInt8}{P0:RS}{rv5:Value}{vs5:List Value}(h:LD w bl bd S R l d sv rv vs)(hs:l.segs[i]? =some s)(hx:LX w W bl bd S R sv rv { l with c:=startS s l.c } d S R sv rv5 vs5)(hro:∀k,rv5.ownBlock=some k->k<w.heap.size)
  (hT:Touch (·=bl) w4 W) (hb:Blk w4 w2.heap.size 182 #[.slice A nn cc, .int .i64 (s.size:Int)]) (hB:Bs w4 A nn cc raw) (h2:w.heap.size<=w2.heap.size) (hn:∀a,A=some a->w.heap.size<=a.block) (hA:∀a,A=some a->0<nn->a.block<w2.heap.size) (hA2:A=none\/∃b,A=some ⟨b,0,none⟩) (hsz:s.size<=nn)
  (hP:P0=playB raw counts (nn+1) ⟨startS s l.c,s.last,s.size⟩) (hni:NiceB raw counts (nn+1) ⟨startS s l.c,s.last,s.size⟩):
  RJ w W bl bd S R sv rv l d i s counts w2.heap.size A nn cc raw P0 ⟨startS s l.c,s.last,s.size⟩ (nn+1) R rv5 vs5:=by
 have hbl:=h.lm.blk.lt
 have hfl:∀k,lfoot bl sv rv5 k->k<w.heap.size:=fun k hk=>by
  rcases hk with hk | hk | hk
  ·omega
  ·exact h.lm.segs.lt k hk
  ·exact hro k hk
 refine⟨?_,hb.touch hT (by omega),hB.touch hT fun a ha h0 e=> ?_,hsz,by dsimp only;omega,hP.symm,hni,fun k hk=> ?_,fun a ha h0=>⟨fun hf=> ?_, ?_⟩,h2,hA2⟩
 ·have h3:l.segs.set i { s with last:=s.last,size:=s.size }=l.segs:=set_self l.segs i hs
  dsimp only
  rw[h3]
  exact hx
 ·have:=hn a ha;omega
 ·rcases hk with hk | hk | hk
  ·have:=hfl k hk;omega
  ·have:=h.Rlt k hk;omega
  ·have:=h.dk.below k hk;omega
 ·have:=hfl _ hf;have:=hn a ha;omega
 ·have:=hA a ha h0;omega
theorem replay_any(h:LD w bl bd S R l d sv rv vs){i g q n c counts:Nat}{s:Seg}(hsv:sv= .slice (some ⟨g,q,none⟩) n c)(hs:l.segs[i]? =some s)(hsm:d.small K)(hK:K<=300000000)(hok:Fl.ok d.fs)(hsf:s.file<9223372036854775808/\s.first<=900000000/\s.next<=900000000)
  (hsz:s.size<=(keptB d.fs s.file).length) (_hcn:counts<=4611686018427387904) (hln:l.c.next<=900000000) (hnice:NiceB (keptB d.fs s.file) counts ((keptB d.fs s.file).length+1) ⟨startS s l.c,s.last,s.size⟩):
  Calls Tryz.prog 87 #[.pointer (some ⟨bl,0,none⟩), .pointer (some ⟨g,q+i*8,none⟩), .int .i64 (counts:Int)] w (RepEnd w bl bd R S l sv rv d i s counts):=by
 obtain⟨raw,hraw⟩:∃raw,raw=keptB d.fs s.file:=⟨_,rfl⟩
 obtain⟨nn,hnn⟩:∃nn,nn=raw.length:=⟨_,rfl⟩
 have hnl:nn<=400000000:=by
  rw[hnn,hraw]
  unfold keptB
  cases hf:Fl.at_ d.fs (s.file:Int) with
  | none=>simp
  | some f=>
   have h1:=hsm.raw f (Fl.at_mem hf).1
   have h2:f.good.length<=f.raw.length:=by unfold Fl.good;rw[List.length_take];omega
   show f.good.length<= _
   omega
 rw[<- hraw]at hsz hnice
 rw[<- hnn]at hsz hnice
 obtain⟨P0,hP0⟩:∃P0,P0=playB raw counts (nn+1) ⟨startS s l.c,s.last,s.size⟩:=⟨_,rfl⟩
 have hrp:replayP d.fs l.c s counts=(P0.c,{ s with last:=P0.last,size:=P0.size }):=by
  rw[hP0,hnn,hraw]
  rfl
 have HRP:=zh hrp
 have hsl:=h.lm.segs
 have hn:n=l.segs.length:=by
  obtain⟨A',c',e,_⟩:=hsl.form
  rw[hsv]at e
  injection e
 have hil:=(List.getElem?_eq_some_iff.1 hs).1
 rw[hsv,<- hn]at hsl
 have hcell:∀j,j<8->w.cell? ⟨g,q+i*8+j,none⟩=(segC s)[j]? :=fun j hj=>by
  rw[Nat.add_assoc,hsl.cell (j:=i*8+j) (by omega),segsC_get _ _ hs hj]
 have HC:=zh hcell
 have H:=zh h;have HS:=zh hs;have HSV:=zh hsv;have HNI:=zh hnice;have HP:=zh hP0;have HRAW:=zh hraw;have HNN:=zh hnn
 have HSZ:=zh hsz;have HSF:=zh hsf;have HLN:=zh hln
 have KK:=zh (show∀W,Fresh w W->Calls Tryz.prog 120 #[.pointer (some ⟨bl,0,none⟩), .int .i64 (s.file:Int)] W fun e w'=>Fresh w w'/\∃A c,e= .returned (.slice A nn c)/\Bs w' A nn c raw/\(A=none\/∃g,A=some ⟨g,0,none⟩)/\∀a,A=some a->w.heap.size<=a.block from fun W hW=>by
  refine(lkept_any (h.lm.fresh hW) (h.dk.fresh hW) hsm (by omega) hok hsf.1).mono ?_
  rintro e w' ⟨hf,A,c,rfl,hb,hA,hn⟩
  rw[<- hraw,<- hnn]at hb ⊢
  exact⟨hW.trans hf fun _ _=>id,A,c,rfl,hb,hA,fun a ha=>Nat.le_trans hW.size (hn a ha)⟩)
 have HST:=zh (show∀W,Fresh w W->W.cell? ⟨g,q+i*8+5,none⟩=some (.int .i64 (s.file:Int))/\W.cell? ⟨g,q+i*8+6,none⟩=some (.int .i64 (s.size:Int)) from fun W hW=>⟨hW.cell (hcell 5 (by omega)) id,hW.cell (hcell 6 (by omega)) id⟩)
 clear h hs hsv hnice hP0 hraw hnn hsz hrp hsl hcell
 go_enter Tryz.func87,Tryz.ntmps87
 refine scope_again (RepJ w bl bd S R sv rv l d i s g q counts nn raw P0) (RepD w bl bd S R sv rv l d i s P0) (fun a w=>nn-atC w (ptrB (a.tmps.getD 6 undef))) rfl rfl ?pass ?done ?first
 case done=>
  rintro a W ⟨hd,R',rv',vs',hx⟩
  refine wp_skip ?_
  exact⟨hd,_,results_none rfl _ _ _,rfl,R',rv',vs',by rw[HRP.out];exact hx⟩
 case first=>
  intro PASS
  have PS:=zh PASS
  clear PASS
  go_upto_region 0 with fail
  go_region_held3 (fun W=>W.cell? ⟨g,q+i*8+5,none⟩=some (.int .i64 (s.file:Int))/\W.cell? ⟨g,q+i*8+6,none⟩=some (.int .i64 (s.size:Int)))
   (first | assumption | exact HST.out _ ((Touch.refl _ w).drew) | exact HST.out _ (Touch.refl _ w) | exact HST.out _ (HF2.out.alloc _))
   (first | (go_simp;go_at_call 120;refine(KK.out _ ((Touch.refl _ w).drew)).mono ?_;rintro e w2 ⟨hf2,A,cc,rfl,hb2,hA2,hn2⟩;have k2:=HST.out w2 hf2;have HF2:=zh hf2;have HB2:=zh hb2;have HA2:=zh hA2;have HN2:=zh hn2;clear hf2 hb2 hA2 hn2))
  obtain⟨w3,hw3⟩:∃w3,w3=w2.alloc (.cells #[.slice A nn cc, .int .i64 (s.size:Int)] 182):=⟨_,rfl⟩
  rw[<- hw3]
  have hf3:Fresh w w3:=by rw[hw3];exact HF2.out.alloc _
  have hk3:Blk w3 w2.heap.size 182 #[.slice A nn cc, .int .i64 (s.size:Int)]:=by rw[hw3];exact Blk.new _ _ _
  have hb3:Bs w3 A nn cc raw:=by rw[hw3];exact HB2.out.alloc _
  have hA3:∀a,A=some a->0<nn->a.block<w2.heap.size:=fun a ha h0=>by
   obtain⟨b',o',e,hc⟩:=HB2.out.2.2.2 h0
   have hc0:=World.block_lt_of_cell? _ _ (hc 0 _ (List.getElem?_eq_getElem (show 0<raw.length by have:=HB2.out.1;omega)))
   rw[ha]at e
   injection e with e
   rw[e]
   exact hc0
  have HK3:=zh hk3;have HB3:=zh hb3;have HF3:=zh hf3;have HA3:=zh hA3
  have hX3:=H.out.same.fresh hf3
  have KC:=zh (lcut_any hX3.ld.lm (hX3.ld.nR bl (.inl rfl)) (by have:=HLN.out;omega) (m:=s.first) (by have:=HSF.out.2.1;omega))
  have HX3:=zh hX3
  have z2:w3.cell? ⟨g,q+i*8+2,none⟩=some (.int .i64 (s.first:Int)):=hf3.cell (HC.out 2 (by omega)) id
  clear hw3 hf3 hk3 hb3 hA3 hX3 k2
  go_wp2_with fail
  refine KC.out.mono ?_
  rintro e w4 ⟨rfl,ht4,rv4,vs4,hm4,ho4⟩
  have hX4:=HX3.out.cutX ht4 hm4 ho4
  have hgb:g≠bl:=fun e=>by
   have h1:=hX4.ld.lm.segs.ne_blk hX4.ld.lm.blk (by decide)
   rw[HSV.out]at h1
   exact h1 (by rw[<- e];rfl)
  have hc4:∀j,j<8->w4.cell? ⟨g,q+i*8+j,none⟩=(segC s)[j]? :=fun j hj=>by
   have h1:=HC.out j hj
   have h2:=HF3.out
   cases hv:w.cell? ⟨g,q+i*8+j,none⟩ with
   | none=>
    rw[hv]at h1
    exfalso
    have h3:j<(segC s).length:=by rw[segC_len];exact hj
    rw[List.getElem?_eq_getElem h3]at h1
    cases h1
   | some v=>
    rw[ht4.cell (h2.cell hv id) (fun e=>hgb e)]
    rw[<- h1,hv]
  have z3:w4.cell? ⟨g,q+i*8+3,none⟩=some (.int .i64 (s.next:Int)):=hc4 3 (by omega)
  have z4:w4.cell? ⟨g,q+i*8+4,none⟩=some (.bool s.whole):=hc4 4 (by omega)
  have HC4:=zh hc4
  have hcn4:(l.c.cut s.first).next<=900000000:=cut_next_le HLN.out HSF.out.2.1
  have KN:=zh (show∀r,Calls Tryz.prog 76 #[.pointer (some ⟨bl,0,none⟩)] (w4.drewN r) fun e w'=>e= .returned (.int .i64 ((l.c.cut s.first).next:Int))/\∃m,w'=(w4.drewN r).drewN m from fun r=>next_any (hX4.ld.lm.fresh ((Touch.refl _ _).drewN r)) (by dsimp only;omega))
  have HK4:=zh (HK3.out.touch ht4 (fun e=>by have h1:=H.out.lm.blk.lt;have h2:=HF2.out.size;omega))
  have HB4:=zh (HB3.out.touch ht4 fun a ha h0 e=>by have h1:=H.out.lm.blk.lt;have h2:=HN2.out a ha;omega)
  have hsz4:=ht4.size
  have HX4:=zh hX4
  have b3:w4.cell? ⟨bl,3,none⟩=some (.int .i64 ((l.c.cut s.first).first:Int)):=hX4.ld.lm.blk.cell 3
  have b4:w4.cell? ⟨bl,4,none⟩=some rv4:=hX4.ld.lm.blk.cell 4
  have bf3:=hX4.ld.lm.blk.frozen 3
  have bf4:=hX4.ld.lm.blk.frozen 4
  have HO4:=zh ho4
  clear hX4 ht4 hm4 ho4 hc4 KC
  by_cases hwn:s.whole=true\/(l.c.cut s.first).next<s.next
  ·have hst:startS s l.c=⟨s.next, []⟩:=by unfold startS;rw[if_pos hwn]
   have HSTS:=zh hst
   clear hst
   have hreg:∀qq,LX w (((w4.drewN qq).setCell ⟨bl,4,none⟩ (.slice none 0 0)).setCell ⟨bl,3,none⟩ (.int .i64 (s.next:Int))) bl bd S R sv rv { l with c:=⟨s.next, []⟩ } d S R sv (.slice none 0 0) []:=fun qq=>by
    have hm:=HX4.out.ld.lm
    have hT:Touch (·=bl) w4 (((w4.drewN qq).setCell ⟨bl,4,none⟩ (.slice none 0 0)).setCell ⟨bl,3,none⟩ (.int .i64 (s.next:Int))):=(((Touch.refl (·=bl) w4).drewN qq).setCell (p:=⟨bl,4,none⟩) (.inr rfl) _).setCell (p:=⟨bl,3,none⟩) (.inr rfl) _
    refine HX4.out.own (hT.mono fun k _ hk=> .inl hk) ⟨?_, ?_, ?_, ?_⟩ (fun k hk=> ?_) fun k hk=> .inl hk
    ·have:=((hm.blk.drewN qq).set_ 4 (.slice none 0 0)).set_ 3 (.int .i64 (s.next:Int))
     simpa using this
    ·exact hm.segs.touch hT fun k hk e=>hm.segs.ne_blk hm.blk (by decide) (by rw[hk,e])
    ·exact Ow.nil_ _ _ _
    ·exact⟨rfl,fun i b hb=>by simp at hb,fun u hu=>by simp at hu⟩
    ·rcases hk with hk | hk | hk
     ·exact .inl (.inl hk)
     ·exact .inl (.inr (.inl hk))
     ·simp[Value.ownBlock]at hk
   have HREG:=zh hreg
   clear hreg
   have hcs:(s.whole=true)\/(s.whole=false/\decide (((l.c.cut s.first).next:Int)<(s.next:Int))=true):=by
    cases hw:s.whole with
    | true=>exact .inl rfl
    | false=>
     rw[hw]at hwn
     exact .inr ⟨rfl,by simp;rcases hwn with h | h;(cases h);omega⟩
   clear hwn
   rcases hcs with hw | ⟨hw,hlt⟩
   ·rw[hw]at z4
    go_upto_region 2 with fail
    go_quiet (fail)
    go_wp2_with fail
    refine wp_label ?_
    refine(by assumption:∀(a:Act) (w:World),Code.wp Tryz.prog _ _ a w-> _) _ _ (PS.out _ _ ?_)
    refine⟨w2.heap.size,A,cc,_,nn+1,R, .slice none 0 0, [],⟨rfl,rfl,rfl,rfl,rfl,rfl⟩,rj_start H.out HS.out (w4:=w4) ?_ (fun k hk=>(by simp[Value.ownBlock]at hk)) ?_ HK4.out HB4.out HF2.out.size HN2.out HA3.out HA2.out HSZ.out HP.out HNI.out⟩
    ·rw[HSTS.out];exact HREG.out _
    ·exact(((Touch.refl (·=bl) w4).drewN _).setCell (p:=⟨bl,4,none⟩) (.inr rfl) _).setCell (p:=⟨bl,3,none⟩) (.inr rfl) _
   ·have hlti:((l.c.cut s.first).next:Int)<(s.next:Int):=of_decide_eq_true hlt
    have hltn:(l.c.cut s.first).next<s.next:=by omega
    rw[hw]at z4
    go_upto_region 2 with fail
    go_quiet ((first | (go_at_call 76;exact Calls.quiet_of (KN.out _))))
    go_wp2_with fail
    refine wp_label ?_
    refine(by assumption:∀(a:Act) (w:World),Code.wp Tryz.prog _ _ a w-> _) _ _ (PS.out _ _ ?_)
    refine⟨w2.heap.size,A,cc,_,nn+1,R, .slice none 0 0, [],⟨rfl,rfl,rfl,rfl,rfl,rfl⟩,rj_start H.out HS.out (w4:=w4) ?_ (fun k hk=>(by simp[Value.ownBlock]at hk)) ?_ HK4.out HB4.out HF2.out.size HN2.out HA3.out HA2.out HSZ.out HP.out HNI.out⟩
    ·rw[HSTS.out];exact HREG.out _
    ·exact(((Touch.refl (·=bl) w4).drewN _).setCell (p:=⟨bl,4,none⟩) (.inr rfl) _).setCell (p:=⟨bl,3,none⟩) (.inr rfl) _
  ·have hst:startS s l.c=l.c.cut s.first:=by unfold startS;rw[if_neg hwn]
   have HSTS:=zh hst
   have hw:s.whole=false:=by
    cases hw:s.whole with
    | true=>exact absurd (.inl hw) hwn
    | false=>rfl
   have hlt:decide (((l.c.cut s.first).next:Int)<(s.next:Int))=false:=by
    simp
    have:¬(l.c.cut s.first).next<s.next:=fun e=>hwn (.inr e)
    omega
   have hlti:¬((l.c.cut s.first).next:Int)<(s.next:Int):=of_decide_eq_false hlt
   have hltn:¬(l.c.cut s.first).next<s.next:=by omega
   rw[hw]at z4
   clear hst hwn
   go_upto_region 2 with fail
   go_quiet ((first | (go_at_call 76;exact Calls.quiet_of (KN.out _))))
   go_wp2_with fail
   refine wp_label ?_
   refine(by assumption:∀(a:Act) (w:World),Code.wp Tryz.prog _ _ a w-> _) _ _ (PS.out _ _ ?_)
   refine⟨w2.heap.size,A,cc,_,nn+1,R,rv4,vs4,⟨rfl,rfl,rfl,rfl,rfl,rfl⟩,rj_start H.out HS.out (w4:=w4) ?_ (fun k hk=>H.out.lm.rows.lt k (HO4.out k hk)) ?_ HK4.out HB4.out HF2.out.size HN2.out HA3.out HA2.out HSZ.out HP.out HNI.out⟩
   ·rw[HSTS.out];exact HX4.out.fresh ((Touch.refl _ w4).drewN _)
   ·exact(Touch.refl (·=bl) w4).drewN _
 case pass=>
  rintro a W ⟨br,A,cc,rs,f,R',rv',vs',hfr,hj⟩
  obtain⟨u,rfl⟩:=frame140 a hfr
  clear hfr
  obtain⟨f,rfl⟩:∃f',f=f'+1:=⟨f-1,by have:=hj.fu;have:=hj.le;omega⟩
  have KX:=zh (rnext_any hj.blk hj.bs (hj.fm.imp id fun ⟨b,e⟩=>⟨b,0,e⟩) hj.le (by omega))
  have HJ:=zh hj
  have hms:atC W br=rs.size:=atC_eq hj.blk
  have HMS:=zh hms
  have hrl:raw.length=nn:=hj.bs.1
  have HRLN:=zh hrl
  clear hj hms hrl
  unfold NextEnd at KX
  cases hu:Enc.unframe (raw.drop rs.size) with
  | none=>
   rw[hu]at KX
   dsimp only at KX
   have hst:stepB raw counts rs=none:=by unfold stepB;rw[hu]
   have HST0:=zh (HJ.out.stop hst)
   clear hu hst
   go_wp2_with fail
   refine KX.out.mono ?_
   rintro e w2 ⟨rfl,hf2⟩
   have HF2:=zh hf2
   clear hf2 KX
   go_wp2_with fail
   refine wp_goto ?_
   refine Or.inr ⟨rfl,rfl,R',rv',vs', ?_⟩
   rw[HST0.out]
   exact HJ.out.lx.fresh HF2.out
  | some pk=>
   obtain⟨p,k⟩:=pk
   rw[hu]at KX
   dsimp only at KX
   obtain⟨hk8,hkl⟩:=Enc.unframe_le hu
   rw[List.length_drop]at hkl
   have hat:rs.size+k<=nn:=by have:=HRLN.out;have:=HJ.out.le;omega
   have HU:=zh hu
   clear hu hkl
   by_cases hcn2:counts<rs.size+k
   ·have hst:stepB raw counts rs=none:=by unfold stepB;rw[HU.out];dsimp only;rw[if_pos hcn2]
    have HST0:=zh (HJ.out.stop hst)
    have hc1:decide ((counts:Int)<((rs.size+k:Nat):Int))=true:=by simp;omega
    have hc2:(counts:Int)<((rs.size+k:Nat):Int):=by omega
    clear hst
    go_wp2_with fail
    refine KX.out.mono ?_
    rintro e w2 ⟨B,c',rfl,ht2,hb2,hp2,hn2⟩
    have HT2:=zh ht2
    have r1:w2.cell? ⟨br,1,none⟩=some (.int .i64 ((rs.size+k:Nat):Int)):=hb2.cell 1
    clear ht2 hb2 hp2 hn2 KX
    generalize rs.size+k=sk at*
    go_wp2_with fail
    refine wp_goto ?_
    refine Or.inr ⟨rfl,rfl,R',rv',vs', ?_⟩
    rw[HST0.out]
    exact(HJ.out.read HT2.out).1
   ·have hc1:decide ((counts:Int)<((rs.size+k:Nat):Int))=false:=by simp;omega
    have hc2:¬(counts:Int)<((rs.size+k:Nat):Int):=by omega
    have HCN:=zh hcn2
    have hni:=HJ.out.nice
    have HNI2:=zh (hni.2.1 p k HU.out (by omega))
    have hcn:=hni.1
    clear hni hcn2
    obtain⟨sk,hsk⟩:∃sk,sk=rs.size+k:=⟨_,rfl⟩
    have HSK:=zh hsk
    rw[<- hsk]at hc1 hc2 hat
    rw[<- hsk]at KX
    clear hsk
    by_cases hl9:p.length=9
    ·have HL9:=zh hl9
     rw[hl9]at KX
     obtain⟨x,hx⟩:∃x,x=p.headD 0:=⟨_,rfl⟩
     have HXH:=zh hx
     have KX2:=zh (show Calls Tryz.prog 121 #[.pointer (some ⟨br,0,none⟩)] W fun e w'=>∃bb oo c',e= .returned (.tuple #[.slice (some ⟨bb,oo,none⟩) 9 c', .bool true])/\Touch (·=br) W w'/\Blk w' br 182 #[.slice A nn cc, .int .i64 (sk:Int)]/\Bs w' (some ⟨bb,oo,none⟩) 9 c' p/\w'.cell? ⟨bb,oo,none⟩=some (.int .u8 (x.toNat:Int))/\W.heap.size<=bb from by
      refine KX.out.mono ?_
      rintro e w' ⟨B,c',rfl,ht,hb,hp,hn⟩
      obtain⟨bb,oo,rfl⟩:=hp.at_ (by omega)
      have h0:=hp.cellAt (j:=0) (by omega)
      refine⟨bb,oo,c',rfl,ht,hb,hp, ?_,hn _ rfl (by omega)⟩
      rw[hx,show p.headD 0=p.getD 0 0 by cases p<;>rfl]
      exact h0)
     clear KX hx
     by_cases hx99:x=99
     ·have hst:stepB raw counts rs=some ⟨rs.c.cut (num p 0),rs.last,sk⟩:=by
       unfold stepB
       rw[HU.out]
       dsimp only
       rw[if_neg HCN.out,if_pos ⟨HL9.out,by rw[<- HXH.out];exact hx99⟩,<- HSK.out]
      have HST1:=zh hst
      have hn0:=HNI2.out HL9.out (by rw[HST1.out];exact Option.some_ne_none _)
      obtain⟨nu,hnu⟩:∃nu,nu=num p 0:=⟨_,rfl⟩
      rw[<- hnu]at hn0
      have HNU:=zh hnu
      rw[hx99]at KX2
      have h99:((UInt8.toNat 99:Nat):Int)=99:=rfl
      rw[h99]at KX2
      clear hst hx99 hl9 h99
      go_wp2_with fail
      refine KX2.out.mono ?_
      rintro e w2 ⟨bb,oo,c',rfl,ht2,hb2,hp2,hx0,hn2⟩
      have HT2:=zh ht2;have HB2:=zh hb2
      have r1:w2.cell? ⟨br,1,none⟩=some (.int .i64 (sk:Int)):=hb2.cell 1
      obtain⟨hx2,hB2⟩:=HJ.out.read ht2
      have HX2:=zh hx2;have HBB2:=zh hB2
      have KNU:=zh (show Calls Tryz.prog 122 #[.slice (some ⟨bb,oo,none⟩) 9 c'] w2 fun e w'=>Fresh w2 w'/\∃b2 o2 c2,e= .returned (.slice (some ⟨b2,o2,none⟩) 1 c2)/\w'.cell? ⟨b2,o2,none⟩=some (.int .i64 (nu:Int)) from by
       refine(numbers_any (some ⟨bb,oo,none⟩) c' 1 p w2 hp2 (by omega) (by omega) (fun i hi=>by
        have:i=0:=by omega
        subst this
        rw[<- hnu]
        omega)).mono ?_
       rintro e w' ⟨hf,B,c2,rfl,hI,_⟩
       obtain⟨b2,o2,rfl,hc⟩:=hI.2.2.2 (by omega)
       refine⟨hf,b2,o2,c2,rfl, ?_⟩
       have:=hc 0 (nu:Int) (by simp[natsV,numsOf,hnu])
       simpa using this)
      clear ht2 hb2 hp2 hn2 KX2 hx2 hB2 hnu
      go_wp2_with fail
      refine KNU.out.mono ?_
      rintro e w3 ⟨hf3,b2,o2,c2,rfl,hc3⟩
      have HX3:=zh (HX2.out.fresh hf3)
      have HB3:=zh (HB2.out.touch hf3 id);have HBB3:=zh (HBB2.out.fresh hf3)
      have KC:=zh (lcut_any HX3.out.ld.lm (HX3.out.ld.nR bl (.inl rfl)) (by dsimp only;omega) (m:=nu) (by omega))
      clear hf3 KNU
      go_wp2_with fail
      refine KC.out.mono ?_
      rintro e w4 ⟨rfl,ht4,rv4,vs4,hm4,ho4⟩
      have hX4:=HX3.out.cutX ht4 hm4 ho4
      have hbb:br≠bl:=fun e=>HJ.out.nb bl (.inl (.inl rfl)) e.symm
      have hB4:=HB3.out.touch ht4 hbb
      have hBB4:=HBB3.out.touch ht4 fun a ha h0 e=>(HJ.out.na a ha h0).1 (by rw[e];exact .inl rfl)
      have hfo:∀k,lfoot bl sv rv4 k->lfoot bl sv rv' k:=fun k hk=>by
       rcases hk with hk | hk | hk
       ·exact .inl hk
       ·exact .inr (.inl hk)
       ·exact .inr (.inr (ho4 k hk))
      have HNB:=zh (show∀k,lfoot bl sv rv4 k\/R' k\/S k->k≠br from fun k hk=>HJ.out.nb k (hk.imp (hfo k) id))
      have HNA:=zh (show∀a,A=some a->0<nn->¬lfoot bl sv rv4 a.block from fun a ha h0 hf=>(HJ.out.na a ha h0).1 (hfo _ hf))
      have hgz:=seg_cell hX4 HSV.out HS.out (j:=6) (by omega)
      have g6:w4.cell? ⟨g,q+i*8+6,none⟩=some (.int .i64 (rs.size:Int)):=hgz.1
      have g6f:=hgz.2
      have r4:w4.cell? ⟨br,1,none⟩=some (.int .i64 (sk:Int)):=hB4.cell 1
      have HX4:=zh hX4;have HB4:=zh hB4;have HBB4:=zh hBB4
      clear ht4 hm4 ho4 hX4 hB4 hBB4 hfo hgz KC r1 hx0 hc3
      go_wp2_with fail
      refine wp_goto ?_
      have hst:=HST1.out
      rw[<- HNU.out]at hst
      have hrb:=HJ.out.back hst ⟨by have:=HSK.out;omega,hat⟩ HSV.out HS.out HX4.out HB4.out HBB4.out HNB.out HNA.out
      refine Or.inl ⟨rfl,⟨br,A,cc,_,f,_,_,_,⟨rfl,rfl,rfl,rfl,rfl,rfl⟩,hrb⟩, ?_⟩
      show nn-atC _ br<nn-atC W br
      rw[HMS.out,atC_eq hrb.blk]
      have:=HSK.out
      dsimp only
      omega
     ·by_cases hx114:x=114
      ·rw[hx114]at KX2
       have h114:((UInt8.toNat 114:Nat):Int)=114:=rfl
       rw[h114]at KX2
       obtain⟨nu,hnu⟩:∃nu,nu=num p 0:=⟨_,rfl⟩
       have HNU:=zh hnu
       have hstep:stepB raw counts rs=match Enc.unframe (raw.drop sk) with | none=>none | some (b,k2)=>if counts<sk+k2 then none else some ⟨rs.c.item (.put nu b),(rs.c.item (.put nu b)).next,sk+k2⟩:=by
        unfold stepB
        rw[HU.out]
        dsimp only
        rw[if_neg HCN.out,if_neg (fun e=>hx99 (by rw[HXH.out];exact e.2)),if_pos ⟨HL9.out,by rw[<- HXH.out];exact hx114⟩,<- HSK.out,hnu]
        cases Enc.unframe (raw.drop sk)<;>rfl
       have HSTEP:=zh hstep
       clear hstep hx99 hx114 hl9 h114 HXH hnu
       go_wp2_with fail
       refine KX2.out.mono ?_
       rintro e w2 ⟨bb,oo,c',rfl,ht2,hb2,hp2,hx0,hn2⟩
       have HT2:=zh ht2;have HB2:=zh hb2
       have r1:w2.cell? ⟨br,1,none⟩=some (.int .i64 (sk:Int)):=hb2.cell 1
       obtain⟨hx2,hB2⟩:=HJ.out.read ht2
       have HX2:=zh hx2;have HBB2:=zh hB2
       have KX3:=zh (rnext_any hb2 hB2 (HJ.out.fm.imp id fun ⟨b,e⟩=>⟨b,0,e⟩) hat (by omega))
       have HP2:=zh hp2;have HN2B:=zh hn2
       clear ht2 hb2 hp2 hn2 KX2 hx2 hB2
       unfold NextEnd at KX3
       cases hu2:Enc.unframe (raw.drop sk) with
       | none=>
        rw[hu2]at KX3 HSTEP
        dsimp only at KX3 HSTEP
        have HST0:=zh (HJ.out.stop HSTEP.out)
        clear hu2
        go_wp2_with fail
        refine KX3.out.mono ?_
        rintro e w3 ⟨rfl,hf3⟩
        have HF3:=zh hf3
        clear hf3 KX3
        go_wp2_with fail
        refine wp_goto ?_
        refine Or.inr ⟨rfl,rfl,R',rv',vs', ?_⟩
        rw[HST0.out]
        exact HX2.out.fresh HF3.out
       | some pk2=>
        obtain⟨bq,k2⟩:=pk2
        rw[hu2]at KX3 HSTEP
        dsimp only at KX3 HSTEP
        obtain⟨hk82,hkl2⟩:=Enc.unframe_le hu2
        rw[List.length_drop]at hkl2
        have hat2:sk+k2<=nn:=by have:=HRLN.out;omega
        clear hu2 hkl2
        obtain⟨sk2,hsk2⟩:∃sk2,sk2=sk+k2:=⟨_,rfl⟩
        have HSK2:=zh hsk2
        rw[<- hsk2]at KX3 HSTEP hat2
        clear hsk2
        by_cases hcn3:counts<sk2
        ·have hstp:=HSTEP.out
         rw[if_pos hcn3]at hstp
         have HST0:=zh (HJ.out.stop hstp)
         have hc3:decide ((counts:Int)<(sk2:Int))=true:=by simp;omega
         have hc4:(counts:Int)<(sk2:Int):=by omega
         clear hstp
         go_wp2_with fail
         refine KX3.out.mono ?_
         rintro e w3 ⟨B3,c3,rfl,ht3,hb3,hp3,hn3⟩
         have HX3:=zh (HX2.out.aside ht3 HJ.out.new HJ.out.nb)
         have r3:w3.cell? ⟨br,1,none⟩=some (.int .i64 (sk2:Int)):=hb3.cell 1
         clear ht3 hb3 hp3 hn3 KX3
         go_wp2_with fail
         refine wp_goto ?_
         refine Or.inr ⟨rfl,rfl,R',rv',vs', ?_⟩
         rw[HST0.out]
         exact HX3.out
        ·have hstp:=HSTEP.out
         rw[if_neg hcn3]at hstp
         have HST1:=zh hstp
         have hn0:=HNI2.out HL9.out (by rw[HST1.out];exact Option.some_ne_none _)
         rw[<- HNU.out]at hn0
         have hc3:decide ((counts:Int)<(sk2:Int))=false:=by simp;omega
         have hc4:¬(counts:Int)<(sk2:Int):=by omega
         clear hstp
         go_upto_region 11 with(go_at_call 121;refine KX3.out.mono ?_;rintro e w3 ⟨B3,c3,rfl,ht3,hb3,hp3,hn3⟩;have r3:w3.cell? ⟨br,1,none⟩=some (.int .i64 (sk2:Int)):=hb3.cell 1;have HT3:=zh ht3;have HB3:=zh hb3;have HQ3:=zh hp3;have HN3:=zh hn3;clear ht3 hb3 hp3 hn3 KX3)
         have hX3:=HX2.out.aside HT3.out HJ.out.new HJ.out.nb
         have HBB3:=zh (HBB2.out.touch HT3.out fun a ha h0 e=>(HJ.out.na a ha h0).2 e)
         have hP3:=HP2.out.touch HT3.out fun a ha h0 e=>by injection ha with ha;subst ha;have h1:=HN2B.out;have h2:=HJ.out.blk.lt;have h3:bb=br:=e;omega
         have HX3:=zh hX3
         have KNU:=zh (show∀V,Fresh w3 V->Calls Tryz.prog 122 #[.slice (some ⟨bb,oo,none⟩) 9 c'] V fun e w'=>Fresh w3 w'/\∃b2 o2 c2,e= .returned (.slice (some ⟨b2,o2,none⟩) 1 c2)/\w'.cell? ⟨b2,o2,none⟩=some (.int .i64 (nu:Int)) from fun V hV=>by
          refine(numbers_any (some ⟨bb,oo,none⟩) c' 1 p V (hP3.fresh hV) (by omega) (by omega) (fun i hi=>by
           have:i=0:=by omega
           subst this
           rw[<- HNU.out]
           omega)).mono ?_
          rintro e w' ⟨hf,B,c2,rfl,hI,_⟩
          obtain⟨b2,o2,rfl,hc⟩:=hI.2.2.2 (by omega)
          refine⟨hV.trans hf fun _ _=>id,b2,o2,c2,rfl, ?_⟩
          have:=hc 0 (nu:Int) (by simp[natsV,numsOf,HNU.out])
          simpa using this)
         have KNX:=zh (show∀V,Fresh w3 V->Calls Tryz.prog 76 #[.pointer (some ⟨bl,0,none⟩)] V fun e w'=>e= .returned (.int .i64 (rs.c.next:Int))/\∃q,w'=V.drewN q from fun V hV=>next_any (hX3.ld.lm.fresh hV) (by dsimp only;omega))
         clear hX3 hP3
         go_cut [117] from 111 to 116 (fun v w5=>v= .bool ((nu:Int) == (rs.c.next:Int))/\Fresh w3 w5)
         case first=>
          go_region_law (first
           | (go_simp;go_at_call 122;refine(KNU.out _ (by first | exact(Touch.refl _ w3).drew | exact(Touch.refl _ w3).drewN _ | exact((Touch.refl _ w3).drew).drewN _ | exact((Touch.refl _ w3).drewN _).drew)).mono ?_;rintro e w4 ⟨hf4,b2,o2,c2,rfl,hc4'⟩;have HF4:=zh hf4;clear hf4)
           | (go_simp;go_at_call 76;refine(KNX.out _ (by first | exact(Touch.refl _ w3).drew | exact HF4.out)).mono ?_;rintro e w6 ⟨rfl,q6,rfl⟩))
          all_goals
           go_wp2_with fail
           go_meet
           case rel=>exact⟨rfl,by first | exact HF4.out | exact HF4.out.drewN _⟩
         case rest=>
          obtain⟨rfl,hf5⟩:=hcut
          have hX5:=HX3.out.fresh hf5
          have hB5:=HB3.out.touch hf5 id
          have hBB5:=HBB3.out.fresh hf5
          by_cases hnx2:nu=rs.c.next
          ·have hq:((nu:Int) == (rs.c.next:Int))=true:=by simp[hnx2]
           have hq2:decide ((nu:Int)=(rs.c.next:Int))=true:=by simp[hnx2]
           have HNX2:=zh hnx2
           obtain⟨n5,hn5⟩:∃n5,n5=rs.c.rows.length:=⟨_,rfl⟩
           have hrow:=hX5.ld.lm.rows
           dsimp only at hrow
           rw[<- hn5]at hrow
           obtain⟨rA,rc,hrv,hrn,hrm,hrA⟩:=hrow.form
           have q4:wc.cell? ⟨bl,4,none⟩=some (.slice rA n5 rc):=by rw[<- hrv];exact hX5.ld.lm.blk.cell 4
           have hn5b:n5<=1000000000:=by rw[hn5];unfold Ct.next at hcn;omega
           have HROW:=zh hrow;have HRV:=zh hrv;have HX5:=zh hX5;have HB5:=zh hB5;have HBB5:=zh hBB5;have HN5:=zh hn5;have HF5:=zh hf5
           have HR6:=zh (show∀(o:Obj) (w6:World),(wc.alloc o).grownBy w6 (Value.slice rA n5 rc).ownBlock->w6.cell? ⟨bl,4,none⟩=some (.slice rA n5 rc)/\w6.frozen? ⟨bl,4,none⟩=false from fun o w6 hg=>by
            rw[<- HRV.out]at hg ⊢
            have h1:=(HX5.out.ld.lm.blk.alloc o).grown hg fun e=>HX5.out.ld.lm.rows.ne_blk HX5.out.ld.lm.blk (by decide) e.symm
            exact⟨h1.cell 4,h1.frozen 4⟩)
           clear hX5 hB5 hBB5 hf5 hn5 hrow hrv hrA hnx2
           go_wp2_with (at_builtin;refine wpList_ow_src _ rfl _ _ 136 136 rfl 29 (.slice none 0 0) 1 24 Tryz.info29 Tryz.underlying136 rfl (.slice rA n5 rc) n5 vs' rfl (by have:=HROW.out.alloc (.cells #[.slice B3 bq.length c3] 29);rw[HRV.out]at this;exact this) (HX5.out.ld.lm.recs.one) (.slice (some ⟨wc.heap.size,0,none⟩) 1 1) 1 [.slice B3 bq.length c3] rfl (by exact slice_new wc (.slice B3 bq.length c3) rfl) (by unfold maxLen;omega) (by omega) ?_;intro B6 c6 w6 o6 g6 b6;have hr6:=HR6.out _ w6 g6;have y55:=hr6.1;have yf55:=hr6.2;clear hr6;have HO6:=zh o6;have HG6:=zh g6;have HB6:=zh b6;clear o6 g6 b6)
           have hbrW:=HJ.out.blk.lt
           have hs2:=HT2.out.size
           have hs3:=HT3.out.size
           have hs5:=HF5.out.size
           have hX7:=HX5.out.push2 (B:=B6) (BC:=B3) (cc:=c3) (c:=c6) (n:=n5) (b:=bq) (l2:={ l with c:=rs.c.add bq,segs:=l.segs.set i { s with last:=rs.last,size:=rs.size } }) HN5.out (Touch.refl _ wc) (HQ3.out.fresh HF5.out) (fun a ha h0=>by
            have h1:=HN3.out a ha h0
            have h2:=HJ.out.lx.tch.size
            refine⟨by omega,fun hs=>by have:=H.out.dk.below _ hs;omega,fun hf=>by have:=HX2.out.ld.lm.lt _ hf;omega⟩) HO6.out (by rw[HRV.out];exact HG6.out) (by rw[HRV.out];exact HB6.out) rfl
           obtain⟨w7,hw7⟩:∃w7,w7=w6.setCell ⟨bl,4,none⟩ (.slice B6 (n5+1) c6):=⟨_,rfl⟩
           rw[<- hw7]at hX7 ⊢
           have hbb:br≠bl:=fun e=>HJ.out.nb bl (.inl (.inl rfl)) e.symm
           have hg6:=HG6.out
           rw[<- HRV.out]at hg6
           have hT7:Touch (·=bl) w6 w7:=by rw[hw7];exact(Touch.refl (·=bl) w6).setCell (p:=⟨bl,4,none⟩) (.inr rfl) _
           have hB7:=((HB5.out.alloc _).grown hg6 fun e=>HX5.out.ld.lm.rows.ne_blk HB5.out (by decide) e.symm).touch hT7 hbb
           have hBB7:Bs w7 A nn cc raw:=by
            refine((HBB5.out.alloc (.cells #[.slice B3 bq.length c3] 29)).keep fun h0 p v hp ⟨a,ha,e⟩=> ?_:Bs w6 A nn cc raw).touch hT7 fun a ha h0 e=>(HJ.out.na a ha h0).1 (.inl e)
            rw[World.cell?_of_block (hg6.block p.block (World.block_lt_of_cell? _ p hp) fun e2=>(HJ.out.na a ha h0).1 (.inr (.inr (by rw[<- e];exact e2.symm))))]
            exact hp
           have hnew:∀k,(Value.slice B6 (n5+1) c6).ownBlock=some k->rv'.ownBlock=some k\/wc.heap.size<=k:=fun k hk=>by
            rcases HB6.out with e | e
            ·rw[<- HRV.out]at e
             exact .inl (e.symm.trans hk)
            ·rw[hk]at e
             injection e with e
             have h1:k=wc.heap.size+1:=by rw[e];exact World.size_alloc _ _
             exact .inr (by omega)
           have HNB:=zh (show∀k,lfoot bl sv (.slice B6 (n5+1) c6) k\/(R' k\/∃a,B3=some a/\0<bq.length/\k=a.block)\/S k->k≠br from fun k hk=>by
            rcases hk with(hk | hk | hk) | (hk | ⟨a,ha,h0,hk⟩) | hk
            ·exact HJ.out.nb k (.inl (.inl hk))
            ·exact HJ.out.nb k (.inl (.inr (.inl hk)))
            ·rcases hnew k hk with h1 | h1
             ·exact HJ.out.nb k (.inl (.inr (.inr h1)))
             ·omega
            ·exact HJ.out.nb k (.inr (.inl hk))
            ·have:=HN3.out a ha h0;omega
            ·exact HJ.out.nb k (.inr (.inr hk)))
           have HNA:=zh (show∀a,A=some a->0<nn->¬lfoot bl sv (.slice B6 (n5+1) c6) a.block from fun a ha h0 hf=>by
            have h1:=(HJ.out.na a ha h0).1
            rcases hf with hf | hf | hf
            ·exact h1 (.inl hf)
            ·exact h1 (.inr (.inl hf))
            ·rcases hnew _ hf with h2 | h2
             ·exact h1 (.inr (.inr h2))
             ·obtain⟨b',o',e,hc⟩:=HJ.out.bs.2.2.2 h0
              have hc0:=World.block_lt_of_cell? _ _ (hc 0 _ (List.getElem?_eq_getElem (show 0<raw.length by have:=HRLN.out;omega)))
              rw[ha]at e
              injection e with e
              rw[e]at h2
              have hc1:b'<W.heap.size:=hc0
              have h3:wc.heap.size<=b':=h2
              omega)
           clear hw7 hg6 hT7 hnew y55 yf55
           have hgz:=seg_cell hX7 HSV.out HS.out (j:=7) (by omega)
           have g7:w7.cell? ⟨g,q+i*8+7,none⟩=some (.int .i64 (rs.last:Int)):=hgz.1
           have g7f:=hgz.2
           have hgz6:=seg_cell hX7 HSV.out HS.out (j:=6) (by omega)
           have hgbr:br≠g:=fun e=>HNB.out g (.inl (.inr (.inl (by rw[HSV.out];rfl)))) e.symm
           have r7:∀qq v,((w7.drewN qq).setCell ⟨g,q+i*8+7,none⟩ v).cell? ⟨br,1,none⟩=some (.int .i64 (sk2:Int)):=fun qq v=>((hB7.drewN qq).far (p:=⟨g,q+i*8+7,none⟩) hgbr v).cell 1
           have g6:∀qq,((w7.drewN qq).setCell ⟨g,q+i*8+7,none⟩ (.int .i64 ((rs.c.add bq).next:Int))).cell? ⟨g,q+i*8+6,none⟩=some (.int .i64 (rs.size:Int))/\((w7.drewN qq).setCell ⟨g,q+i*8+7,none⟩ (.int .i64 ((rs.c.add bq).next:Int))).frozen? ⟨g,q+i*8+6,none⟩=false:=fun qq=>by
            have h1:=seg_last (la:=(rs.c.add bq).next) (hX7.fresh ((Touch.refl _ _).drewN qq)) HSV.out HS.out
            have h2:=seg_cell h1 HSV.out HS.out (j:=6) (by omega)
            exact⟨h2.1,h2.2⟩
           have g6c:=fun qq=>(g6 qq).1
           have g6f:=fun qq=>(g6 qq).2
           have KN7:=zh (next_any hX7.ld.lm (by show (rs.c.add bq).next<= _;rw[Ct.next_add];omega))
           have HX7:=zh hX7;have HB7:=zh hB7;have HBB7:=zh hBB7
           clear hgz hgz6 hX7 hB7 hBB7 g6
           refine KN7.out.mono ?_
           rintro e w8 ⟨rfl,q8,rfl⟩
           clear KN7
           skip
           go_wp2_with fail
           refine wp_goto ?_
           have hst:=HST1.out
           have hit:rs.c.item (.put nu bq)=rs.c.add bq:=by show (if nu=rs.c.next then _ else _)= _;rw[if_pos HNX2.out]
           rw[hit]at hst
           have hx8:=seg_last (la:=(rs.c.add bq).next) (HX7.out.fresh ((Touch.refl _ _).drewN q8)) HSV.out HS.out
           have hTg:Touch (·=g) w7 ((w7.drewN q8).setCell ⟨g,q+i*8+7,none⟩ (.int .i64 ((rs.c.add bq).next:Int))):=((Touch.refl (·=g) w7).drewN q8).setCell (p:=⟨g,q+i*8+7,none⟩) (.inr rfl) _
           have hrb:=HJ.out.back hst ⟨by have:=HSK.out;have:=HSK2.out;omega,hat2⟩ HSV.out HS.out hx8 (HB7.out.touch hTg hgbr) (HBB7.out.touch hTg fun a ha h0 e=>HNA.out a ha h0 (by rw[e];exact .inr (.inl (by rw[HSV.out];rfl)))) HNB.out HNA.out
           refine Or.inl ⟨rfl,⟨br,A,cc,_,f,_,_,_,⟨rfl,rfl,rfl,rfl,rfl,rfl⟩,hrb⟩, ?_⟩
           show nn-atC _ br<nn-atC W br
           rw[HMS.out,atC_eq hrb.blk]
           have:=HSK.out
           have:=HSK2.out
           dsimp only
           omega
          ·have hq:((nu:Int) == (rs.c.next:Int))=false:=by simp;omega
           have hq2:decide ((nu:Int)=(rs.c.next:Int))=false:=by simp;omega
           have HNX2:=zh hnx2
           have hX7:=hX5
           have hB7:=hB5
           have hBB7:=hBB5
           have HNB:=zh HJ.out.nb
           have HNA:=zh (show∀a,A=some a->0<nn->¬lfoot bl sv rv' a.block from fun a ha h0=>(HJ.out.na a ha h0).1)
           clear hX5 hB5 hBB5 hf5
           have hgz:=seg_cell hX7 HSV.out HS.out (j:=7) (by omega)
           have g7:wc.cell? ⟨g,q+i*8+7,none⟩=some (.int .i64 (rs.last:Int)):=hgz.1
           have g7f:=hgz.2
           have hgz6:=seg_cell hX7 HSV.out HS.out (j:=6) (by omega)
           have hgbr:br≠g:=fun e=>HNB.out g (.inl (.inr (.inl (by rw[HSV.out];rfl)))) e.symm
           have r7:∀qq v,((wc.drewN qq).setCell ⟨g,q+i*8+7,none⟩ v).cell? ⟨br,1,none⟩=some (.int .i64 (sk2:Int)):=fun qq v=>((hB7.drewN qq).far (p:=⟨g,q+i*8+7,none⟩) hgbr v).cell 1
           have g6:∀qq,((wc.drewN qq).setCell ⟨g,q+i*8+7,none⟩ (.int .i64 (rs.c.next:Int))).cell? ⟨g,q+i*8+6,none⟩=some (.int .i64 (rs.size:Int))/\((wc.drewN qq).setCell ⟨g,q+i*8+7,none⟩ (.int .i64 (rs.c.next:Int))).frozen? ⟨g,q+i*8+6,none⟩=false:=fun qq=>by
            have h1:=seg_last (la:=rs.c.next) (hX7.fresh ((Touch.refl _ _).drewN qq)) HSV.out HS.out
            have h2:=seg_cell h1 HSV.out HS.out (j:=6) (by omega)
            exact⟨h2.1,h2.2⟩
           have g6c:=fun qq=>(g6 qq).1
           have g6f:=fun qq=>(g6 qq).2
           have KN7:=zh (next_any hX7.ld.lm (by dsimp only[Ct.add,Ct.next];have:=hcn;unfold Ct.next at this;omega))
           have HX7:=zh hX7;have HB7:=zh hB7;have HBB7:=zh hBB7
           clear hgz hgz6 hX7 hB7 hBB7 g6
           go_wp2_with fail
           refine KN7.out.mono ?_
           rintro e w8 ⟨rfl,q8,rfl⟩
           clear KN7
           skip
           go_wp2_with fail
           refine wp_goto ?_
           have hst:=HST1.out
           have hit:rs.c.item (.put nu bq)=rs.c:=by show (if nu=rs.c.next then _ else _)= _;rw[if_neg HNX2.out]
           rw[hit]at hst
           have hx8:=seg_last (la:=rs.c.next) (HX7.out.fresh ((Touch.refl _ _).drewN q8)) HSV.out HS.out
           have hTg:Touch (·=g) wc ((wc.drewN q8).setCell ⟨g,q+i*8+7,none⟩ (.int .i64 (rs.c.next:Int))):=((Touch.refl (·=g) wc).drewN q8).setCell (p:=⟨g,q+i*8+7,none⟩) (.inr rfl) _
           have hrb:=HJ.out.back hst ⟨by have:=HSK.out;have:=HSK2.out;omega,hat2⟩ HSV.out HS.out hx8 (HB7.out.touch hTg hgbr) (HBB7.out.touch hTg fun a ha h0 e=>HNA.out a ha h0 (by rw[e];exact .inr (.inl (by rw[HSV.out];rfl)))) HNB.out HNA.out
           refine Or.inl ⟨rfl,⟨br,A,cc,_,f,_,_,_,⟨rfl,rfl,rfl,rfl,rfl,rfl⟩,hrb⟩, ?_⟩
           show nn-atC _ br<nn-atC W br
           rw[HMS.out,atC_eq hrb.blk]
           have:=HSK.out
           have:=HSK2.out
           dsimp only
           omega
      ·have hst:stepB raw counts rs=some ⟨rs.c,rs.last,sk⟩:=by
        unfold stepB
        rw[HU.out]
        dsimp only
        rw[if_neg HCN.out,if_neg (fun e=>hx99 (by rw[HXH.out];exact e.2)),if_neg (fun e=>hx114 (by rw[HXH.out];exact e.2)),<- HSK.out]
       have HST1:=zh hst
       have hx9n:x.toNat≠99:=fun e=>hx99 (UInt8.toNat_inj.1 (by rw[e];rfl))
       have hx1n:x.toNat≠114:=fun e=>hx114 (UInt8.toNat_inj.1 (by rw[e];rfl))
       clear hst HXH
       generalize x.toNat=xn at*
       have hq1:((xn:Int) == 99)=false:=by simp;omega
       have hq2:((xn:Int) == 114)=false:=by simp;omega
       have hq3:¬(xn:Int)=99:=by omega
       have hq4:¬(xn:Int)=114:=by omega
       clear hx99 hx114 hl9
       go_wp2_with fail
       refine KX2.out.mono ?_
       rintro e w2 ⟨bb,oo,c',rfl,ht2,hb2,hp2,hx0,hn2⟩
       have HT2:=zh ht2;have HB2:=zh hb2
       have r1:w2.cell? ⟨br,1,none⟩=some (.int .i64 (sk:Int)):=hb2.cell 1
       obtain⟨hx2,hB2⟩:=HJ.out.read ht2
       have HX2:=zh hx2;have HBB2:=zh hB2
       have hgz:=seg_cell hx2 HSV.out HS.out (j:=6) (by omega)
       have g6:w2.cell? ⟨g,q+i*8+6,none⟩=some (.int .i64 (rs.size:Int)):=hgz.1
       have g6f:=hgz.2
       clear ht2 hb2 hp2 hn2 KX2 hx2 hB2 hgz
       go_wp2_with fail
       refine wp_goto ?_
       have hrb:=HJ.out.back HST1.out ⟨by have:=HSK.out;omega,hat⟩ HSV.out HS.out HX2.out HB2.out HBB2.out HJ.out.nb (fun a ha h0=>(HJ.out.na a ha h0).1)
       refine Or.inl ⟨rfl,⟨br,A,cc,_,f,_,_,_,⟨rfl,rfl,rfl,rfl,rfl,rfl⟩,hrb⟩, ?_⟩
       show nn-atC _ br<nn-atC W br
       rw[HMS.out,atC_eq hrb.blk]
       have:=HSK.out
       dsimp only
       omega
    ·have hst:stepB raw counts rs=some ⟨rs.c,rs.last,sk⟩:=by
      unfold stepB
      rw[HU.out]
      dsimp only
      rw[if_neg HCN.out,if_neg (fun e=>hl9 e.1),if_neg (fun e=>hl9 e.1),<- HSK.out]
     have HST1:=zh hst
     obtain⟨pl,hpl⟩:∃pl,pl=p.length:=⟨_,rfl⟩
     rw[<- hpl]at KX hl9
     have hq1:((pl:Int) == 9)=false:=by simp;omega
     have hq2:¬(pl:Int)=9:=by omega
     clear hst hpl
     go_wp2_with fail
     refine KX.out.mono ?_
     rintro e w2 ⟨B,c',rfl,ht2,hb2,hp2,hn2⟩
     have HT2:=zh ht2;have HB2:=zh hb2
     have r1:w2.cell? ⟨br,1,none⟩=some (.int .i64 (sk:Int)):=hb2.cell 1
     obtain⟨hx2,hB2⟩:=HJ.out.read ht2
     have HX2:=zh hx2;have HBB2:=zh hB2
     have hgz:=seg_cell hx2 HSV.out HS.out (j:=6) (by omega)
     have g6:w2.cell? ⟨g,q+i*8+6,none⟩=some (.int .i64 (rs.size:Int)):=hgz.1
     have g6f:=hgz.2
     clear ht2 hb2 hp2 hn2 KX hx2 hB2 hgz
     go_wp2_with fail
     refine wp_goto ?_
     have hrb:=HJ.out.back HST1.out ⟨by have:=HSK.out;omega,hat⟩ HSV.out HS.out HX2.out HB2.out HBB2.out HJ.out.nb (fun a ha h0=>(HJ.out.na a ha h0).1)
     refine Or.inl ⟨rfl,⟨br,A,cc,_,f,_,_,_,⟨rfl,rfl,rfl,rfl,rfl,rfl⟩,hrb⟩, ?_⟩
     show nn-atC _ br<nn-atC W br
     rw[HMS.out,atC_eq hrb.blk]
     have:=HSK.out
     dsimp only
     omega
end
end Go.Proofs.YtjehlgblkfofpaaGreat