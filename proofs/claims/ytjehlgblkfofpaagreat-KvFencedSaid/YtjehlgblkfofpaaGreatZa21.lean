/- The claims' texts, several in one: Apw. Conditions stand with each theorem. -/
import Derived.Test.YtjehlgblkfofpaaGreatZa20
import Derived.Deep.CutRange
import Derived.Deep.RegionLaw
import Derived.Deep.RegionHeld3
set_option maxHeartbeats 16000000
set_option maxRecDepth 200000
namespace Go.Proofs.YtjehlgblkfofpaaGreat
open Go.RowKit
attribute [local go_sem] Oper.semAt_some
section
variable {w w':World}{bl bd:Nat}{R S:Nat->Prop}{l:Lg}{sv rv:Value}{vs:List Value}{d:Dk}{K:Nat}
def ApdEnd(w:World)(bl bd:Nat)(R S:Nat->Prop)(l:Lg)(sv rv:Value)(d:Dk)(xs:List UInt8)(e:Ending)(w':World):Prop:=
 e= .returned (.tuple #[.int .i64 ((appendP d l xs).2.2.1:Int), .int .i64 (appendP d l xs).2.2.2])/\LB w w' bl bd S R sv rv (appendP d l xs).2.1 (appendP d l xs).1
def ApSn(wc w6:World)(bl:Nat)(rA:Option Addr)(n rc:Nat)(vs:List Value)(b:List UInt8):Prop:=∃(BC B:Option Addr) (cc c:Nat) (w5 w55:World) (o:Obj),Fresh wc w5/\Bs w5 BC b.length cc b/\(∀a,BC=some a->wc.heap.size<=a.block)/\
 Ow w55 29 1 (.slice B (n+1) c) (n+1) (vs++ [.slice BC b.length cc])/\(w5.alloc o).grownBy w55 (Value.slice rA n rc).ownBlock/\
 ((Value.slice B (n+1) c).ownBlock=(Value.slice rA n rc).ownBlock\/(Value.slice B (n+1) c).ownBlock=some (w5.alloc o).heap.size)/\w6=w55.setCell ⟨bl,4,none⟩ (.slice B (n+1) c)
theorem lappend_any(h:LD w bl bd S R l d sv rv vs){A:Option Addr}{m cA:Nat}{xs:List UInt8}(hx:Bs w A m cA xs)(hxb:∀a,A=some a->0<m->¬lfoot bl sv rv a.block/\¬S a.block/\a.block<w.heap.size)(hb:BegB l d K l.c.first l.c.next (m+25))(hn:l.segs.length<1024)(hm:m<=1048576):
  Calls Tryz.prog 44 #[.pointer (some ⟨bl,0,none⟩), .slice A m cA] w (ApdEnd w bl bd R S l sv rv d xs):=by
 have hxl:xs.length=m:=hx.1
 have hm1:¬(1048576:Int)<(m:Int):=by omega
 have hm2:decide ((1048576:Int)<(m:Int))=false:=by simp;omega
 have hm3:¬ 1048576<m:=by omega
 obtain⟨en,hen⟩:∃en,en=(It.put l.c.next xs).enc:=⟨_,rfl⟩
 have henl:en.length=m+25:=by rw[hen,enc_len_put,hxl]
 have hnx:l.c.next<=1000000000:=hb.lnext
 have KN:=zh (next_any h.lm hnx)
 have KF:=zh (show∀W,Fresh w W->Calls Tryz.prog 78 #[.int .i64 (l.c.next:Int), .slice A m cA] W fun e w'=>Fresh w w'/\∃g c',e= .returned (.slice (some ⟨g,0,none⟩) (m+25) c')/\w.heap.size<=g/\Bs w' (some ⟨g,0,none⟩) (m+25) c' en from fun W hW=>by
  refine(framed_any l.c.next (by omega) A m cA xs W (hx.fresh hW) (by omega)).mono ?_
  rintro e w' ⟨hf,g,c',rfl,hg,hbs⟩
  rw[<- hen,henl]at hbs ⊢
  exact⟨hW.trans hf fun _ _=>id,g,c',rfl,Nat.le_trans hW.size hg,hbs⟩)
 have KW:=zh (show∀W g c',Fresh w W->w.heap.size<=g->Bs W (some ⟨g,0,none⟩) (m+25) c' en->Calls Tryz.prog 77 #[.pointer (some ⟨bl,0,none⟩), .slice (some ⟨g,0,none⟩) (m+25) c'] W (WriEnd W bl bd R S l sv rv d en) from fun W g c' hW hg hbs=>
  lwrite_any (h.fresh hW) hbs (fun a ha h0=>by
   injection ha with ha
   subst ha
   refine⟨fun hf=>by have h1:=h.lm.lt _ hf;have h2:g<w.heap.size:=h1;omega,fun hs=>by have h1:=h.dk.below _ hs;have h2:g<w.heap.size:=h1;omega, ?_⟩
   obtain⟨b,o,e,hc⟩:=hbs.2.2.2 h0
   injection e with e
   injection e with e _
   subst e
   have hc0:=World.block_lt_of_cell? _ _ (hc 0 _ (List.getElem?_eq_getElem (show 0<en.length by omega)))
   exact hc0) hb hn)
 have H:=zh h;have HX:=zh hx;have HXB:=zh hxb;have HB:=zh hb;have HEN:=zh hen;have HENL:=zh henl;have HXL:=zh hxl
 obtain⟨d4,hd4⟩:∃d4,d4=(writeP d l en).1:=⟨_,rfl⟩
 obtain⟨l4,hl4⟩:∃l4,l4=(writeP d l en).2.1:=⟨_,rfl⟩
 have HD4:=zh hd4;have HL4:=zh hl4
 have KW2:=zh (show∀W g c',Fresh w W->w.heap.size<=g->Bs W (some ⟨g,0,none⟩) (m+25) c' en->Calls Tryz.prog 77 #[.pointer (some ⟨bl,0,none⟩), .slice (some ⟨g,0,none⟩) (m+25) c'] W fun e w'=>e= .returned (.int .i64 (writeP d l en).2.2)/\LB w w' bl bd S R sv rv l4 d4 from fun W g c' hW hg hbs=>by
  refine(KW.out W g c' hW hg hbs).mono ?_
  rintro e w' ⟨rfl,hlb⟩
  rw[<- hd4,<- hl4]at hlb
  exact⟨rfl,(H.out.same.fresh hW).lb hlb⟩)
 have HAP:=zh (show appendP d l xs=if (writeP d l en).2.2≠0 then (d4,l4,0,(writeP d l en).2.2) else ((tidyP l.c.first d4 (setLast l4.segs (l.c.next+1))).1,{ l4 with c:=l.c.add xs,segs:=(tidyP l.c.first d4 (setLast l4.segs (l.c.next+1))).2 },l.c.next,0) by
  rw[hd4,hl4,hen]
  unfold appendP
  rw[if_neg (by omega)])
 clear h hx hxb hb hen henl hxl KW hd4 hl4
 by_cases hw:(writeP d l en).2.2=0
 ·have HW:=zh hw
  rw[hw]at KW2 HAP
  clear hw
  go_enter Tryz.func44,Tryz.ntmps44
  go_wp2_with fail
  refine KN.out.mono ?_
  rintro e w2 ⟨rfl,q,rfl⟩
  go_wp2_with fail
  refine(KF.out _ ((Touch.refl _ w).drewN q)).mono ?_
  rintro e w3 ⟨hf3,g3,c3,rfl,hg3,hbs3⟩
  have KW3:=zh (KW2.out w3 g3 c3 hf3 hg3 hbs3)
  clear hf3 hg3 hbs3 KW2 KF KN
  go_wp2_with fail
  obtain⟨s0,s,hs4,hs5,hs6⟩:=write_segs HW.out
  rw[<- HL4.out]at hs4
  have hc4:l4.c=l.c:=by rw[HL4.out];exact write_c _ _ _
  have HS4:=zh hs4;have HS5:=zh hs5;have HS6:=zh hs6;have HC4:=zh hc4
  clear hs4 hs5 hs6 hc4
  go_upto_region 8 with(go_at_call 77;refine KW3.out.mono ?_;rintro e w4 ⟨rfl,hlb⟩;have HLB:=zh hlb;clear hlb KW3)
  obtain⟨S4,R4,sv4,rv4,vs4,hX4⟩:=HLB.out
  have HX4:=zh hX4
  obtain⟨n,hn⟩:∃n,n=l4.c.rows.length:=⟨_,rfl⟩
  have hrow:=hX4.ld.lm.rows
  rw[<- hn]at hrow
  obtain⟨rA,rc,hrv,hrn,hrm,hrA⟩:=hrow.form
  have HROW:=zh hrow;have HRV:=zh hrv;have HN:=zh hn
  have hB4:Bs w4 A m cA xs:=(HX.out).touch hX4.tch fun a ha h0 hf=>hf.elim (HXB.out a ha h0).1 (HXB.out a ha h0).2.1
  have KC:=zh (show∀W,Fresh w4 W->Calls Tryz.prog 79 #[.slice A m cA] W fun e w'=>Fresh w4 w'/\∃B c',e= .returned (.slice B m c')/\Bs w' B m c' xs/\∀a,B=some a->w4.heap.size<=a.block from fun W hW=>by
   refine(clone_any A m cA xs W (hB4.fresh hW) (by omega)).mono ?_
   rintro e w' ⟨hf,B,c',rfl,hr,hb⟩
   exact⟨hW.trans hf fun _ _=>id,B,c',rfl,hr.bs,fun a ha=>Nat.le_trans hW.size (hb a ha)⟩)
  have q4:w4.cell? ⟨bl,4,none⟩=some (.slice rA n rc):=by rw[<- hrv];exact hX4.ld.lm.blk.cell 4
  have HQ4:=zh q4
  have hnn:n<=1000000000:=by have:=HB.out.lnext;unfold Ct.next at this;have h2:=HN.out;rw[HC4.out]at h2;omega
  have HR5:=zh (show∀(w5:World) (o:Obj) (w55:World),Fresh w4 w5->(w5.alloc o).grownBy w55 (Value.slice rA n rc).ownBlock->w55.cell? ⟨bl,4,none⟩=some (.slice rA n rc)/\w55.frozen? ⟨bl,4,none⟩=false from fun w5 o w55 hf hg=>by
   rw[<- HRV.out]at hg ⊢
   have h1:=((HX4.out.ld.lm.blk.touch hf id).alloc o).grown hg fun e=>HX4.out.ld.lm.rows.ne_blk HX4.out.ld.lm.blk (by decide) e.symm
   exact⟨h1.cell 4,h1.frozen 4⟩)
  clear hX4 hrow hrv hn hB4 hrA
  go_cut [] from 24 to 34 (fun w6=>ApSn w4 w6 bl rA n rc vs4 xs)
  case first=>
   go_region_law (first
    | (refine step_ow_src _ rfl _ _ 136 136 rfl 29 (.slice none 0 0) 1 24 Tryz.info29 Tryz.underlying136 rfl (.slice rA n rc) n vs4 rfl (by have:=(HROW.out.fresh HF5.out).alloc (.cells #[.slice BC m cc] 29);rw[HRV.out]at this;exact this) (HX4.out.ld.lm.recs.one) (.slice (some ⟨w5.heap.size,0,none⟩) 1 1) 1 [.slice BC m cc] rfl (by exact slice_new w5 (.slice BC m cc) rfl) (by unfold maxLen;omega) (by omega) ?_;intro B6 c6 w6 o6 g6 b6;have hr5:=HR5.out w5 _ w6 HF5.out g6;have y55:=hr5.1;have yf55:=hr5.2;clear hr5;have HO6:=zh o6;have HG6:=zh g6;have HB6:=zh b6;clear o6 g6 b6)
    | (go_simp;go_at_call 79;refine(KC.out _ ((Touch.refl _ w4).drew)).mono ?_;rintro e w5 ⟨hf5,BC,cc,rfl,hbs5,hbn5⟩;have y5:=hf5.cell q4 id;have ya:∀o,(w5.alloc o).cell? ⟨bl,4,none⟩=some (.slice rA n rc):=fun o=>(hf5.alloc o).cell q4 id;have HF5:=zh hf5;have HBS5:=zh hbs5;have HBN5:=zh hbn5;clear hf5 hbs5 hbn5))
   all_goals
    go_wp2_with fail
    go_meet
    case rel=>exact⟨BC,B6,cc,c6,w5,w6,_,HF5.out,by rw[HXL.out];exact HBS5.out,HBN5.out,by rw[HXL.out];exact HO6.out,HG6.out,HB6.out,rfl⟩
  case rest=>
   obtain⟨BC,B6,cc,c6,w5,w55,o5,hf5,hbs5,hbn5,ho6,hg6,hb6,hw6⟩:=hcut
   have hpush:=HX4.out.push (B:=B6) (BC:=BC) (cc:=cc) (c:=c6) (n:=n) (b:=xs) (l2:={ l4 with c:=l4.c.add xs }) HN.out hf5 hbs5 hbn5 ho6 (by rw[HRV.out];exact hg6) (by rw[HRV.out];exact hb6) rfl
   rw[<- hw6]at hpush
   obtain⟨R6,hX6⟩:=hpush
   obtain⟨vs6,hvs6⟩:∃vs6,vs6=vs4++ [Value.slice BC xs.length cc]:=⟨_,rfl⟩
   obtain⟨rv6,hrv6⟩:∃rv6,rv6=Value.slice B6 (n+1) c6:=⟨_,rfl⟩
   rw[<- hvs6,<- hrv6]at hX6
   obtain⟨sA,sc,hsv,hsn,hsm,hsA⟩:=hX6.ld.lm.segs.form
   dsimp only at hsv hsn hsA
   obtain⟨k,hk⟩:∃k,k=s0.length:=⟨_,rfl⟩
   obtain⟨L,hL⟩:∃L,L=l4.segs.length:=⟨_,rfl⟩
   have hlen:L=k+1:=by rw[hL,HS4.out,hk];simp
   rw[<- hL]at hsv hsn hsA
   obtain⟨g,o,rfl⟩:∃g o,sA=some ⟨g,o*8,none⟩:=by
    rcases hsA with⟨_,h2,_⟩ | ⟨g,o,e⟩
    ·omega
    ·exact⟨g,_,e⟩
   rw[hsv]at hX6
   have hgs:l4.segs[k]? =some s:=by rw[HS4.out,hk,List.getElem?_append_right (Nat.le_refl _),Nat.sub_self];rfl
   have hsg:=hX6.ld.lm.segs
   dsimp only at hsg
   rw[<- hL]at hsg
   have v2:wc.cell? ⟨bl,2,none⟩=some (.slice (some ⟨g,o*8,none⟩) L sc):=hX6.ld.lm.blk.cell 2
   have g7c:wc.cell? ⟨g,o*8+k*8+7,none⟩=some (.int .i64 (s.last:Int)):=by
    rw[Nat.add_assoc,hsg.cell (j:=k*8+7) (by omega),segsC_get _ _ hgs (by omega)]
    rfl
   have g7f:wc.frozen? ⟨g,o*8+k*8+7,none⟩=false:=hsg.frozen _
   have hgb:¬g=bl:=fun e=>hX6.ld.lm.segs.ne_blk hX6.ld.lm.blk (by decide) (by rw[<- e];rfl)
   have hk1:L<=1025:=by have h1:=HS5.out;rw[<- HS4.out]at h1;omega
   have hwk:IntKind.i64.wrap ((L:Int)-1)=(k:Int):=by rw[IntWalk.i64_in _ (by omega)];omega
   have hwn:IntKind.i64.wrap ((l.c.next:Int)+1)=(l.c.next:Int)+1:=IntWalk.i64_in _ (by omega)
   have hki:(k:Int)<(L:Int):=by omega
   have HX6:=zh hX6;have HGS:=zh hgs;have HK:=zh hk;have HSN:=zh hlen;have HL:=zh hL
   clear hf5 hbs5 hbn5 ho6 hg6 hb6 hw6 hX6 hsv hsA hgs hsg hvs6 hrv6 hsn hk hlen q4 hL
   go_wp2_with fail
   go_region_held3 (fun W=>W.cell? ⟨bl,2,none⟩=some (.slice (some ⟨g,o*8,none⟩) L sc)) (go_keep) (first | fail)
   go_wp2_with fail
   have h7:=(HX6.out.seg (k:=k) (j:=7) (s:=s) (s':={ s with last:=l.c.next+1 }) (u:= .int .i64 ((l.c.next:Int)+1)) HGS.out (by omega) (by simp[segC]) rfl).fresh ((Touch.refl _ _).drew)
   dsimp only at h7
   rw[<- Nat.add_assoc]at h7
   obtain⟨w7,hw7⟩:∃w7,w7=(wc.setCell ⟨g,o*8+k*8+7,none⟩ (.int .i64 ((l.c.next:Int)+1))).drew:=⟨_,rfl⟩
   rw[<- hw7]at h7 ⊢
   have hset:l4.segs.set k { s with last:=l.c.next+1 }=setLast l4.segs (l.c.next+1):=by
    rw[HS4.out,HK.out,setLast_snoc,List.set_append,if_neg (Nat.lt_irrefl _),Nat.sub_self]
    rfl
   rw[hset]at h7
   have hsml:(setLast l4.segs (l.c.next+1)).length=L:=by rw[<- hset,List.length_set,HL.out]
   have hus:=(write_use d l en).1
   rw[<- HD4.out,HENL.out]at hus
   have hfree:freeP (usedN d.fs l.base l.segs) l.base<=200000000:=by
    have h1:=(freeP_spec (usedN d.fs l.base l.segs) l.base).2.1
    have h2:(usedN d.fs l.base l.segs).length<=1000000:=by
     unfold usedN
     rw[List.length_append,List.length_map,List.length_map]
     have h3:=List.length_filter_le (inR l.base) d.fs
     have h4:=HB.out.n
     omega
    have h3:=HB.out.base
    omega
   have hfile:∀x∈setLast l4.segs (l.c.next+1),x.file<9223372036854775808:=fun x hx=>by
    have hx2:∃y∈s0++ [s],x.file=y.file:=by
     rw[HS4.out,setLast_snoc]at hx
     rcases List.mem_append.1 hx with hx | hx
     ·exact⟨x,List.mem_append_left _ hx,rfl⟩
     ·rw[List.mem_singleton]at hx
      exact⟨s,by simp,by rw[hx]⟩
    obtain⟨y,hy,hye⟩:=hx2
    rcases HS6.out y hy with⟨z,hz,hze⟩ | hze
    ·have:=(HB.out.seg z hz).1
     omega
    ·omega
   have KT:=zh (tidy_any h7.ld (use_small hus HB.out.sm) (by dsimp only;rw[hsml];have:=HB.out.K;omega) hfile)
   have H7:=zh h7
   clear h7 hw7 hset hsml hus hfree hfile v2 g7c g7f
   refine KT.out.mono ?_
   rintro e w8 ⟨rfl,S8,sv8,h8⟩
   have HX8:=zh (H7.out.trans h8)
   clear h8 KT
   go_wp2_with fail
   go_ret2
   have hap:=HAP.out
   rw[if_neg (by simp)]at hap
   unfold ApdEnd
   rw[hap]
   have h9:=HX8.out
   rw[HC4.out]at h9
   exact⟨rfl,_,_,_,_,_,h9⟩
 ·have hw2:¬(writeP d l en).2.2=0:=hw
  clear hw
  generalize (writeP d l en).2.2=y at*
  go_enter Tryz.func44,Tryz.ntmps44
  go_wp2_with fail
  refine KN.out.mono ?_
  rintro e w2 ⟨rfl,q,rfl⟩
  go_wp2_with fail
  refine(KF.out _ ((Touch.refl _ w).drewN q)).mono ?_
  rintro e w3 ⟨hf3,g3,c3,rfl,hg3,hbs3⟩
  have KW3:=zh (KW2.out w3 g3 c3 hf3 hg3 hbs3)
  clear hf3 hg3 hbs3 KW2 KF KN
  go_wp2_with fail
  refine KW3.out.mono ?_
  rintro e w4 ⟨rfl,hlb⟩
  have HLB:=zh hlb
  clear hlb KW3
  go_wp2_with fail
  go_ret2
  have hap:=HAP.out
  rw[if_pos hw2]at hap
  unfold ApdEnd
  rw[hap]
  exact⟨rfl,HLB.out⟩
end
end Go.Proofs.YtjehlgblkfofpaaGreat