/- The claims' texts, several in one: Beg, Wri, Apd, Scp, Psh. Conditions stand with each theorem. -/
import Derived.Test.YtjehlgblkfofpaaGreatZa18
import Derived.Deep.CutRange
import Derived.Deep.RegionHeld3
import Derived.Deep.RegionLaw
import Derived.ScopeJumps
set_option maxHeartbeats 16000000
set_option maxRecDepth 200000
namespace Go.Proofs.YtjehlgblkfofpaaGreat
open Go.RowKit
attribute [local go_sem] Oper.semAt_some
def hdC(a b f n:Nat):Array Value:= #[.int .i64 (a:Int), .int .i64 (b:Int), .int .i64 (f:Int), .int .i64 (n:Int)]
section
variable {w:World}{bl bd:Nat}{R S:Nat->Prop}{l:Lg}{sv rv:Value}{vs:List Value}{d:Dk}{K:Nat}
structure BegB(l:Lg)(d:Dk)(K first next m:Nat):Prop where
 sm:d.small K
 K:K+d.fs.length<=300000000
 n:l.segs.length+d.fs.length<=1000000
 base:l.base<=100000000
 seg:∀s∈l.segs,s.file<=1000000000/\s.number<=1000000000/\s.size<=1000000000
 first:first<=1000000000
 next:next<=1000000000
 lnext:l.c.next<=1000000000
 m:m<=300000000
def begL(d:Dk)(l:Lg)(whole:Bool)(first next:Nat)(xs:List UInt8):Lg:=
 if (beginP d l whole first next xs).2.2=0 then
  { l with segs:=(if whole=true then l.segs.map fun s=>{ s with last:=first } else l.segs)++ [⟨numOf l.segs,aheadOf l.segs,first,next,false,freeP (usedN d.fs l.base l.segs) l.base,(headB whole (numOf l.segs) (aheadOf l.segs) first next xs++xs).length,l.c.next⟩],failed:=false,dirty:=false }
 else { l with failed:=true,dirty:=true }
def BegEnd(w:World)(bl bd:Nat)(R S:Nat->Prop)(l:Lg)(sv rv:Value)(d:Dk)(whole:Bool)(first next:Nat)(xs:List UInt8)(e:Ending)(w':World):Prop:=
 e= .returned (.int .i64 (beginP d l whole first next xs).2.2)/\LB w w' bl bd S R sv rv (begL d l whole first next xs) (beginP d l whole first next xs).1
theorem more_self_:more S w w=S:=by
 funext k
 refine propext ⟨?_, .inl⟩
 rintro(h | h)
 ·exact h
 ·omega
def kindU(whole:Bool):UInt8:=if whole=true then 119 else 104
theorem ints_lit(w:World)(l:List Nat)(cs:Array Value)(h:cs=((natsV l).map fun x=>Value.int .i64 x).toArray)(hl:l.length<=1000):IsInts (w.alloc (.cells cs 3)) (some ⟨w.heap.size,0,none⟩) l.length l.length (natsV l):=
 ⟨by simp[natsV],Nat.le_refl _,by unfold maxLen;omega,fun _=>⟨w.heap.size,0,rfl,fun j x hx=>by
  have hb:=Blk.new w 3 cs
  rw[Nat.zero_add,hb.cell j,h,List.getElem?_toArray,List.getElem?_map,hx]
  rfl⟩⟩
theorem IsInts.drew{w:World}{A:Option Addr}{n c:Nat}{xs:List Int}(h:IsInts w A n c xs):IsInts w.drew A n c xs:=h
theorem Tryz.underlying135:Tryz.prog.underlying 135=some (.slice 145):=by kernel_rfl
theorem segC_one(s:Seg):∀u∈segC s,u.oneCell'=true:=by
 intro u hu
 simp only[segC,List.mem_cons,List.not_mem_nil,or_false]at hu
 rcases hu with rfl | rfl | rfl | rfl | rfl | rfl | rfl | rfl<;>rfl
theorem seg_new(w:World)(s:Seg):Src Tryz.prog 8 135 (.slice (some ⟨w.heap.size,0,none⟩) 1 1) 1 (segC s) (w.alloc (.cells (segC s).toArray 145)):=by
 refine Src.ofSlice _ Tryz.underlying135 _ _ _ _ (segC_len s) (fun j u hu=> ?_) (segC_one s)
 have hb:=Blk.new w 145 (segC s).toArray
 rw[add_flat,Nat.zero_add,hb.cell j,List.getElem?_toArray]
 exact hu
theorem LX.aside{w' w'':World}{S' R':Nat->Prop}{l':Lg}{d':Dk}{sv' rv':Value}{vs':List Value}{p:Nat}(h:LX w w' bl bd S R sv rv l' d' S' R' sv' rv' vs')(ht:Touch (·=p) w' w'')(hp:w.heap.size<=p)(hn:∀k,lfoot bl sv' rv' k\/R' k\/S' k->k≠p):LX w w'' bl bd S R sv rv l' d' S' R' sv' rv' vs':=
 ⟨⟨h.ld.lm.touch ht fun k hk=>hn k (hk.elim .inl fun e=> .inr (.inl e)),h.ld.dk.touch ht fun k hk=>hn k (.inr (.inr hk)),h.ld.dis,h.ld.nR,fun k hk=>Nat.lt_of_lt_of_le (h.ld.Rlt k hk) ht.size⟩,h.tch.trans ht fun k hk e=>by omega,h.sS,h.sR,h.sF⟩
theorem lstrange_len(fs:List Fl)(base:Nat)(segs:List Seg):(strangeN fs base segs).length<=fs.length:=by
 unfold strangeN
 rw[List.length_map]
 exact List.length_filter_le _ _
theorem strange_wf(hD:Disk w S bd d){base:Nat}{segs:List Seg}:∀n∈strangeN d.fs base segs,(Lit.int .i64 n).wf=true:=fun n hn=>by
 obtain⟨f,hf,rfl⟩:=List.mem_map.1 (strangeN_mem hn)
 exact(hD.good.1 f hf).2.2
theorem begin_del{whole:Bool}{first next:Nat}{xs:List UInt8}(h:(delAll d (strangeN d.fs l.base l.segs)).2≠0):beginP d l whole first next xs=((delAll d (strangeN d.fs l.base l.segs)).1,{ l with failed:=true,dirty:=true },(delAll d (strangeN d.fs l.base l.segs)).2):=by
 unfold beginP
 rw[if_pos h]
theorem num_le{segs:List Seg}(h:∀s∈segs,s.number<=1000000000/\s.size<=1000000000):numOf segs<=1000000001/\aheadOf segs<=1000000000:=by
 unfold numOf aheadOf
 cases hl:segs.getLast? with
 | none=>exact⟨by show 1<= _;omega,by show 0<= _;omega⟩
 | some s=>
  have:=h s (List.mem_of_getLast? hl)
  exact⟨by show s.number+1<= _;omega,this.2⟩
theorem begin_lay{whole:Bool}{first next:Nat}{xs:List UInt8}{d' d8:Dk}{y:Int}(h:delAll d (strangeN d.fs l.base l.segs)=(d',0))(h2:layP d' (freeP (usedN d.fs l.base l.segs) l.base:Nat) (headB whole (numOf l.segs) (aheadOf l.segs) first next xs++xs)=(d8,y))(hy:¬y=0):
  beginP d l whole first next xs=(d8,{ l with failed:=true,dirty:=true },y):=by
 unfold beginP
 rw[h]
 dsimp only
 rw[if_neg (by simp),h2]
 dsimp only
 rw[if_pos hy]
def HX8G(w w7:World)(bl bd:Nat)(S R:Nat->Prop)(sv rv:Value)(l1:Lg)(d8:Dk)(S3:Nat->Prop)(vs:List Value)(p:Nat)(cs:Array Value):Prop:=
 ∀w8,Touch S3 w7 w8->Disk w8 (more S3 w7 w8) bd d8->LX w w8 bl bd S R sv rv l1 d8 (more S3 w7 w8) R sv rv vs/\Blk w8 p 143 cs
def BegSn(wc w12:World)(bl:Nat)(sA:Option Addr)(n sc:Nat)(segs1:List Seg)(sg:Seg):Prop:=∃(B11:Option Addr) (c11:Nat) (w10 w11:World) (o:Obj),Fresh wc w10/\Ow w11 145 8 (.slice B11 (n+1) c11) (n+1) (segsC segs1++segC sg)/\(w10.alloc o).grownBy w11 (Value.slice sA n sc).ownBlock/\
 ((Value.slice B11 (n+1) c11).ownBlock=(Value.slice sA n sc).ownBlock\/(Value.slice B11 (n+1) c11).ownBlock=some (w10.alloc o).heap.size)/\w12=w11.setCell ⟨bl,2,none⟩ (.slice B11 (n+1) c11)
theorem beg_end{whole:Bool}{first next:Nat}{xs hd:List UInt8}{st:List Int}{d' d8:Dk}{fr nu ah m:Nat}{l1:Lg}{segs1:List Seg}{S8:Nat->Prop}{w9 w10 w11:World}{sA B11:Option Addr}{sc c11:Nat}{o:Obj}
  (hst:st=strangeN d.fs l.base l.segs) (hdel:delAll d st=(d',0)) (hfr:fr=freeP (usedN d.fs l.base l.segs) l.base) (hhb:headB whole nu ah first next xs=hd) (hnu:nu=numOf l.segs) (hah:ah=aheadOf l.segs)
  (hd8:d8=(layP d' (fr:Int) (hd++xs)).1) (hw:(layP d' (fr:Int) (hd++xs)).2=0) (hl1:l1={ l with failed:=true,dirty:=true }) (hs1:segs1=if whole=true then l.segs.map (fun s=>{ s with last:=first }) else l.segs)
  (hx:LX w w9 bl bd S R sv rv { l1 with segs:=segs1 } d8 S8 R sv rv vs) (hsv:sv= .slice sA l.segs.length sc) (hsl:segs1.length=l.segs.length) (hf:Fresh w9 w10)
  (ho:Ow w11 145 8 (.slice B11 (l.segs.length+1) c11) (l.segs.length+1) (segsC segs1++segC ⟨numOf l.segs,aheadOf l.segs,first,next,false,fr,hd.length+m,l.c.next⟩)) (hg:(w10.alloc o).grownBy w11 (Value.slice sA l.segs.length sc).ownBlock)
  (hb:(Value.slice B11 (l.segs.length+1) c11).ownBlock=(Value.slice sA l.segs.length sc).ownBlock\/(Value.slice B11 (l.segs.length+1) c11).ownBlock=some (w10.alloc o).heap.size) (hal:(hd++xs).length=hd.length+m):
  BegEnd w bl bd R S l sv rv d whole first next xs (.returned (.int .i64 0)) (((w11.setCell ⟨bl,2,none⟩ (.slice B11 (l.segs.length+1) c11)).setCell ⟨bl,6,none⟩ (.bool false)).setCell ⟨bl,5,none⟩ (.bool false)):=by
 have hP:(beginP d l whole first next xs).2.2=0/\(beginP d l whole first next xs).1=d8:=by
  have h2:layP d' (freeP (usedN d.fs l.base l.segs) l.base:Nat) (headB whole (numOf l.segs) (aheadOf l.segs) first next xs++xs)=(d8,0):=by
   rw[<- hnu,<- hah,hhb,<- hfr,hd8,<- hw]
  rw[hst]at hdel
  unfold beginP
  rw[hdel]
  dsimp only
  rw[if_neg (by simp),h2]
  dsimp only
  rw[if_neg (by simp)]
  exact⟨rfl,rfl⟩
 have hx1:=hx.snoc (s:=⟨numOf l.segs,aheadOf l.segs,first,next,false,fr,hd.length+m,l.c.next⟩) (c:=c11) (B:=B11) (by dsimp only;rw[hsl];exact ho) (hf.alloc o) (by rw[hsv];exact hg) (by dsimp only;rw[hsl,hsv];exact hb) rfl
 dsimp only at hx1
 rw[hsl]at hx1
 obtain⟨W1,hW1⟩:∃W1,W1=w11.setCell ⟨bl,2,none⟩ (.slice B11 (l.segs.length+1) c11):=⟨_,rfl⟩
 rw[<- hW1]at hx1 ⊢
 refine⟨by rw[hP.1], ?_⟩
 rw[hP.2]
 unfold begL
 rw[if_pos hP.1,<- hfr,<- hnu,<- hah,hhb,hal,<- hs1,hnu,hah]
 refine⟨_,_,_,_,_,hx1.block (((Touch.refl (·=bl) W1).setCell (p:=⟨bl,6,none⟩) (.inr rfl) _).setCell (p:=⟨bl,5,none⟩) (.inr rfl) _) rfl (by rw[hl1]) ?_⟩
 have:=(hx1.ld.lm.blk.set_ 6 (.bool false)).set_ 5 (.bool false)
 rw[hl1]at this
 simpa using this
theorem lbegin_any(h:LD w bl bd S R l d sv rv vs)(whole:Bool)(first next:Nat){A:Option Addr}{m cA:Nat}{xs:List UInt8}(hx:Bs w A m cA xs)(hxb:∀a,A=some a->0<m->¬lfoot bl sv rv a.block/\¬S a.block/\a.block<w.heap.size)(hb:BegB l d K first next m):
  Calls Tryz.prog 112 #[.pointer (some ⟨bl,0,none⟩), .int .u8 ((kindU whole).toNat:Int), .agg #[.int .i64 0, .int .i64 0, .int .i64 (first:Int), .int .i64 (next:Int)], .slice A m cA] w (BegEnd w bl bd R S l sv rv d whole first next xs):=by
 obtain⟨l1,hl1⟩:∃l1:Lg,l1={ l with failed:=true,dirty:=true }:=⟨_,rfl⟩
 obtain⟨wa,hwa⟩:∃wa,wa=w.alloc (.cells (hdC 0 0 first next) 143):=⟨_,rfl⟩
 have hfa:Fresh w wa:=by rw[hwa];exact(Touch.refl _ w).alloc _
 have hba:=h.lm.blk.touch hfa id
 obtain⟨w1,hw1⟩:∃w1,w1=(wa.setCell ⟨bl,6,none⟩ (.bool true)).setCell ⟨bl,5,none⟩ (.bool true):=⟨_,rfl⟩
 have hT1:Touch (·=bl) wa w1:=by rw[hw1];exact((Touch.refl (·=bl) wa).setCell (p:=⟨bl,6,none⟩) (.inr rfl) _).setCell (p:=⟨bl,5,none⟩) (.inr rfl) _
 have hX1:LX w w1 bl bd S R sv rv l1 d S R sv rv vs:=(h.same.fresh hfa).block hT1 (by rw[hl1]) (by rw[hl1]) (by
  have:=(hba.set_ 6 (.bool true)).set_ 5 (.bool true)
  rw[<- hw1]at this
  rw[hl1]
  simpa using this)
 have hbn:bl<w.heap.size:=h.lm.blk.lt
 have hh1:Blk w1 w.heap.size 143 (hdC 0 0 first next):=(by rw[hwa];exact Blk.new _ _ _:Blk wa w.heap.size 143 (hdC 0 0 first next)).touch hT1 (by omega)
 have hx1:Bs w1 A m cA xs:=(hx.fresh hfa).touch hT1 fun a ha h0 e=>(hxb a ha h0).1 (.inl e)
 have hsz1:w1.heap.size=w.heap.size+1:=by rw[hw1,World.size_setCell,World.size_setCell,hwa,World.size_alloc]
 have f6:∀o,(w.alloc o).frozen? ⟨bl,6,none⟩=false:=fun o=>(h.lm.blk.alloc o).frozen 6
 have e6:∀o,(w.alloc o).cell? ⟨bl,6,none⟩=some (.bool l.dirty):=fun o=>(h.lm.blk.alloc o).cell 6
 have f5:∀o,((w.alloc o).setCell ⟨bl,6,none⟩ (.bool true)).frozen? ⟨bl,5,none⟩=false:=fun o=>((h.lm.blk.alloc o).set_ 6 (.bool true)).frozen 5
 have e5:∀o,((w.alloc o).setCell ⟨bl,6,none⟩ (.bool true)).cell? ⟨bl,5,none⟩=some (.bool l.failed):=fun o=>((h.lm.blk.alloc o).set_ 6 (.bool true)).cell 5
 have KF:=zh (free_any hX1.ld.lm hX1.ld.dk hb.sm (by have:=hb.K;omega) h.dk.nodup (fun f hf=>(h.dk.good.1 f hf).2.2) (by rw[hl1];exact hb.n) (by rw[hl1];exact fun s hs=>by have:=hb.seg s hs;omega) (by rw[hl1];exact hb.base))
 have HX1:=zh hX1;have HH1:=zh hh1;have HB1:=zh hx1;have HXB:=zh hxb;have HB:=zh hb;have HL1:=zh hl1
 have HSZ:=zh hsz1
 have HBN:=zh hbn
 have HLT:=zh h.lm.lt
 have HRL:=zh h.Rlt
 have HW1:=zh (show w1=((w.alloc (.cells #[.int .i64 0, .int .i64 0, .int .i64 (first:Int), .int .i64 (next:Int)] 143)).setCell ⟨bl,6,none⟩ (.bool true)).setCell ⟨bl,5,none⟩ (.bool true) by rw[hw1,hwa];rfl)
 have hwm:(Lit.int .i64 0).wf=true:=by decide
 have HD:=zh h.dk
 clear h hx hxb hb hT1 hfa hba hX1 hh1 hx1 hw1 hwa hsz1 hbn
 go_enter Tryz.func112,Tryz.ntmps112
 go_wp2_with fail
 rw[<- HW1.out]
 refine KF.out.mono ?_
 rintro e w2 ⟨hf2,B2,c2,rfl,ho2,hn2⟩
 rw[HL1.out]at ho2 hn2
 dsimp only at ho2 hn2
 obtain⟨st,hst⟩:∃st,st=strangeN d.fs l.base l.segs:=⟨_,rfl⟩
 obtain⟨fr,hfr⟩:∃fr,fr=freeP (usedN d.fs l.base l.segs) l.base:=⟨_,rfl⟩
 have hr2:Value.tuple #[.int .i64 (freeP (usedN d.fs l1.base l1.segs) l1.base:Nat), .slice B2 (strangeN d.fs l1.base l1.segs).length c2]=Value.tuple #[.int .i64 (fr:Int), .slice B2 st.length c2]:=by rw[hst,hfr,HL1.out]
 rw[hr2]
 rw[<- hst]at ho2 hn2
 have hX2:=HX1.out.fresh hf2
 have HF2:=zh hf2;have HX2:=zh hX2;have HO2:=zh ho2;have HN2:=zh hn2
 have HH2:=zh (HH1.out.touch hf2 id);have HB2:=zh (HB1.out.fresh hf2)
 have HST:=zh hst;have HFR:=zh hfr
 have hstl:st.length<=1000000:=by have:=lstrange_len d.fs l.base l.segs;have:=HB.out.n;rw[<- hst] at*;omega
 have hbl2:bl<w2.heap.size:=by have:=hX2.ld.lm.blk.lt;exact this
 have c0:w2.cell? ⟨bl,0,none⟩=some (.pointer (some ⟨bd,0,none⟩)):=hX2.ld.lm.blk.cell 0
 obtain⟨G2,cg2,hv2,_,_,hG2⟩:=ho2.form
 injection hv2 with e1 _ e2
 subst e1 e2
 clear hf2 ho2 hn2 hX2 hst hfr hr2 KF f6 e6 f5 e5
 go_wp2_with fail
 go_loopw [31] (fun i wr=>∃(j:Nat) (d':Dk),j<=st.length/\i= .int .i64 j/\Touch S w2 wr/\Disk wr (more S w2 wr) bd d'/\d'.small (K+j)/\delAll d st=delAll d' (st.drop j)) (fun i _=>st.length-(intOf i).toNat)
 case atStart=>exact⟨0,d,Nat.zero_le _,rfl,Touch.refl _ _,by rw[more_self_];exact HX2.out.ld.dk,HB.out.sm,rfl⟩
 case round=>
  obtain⟨j,d',hj,rfl,ht,hd,hs,heq⟩:=hrel
  have HT:=zh ht;have HDK:=zh hd;have HS:=zh hs;have HEQ:=zh heq
  have ho:=HO2.out.touch ht fun q hq hs=>by
   have h1:=HN2.out q hq
   have h2:=HD.out.below q hs
   have h3:=HSZ.out
   omega
  have q0:wr.cell? ⟨bl,0,none⟩=some (.pointer (some ⟨bd,0,none⟩)):=ht.cell c0 (HX2.out.ld.dis bl (.inl (.inl rfl)))
  clear ht hd hs heq
  by_cases hlt:j<st.length
  ·obtain⟨n,hn⟩:∃n,st[j]? =some n:=⟨_,List.getElem?_eq_getElem hlt⟩
   obtain⟨g,rfl⟩:∃g,B2=some ⟨g,0,none⟩:=by
    rcases hG2 with⟨_,h2,_⟩ | ⟨g,e⟩
    ·omega
    ·exact⟨g,e⟩
   have cj:wr.cell? ⟨g,j,none⟩=some (.int .i64 n):=by
    rw[ho.cell (j:=j) (by omega),intsV_get,hn]
    rfl
   have hnw:(Lit.int .i64 n).wf=true:=strange_wf HD.out n (by rw[<- HST.out];exact List.mem_of_getElem? hn)
   have KD:=zh (disk_delete HDK.out HS.out (by have:=HB.out.K;omega) hnw)
   have hdr:st.drop j=n :: st.drop (j+1):=by
    obtain⟨hi,e⟩:=List.getElem?_eq_some_iff.1 hn
    rw[List.drop_eq_getElem_cons hi,e]
   have HDR:=zh hdr
   clear ho hn hdr hnw
   by_cases hw:d'.why n=0
   ·have HW:=zh hw
    rw[hw]at KD
    clear hw
    go_wp2_with fail
    refine KD.out.mono ?_
    rintro e w3 ⟨rfl,ht3,hd3⟩
    have HT3:=zh (HT.out.then_ ht3)
    rw[more_more HT.out.size ht3.size]at hd3
    have HD3:=zh hd3
    clear ht3 hd3 KD q0 cj
    go_wp2_with fail
    go_roundw
    case rel=>exact⟨j+1,d'.delete n,by omega,by go_num,HT3.out,HD3.out,delete_small HS.out,by rw[HEQ.out,HDR.out,delAll,if_pos HW.out]⟩
    case measure=>simp[intOf]<;>omega
   ·have HW:=zh hw
    have hw2:¬d'.why n=0:=hw
    have HWN:=zh (show delAll d st=(d'.delete n,d'.why n) by rw[HEQ.out,HDR.out,delAll,if_neg hw])
    clear hw
    generalize d'.why n=y at*
    go_wp2_with fail
    refine KD.out.mono ?_
    rintro e w3 ⟨rfl,ht3,hd3⟩
    have HT3:=zh (HT.out.then_ ht3)
    rw[more_more HT.out.size ht3.size]at hd3
    have HD3:=zh hd3
    clear ht3 hd3 KD q0 cj
    go_wp2_with fail
    go_ret
    have hbp:=begin_del (l:=l) (whole:=whole) (first:=first) (next:=next) (xs:=xs) (d:=d) (show (delAll d (strangeN d.fs l.base l.segs)).2≠0 by rw[<- HST.out,HWN.out];exact hw2)
    rw[<- HST.out,HWN.out]at hbp
    unfold BegEnd begL
    rw[hbp]
    dsimp only
    rw[if_neg hw2,<- HL1.out]
    exact⟨rfl,_,_,_,_,_,HX2.out.disk HT3.out HD3.out⟩
  ·obtain rfl:j=st.length:=by omega
   have hdel:delAll d st=(d',0):=by rw[HEQ.out,List.drop_length,delAll]
   have HDEL:=zh hdel
   have hX3:=HX2.out.disk HT.out HDK.out
   obtain⟨S3,hS3⟩:∃S3,S3=more S w2 wr:=⟨_,rfl⟩
   rw[<- hS3]at hX3
   have HX3:=zh hX3
   have HS3:=zh hS3
   have hbS:¬S w.heap.size:=fun e=>by have:=HD.out.below _ e;omega
   have hH3:=HH2.out.touch HT.out hbS
   have HH3:=zh hH3
   have hhne:bl≠w.heap.size:=by have:=HBN.out;omega
   have HHNE:=zh hhne
   have hB3:Bs wr A m cA xs:=HB2.out.touch HT.out fun a ha h0=>(HXB.out a ha h0).2.1
   have HB3:=zh hB3
   have hlm:=hX3.ld.lm
   rw[HL1.out]at hlm
   obtain⟨sA,sc,hsv,hsn,hsm,hsA⟩:=hlm.segs.form
   dsimp only at hsv hsn hsA
   have p0:wr.cell? ⟨bl,0,none⟩=some (.pointer (some ⟨bd,0,none⟩)):=hlm.blk.cell 0
   have p2:wr.cell? ⟨bl,2,none⟩=some (.slice sA l.segs.length sc):=by rw[<- hsv];exact hlm.blk.cell 2
   have z0:=hH3.cell 0
   have z1:=hH3.cell 1
   have zf0:=hH3.frozen 0
   have zf1:=hH3.frozen 1
   simp only[hdC,List.getElem?_toArray,List.getElem?_cons_zero,List.getElem?_cons_succ]at z0 z1
   have HSEG:=zh hlm.segs
   have HSV:=zh hsv
   have n2:∀v,(wr.setCell ⟨w.heap.size,0,none⟩ v).cell? ⟨bl,2,none⟩=some (.slice sA l.segs.length sc):=fun v=>by rw[World.cell?_setCell_far _ _ _ _ (fun e=>hhne e.symm)];exact p2
   clear hdel hX3 hS3 hH3 hB3 hlm ho q0 hsv hlt hj
   go_upto_if 52 with fail
   go_cut [] from 52 to 74 (fun w4=>Blk w4 w.heap.size 143 (hdC (numOf l.segs) (aheadOf l.segs) first next)/\Touch (·=w.heap.size) wr w4)
   case first=>
    rcases nil_or_snoc l.segs with hnil | ⟨s0,s,hsn⟩
    ·have hp1:decide ((0:Int)<(l.segs.length:Int))=false:=by rw[hnil];rfl
     have hp2:¬(0:Int)<(l.segs.length:Int):=by rw[hnil];simp
     have HNIL:=zh hnil
     clear hnil
     go_wp2_with fail
     go_meet
     case rel=>
      refine⟨?_,(Touch.refl (·=w.heap.size) wr).setCell (p:=⟨w.heap.size,0,none⟩) (.inr rfl) _⟩
      rw[HNIL.out]
      simpa [hdC,numOf,aheadOf] using HH3.out.set_ 0 (.int .i64 1)
    ·have hlen:l.segs.length=s0.length+1:=by rw[hsn];simp
     have hp1:decide ((0:Int)<(l.segs.length:Int))=true:=by simp;omega
     have hp2:(0:Int)<(l.segs.length:Int):=by omega
     obtain⟨g,o,rfl⟩:∃g o,sA=some ⟨g,o*8,none⟩:=by
      rcases hsA with⟨_,h2,_⟩ | ⟨g,o,e⟩
      ·omega
      ·exact⟨g,_,e⟩
     obtain⟨k,hk⟩:∃k,k=s0.length:=⟨_,rfl⟩
     have hgs:l.segs[k]? =some s:=by rw[hsn,hk,List.getElem?_append_right (Nat.le_refl _),Nat.sub_self];rfl
     have hsg:=HSEG.out
     dsimp only at hsg
     rw[HSV.out]at hsg
     have hcell:∀j,j<8->wr.cell? ⟨g,o*8+(k*8+j),none⟩=(segC s)[j]? :=fun j hj=>by
      rw[hsg.cell (j:=k*8+j) (by omega),segsC_get _ _ hgs hj]
     have g0:wr.cell? ⟨g,o*8+k*8,none⟩=some (.int .i64 (s.number:Int)):=hcell 0 (by omega)
     have g6:wr.cell? ⟨g,o*8+k*8+6,none⟩=some (.int .i64 (s.size:Int)):=hcell 6 (by omega)
     have hgne:¬w.heap.size=g:=fun e=>by
      have:=HLT.out g (.inr (.inl (by rw[HSV.out];rfl)))
      omega
     have hbne:¬w.heap.size=bl:=fun e=>hhne e.symm
     have hsb:=HB.out.seg s (List.mem_of_getElem? hgs)
     have hwk:IntKind.i64.wrap ((l.segs.length:Int)-1)=(k:Int):=by rw[IntWalk.i64_in _ (by have:=HB.out.n;omega)];omega
     have hwn:IntKind.i64.wrap ((s.number:Int)+1)=(s.number:Int)+1:=IntWalk.i64_in _ (by omega)
     have hkl:(k:Int)<(l.segs.length:Int):=by omega
     have hnum:numOf l.segs=s.number+1:=by unfold numOf;rw[hsn,List.getLast?_append];rfl
     have hahd:aheadOf l.segs=s.size:=by unfold aheadOf;rw[hsn,List.getLast?_append];rfl
     have HNUM:=zh hnum;have HAHD:=zh hahd
     clear hsg hcell hsn hlen hk hgs hsb hnum hahd hsA
     go_wp2_with fail
     go_region_held (fun W=>W.cell? ⟨bl,2,none⟩=some (.slice (some ⟨g,o*8,none⟩) l.segs.length sc)/\W.cell? ⟨g,o*8+k*8,none⟩=some (.int .i64 (s.number:Int))/\W.cell? ⟨g,o*8+k*8+6,none⟩=some (.int .i64 (s.size:Int))) (go_keep) (fail)
     all_goals
      go_wp2_with fail
      go_meet
      case rel=>
       refine⟨?_,((((Touch.refl (·=w.heap.size) wr).setCell (p:=⟨w.heap.size,0,none⟩) (.inr rfl) _).setCell (p:=⟨w.heap.size,0,none⟩) (.inr rfl) _).setCell (p:=⟨w.heap.size,1,none⟩) (.inr rfl) _).drew⟩
       rw[HNUM.out,HAHD.out]
       simpa [hdC] using (((HH3.out.set_ 0 (.int .i64 1)).set_ 0 (.int .i64 ((s.number:Int)+1))).set_ 1 (.int .i64 (s.size:Int))).drew
   case rest=>
    obtain⟨hH4,hT4⟩:=hcut
    have hX4:=HX3.out.aside hT4 (Nat.le_refl _) fun k hk e=>by
     subst e
     rcases hk with hk | hk | hk
     ·have:=HLT.out _ hk;omega
     ·have:=HRL.out _ hk;omega
     ·rw[HS3.out]at hk
      rcases hk with hk | hk
      ·exact hbS hk
      ·have:=HH2.out.lt;omega
    have HX4:=zh hX4
    have hcs:=hT4
    have HB4:=zh (HB3.out.touch hT4 fun a ha h0 e=>by have:=(HXB.out a ha h0).2.2;omega)
    have HH4:=zh hH4
    have hxl:xs.length=m:=HB3.out.1
    have HXL:=zh hxl
    have hsl:=Enc.sum_lt xs
    have hsw:IntKind.i64.wrap ((Enc.sum xs:Nat):Int)=((Enc.sum xs:Nat):Int):=IntWalk.i64_in _ (by omega)
    obtain⟨sm,hsm⟩:∃sm,sm=Enc.sum xs:=⟨_,rfl⟩
    obtain⟨nu,hnu⟩:∃nu,nu=numOf l.segs:=⟨_,rfl⟩
    obtain⟨ah,hah⟩:∃ah,ah=aheadOf l.segs:=⟨_,rfl⟩
    rw[<- hnu,<- hah]at hH4
    have hnl:∀n∈ [nu,ah,first,next,m,sm],n<9223372036854775808:=by
     have h1:=num_le (segs:=l.segs) fun s hs=>(HB.out.seg s hs).2
     rw[<- hnu,<- hah]at h1
     have:=HB.out.first;have:=HB.out.next;have:=HB.out.m
     intro n hn
     simp only[List.mem_cons,List.not_mem_nil,or_false]at hn
     omega
    have HST4:=zh (show∀W,Fresh wc W->Fresh wc W/\W.cell? ⟨w.heap.size,0,none⟩=some (.int .i64 (nu:Int))/\W.cell? ⟨w.heap.size,1,none⟩=some (.int .i64 (ah:Int))/\W.cell? ⟨w.heap.size,2,none⟩=some (.int .i64 (first:Int))/\W.cell? ⟨w.heap.size,3,none⟩=some (.int .i64 (next:Int)) from
     fun W hW=>⟨hW,(hH4.touch hW id).cell 0,(hH4.touch hW id).cell 1,(hH4.touch hW id).cell 2,(hH4.touch hW id).cell 3⟩)
    have KS:=zh (show∀W,Fresh wc W->Calls Tryz.prog 123 #[.slice A m cA] W fun e w'=>w'=W/\e= .returned (.int .u32 (sm:Int)) from fun W hW=>by rw[hsm];exact sum_any A m cA xs W (HB4.out.fresh hW))
    obtain⟨hd,hhd⟩:∃hd,hd=metaF (kindU whole) [nu,ah,first,next,m,sm]:=⟨_,rfl⟩
    have hhl:hd.length=57:=by rw[hhd,metaF_len];rfl
    have KM:=zh (show Calls Tryz.prog 114 #[.int .u8 ((kindU whole).toNat:Int), .slice (some ⟨wc.heap.size,0,none⟩) 6 6] ((wc.alloc (.cells #[.int .i64 (nu:Int), .int .i64 (ah:Int), .int .i64 (first:Int), .int .i64 (next:Int), .int .i64 (m:Int), .int .i64 (sm:Int)] 3)).drew) fun e w'=>Fresh wc w'/\∃g cap,e= .returned (.slice (some ⟨g,0,none⟩) hd.length cap)/\wc.heap.size<=g/\Fb w' g cap hd from by
     refine(meta_any (kindU whole) _ 6 [nu,ah,first,next,m,sm] _ (ints_lit wc [nu,ah,first,next,m,sm] _ rfl (by simp)).drew (by simp) hnl).mono ?_
     rintro e w' ⟨hf,g,cap,rfl,hg,hfb⟩
     rw[<- hhd]at hfb ⊢
     exact⟨(((Touch.refl (fun _=>False) wc).alloc _).drew).trans hf fun _ _=>id,g,cap,rfl,by rw[World.size_drew,World.size_alloc]at hg;omega,hfb⟩)
    have HHD:=zh hhd;have HHL:=zh hhl
    clear hhd hhl
    rw[<- hsm]at hsw
    have HSM:=zh hsm;have HNU:=zh hnu;have HAH:=zh hah
    have HNL:=zh hnl
    clear hH4 hT4 hX4 hsm hnu hah hnl hsl hxl
    have hm3:m<=300000000:=HB.out.m
    go_upto_region 14 with fail
    go_region_held3 (fun W=>Fresh wc W/\W.cell? ⟨w.heap.size,0,none⟩=some (.int .i64 (nu:Int))/\W.cell? ⟨w.heap.size,1,none⟩=some (.int .i64 (ah:Int))/\W.cell? ⟨w.heap.size,2,none⟩=some (.int .i64 (first:Int))/\W.cell? ⟨w.heap.size,3,none⟩=some (.int .i64 (next:Int)))
     (first | assumption | exact HST4.out _ ((Touch.refl _ wc).drew) | exact HST4.out _ (Touch.refl _ wc) | exact HST4.out _ (((Touch.refl _ wc).alloc _).drew))
     (first
      | (refine step_fb_src _ rfl _ _ 29 29 rfl 5 Tryz.info5 Tryz.underlying29 rfl HFB6.out (.slice A m cA) m rfl (Bs.src (HB4.out.fresh HF6.out) (t:=29) (e':=5) Tryz.underlying29) (by rw[HHL.out];omega) ?_;intro g7 c7 w7 h7 hg7 he7;have hf7:Fresh wc w7:=HF6.out.grown hg7 fun q hq=> .inl (by injection hq with hq;rw[<- hq];exact HG6.out);have k7:=HST4.out w7 hf7;have H7:=zh h7;have HF7:=zh hf7;have HE7:=zh (show wc.heap.size<=g7 by rcases he7 with e | e;(rw[e];exact HG6.out);(rw[e];exact HF6.out.size));clear h7 hg7 he7 hf7)
      | (go_at_call 123;refine(KS.out _ (And.left (by assumption))).mono ?_;rintro e w5 ⟨rfl,rfl⟩)
      | (go_at_call 114;refine KM.out.mono ?_;rintro e w6 ⟨hf6,g6,cap6,rfl,hg6,hfb6⟩;have k6:=HST4.out w6 hf6;have HF6:=zh hf6;have HG6:=zh hg6;have HFB6:=zh hfb6;clear hg6 hfb6 hf6))
    have hX7:=HX4.out.fresh HF7.out
    have hal:(hd++xs).length=hd.length+m:=by rw[List.length_append,HXL.out]
    have HH7:=zh (HH4.out.touch HF7.out id)
    have hg7S:¬S3 g7:=fun e=>by
     have h1:=HX3.out.ld.dk.below g7 e
     have h2:=hcs.size
     have h3:=HE7.out
     omega
    have hfrb:fr<=200000000:=by
     have h1:=(freeP_spec (usedN d.fs l.base l.segs) l.base).2.1
     have h2:(usedN d.fs l.base l.segs).length<=1000000:=by
      unfold usedN
      rw[List.length_append,List.length_map,List.length_map]
      have h3:=List.length_filter_le (inR l.base) d.fs
      have h4:=HB.out.n
      omega
     have h3:=HB.out.base
     rw[HFR.out]
     omega
    have KL:=zh (lay_any hX7.ld.lm hX7.ld.dk HS.out (by have:=HB.out.K;have:=lstrange_len d.fs l.base l.segs;rw[<- HST.out]at this;omega) hX7.ld.dis (n:=fr) (by omega) H7.out (fun a ha h0=>by injection ha with ha;subst ha;exact⟨hg7S,by obtain⟨b,o,e,hc⟩:=H7.out.2.2.2 h0;injection e with e;injection e with e _;subst e;have hx:=hc 0 _ (List.getElem?_eq_getElem (show 0<(hd++xs).length by omega));have hx2:=World.block_lt_of_cell? _ _ hx;exact hx2⟩) (by rw[hal,HHL.out];omega))
    have HX7:=zh hX7
    have HAL:=zh hal
    have hhB:headB whole nu ah first next xs=hd:=by
     rw[HHD.out]
     unfold headB kindU
     rw[HXL.out,<- HSM.out]
    have HHB:=zh hhB
    clear hX7 hal hg7S hfrb hhB
    obtain⟨d8,hd8e⟩:∃d8,d8=(layP d' (fr:Int) (hd++xs)).1:=⟨_,rfl⟩
    rw[<- hd8e]at KL
    have HD8:=zh hd8e
    clear hd8e
    have HLY:=zh (show HX8G w w7 bl bd S R sv rv l1 d8 S3 vs w.heap.size (hdC (numOf l.segs) (aheadOf l.segs) first next) from fun w8 ht8 hd8=>⟨HX7.out.disk ht8 hd8,HH7.out.touch ht8 fun e=>by
     rw[HS3.out]at e
     rcases e with e | e
     ·have:=HD.out.below _ e;omega
     ·have:=HH2.out.lt;omega⟩)
    by_cases hw:(layP d' (fr:Int) (hd++xs)).2=0
    ·have HW:=zh hw
     rw[hw]at KL
     clear hw
     go_upto_if 101 with(go_at_call 111;refine KL.out.mono ?_;rintro e w8 ⟨rfl,ht8,hd8⟩;have HG8:=zh (HLY.out w8 ht8 hd8);clear ht8 hd8 KL)
     have hg8:=HG8.out
     obtain⟨S8,hS8⟩:∃S8,S8=more S3 w7 w8:=⟨_,rfl⟩
     rw[<- hS8]at hg8
     have HX8:=zh hg8.1;have HH8:=zh hg8.2
     clear hg8 hS8
     obtain⟨segs1,hseg1⟩:∃segs1,segs1=if whole=true then l.segs.map (fun s=>{ s with last:=first }) else l.segs:=⟨_,rfl⟩
     have HSG1:=zh hseg1
     clear hseg1
     go_cut [17] from 101 to 119 (fun _ w9=>LX w w9 bl bd S R sv rv { l1 with segs:=segs1 } d8 S8 R sv rv vs/\Blk w9 w.heap.size 143 (hdC (numOf l.segs) (aheadOf l.segs) first next))
     case first=>
      cases whole with
      | false=>
       have hkf:(((kindU false).toNat:Int) == 119)=false:=rfl
       have hkf2:((kindU false).toNat:Int)=104:=rfl
       go_wp2_with fail
       go_meet
       case rel=>
        refine⟨?_,HH8.out⟩
        have:({ l1 with segs:=segs1 }:Lg)=l1:=by rw[HSG1.out,HL1.out];rfl
        rw[this]
        exact HX8.out
      | true=>
       have hkf:(((kindU true).toNat:Int) == 119)=true:=rfl
       have hkf2:((kindU true).toNat:Int)=119:=rfl
       have hnb:l.segs.length<=1000000:=by have:=HB.out.n;omega
       have u2:w8.cell? ⟨bl,2,none⟩=some (.slice sA l.segs.length sc):=by
        have:=HX8.out.ld.lm.blk.cell 2
        rw[<- HSV.out]
        exact this
       have HSG2:=zh (show segs1=l.segs.map (fun s=>{ s with last:=first }) by rw[HSG1.out,if_pos rfl])
       have HL1S:=zh (show l1.segs=l.segs by rw[HL1.out])
       go_wp2_with fail
       go_loopw [107,17] (fun i _ wr=>∃k:Nat,k<=l.segs.length/\i= .int .i64 k/\LX w wr bl bd S R sv rv { l1 with segs:=(l.segs.take k).map (fun s=>{ s with last:=first })++l.segs.drop k } d8 S8 R sv rv vs/\Blk wr w.heap.size 143 (hdC (numOf l.segs) (aheadOf l.segs) first next)) (fun i _ _=>l.segs.length-(intOf i).toNat)
       case atStart=>
        refine⟨0,Nat.zero_le _,rfl, ?_,HH8.out⟩
        have:({ l1 with segs:=(l.segs.take 0).map (fun s=>{ s with last:=first })++l.segs.drop 0 }:Lg)=l1:=by rw[HL1.out];rfl
        rw[this]
        exact HX8.out
       case round=>
        obtain⟨k,hk,rfl,hx,hh⟩:=hrel
        have HXK:=zh hx;have HHK:=zh hh
        clear hx hh
        by_cases hlt:k<l.segs.length
        ·obtain⟨s,hsk⟩:∃s,l.segs[k]? =some s:=⟨_,List.getElem?_eq_getElem hlt⟩
         obtain⟨g,o,rfl⟩:∃g o,sA=some ⟨g,o*8,none⟩:=by
          rcases hsA with⟨_,h2,_⟩ | ⟨g,o,e⟩
          ·omega
          ·exact⟨g,_,e⟩
         obtain⟨LK,hLK⟩:∃LK,LK=(l.segs.take k).map (fun s=>({ s with last:=first }:Seg))++l.segs.drop k:=⟨_,rfl⟩
         have hLl:LK.length=l.segs.length:=by rw[hLK,List.length_append,List.length_map,List.length_take,List.length_drop];omega
         have hLs:LK[k]? =some s:=by
          rw[hLK,List.getElem?_append_right (by rw[List.length_map,List.length_take];omega),List.length_map,List.length_take,List.getElem?_drop,show k+(k-min k l.segs.length)=k by omega]
          exact hsk
         have hLn:LK.set k { s with last:=first }=(l.segs.take (k+1)).map (fun s=>({ s with last:=first }:Seg))++l.segs.drop (k+1):=by
          rw[hLK,List.set_append,if_neg (by rw[List.length_map,List.length_take];omega),List.length_map,List.length_take,show k-min k l.segs.length=0 by omega,List.take_add_one,hsk,List.map_append,List.append_assoc]
          congr 1
          obtain⟨hi,e⟩:=List.getElem?_eq_some_iff.1 hsk
          rw[List.drop_eq_getElem_cons hi]
          rfl
         rw[<- hLK]at HXK
         have hxk:=HXK.out
         rw[HSV.out]at hxk
         have HX1K:=zh hxk
         have hsg:=hxk.ld.lm.segs
         dsimp only at hsg
         have v2:wr.cell? ⟨bl,2,none⟩=some (.slice (some ⟨g,o*8,none⟩) l.segs.length sc):=hxk.ld.lm.blk.cell 2
         have h2:wr.cell? ⟨w.heap.size,2,none⟩=some (.int .i64 (first:Int)):=HHK.out.cell 2
         have g7c:wr.cell? ⟨g,o*8+k*8+7,none⟩=some (.int .i64 (s.last:Int)):=by
          rw[hLl]at hsg
          rw[Nat.add_assoc,hsg.cell (j:=k*8+7) (by omega),segsC_get _ _ hLs (by omega)]
          rfl
         have g7f:wr.frozen? ⟨g,o*8+k*8+7,none⟩=false:=by
          rw[hLl]at hsg
          exact hsg.frozen _
         have hgb:¬g=bl:=fun e=>hxk.ld.lm.segs.ne_blk hxk.ld.lm.blk (by decide) (by rw[<- e];rfl)
         have hgh:¬g=w.heap.size:=fun e=>by have:=HLT.out g (.inr (.inl (by rw[HSV.out];rfl)));omega
         have hki:(k:Int)<(l.segs.length:Int):=by omega
         have HLS:=zh hLs;have HLN:=zh hLn
         clear hxk hsg hLs hLn hLl hLK hsk hsA
         go_wp2_with fail
         go_region_held3 (fun W=>W.cell? ⟨bl,2,none⟩=some (.slice (some ⟨g,o*8,none⟩) l.segs.length sc)/\W.cell? ⟨w.heap.size,2,none⟩=some (.int .i64 (first:Int))) (go_keep) (first | fail)
         go_wp2_with fail
         go_roundw
         case rel=>
          refine⟨k+1,by omega,by go_num, ?_, ?_⟩
          ·have hx:=(HX1K.out.seg (k:=k) (j:=7) (s:=s) (s':={ s with last:=first }) (u:= .int .i64 (first:Int)) HLS.out (by omega) rfl rfl).fresh ((Touch.refl _ _).drew)
           dsimp only at hx
           rw[HLN.out,<- Nat.add_assoc]at hx
           rw[HSV.out]
           exact hx
          ·exact HHK.out.touch (((Touch.refl (·=g) wr).setCell (p:=⟨g,o*8+k*8+7,none⟩) (.inr rfl) _).drew) (fun e=>hgh e.symm)
         case measure=>simp[intOf]<;>omega
        ·obtain rfl:k=l.segs.length:=by omega
         rw[List.take_length,List.drop_length,List.append_nil,<- HSG2.out]at HXK
         go_wp2_with fail
         go_meet
         case rel=>exact⟨HXK.out,HHK.out⟩
     case rest=>
      obtain⟨hx9,hh9⟩:=hcut
      have HX9:=zh hx9;have HH9:=zh hh9
      have hlm9:=hx9.ld.lm
      have KN:=zh (show Calls Tryz.prog 76 #[.pointer (some ⟨bl,0,none⟩)] wc.drew fun e w'=>Fresh wc w'/\e= .returned (.int .i64 (l.c.next:Int)) from by
       refine(next_any (hlm9.fresh ((Touch.refl _ _).drew)) (by dsimp only;rw[HL1.out];exact HB.out.lnext)).mono ?_
       rintro e w' ⟨rfl,q2,rfl⟩
       exact⟨((Touch.refl _ _).drew).drewN q2,by dsimp only;rw[HL1.out]⟩)
      have v2:wc.cell? ⟨bl,2,none⟩=some (.slice sA l.segs.length sc):=by rw[<- HSV.out];exact hlm9.blk.cell 2
      have v0:=hh9.cell 0
      have v1:=hh9.cell 1
      have v3:=hh9.cell 3
      have v4:=hh9.cell 2
      simp only[hdC,List.getElem?_toArray,List.getElem?_cons_zero,List.getElem?_cons_succ]at v0 v1 v3 v4
      have hF2:=hlm9.blk.frozen 2
      clear hx9 hh9 hlm9
      have hnb:l.segs.length<=1000000:=by have:=HB.out.n;omega
      go_upto_region 24 with fail
      have HR11:=zh (show∀(w10:World) (o:Obj) (w11:World),Fresh wc w10->(w10.alloc o).grownBy w11 (Value.slice sA l.segs.length sc).ownBlock->(w11.cell? ⟨w.heap.size,0,none⟩=some (.int .i64 (numOf l.segs:Int))/\w11.cell? ⟨w.heap.size,1,none⟩=some (.int .i64 (aheadOf l.segs:Int))/\w11.cell? ⟨w.heap.size,2,none⟩=some (.int .i64 (first:Int))/\w11.cell? ⟨w.heap.size,3,none⟩=some (.int .i64 (next:Int)))/\w11.cell? ⟨bl,2,none⟩=some (.slice sA l.segs.length sc)/\w11.frozen? ⟨bl,2,none⟩=false/\w11.cell? ⟨bl,5,none⟩=some (.bool l1.failed)/\w11.cell? ⟨bl,6,none⟩=some (.bool l1.dirty)/\w11.frozen? ⟨bl,5,none⟩=false/\w11.frozen? ⟨bl,6,none⟩=false from fun w10 o w11 hf g=>by
       rw[<- HSV.out]at g ⊢
       have h1:=((HH9.out.touch hf id).alloc o).grown g fun e=>HX9.out.ld.lm.segs.ne_blk HH9.out (by decide) e.symm
       have h2:=((HX9.out.ld.lm.blk.touch hf id).alloc o).grown g fun e=>HX9.out.ld.lm.segs.ne_blk HX9.out.ld.lm.blk (by decide) e.symm
       exact⟨⟨h1.cell 0,h1.cell 1,h1.cell 2,h1.cell 3⟩,h2.cell 2,h2.frozen 2,h2.cell 5,h2.cell 6,h2.frozen 5,h2.frozen 6⟩)
      have hHB9:∀W,Fresh wc W->W.cell? ⟨w.heap.size,0,none⟩=some (.int .i64 (numOf l.segs:Int))/\W.cell? ⟨w.heap.size,1,none⟩=some (.int .i64 (aheadOf l.segs:Int))/\W.cell? ⟨w.heap.size,2,none⟩=some (.int .i64 (first:Int))/\W.cell? ⟨w.heap.size,3,none⟩=some (.int .i64 (next:Int)):=fun W hW=>⟨hW.cell v0 id,hW.cell v1 id,hW.cell v4 id,hW.cell v3 id⟩
      have HHB9:=zh hHB9
      clear hHB9
      have hs1l:segs1.length=l.segs.length:=by
       rw[HSG1.out]
       split
       ·rw[List.length_map]
       ·rfl
      have HS1L:=zh hs1l
      have hbne:¬bl=w.heap.size:=hhne
      clear hs1l
      go_cut [] from 120 to 135 (fun w12=>BegSn wc w12 bl sA l.segs.length sc segs1 (⟨numOf l.segs,aheadOf l.segs,first,next,false,fr,hd.length+m,l.c.next⟩:Seg))
      case first=>
       go_region_law (first
         | (refine step_ow_src _ rfl _ _ 135 135 rfl 145 (.agg #[.int .i64 0, .int .i64 0, .int .i64 0, .int .i64 0, .bool false, .int .i64 0, .int .i64 0, .int .i64 0]) 8 64 Tryz.info145 Tryz.underlying135 rfl (.slice sA l.segs.length sc) l.segs.length (segsC segs1) rfl (by have:=((HX9.out.ld.lm.segs.fresh HF10.out).alloc (.cells (segC (⟨numOf l.segs,aheadOf l.segs,first,next,false,fr,hd.length+m,l.c.next⟩:Seg)).toArray 145));dsimp only at this;rw[HSV.out,HS1L.out]at this;exact this) (segsC_one _) (.slice (some ⟨w10.heap.size,0,none⟩) 1 1) 1 (segC (⟨numOf l.segs,aheadOf l.segs,first,next,false,fr,hd.length+m,l.c.next⟩:Seg)) rfl (by exact seg_new w10 (⟨numOf l.segs,aheadOf l.segs,first,next,false,fr,hd.length+m,l.c.next⟩:Seg)) (by unfold maxLen;omega) (by omega) ?_;intro B11 c11 w11 o11 g11 b11;have hw11:=HR11.out w10 _ w11 HF10.out g11;have k11:=hw11.1;have y2:=hw11.2.1;have yf:=hw11.2.2.1;have y5:=hw11.2.2.2.1;have y6:=hw11.2.2.2.2.1;have yf5:=hw11.2.2.2.2.2.1;have yf6:=hw11.2.2.2.2.2.2;clear hw11;have HO11:=zh o11;have HG11:=zh g11;have HB11:=zh b11;clear o11 g11 b11)
         | (go_simp;go_at_call 76;refine KN.out.mono ?_;rintro e w10 ⟨hf10,rfl⟩;have k10:=HHB9.out w10 hf10;have y10:=hf10.cell v2 id;have ya:∀o,(w10.alloc o).cell? ⟨bl,2,none⟩=some (.slice sA l.segs.length sc):=fun o=>(hf10.alloc o).cell v2 id;have HF10:=zh hf10;clear hf10))
       all_goals
        go_wp2_with fail
        go_meet
        case rel=>exact⟨_,_,w10,w11,_,HF10.out,HO11.out,HG11.out,HB11.out,rfl⟩
      case rest=>
       obtain⟨B11,c11,w10,w11,o11,hf10,ho11,hg11,hb11,rfl⟩:=hcut
       have hw11:=HR11.out w10 o11 w11 hf10 hg11
       have y5:=hw11.2.2.2.1
       have y6:=hw11.2.2.2.2.1
       have yf5:=hw11.2.2.2.2.2.1
       have yf6:=hw11.2.2.2.2.2.2
       have HF10:=zh hf10;have HO11:=zh ho11;have HG11:=zh hg11;have HB11:=zh hb11
       clear hw11 hf10 ho11 hg11 hb11
       go_wp2_with fail
       go_ret
       exact beg_end HST.out HDEL.out HFR.out HHB.out HNU.out HAH.out HD8.out HW.out HL1.out HSG1.out HX9.out HSV.out HS1L.out HF10.out HO11.out HG11.out HB11.out HAL.out
    ·have HW:=zh hw
     have hw2:¬(layP d' (fr:Int) (hd++xs)).2=0:=hw
     have HLP:=zh (show layP d' (fr:Int) (hd++xs)=(d8,(layP d' (fr:Int) (hd++xs)).2) by rw[HD8.out])
     clear hw
     generalize (layP d' (fr:Int) (hd++xs)).2=y at*
     go_wp2_with fail
     refine KL.out.mono ?_
     rintro e w8 ⟨rfl,ht8,hd8⟩
     have HG8:=zh (HLY.out w8 ht8 hd8)
     clear ht8 hd8 KL
     go_wp2_with fail
     go_ret
     have hbp:=begin_lay (l:=l) (whole:=whole) (first:=first) (next:=next) (xs:=xs) (d:=d) (d8:=d8) (y:=y) (by rw[<- HST.out];exact HDEL.out) (by rw[<- HFR.out,<- HNU.out,<- HAH.out,HHB.out];exact HLP.out) hw2
     unfold BegEnd begL
     rw[hbp]
     dsimp only
     rw[if_neg hw2,<- HL1.out]
     exact⟨rfl,_,_,_,_,_,HG8.out.1⟩
end
section
variable {w w':World}{bl bd:Nat}{R S:Nat->Prop}{l:Lg}{sv rv:Value}{vs:List Value}{d:Dk}{K:Nat}
theorem begL_false(d:Dk)(l:Lg)(first next:Nat)(xs:List UInt8):begL d l false first next xs=(beginP d l false first next xs).2.1:=by
 unfold begL
 by_cases h1:(delAll d (strangeN d.fs l.base l.segs)).2≠0
 ·have hb:beginP d l false first next xs= _:=begin_del h1
  rw[hb]
  dsimp only
  rw[if_neg h1]
 ·unfold beginP
  rw[if_neg h1]
  split
  ·rfl
  ·rfl
theorem begin_failed(d:Dk)(l:Lg)(b:Bool)(first next:Nat)(xs:List UInt8):beginP d { l with failed:=b } false first next xs=beginP d l false first next xs:=rfl
theorem begin_c(d:Dk)(l:Lg)(whole:Bool)(first next:Nat)(xs:List UInt8):(beginP d l whole first next xs).2.1.c=l.c:=by
 unfold beginP
 split
 ·rfl
 ·split<;>rfl
def WriEnd(w:World)(bl bd:Nat)(R S:Nat->Prop)(l:Lg)(sv rv:Value)(d:Dk)(xs:List UInt8)(e:Ending)(w':World):Prop:=
 e= .returned (.int .i64 (writeP d l xs).2.2)/\LB w w' bl bd S R sv rv (writeP d l xs).2.1 (writeP d l xs).1
theorem LX.lb{S' R':Nat->Prop}{l' l2:Lg}{d' d2:Dk}{sv' rv':Value}{vs':List Value}{w'':World}(h:LX w w' bl bd S R sv rv l' d' S' R' sv' rv' vs')(h2:LB w' w'' bl bd S' R' sv' rv' l2 d2):LB w w'' bl bd S R sv rv l2 d2:=by
 obtain⟨S2,R2,sv2,rv2,vs2,h2⟩:=h2
 exact⟨_,_,_,_,_,h.trans h2⟩
theorem lwrite_any(h:LD w bl bd S R l d sv rv vs){A:Option Addr}{m cA:Nat}{xs:List UInt8}(hx:Bs w A m cA xs)(hxb:∀a,A=some a->0<m->¬lfoot bl sv rv a.block/\¬S a.block/\a.block<w.heap.size)(hb:BegB l d K l.c.first l.c.next m)(hn:l.segs.length<1024):
  Calls Tryz.prog 77 #[.pointer (some ⟨bl,0,none⟩), .slice A m cA] w (WriEnd w bl bd R S l sv rv d xs):=by
 obtain⟨l1,hl1⟩:∃l1:Lg,l1={ l with failed:=true }:=⟨_,rfl⟩
 obtain⟨w1,hw1⟩:∃w1,w1=w.setCell ⟨bl,5,none⟩ (.bool true):=⟨_,rfl⟩
 have hT1:Touch (·=bl) w w1:=by rw[hw1];exact(Touch.refl (·=bl) w).setCell (p:=⟨bl,5,none⟩) (.inr rfl) _
 have hX1:LX w w1 bl bd S R sv rv l1 d S R sv rv vs:=h.same.block hT1 (by rw[hl1]) (by rw[hl1]) (by
  have:=h.lm.blk.set_ 5 (.bool true)
  rw[<- hw1]at this
  rw[hl1]
  simpa using this)
 have hx1:Bs w1 A m cA xs:=hx.touch hT1 fun a ha h0 e=>(hxb a ha h0).1 (.inl e)
 have hxb1:∀a,A=some a->0<m->¬lfoot bl sv rv a.block/\¬S a.block/\a.block<w1.heap.size:=fun a ha h0=>⟨(hxb a ha h0).1,(hxb a ha h0).2.1,Nat.lt_of_lt_of_le (hxb a ha h0).2.2 hT1.size⟩
 have f5:=h.lm.blk.frozen 5
 have e5:w.cell? ⟨bl,5,none⟩=some (.bool l.failed):=h.lm.blk.cell 5
 obtain⟨sA,sc,hsv,hsn,hsm,hsA⟩:=hX1.ld.lm.segs.form
 have hsl1:l1.segs=l.segs:=by rw[hl1]
 rw[hsl1]at hsv hsn hsA
 have c2:w1.cell? ⟨bl,2,none⟩=some (.slice sA l.segs.length sc):=by rw[<- hsv];exact hX1.ld.lm.blk.cell 2
 have c3:w1.cell? ⟨bl,3,none⟩=some (.int .i64 (l.c.first:Int)):=by have:=hX1.ld.lm.blk.cell 3;rw[hl1]at this;exact this
 have c6:w1.cell? ⟨bl,6,none⟩=some (.bool l.dirty):=by have:=hX1.ld.lm.blk.cell 6;rw[hl1]at this;exact this
 rw[hw1]at c2 c3 c6
 have HW1:=zh hw1;have HX1:=zh hX1;have HB1:=zh hx1;have HXB:=zh hxb1;have HB:=zh hb;have HL1:=zh hl1;have HSV:=zh hsv
 have HSG:=zh hX1.ld.lm.segs
 have hnl:(l.segs.length:Int)<1024:=by omega
 clear h hx hxb hb hT1 hX1 hx1 hxb1 hw1 hl1 hsl1 hsv
 by_cases hA:(∃s0 s,l.segs=s0++ [s])/\l.dirty=false
 ·obtain⟨⟨s0,s,hs⟩,hd⟩:=hA
  rw[hd]at c6
  have hlen:l.segs.length=s0.length+1:=by rw[hs];simp
  have hp1:decide ((0:Int)<(l.segs.length:Int))=true:=by simp;omega
  have hp2:(0:Int)<(l.segs.length:Int):=by omega
  have hp3:0<l.segs.length:=by omega
  obtain⟨g,o,rfl⟩:∃g o,sA=some ⟨g,o*8,none⟩:=by
   rcases hsA with⟨_,h2,_⟩ | ⟨g,o,e⟩
   ·omega
   ·exact⟨g,_,e⟩
  obtain⟨k,hk⟩:∃k,k=s0.length:=⟨_,rfl⟩
  have hgs:l.segs[k]? =some s:=by rw[hs,hk,List.getElem?_append_right (Nat.le_refl _),Nat.sub_self];rfl
  have hset:∀s',l.segs.set k s'=s0++ [s']:=fun s'=>by rw[hs,hk,List.set_append,if_neg (Nat.lt_irrefl _),Nat.sub_self];rfl
  have hsb:=HB.out.seg s (List.mem_of_getElem? hgs)
  obtain⟨l2,hl2⟩:∃l2:Lg,l2={ l with failed:=true,dirty:=true }:=⟨_,rfl⟩
  obtain⟨w2,hw2⟩:∃w2,w2=w1.setCell ⟨bl,6,none⟩ (.bool true):=⟨_,rfl⟩
  have hT2:Touch (·=bl) w1 w2:=by rw[hw2];exact(Touch.refl (·=bl) w1).setCell (p:=⟨bl,6,none⟩) (.inr rfl) _
  have hX2:LX w w2 bl bd S R sv rv l2 d S R sv rv vs:=HX1.out.block hT2 (by rw[hl2,HL1.out]) (by rw[hl2,HL1.out]) (by
   have:=HX1.out.ld.lm.blk.set_ 6 (.bool true)
   rw[<- hw2,HL1.out]at this
   rw[hl2]
   simpa using this)
  have hB2:=HB1.out.touch hT2 fun a ha h0 e=>(HXB.out a ha h0).1 (.inl e)
  have hsl2:l2.segs=l.segs:=by rw[hl2]
  have hsg2:=hX2.ld.lm.segs
  rw[hsl2,HSV.out]at hsg2
  have hcell:∀j,j<8->w2.cell? ⟨g,o*8+(k*8+j),none⟩=(segC s)[j]? :=fun j hj=>by
   rw[hsg2.cell (j:=k*8+j) (by omega),segsC_get _ _ hgs hj]
  have g5:w2.cell? ⟨g,o*8+k*8+5,none⟩=some (.int .i64 (s.file:Int)):=hcell 5 (by omega)
  have hwk:IntKind.i64.wrap ((l.segs.length:Int)-1)=(k:Int):=by rw[IntWalk.i64_in _ (by omega)];omega
  have hkl:(k:Int)<(l.segs.length:Int):=by omega
  have hWq:∀q,((w.setCell ⟨bl,5,none⟩ (.bool true)).drewN q).setCell ⟨bl,6,none⟩ (.bool true)=w2.drewN q:=fun q=>by rw[hw2,HW1.out];rfl
  have HWQ:=zh hWq
  have f6:∀q,((w.setCell ⟨bl,5,none⟩ (.bool true)).drewN q).frozen? ⟨bl,6,none⟩=false:=fun q=>by
   have:=HX1.out.ld.lm.blk.frozen 6
   rw[HW1.out]at this
   exact this
  have e6:∀q,((w.setCell ⟨bl,5,none⟩ (.bool true)).drewN q).cell? ⟨bl,6,none⟩=some (.bool false):=fun q=>c6
  have g5:∀q,(((w.setCell ⟨bl,5,none⟩ (.bool true)).drewN q).setCell ⟨bl,6,none⟩ (.bool true)).cell? ⟨g,o*8+k*8+5,none⟩=some (.int .i64 (s.file:Int)):=fun q=>by rw[hWq];exact g5
  have HWW:=zh (show w2=(w.setCell ⟨bl,5,none⟩ (.bool true)).setCell ⟨bl,6,none⟩ (.bool true) by rw[hw2,HW1.out])
  have HX2:=zh hX2;have HGS:=zh hgs;have HSET:=zh hset;have HL2:=zh hl2;have HS:=zh hs
  have KL:=zh (show∀W,Fresh w2 W->Calls Tryz.prog 111 #[.pointer (some ⟨bl,0,none⟩), .int .i64 (s.file:Int), .slice A m cA] W fun e w'=>e= .returned (.int .i64 (layP d s.file xs).2)/\∃S3,LX w w' bl bd S R sv rv l2 (layP d s.file xs).1 S3 R sv rv vs from fun W hW=>by
   have hXW:=HX2.out.fresh hW
   refine(lay_any hXW.ld.lm hXW.ld.dk HB.out.sm (by have:=HB.out.K;omega) hXW.ld.dis (n:=s.file) (by omega) (hB2.fresh hW) (fun a ha h0=>⟨(HXB.out a ha h0).2.1,by have h1:=(HXB.out a ha h0).2.2;have h2:=hT2.size;have h3:=hW.size;omega⟩) (by have:=HB.out.m;have:=HB1.out.1;omega)).mono ?_
   rintro e w' ⟨rfl,ht,hd⟩
   exact⟨rfl,_,hXW.disk ht hd⟩)
  obtain⟨d3,hd3⟩:∃d3,d3=(layP d (s.file:Int) xs).1:=⟨_,rfl⟩
  rw[<- hd3]at KL
  have hXL:=HB1.out.1
  have HXL:=zh hXL
  have hm3:=HB.out.m
  have hws:IntKind.i64.wrap ((s.size:Int)+(m:Int))=(s.size:Int)+(m:Int):=IntWalk.i64_in _ (by omega)
  have hWP:writeP d l xs=if (layP d (s.file:Int) xs).2=0 then (d3,{ l with segs:=growLast l.segs xs.length,failed:=false,dirty:=false },0) else (d3,{ l with failed:=true,dirty:=true },(layP d (s.file:Int) xs).2):=by
   rw[hd3]
   unfold writeP
   rw[hs,List.getLast?_append]
   show (if l.dirty=false then _ else _)= _
   rw[if_pos hd]
   rfl
  have HWP:=zh hWP
  clear hX2 hT2 hl2 hw2 hB2 hsl2 hsg2 hcell hWq hgs hset hs hlen hk hsb hXL hd3 hWP hsA
  by_cases hw:(layP d (s.file:Int) xs).2=0
  ·rw[hw]at KL HWP
   clear hw
   go_enter Tryz.func77,Tryz.ntmps77
   go_wp2_with fail
   go_quiet (fail)
   go_wp2_with fail
   rw[HWQ.out]
   refine(KL.out _ ((Touch.refl _ w2).drewN _)).mono ?_
   rintro e w3 ⟨rfl,S3,hx3⟩
   have HX3:=zh hx3
   have hx3':=hx3
   rw[HSV.out]at hx3'
   have hsg3:=hx3'.ld.lm.segs
   rw[show l2.segs=l.segs by rw[HL2.out]]at hsg3
   have g6:w3.cell? ⟨g,o*8+k*8+6,none⟩=some (.int .i64 (s.size:Int)):=by
    rw[Nat.add_assoc,hsg3.cell (j:=k*8+6) (by have:=(List.getElem?_eq_some_iff.1 HGS.out).1;omega),segsC_get _ _ HGS.out (by omega)]
    rfl
   have gf:w3.frozen? ⟨g,o*8+k*8+6,none⟩=false:=hsg3.frozen _
   have hgb:g≠bl:=fun e=>hx3'.ld.lm.segs.ne_blk hx3'.ld.lm.blk (by decide) (by rw[<- e];rfl)
   have hb3:=fun v=>hx3'.ld.lm.blk.far (p:=⟨g,o*8+k*8+6,none⟩) (fun e=>hgb e.symm) v
   have y6:∀v,(w3.setCell ⟨g,o*8+k*8+6,none⟩ v).cell? ⟨bl,6,none⟩=some (.bool true):=fun v=>by have:=(hb3 v).cell 6;rw[HL2.out]at this;exact this
   have yf6:∀v,(w3.setCell ⟨g,o*8+k*8+6,none⟩ v).frozen? ⟨bl,6,none⟩=false:=fun v=>(hb3 v).frozen 6
   have y5:∀v,((w3.setCell ⟨g,o*8+k*8+6,none⟩ v).setCell ⟨bl,6,none⟩ (.bool false)).cell? ⟨bl,5,none⟩=some (.bool true):=fun v=>by have:=((hb3 v).set_ 6 (.bool false)).cell 5;rw[HL2.out]at this;simpa using this
   have yf5:∀v,((w3.setCell ⟨g,o*8+k*8+6,none⟩ v).setCell ⟨bl,6,none⟩ (.bool false)).frozen? ⟨bl,5,none⟩=false:=fun v=>((hb3 v).set_ 6 (.bool false)).frozen 5
   clear hx3 hx3' hsg3 hb3 KL
   go_wp2_with fail
   go_ret
   have hwp:=HWP.out
   rw[if_pos trivial]at hwp
   refine⟨by rw[hwp];rfl, ?_⟩
   rw[hwp]
   dsimp only
   have hx3:=HX3.out
   rw[HSV.out]at hx3 ⊢
   have h1:=hx3.seg (k:=k) (j:=6) (s:=s) (s':={ s with size:=s.size+m }) (u:= .int .i64 ((s.size:Int)+(m:Int))) (by rw[HL2.out];exact HGS.out) (by omega) (by simp[segC]) rfl
   rw[<- Nat.add_assoc]at h1
   obtain⟨W1,hW1⟩:∃W1,W1=w3.setCell ⟨g,o*8+k*8+6,none⟩ (.int .i64 ((s.size:Int)+(m:Int))):=⟨_,rfl⟩
   rw[<- hW1]at h1 ⊢
   refine⟨_,_,_,_,_,h1.block (((Touch.refl (·=bl) W1).setCell (p:=⟨bl,6,none⟩) (.inr rfl) _).setCell (p:=⟨bl,5,none⟩) (.inr rfl) _) ?_ (by rw[HL2.out]) ?_⟩
   ·show growLast l.segs xs.length=l2.segs.set k _
    rw[show l2.segs=l.segs by rw[HL2.out],HSET.out,HXL.out,HS.out,growLast_snoc]
   ·have:=(h1.ld.lm.blk.set_ 6 (.bool false)).set_ 5 (.bool false)
    rw[HL2.out]at this
    simpa using this
  ·have hw2:¬(layP d (s.file:Int) xs).2=0:=hw
   rw[if_neg hw]at HWP
   clear hw
   generalize (layP d (s.file:Int) xs).2=y at*
   go_enter Tryz.func77,Tryz.ntmps77
   go_wp2_with fail
   go_quiet (fail)
   go_wp2_with fail
   rw[HWQ.out]
   refine(KL.out _ ((Touch.refl _ w2).drewN _)).mono ?_
   rintro e w3 ⟨rfl,S3,hx3⟩
   have HX3:=zh hx3
   clear hx3 KL
   go_wp2_with fail
   go_ret
   refine⟨by rw[HWP.out];rfl, ?_⟩
   rw[HWP.out]
   have:=HX3.out
   rw[HL2.out]at this
   exact⟨_,_,_,_,_,this⟩
 ·have hW:writeP d l xs=beginP d l false l.c.first l.c.next xs:=by
   unfold writeP
   rcases nil_or_snoc l.segs with hnil | ⟨s0,s,hs⟩
   ·rw[hnil];rfl
   ·rw[hs,List.getLast?_append]
    show (if l.dirty=false then _ else _)= _
    rw[if_neg fun e=>hA ⟨⟨s0,s,hs⟩,e⟩]
  have HWP:=zh hW
  have KN:=zh (show∀W,Fresh w1 W->Calls Tryz.prog 76 #[.pointer (some ⟨bl,0,none⟩)] W fun e w'=>Fresh w1 w'/\e= .returned (.int .i64 (l.c.next:Int)) from fun W hW=>by
   refine(next_any (HX1.out.ld.lm.fresh hW) (by rw[HL1.out];exact HB.out.lnext)).mono ?_
   rintro e w' ⟨rfl,q2,rfl⟩
   exact⟨hW.drewN q2,by rw[HL1.out]⟩)
  have hKB:∀W,Fresh w1 W->Calls Tryz.prog 112 #[.pointer (some ⟨bl,0,none⟩), .int .u8 104, .agg #[.int .i64 0, .int .i64 0, .int .i64 (l.c.first:Int), .int .i64 (l.c.next:Int)], .slice A m cA] W fun e w'=>w'.cell? ⟨bl,3,none⟩=some (.int .i64 (l.c.first:Int))/\WriEnd w bl bd R S l sv rv d xs e w':=by
   intro W hW
   refine(lbegin_any (HX1.out.ld.fresh hW) false l.c.first l.c.next (HB1.out.fresh hW) (fun a ha h0=>⟨(HXB.out a ha h0).1,(HXB.out a ha h0).2.1,Nat.lt_of_lt_of_le (HXB.out a ha h0).2.2 hW.size⟩) (by have:=HB.out;rw[HL1.out];exact⟨this.sm,this.K,this.n,this.base,this.seg,this.first,this.next,this.lnext,this.m⟩)).mono ?_
   rintro e w' ⟨rfl,hlb⟩
   rw[begL_false,HL1.out,begin_failed,<- HWP.out]at hlb
   refine⟨?_,by rw[HL1.out,begin_failed,<- HWP.out],(HX1.out.fresh hW).lb hlb⟩
   obtain⟨S2,R2,sv2,rv2,vs2,h2⟩:=hlb
   have h3:=h2.ld.lm.blk.cell 3
   rw[HWP.out,begin_c]at h3
   exact h3
  have KB:=zh hKB
  clear hKB
  have hcase:(decide ((0:Int)<(l.segs.length:Int))=false)\/(decide ((0:Int)<(l.segs.length:Int))=true/\l.dirty=true):=by
   rcases nil_or_snoc l.segs with hnil | ⟨s0,s,hs⟩
   ·exact .inl (by rw[hnil];rfl)
   ·refine .inr ⟨by rw[hs];simp, ?_⟩
    cases hdd:l.dirty with
    | true=>rfl
    | false=>exact absurd ⟨⟨s0,s,hs⟩,hdd⟩ hA
  clear hW hA
  have HST:=zh (show∀W,Fresh w1 W->Fresh w1 W/\W.cell? ⟨bl,3,none⟩=some (.int .i64 (l.c.first:Int)) from fun W hW=>⟨hW,hW.cell (by rw[HW1.out];exact c3) id⟩)
  rcases hcase with hp1 | ⟨hp1,hd⟩
  ·have hp2:¬(0:Int)<(l.segs.length:Int):=by simpa using hp1
   have hp3:¬ 0<l.segs.length:=by omega
   go_enter Tryz.func77,Tryz.ntmps77
   go_upto_region 12 with fail
   rw[<- HW1.out]
   go_region_held3 (fun W=>W.cell? ⟨bl,3,none⟩=some (.int .i64 (l.c.first:Int)))
    (first | assumption | exact(HST.out _ ((Touch.refl _ w1).drew)).2 | exact(HST.out _ (Touch.refl _ w1)).2)
    (first
     | (go_simp;go_at_call 76;refine(KN.out _ ((Touch.refl _ w1).drew)).mono ?_;rintro e w2 ⟨hf2,rfl⟩;have k2:=(HST.out w2 hf2).2;have HF2:=zh hf2;clear hf2)
     | (go_simp;go_at_call 112;refine(KB.out _ HF2.out).mono ?_;rintro e w3 ⟨k3,rfl,hlb3⟩;have HLB3:=zh hlb3;clear hlb3))
   go_wp2_with fail
   go_ret
   exact⟨rfl,HLB3.out⟩
  ·have hp2:(0:Int)<(l.segs.length:Int):=by simpa using hp1
   have hp3:0<l.segs.length:=by omega
   rw[hd]at c6
   go_enter Tryz.func77,Tryz.ntmps77
   go_upto_region 12 with fail
   rw[<- HW1.out]
   go_region_held3 (fun W=>W.cell? ⟨bl,3,none⟩=some (.int .i64 (l.c.first:Int)))
    (first | assumption | exact(HST.out _ ((Touch.refl _ w1).drew)).2 | exact(HST.out _ (Touch.refl _ w1)).2)
    (first
     | (go_simp;go_at_call 76;refine(KN.out _ ((Touch.refl _ w1).drew)).mono ?_;rintro e w2 ⟨hf2,rfl⟩;have k2:=(HST.out w2 hf2).2;have HF2:=zh hf2;clear hf2)
     | (go_simp;go_at_call 112;refine(KB.out _ HF2.out).mono ?_;rintro e w3 ⟨k3,rfl,hlb3⟩;have HLB3:=zh hlb3;clear hlb3))
   go_wp2_with fail
   go_ret
   exact⟨rfl,HLB3.out⟩
end
theorem slice_new(w:World)(x:Value)(hx:x.oneCell'=true):Src Tryz.prog 1 136 (.slice (some ⟨w.heap.size,0,none⟩) 1 1) 1 [x] (w.alloc (.cells #[x] 29)):=by
 refine Src.ofSlice _ Tryz.underlying136 _ _ _ _ rfl (fun j u hu=> ?_) (by simpa using hx)
 have hb:=Blk.new w 29 #[x]
 rw[add_flat,Nat.zero_add,hb.cell j,List.getElem?_toArray]
 exact hu
theorem use_small{d d':Dk}{k r m K:Nat}(h:Use d d' k r m)(hs:d.small K):d'.small (K+k+r+m):=
 ⟨fun f hf=>by have:=h.raws K hs.raw f hf;omega,by have:=h.files;have:=hs.many;omega,by have:=h.len;have:=hs.faults;omega,by have:=h.hi;have:=hs.ops;omega⟩
theorem write_c(d:Dk)(l:Lg)(xs:List UInt8):(writeP d l xs).2.1.c=l.c:=by
 unfold writeP
 split
 ·split
  ·split<;>rfl
  ·exact begin_c _ _ _ _ _ _
 ·exact begin_c _ _ _ _ _ _
theorem begin_segs{d:Dk}{l:Lg}{whole:Bool}{first next:Nat}{xs:List UInt8}(h:(beginP d l whole first next xs).2.2=0):
  ∃s0 s,(begL d l whole first next xs).segs=s0++ [s]/\s0=(if whole=true then l.segs.map (fun s=>{ s with last:=first }) else l.segs)/\s.file=freeP (usedN d.fs l.base l.segs) l.base:=by
 unfold begL
 rw[if_pos h]
 exact⟨_,_,rfl,rfl,rfl⟩
theorem write_segs{d:Dk}{l:Lg}{xs:List UInt8}(h:(writeP d l xs).2.2=0):∃s0 s,(writeP d l xs).2.1.segs=s0++ [s]/\(s0++ [s]).length<=l.segs.length+1/\∀t∈s0++ [s],(∃s'∈l.segs,t.file=s'.file)\/t.file=freeP (usedN d.fs l.base l.segs) l.base:=by
 have hbeg:(beginP d l false l.c.first l.c.next xs).2.2=0->∃s0 s,(beginP d l false l.c.first l.c.next xs).2.1.segs=s0++ [s]/\(s0++ [s]).length<=l.segs.length+1/\∀t∈s0++ [s],(∃s'∈l.segs,t.file=s'.file)\/t.file=freeP (usedN d.fs l.base l.segs) l.base:=fun h=>by
  obtain⟨s0,s,h1,h2,h3⟩:=begin_segs h
  rw[begL_false]at h1
  rw[if_neg (by simp)]at h2
  refine⟨s0,s,h1,by rw[h2];simp,fun t ht=> ?_⟩
  rcases List.mem_append.1 ht with ht | ht
  ·exact .inl ⟨t,by rw[<- h2];exact ht,rfl⟩
  ·rw[List.mem_singleton]at ht
   exact .inr (by rw[ht];exact h3)
 unfold writeP at h ⊢
 rcases nil_or_snoc l.segs with hnil | ⟨s0,s,hs⟩
 ·rw[hnil]at h ⊢
  rw[hnil]at hbeg
  exact hbeg h
 ·have hg:l.segs.getLast? =some s:=by rw[hs,List.getLast?_append];rfl
  rw[hg]at h ⊢
  dsimp only at h ⊢
  by_cases hd:l.dirty=false
  ·rw[if_pos hd]at h ⊢
   by_cases hl:(layP d (s.file:Int) xs).2=0
   ·rw[if_pos hl]
    refine⟨s0,{ s with size:=s.size+xs.length },by rw[hs];exact growLast_snoc _ _ _,by rw[hs];simp,fun t ht=> ?_⟩
    rcases List.mem_append.1 ht with ht | ht
    ·exact .inl ⟨t,by rw[hs];exact List.mem_append_left _ ht,rfl⟩
    ·rw[List.mem_singleton]at ht
     exact .inl ⟨s,by rw[hs];simp,by rw[ht]⟩
   ·rw[if_neg hl]at h
    exact absurd h hl
  ·rw[if_neg hd]at h ⊢
   exact hbeg h
section
variable {w w':World}{bl bd:Nat}{R S R' S':Nat->Prop}{l l' l2:Lg}{sv rv sv' rv':Value}{vs vs':List Value}{d d':Dk}{K:Nat}
theorem LX.push{w1 w2:World}{BC B:Option Addr}{cc c n:Nat}{b:List UInt8}{o:Obj}(h:LX w w' bl bd S R sv rv l' d' S' R' sv' rv' vs')(hn:n=l'.c.rows.length)(hf:Fresh w' w1)(hbs:Bs w1 BC b.length cc b)(hbn:∀a,BC=some a->w'.heap.size<=a.block)
  (ho:Ow w2 29 1 (.slice B (n+1) c) (n+1) (vs'++ [.slice BC b.length cc])) (hg:(w1.alloc o).grownBy w2 rv'.ownBlock) (hb:(Value.slice B (n+1) c).ownBlock=rv'.ownBlock\/(Value.slice B (n+1) c).ownBlock=some (w1.alloc o).heap.size) (hl:l2={ l' with c:=l'.c.add b }):
  ∃R2,LX w (w2.setCell ⟨bl,4,none⟩ (.slice B (n+1) c)) bl bd S R sv rv l2 d' S' R2 sv' (.slice B (n+1) c) (vs'++ [.slice BC b.length cc]):=by
 subst hl hn
 have hm:=h.ld.lm
 have hfo:Fresh w' (w1.alloc o):=hf.alloc o
 have hm1:=hm.fresh hfo
 obtain⟨x,hx⟩:∃x,x=Value.slice B (l'.c.rows.length+1) c:=⟨_,rfl⟩
 rw[<- hx]at ho hb ⊢
 have hsz:(w1.alloc o).heap.size=w1.heap.size+1:=World.size_alloc _ _
 have hs1:=hf.size
 have hs2:=hg.size
 have hclt:∀a,BC=some a->0<b.length->a.block<w1.heap.size:=fun a ha h0=>by
  obtain⟨b',o',e,hc⟩:=hbs.2.2.2 h0
  have hc0:=World.block_lt_of_cell? _ _ (hc 0 _ (List.getElem?_eq_getElem h0))
  rw[ha]at e
  injection e with e
  rw[e]
  exact hc0
 have hT1:Touch (lfoot bl sv' rv') w' w2:=(hfo.mono fun _ _=>False.elim).grown hg fun q hq=> .inr (.inr (.inr hq))
 have hb2:Blk w2 bl 138 _:=hm1.blk.grown hg fun e=>hm1.rows.ne_blk hm1.blk (by decide) e.symm
 have hT:Touch (lfoot bl sv' rv') w' (w2.setCell ⟨bl,4,none⟩ x):=hT1.setCell (p:=⟨bl,4,none⟩) (.inr (.inl rfl)) _
 have hT2:Touch (·=bl) w2 (w2.setCell ⟨bl,4,none⟩ x):=(Touch.refl (·=bl) w2).setCell (p:=⟨bl,4,none⟩) (.inr rfl) _
 have hbl:=hm.blk.lt
 have hbs3:Bs (w2.setCell ⟨bl,4,none⟩ x) BC b.length cc b:=by
  refine((hbs.alloc o).keep fun h0 p v hp ⟨a,ha,e⟩=> ?_:Bs w2 BC b.length cc b).touch hT2 fun a ha h0 e=>by have:=hbn a ha;omega
  have h1:=hbn a ha
  rw[World.cell?_of_block (hg.block p.block (World.block_lt_of_cell? _ p hp) fun e2=>by
   have:=hm.rows.lt p.block e2.symm
   omega)]
  exact hp
 refine⟨fun k=>R' k\/∃a,BC=some a/\0<b.length/\k=a.block,h.own hT ⟨?_, ?_, ?_, ?_⟩ (fun k hk=> ?_) fun k hk=> ?_⟩
 ·simpa [Ct.add] using hb2.set_ 4 x
 ·refine(hm1.segs.grown hg fun k hk e=> ?_).touch hT2 fun k hk e=> ?_
  ·exact hm1.segs.ne_ow hm1.rows (by decide) k hk e.symm
  ·exact hm.segs.ne_blk hm.blk (by decide) (by rw[hk,e])
 ·show Ow _ _ 1 x (l'.c.rows++ [b]).length _
  rw[List.length_append,List.length_singleton]
  exact ho.touch hT2 fun k hk e=>ho.ne_blk hb2 (by decide) (by rw[hk,e])
 ·have hold:RecsOf (w2.setCell ⟨bl,4,none⟩ x) R' vs' l'.c.rows:=(hm.recs.touch ((hfo.mono fun _ _=>False.elim:Touch (fun k=>rv'.ownBlock=some k) w' (w1.alloc o)).grown hg fun q hq=> .inr hq) fun k hk e=>h.ld.nR k (.inr (.inr e)) hk).touch hT2 fun k hk e=>h.ld.nR k (.inl e) hk
  refine⟨?_,fun i b' hi=> ?_, ?_⟩
  ·show _=(l'.c.rows++ [b]).length
   rw[List.length_append,List.length_append,hold.len]
   rfl
  ·have hi:(l'.c.rows++ [b])[i]? =some b':=hi
   by_cases hlt:i<l'.c.rows.length
   ·rw[List.getElem?_append_left hlt]at hi
    obtain⟨A,c',h1,h2,h3⟩:=hold.at_ i b' hi
    refine⟨A,c', ?_,h2,fun a ha h0=>⟨.inl (h3 a ha h0).1,(h3 a ha h0).2⟩⟩
    rw[List.getElem?_append_left (by rw[hold.len];exact hlt)]
    exact h1
   ·rw[List.getElem?_append_right (by omega)]at hi
    have hil:i-l'.c.rows.length=0:=by
     have:=(List.getElem?_eq_some_iff.1 hi).1
     simp at this
     omega
    rw[hil]at hi
    simp only[List.getElem?_cons_zero,Option.some.injEq]at hi
    subst hi
    refine⟨BC,cc, ?_,hbs3,fun a ha h0=>⟨.inr ⟨a,ha,h0,rfl⟩, ?_⟩⟩
    ·rw[List.getElem?_append_right (by rw[hold.len];omega),hold.len,hil]
     rfl
    ·have h1:=hclt a ha h0
     have h2:=hT2.size
     omega
  ·intro u hu
   rcases List.mem_append.1 hu with hu | hu
   ·exact hold.one u hu
   ·rw[List.mem_singleton]at hu
    rw[hu]
    rfl
 ·rcases hk with hk | hk | hk
  ·exact .inl (.inl hk)
  ·exact .inl (.inr (.inl hk))
  ·rcases hb with e | e
   ·exact .inl (.inr (.inr (e.symm.trans hk)))
   ·refine .inr ?_
    rw[hk]at e
    injection e with e
    refine⟨by omega, ?_⟩
    rintro(hr | ⟨a,ha,h0,hk2⟩)
    ·have:=h.ld.Rlt k hr;omega
    ·have:=hclt a ha h0;omega
 ·rcases hk with hk | ⟨a,ha,h0,hk2⟩
  ·exact .inl hk
  ·have h1:=hbn a ha
   have h2:=hclt a ha h0
   have h3:=hT2.size
   refine .inr ⟨?_,by omega,fun hs=> ?_,fun hf'=> ?_⟩
   ·have:=h.tch.size;omega
   ·have:=h.ld.dk.below k hs;omega
   ·have:=hm.lt k hf';omega
end
end Go.Proofs.YtjehlgblkfofpaaGreat
namespace Go.Proofs.YtjehlgblkfofpaaGreat
open Go.RowKit
def twoWays(J D:Act->World->Prop)(Q:Exit->Act->World->Prop):Exit->Act->World->Prop
 | .goto l,a,w=>(l=0/\J a w)\/(l=1/\D a w)
 | e,a,w=>Q e a w
section
variable {P:Program}{Q:Exit->Act->World->Prop}
theorem scope_two{c r0 r1:Code}{a:Act}{w:World}(J D:Act->World->Prop)(μ:Act->World->Nat)(h0:findLabel c 0=some r0)(h1:findLabel c 1=some r1)(first:c.wp P (twoWays J D Q) a w)
  (pass:∀a w,J a w->r0.wp P (twoWays (fun a' w'=>J a' w'/\μ a' w'<μ a w) D Q) a w) (done:∀a w,D a w->r1.wp P (twoWays (fun _ _=>False) (fun _ _=>False) Q) a w):(Code.scope c).wp P Q a w:=by
 intro b k cs
 have g0:gotoIn 0 (.inScope c :: k)=some (.code r0 :: .inScope c :: k):=by simp[gotoIn,h0]
 have g1:gotoIn 1 (.inScope c :: k)=some (.code r1 :: .inScope c :: k):=by simp[gotoIn,h1]
 have hD:∀a w,D a w->∃e a' w',Q e a' w'/\Arrives P (lone (b.at a (.code r1 :: .inScope c :: k)) cs w) b k cs e a' w':=by
  intro a w hd
  obtain⟨e,a',w',hq,hr⟩:=done a w hd b (.inScope c :: k) cs
  cases e with
  | normal=>exact⟨.normal,a',w',hq,Steps.trans hr (.one step_inScope)⟩
  | exit id=>exact⟨.exit id,a',w',hq,fun k' hk=>hr k' (by simp[exitTo,hk])⟩
  | goto l'=>exact(hq.elim (fun h=>h.2.elim) fun h=>h.2.elim)
  | ret=>exact⟨_,a',w',hq,hr⟩
  | panic ch=>exact⟨_,a',w',hq,hr⟩
  | outgrown=>exact⟨_,a',w',hq,hr⟩
 have hJ:∀n a w,μ a w=n->J a w->∃e a' w',Q e a' w'/\Arrives P (lone (b.at a (.code r0 :: .inScope c :: k)) cs w) b k cs e a' w':=by
  intro n
  induction n using Nat.strongRecOn with
  | _ n ih=>
   intro a w hn hj
   obtain⟨e,a',w',hq,hr⟩:=pass a w hj b (.inScope c :: k) cs
   cases e with
   | normal=>exact⟨.normal,a',w',hq,Steps.trans hr (.one step_inScope)⟩
   | exit id=>exact⟨.exit id,a',w',hq,fun k' hk=>hr k' (by simp[exitTo,hk])⟩
   | goto l'=>
    rcases hq with⟨rfl,hj',hlt⟩ | ⟨rfl,hd⟩
    ·obtain⟨e2,a2,w2,hq2,hr2⟩:=ih _ (by omega) a' w' rfl hj'
     exact⟨e2,a2,w2,hq2, .of_steps (hr _ g0) hr2⟩
    ·obtain⟨e2,a2,w2,hq2,hr2⟩:=hD a' w' hd
     exact⟨e2,a2,w2,hq2, .of_steps (hr _ g1) hr2⟩
   | ret=>exact⟨_,a',w',hq,hr⟩
   | panic ch=>exact⟨_,a',w',hq,hr⟩
   | outgrown=>exact⟨_,a',w',hq,hr⟩
 obtain⟨e,a',w',hq,hr⟩:=first b (.inScope c :: k) cs
 cases e with
 | normal=>exact⟨.normal,a',w',hq, .head step_scope (Steps.trans hr (.one step_inScope))⟩
 | exit id=>exact⟨.exit id,a',w',hq,fun k' hk=> .head step_scope (hr k' (by simp[exitTo,hk]))⟩
 | goto l'=>
  rcases hq with⟨rfl,hj⟩ | ⟨rfl,hd⟩
  ·obtain⟨e2,a2,w2,hq2,hr2⟩:=hJ _ a' w' rfl hj
   exact⟨e2,a2,w2,hq2, .of_steps (.head step_scope (hr _ g0)) hr2⟩
  ·obtain⟨e2,a2,w2,hq2,hr2⟩:=hD a' w' hd
   exact⟨e2,a2,w2,hq2, .of_steps (.head step_scope (hr _ g1)) hr2⟩
 | ret=>exact⟨_,a',w',hq, .of_steps (.one step_scope) hr⟩
 | panic ch=>exact⟨_,a',w',hq, .of_steps (.one step_scope) hr⟩
 | outgrown=>exact⟨_,a',w',hq, .of_steps (.one step_scope) hr⟩
theorem scope_again{c R r1:Code}{a:Act}{w:World}(J D:Act->World->Prop)(μ:Act->World->Nat)(h0:findLabel c 0=some (Code.skip.seq R))(h1:findLabel c 1=some r1)
  (pass:∀a w,J a w->R.wp P (twoWays (fun a' w'=>J a' w'/\μ a' w'<μ a w) D Q) a w) (done:∀a w,D a w->r1.wp P (twoWays (fun _ _=>False) (fun _ _=>False) Q) a w)
  (first:(∀a w,J a w->R.wp P (twoWays J D Q) a w)->c.wp P (twoWays J D Q) a w):(Code.scope c).wp P Q a w:=
 scope_two J D μ h0 h1 (first fun a w hj=>Code.wp_mono (fun e a' w' q=>by
  cases e with
  | goto l=>exact q.imp (fun h=>⟨h.1,h.2.1⟩) id
  | _=>exact q) (pass a w hj)) (fun a w hj=>wp_seq (wp_skip (pass a w hj))) done
end
attribute [local go_sem] Oper.semAt_some
section
variable {w w':World}{bl bd:Nat}{R S R' S':Nat->Prop}{l l' l2:Lg}{sv rv sv' rv':Value}{vs vs':List Value}{d d':Dk}{K:Nat}
theorem LX.push2{w1 w2:World}{BC B:Option Addr}{cc c n:Nat}{b:List UInt8}{o:Obj}(h:LX w w' bl bd S R sv rv l' d' S' R' sv' rv' vs')(hn:n=l'.c.rows.length)(hf:Fresh w' w1)(hbs:Bs w1 BC b.length cc b)(hbn:∀a,BC=some a->0<b.length->w.heap.size<=a.block/\¬S' a.block/\¬lfoot bl sv' rv' a.block)
  (ho:Ow w2 29 1 (.slice B (n+1) c) (n+1) (vs'++ [.slice BC b.length cc])) (hg:(w1.alloc o).grownBy w2 rv'.ownBlock) (hb:(Value.slice B (n+1) c).ownBlock=rv'.ownBlock\/(Value.slice B (n+1) c).ownBlock=some (w1.alloc o).heap.size) (hl:l2={ l' with c:=l'.c.add b }):
  LX w (w2.setCell ⟨bl,4,none⟩ (.slice B (n+1) c)) bl bd S R sv rv l2 d' S' (fun k=>R' k\/∃a,BC=some a/\0<b.length/\k=a.block) sv' (.slice B (n+1) c) (vs'++ [.slice BC b.length cc]):=by
 subst hl hn
 have hm:=h.ld.lm
 have hfo:Fresh w' (w1.alloc o):=hf.alloc o
 have hm1:=hm.fresh hfo
 obtain⟨x,hx⟩:∃x,x=Value.slice B (l'.c.rows.length+1) c:=⟨_,rfl⟩
 rw[<- hx]at ho hb ⊢
 have hsz:(w1.alloc o).heap.size=w1.heap.size+1:=World.size_alloc _ _
 have hs1:=hf.size
 have hs2:=hg.size
 have hclt:∀a,BC=some a->0<b.length->a.block<w1.heap.size:=fun a ha h0=>by
  obtain⟨b',o',e,hc⟩:=hbs.2.2.2 h0
  have hc0:=World.block_lt_of_cell? _ _ (hc 0 _ (List.getElem?_eq_getElem h0))
  rw[ha]at e
  injection e with e
  rw[e]
  exact hc0
 have hT1:Touch (lfoot bl sv' rv') w' w2:=(hfo.mono fun _ _=>False.elim).grown hg fun q hq=> .inr (.inr (.inr hq))
 have hb2:Blk w2 bl 138 _:=hm1.blk.grown hg fun e=>hm1.rows.ne_blk hm1.blk (by decide) e.symm
 have hT:Touch (lfoot bl sv' rv') w' (w2.setCell ⟨bl,4,none⟩ x):=hT1.setCell (p:=⟨bl,4,none⟩) (.inr (.inl rfl)) _
 have hT2:Touch (·=bl) w2 (w2.setCell ⟨bl,4,none⟩ x):=(Touch.refl (·=bl) w2).setCell (p:=⟨bl,4,none⟩) (.inr rfl) _
 have hbl:=hm.blk.lt
 have hbs3:Bs (w2.setCell ⟨bl,4,none⟩ x) BC b.length cc b:=by
  refine((hbs.alloc o).keep fun h0 p v hp ⟨a,ha,e⟩=> ?_:Bs w2 BC b.length cc b).touch hT2 fun a ha h0 e=>(hbn a ha h0).2.2 (.inl e)
  have h1:=hbn a ha h0
  rw[World.cell?_of_block (hg.block p.block (World.block_lt_of_cell? _ p hp) fun e2=>h1.2.2 (.inr (.inr (by rw[<- e];exact e2.symm))))]
  exact hp
 refine h.own hT ⟨?_, ?_, ?_, ?_⟩ (fun k hk=> ?_) fun k hk=> ?_
 ·simpa [Ct.add] using hb2.set_ 4 x
 ·refine(hm1.segs.grown hg fun k hk e=> ?_).touch hT2 fun k hk e=> ?_
  ·exact hm1.segs.ne_ow hm1.rows (by decide) k hk e.symm
  ·exact hm.segs.ne_blk hm.blk (by decide) (by rw[hk,e])
 ·show Ow _ _ 1 x (l'.c.rows++ [b]).length _
  rw[List.length_append,List.length_singleton]
  exact ho.touch hT2 fun k hk e=>ho.ne_blk hb2 (by decide) (by rw[hk,e])
 ·have hold:RecsOf (w2.setCell ⟨bl,4,none⟩ x) R' vs' l'.c.rows:=(hm.recs.touch ((hfo.mono fun _ _=>False.elim:Touch (fun k=>rv'.ownBlock=some k) w' (w1.alloc o)).grown hg fun q hq=> .inr hq) fun k hk e=>h.ld.nR k (.inr (.inr e)) hk).touch hT2 fun k hk e=>h.ld.nR k (.inl e) hk
  refine⟨?_,fun i b' hi=> ?_, ?_⟩
  ·show _=(l'.c.rows++ [b]).length
   rw[List.length_append,List.length_append,hold.len]
   rfl
  ·have hi:(l'.c.rows++ [b])[i]? =some b':=hi
   by_cases hlt:i<l'.c.rows.length
   ·rw[List.getElem?_append_left hlt]at hi
    obtain⟨A,c',h1,h2,h3⟩:=hold.at_ i b' hi
    refine⟨A,c', ?_,h2,fun a ha h0=>⟨.inl (h3 a ha h0).1,(h3 a ha h0).2⟩⟩
    rw[List.getElem?_append_left (by rw[hold.len];exact hlt)]
    exact h1
   ·rw[List.getElem?_append_right (by omega)]at hi
    have hil:i-l'.c.rows.length=0:=by
     have:=(List.getElem?_eq_some_iff.1 hi).1
     simp at this
     omega
    rw[hil]at hi
    simp only[List.getElem?_cons_zero,Option.some.injEq]at hi
    subst hi
    refine⟨BC,cc, ?_,hbs3,fun a ha h0=>⟨.inr ⟨a,ha,h0,rfl⟩, ?_⟩⟩
    ·rw[List.getElem?_append_right (by rw[hold.len];omega),hold.len,hil]
     rfl
    ·have h1:=hclt a ha h0
     have h2:=hT2.size
     omega
  ·intro u hu
   rcases List.mem_append.1 hu with hu | hu
   ·exact hold.one u hu
   ·rw[List.mem_singleton]at hu
    rw[hu]
    rfl
 ·rcases hk with hk | hk | hk
  ·exact .inl (.inl hk)
  ·exact .inl (.inr (.inl hk))
  ·rcases hb with e | e
   ·exact .inl (.inr (.inr (e.symm.trans hk)))
   ·refine .inr ?_
    rw[hk]at e
    injection e with e
    refine⟨by omega, ?_⟩
    rintro(hr | ⟨a,ha,h0,hk2⟩)
    ·have:=h.ld.Rlt k hr;omega
    ·have:=hclt a ha h0;omega
 ·rcases hk with hk | ⟨a,ha,h0,hk2⟩
  ·exact .inl hk
  ·have h1:=hbn a ha h0
   have h2:=hclt a ha h0
   have h3:=hT2.size
   subst hk2
   exact .inr ⟨h1.1,by omega,h1.2.1,h1.2.2⟩
end
end Go.Proofs.YtjehlgblkfofpaaGreat