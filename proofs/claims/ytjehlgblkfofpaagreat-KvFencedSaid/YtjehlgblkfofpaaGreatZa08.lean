/- The claims' texts, several in one: Cod, Enc, Dec, Plain, OpsE, Ks, Mp, Fun. Conditions stand with each theorem. -/
import Derived.Test.YtjehlgblkfofpaaGreatZa06
import Derived.Test.YtjehlgblkfofpaaGreatZa01
import Derived.Test.YtjehlgblkfofpaaGreatZa07
import Derived.Laws.BitsAllLaws
import Derived.Lib.SlBytesRow
import Derived.Deep.MidRow
import Derived.Test.YtjehlgblkfofpaaGreatZa02
set_option maxHeartbeats 4000000
set_option maxRecDepth 100000
namespace Go.Proofs.YtjehlgblkfofpaaGreat
open Go.RowKit
theorem xor_u32(a b:Nat)(ha:a<4294967296)(hb:b<4294967296):bits .xor .u32 (a:Int) (b:Int)=((a ^^^ b:Nat):Int):=u32_xor_nat a b ha hb
theorem sum_any(A:Option Addr)(n c:Nat)(xs:List UInt8)(w:World)(h:Bs w A n c xs):
  Calls Tryz.prog 123 #[.slice A n c] w fun e w'=>w'=w/\e= .returned (.int .u32 (Enc.sum xs:Nat)):=by
 have hm:=h.2.2.1
 have hnc:=h.2.1
 unfold maxLen at hm
 have hxl:=h.1
 have H:=zh h
 clear h
 go_enter Tryz.func123,Tryz.ntmps123
 go_wp2_with fail
 go_loop [3,8] (fun s i=>∃j:Nat,j<=n/\i= .int .i64 j/\s= .int .u32 (Enc.crcRun (xs.take j):Nat)) (fun _ i=>n-(intOf i).toNat)
 case atStart=>exact⟨0,by omega,rfl,rfl⟩
 case round=>
  obtain⟨j,hj,rfl,rfl⟩:=hrel
  by_cases hlt:j<n
  ·obtain⟨b,o,rfl⟩:=H.out.at_ (by omega)
   have hcell:=H.out.cellAt hlt
   have hsl:=Enc.crcRun_lt (xs.take j)
   have hstep:=Enc.crcRun_take xs j (by omega)
   have hxj:xs.getD j 0=xs[j]'(by omega):=by simp[List.getD_eq_getElem?_getD,List.getElem?_eq_getElem (show j<xs.length by omega)]
   rw[hxj]at hcell
   obtain⟨x,hx⟩:∃x,x=xs[j]'(by omega):=⟨_,rfl⟩
   rw[<- hx]at hcell hstep
   obtain⟨s,hs⟩:∃s,s=Enc.crcRun (xs.take j):=⟨_,rfl⟩
   rw[<- hs]at hsl hstep ⊢
   have HS:=zh hstep
   have hxb:=x.toNat_lt
   have hxor:=xor_u32 s x.toNat hsl (by omega)
   have hxl:=Enc.crcXor_lt hsl x
   clear hx hxj hs hstep
   go_wp2_with fail
   have hbits:∀k,Enc.crcBits k (s ^^^ x.toNat)<4294967296:=fun k=>Enc.crcBits_lt hxl k
   have HBITS:=zh hbits
   clear hbits
   go_loop [3,16] (fun s' i=>∃k:Nat,k<=8/\i= .int .i64 k/\s'= .int .u32 (Enc.crcBits k (s ^^^ x.toNat):Nat)) (fun _ i=>8-(intOf i).toNat)
   case atStart=>exact⟨0,by omega,rfl,rfl⟩
   case round=>
    obtain⟨k,hk,rfl,rfl⟩:=hrel
    by_cases hk8:k<8
    ·have hb1:=HBITS.out k
     have hstep:Enc.crcBits (k+1) (s ^^^ x.toNat)=Enc.crcBits k (s ^^^ x.toNat) / 2 ^^^ (3988292384*(Enc.crcBits k (s ^^^ x.toNat) % 2)):=rfl
     obtain⟨t,ht⟩:∃t,t=Enc.crcBits k (s ^^^ x.toNat):=⟨_,rfl⟩
     rw[<- ht]at hb1 hstep ⊢
     have HSTEP:=zh hstep
     clear ht hstep
     have hand:bits .and .u32 (t:Int) 1=((t % 2:Nat):Int):=by
      rw[show (1:Int)=((1:Nat):Int) from rfl,u32_and_nat t 1 hb1 (by omega),nat_mask1]
     have hwr:IntKind.u32.wrap (3988292384*((t % 2:Nat):Int))=((3988292384*(t % 2):Nat):Int):=by rw[IntKind.wrap_u32'];omega
     have hxo:bits .xor .u32 ((t:Int) / 2) ((3988292384*(t % 2):Nat):Int)=((t / 2 ^^^ (3988292384*(t % 2)):Nat):Int):=by
      rw[show (t:Int) / 2=((t / 2:Nat):Int) from by omega]
      exact u32_xor_nat (t / 2) (3988292384*(t % 2)) (by omega) (by omega)
     go_wp2_with fail
     refine⟨⟨k+1,by omega,by simp, ?_⟩,by simp[intOf]<;>omega⟩
     rw[HSTEP.out,<- hxo,Int.natCast_mul,Int.natCast_emod]
     rfl
    ·have:k=8:=by omega
     subst this
     go_wp2_with fail
     refine⟨⟨j+1,by omega,by simp, ?_⟩,by simp[intOf]<;>omega⟩
     rw[HS.out]
     rfl
  ·have:j=n:=by omega
   subst this
   have hs:=Enc.crcRun_lt (xs.take j)
   have hall:xs.take j=xs:=List.take_of_length_le (by omega)
   rw[hall]at hs
   have hnot:bits .xor .u32 IntKind.u32.max (Enc.crcRun xs:Int)=((4294967295 ^^^ Enc.crcRun xs:Nat):Int):=by
    rw[show IntKind.u32.max=((4294967295:Nat):Int) from by decide]
    exact u32_xor_nat _ _ (by omega) hs
   obtain⟨s,hsE⟩:∃s,s=Enc.crcRun xs:=⟨_,rfl⟩
   rw[hall]
   have hsum:Enc.sum xs=4294967295 ^^^ s:=by rw[hsE];rfl
   rw[<- hsE]at hnot ⊢
   have HSUM:=zh hsum
   have HNOT:=zh hnot
   clear hsum hsE hall hnot
   go_wp2_with fail
   go_ret
   exact⟨rfl,by rw[HSUM.out,HNOT.out];rfl⟩
theorem four_cells(n:Nat)(h:n<4294967296): [Value.int .u8 ((n:Int) / 16777216), .int .u8 ((n:Int) / 65536 % 256), .int .u8 ((n:Int) / 256 % 256), .int .u8 ((n:Int) % 256)]=u8s (Enc.four n):=by
 simp[u8s,Enc.four]
 omega
theorem four_any(n:Nat)(w:World)(h:n<4294967296):
  Calls Tryz.prog 144 #[.int .u32 n] w fun e w'=>Fresh w w'/\w'.heap.size=w.heap.size+1/\e= .returned (.slice (some ⟨w.heap.size,0,none⟩) 4 4)/\Row w' (.slice (some ⟨w.heap.size,0,none⟩) 4 4) (Enc.four n):=by
 go_enter Tryz.func144,Tryz.ntmps144
 go_wp2_with fail
 go_ret
 exact⟨(Touch.refl _ w).alloc _,by simp,rfl,Row.lit (Enc.four n) #[.int .u8 ((n:Int) / 16777216), .int .u8 ((n:Int) / 65536 % 256), .int .u8 ((n:Int) / 256 % 256), .int .u8 ((n:Int) % 256)] (four_cells n h) (by rw[Enc.four_length];omega)⟩
theorem or4(x0 x1 x2 x3:Nat)(h0:x0<2 ^ 8)(h1:x1<2 ^ 8)(h2:x2<2 ^ 8)(h3:x3<2 ^ 8):
  bits .or .u32 (bits .or .u32 (bits .or .u32 ((x0:Int)*16777216) ((x1:Int)*65536)) ((x2:Int)*256)) (x3:Int)=((x0*16777216+x1*65536+x2*256+x3:Nat):Int):=by
 have e1:x0*16777216 ||| x1*65536=x0*16777216+x1*65536:=by
  have:=Nat.shiftLeft_add_eq_or_of_lt (b:=x1*65536) (i:=24) (by omega) x0
  rw[Nat.shiftLeft_eq,show (2:Nat) ^ 24=16777216 from rfl]at this
  exact this.symm
 have e2:(x0*16777216+x1*65536) ||| x2*256=x0*16777216+x1*65536+x2*256:=by
  have:=Nat.shiftLeft_add_eq_or_of_lt (b:=x2*256) (i:=16) (by omega) (x0*256+x1)
  rw[Nat.shiftLeft_eq,show (2:Nat) ^ 16=65536 from rfl,show (x0*256+x1)*65536=x0*16777216+x1*65536 by simp only[Nat.add_mul,Nat.mul_assoc,Nat.reduceMul]]at this
  exact this.symm
 have e3:(x0*16777216+x1*65536+x2*256) ||| x3=x0*16777216+x1*65536+x2*256+x3:=by
  have:=Nat.shiftLeft_add_eq_or_of_lt (b:=x3) (i:=8) (by omega) (x0*65536+x1*256+x2)
  rw[Nat.shiftLeft_eq,show (2:Nat) ^ 8=256 from rfl,show (x0*65536+x1*256+x2)*256=x0*16777216+x1*65536+x2*256 by simp only[Nat.add_mul,Nat.mul_assoc,Nat.reduceMul]]at this
  exact this.symm
 rw[show (x0:Int)*16777216=((x0*16777216:Nat):Int) by simp,show (x1:Int)*65536=((x1*65536:Nat):Int) by simp,show (x2:Int)*256=((x2*256:Nat):Int) by simp]
 rw[u32_or_nat _ _ (by omega) (by omega),e1,u32_or_nat _ _ (by omega) (by omega),e2,u32_or_nat _ _ (by omega) (by omega),e3]
theorem unfour_any(A:Option Addr)(n c:Nat)(xs:List UInt8)(w:World)(hb:Bs w A n c xs)(h4:4<=n):
  Calls Tryz.prog 174 #[.slice A n c] w fun e w'=>(∃k,w'=w.drewN k)/\e= .returned (.int .u32 (Enc.unfour xs:Nat)):=by
 obtain⟨b,o,rfl⟩:=hb.at_ (by omega)
 have hc0:w.cell? ⟨b,o,none⟩=some (.int .u8 ((xs.getD 0 0).toNat:Int)):=hb.cellAt (j:=0) (by omega)
 have hc1:=hb.cellAt (j:=1) (by omega)
 have hc2:=hb.cellAt (j:=2) (by omega)
 have hc3:=hb.cellAt (j:=3) (by omega)
 have hx0:=(xs.getD 0 0).toNat_lt
 have hx1:=(xs.getD 1 0).toNat_lt
 have hx2:=(xs.getD 2 0).toNat_lt
 have hx3:=(xs.getD 3 0).toNat_lt
 have hu:Enc.unfour xs=(xs.getD 0 0).toNat*16777216+(xs.getD 1 0).toNat*65536+(xs.getD 2 0).toNat*256+(xs.getD 3 0).toNat:=rfl
 generalize (xs.getD 0 0).toNat=x0 at*
 generalize (xs.getD 1 0).toNat=x1 at*
 generalize (xs.getD 2 0).toNat=x2 at*
 generalize (xs.getD 3 0).toNat=x3 at*
 have HU:=zh hu
 have hn0:(0:Int)<(n:Int):=by omega
 have hnn:0<n:=by omega
 have hn1:(1:Int)<(n:Int):=by omega
 have hn2:(2:Int)<(n:Int):=by omega
 have hn3:(3:Int)<(n:Int):=by omega
 clear hu hb
 go_enter Tryz.func174,Tryz.ntmps174
 go_wp2_with fail
 go_quiet (fail)
 go_wp2_with fail
 go_ret
 refine⟨⟨nq,rfl⟩, ?_⟩
 have:=or4 x0 x1 x2 x3 hx0 hx1 hx2 hx3
 rw[HU.out,<- this]
 rfl
theorem Bs.drop_{w:World}{b o n c:Nat}{xs:List UInt8}(h:Bs w (some ⟨b,o,none⟩) n c xs){k:Nat}(hk:k<=n):Bs w (some ⟨b,o+k,none⟩) (n-k) (c-k) (xs.drop k):=by
 refine⟨by rw[List.length_drop,h.1],by have:=h.2.1;omega,by have:=h.2.2.1;omega,fun h0=>⟨b,o+k,rfl,fun j x hx=> ?_⟩⟩
 rw[List.getElem?_drop]at hx
 obtain⟨b',o',e,hc⟩:=h.2.2.2 (by omega)
 injection e with e
 injection e with e1 e2
 subst e1 e2
 have:=hc _ x hx
 rwa [<- Nat.add_assoc]at this
def Fb(w:World)(g cap:Nat)(l:List UInt8):Prop:=(∀i x,l[i]? =some x->w.cell? ⟨g,i,none⟩=some (.int .u8 (x.toNat:Int)))/\w.there g 0 cap/\l.length<=cap/\cap<=maxLen
theorem Fb.bs{w:World}{g cap:Nat}{l:List UInt8}(h:Fb w g cap l):Bs w (some ⟨g,0,none⟩) l.length cap l:=
 ⟨rfl,h.2.2.1,h.2.2.2,fun _=>⟨g,0,rfl,fun j x hx=>by rw[Nat.zero_add];exact h.1 j x hx⟩⟩
theorem fb_fresh{w:World}{B:Nat}{v:Value}{l:List UInt8}(h:Lib.FreshBytes B w v l):∃g cap,v= .slice (some ⟨g,0,none⟩) l.length cap/\B<=g/\Fb w g cap l:=by
 obtain⟨g,cap,zs,hv,hB,hl,hm,hz,hr,hb,hc,hf⟩:=h
 refine⟨g,cap,hv,hB,fun i x hx=> ?_,fun i hi=>⟨by rw[Nat.zero_add,hc i hi];rfl,by rw[Nat.zero_add];exact hf i hi⟩,hl,hm⟩
 have hi:i<l.length:=(List.getElem?_eq_some_iff.1 hx).1
 rw[hc i (by omega)]
 rw[<- hb,Lib.bytesOf,List.getElem?_map,List.getElem?_take,if_pos hi,List.getElem?_eq_getElem (by omega)]at hx
 simp only[Option.map_some,Option.some.injEq]at hx
 have hin:=hr _ (List.getElem_mem (show i<zs.length by omega))
 rw[List.getD_eq_getElem?_getD,List.getElem?_eq_getElem (by omega),<- hx]
 simp only[Option.getD_some,UInt8.toNat_ofNat']
 congr 2
 omega
theorem holds_bs{w:World}{A:Option Addr}{c:Nat}{xs:List UInt8}(h:Bs w A xs.length c xs):Lib.HoldsBytes w (.slice A xs.length c) xs:=by
 by_cases h0:xs= []
 ·subst h0
  exact⟨A,c,rfl,fun _=>rfl,fun a _ i x hx=>by simp at hx⟩
 ·obtain⟨b,o,e,hc⟩:=h.2.2.2 (List.length_pos_iff.2 h0)
  refine⟨A,c,rfl,(fun e'=>by rw[e']at e;cases e),fun a ha i x hx=> ?_⟩
  rw[e]at ha
  injection ha with ha
  subst ha
  rw[add_flat]
  exact hc i x hx
theorem frame_any(A:Option Addr)(n c:Nat)(xs:List UInt8)(w:World)(h:Bs w A n c xs)(hb:n<=1000000000):
  Calls Tryz.prog 115 #[.slice A n c] w fun e w'=>Fresh w w'/\∃g cap,e= .returned (.slice (some ⟨g,0,none⟩) (n+8) cap)/\w.heap.size<=g/\Fb w' g cap (Enc.frame xs):=by
 obtain rfl:=h.1
 have hsl:=Enc.sum_lt xs
 have hcv:IntKind.u32.wrap (xs.length:Int)=(xs.length:Int):=by rw[IntKind.wrap_u32'];omega
 have H:=zh h
 have HS:=zh hsl
 clear h hsl
 go_enter Tryz.func115,Tryz.ntmps115
 go_wp2_with fail
 refine(four_any xs.length w (by omega)).mono ?_
 rintro e w1 ⟨hf1,hs1,rfl,hr1⟩
 have hb1:=H.out.fresh hf1
 have HF1:=zh hf1;have HR1:=zh hr1;have HB1:=zh hb1;have HSZ:=zh hs1
 clear hf1 hr1 hb1 hs1
 go_wp2_with fail
 refine(sum_any A xs.length c xs w1 HB1.out).mono ?_
 rintro e w2 ⟨rfl,rfl⟩
 go_wp2_with fail
 refine(four_any (Enc.sum xs) w2 HS.out).mono ?_
 rintro e w3 ⟨hf3,hs3,rfl,hr3⟩
 have HF3:=zh hf3;have HR3:=zh hr3
 have HP:Hid (Lib.PartsAt (w3.alloc (.cells #[.slice (some ⟨w.heap.size,0,none⟩) 4 4, .slice (some ⟨w2.heap.size,0,none⟩) 4 4, .slice A xs.length c] 29)) ⟨w3.heap.size,0,none⟩ [.slice (some ⟨w.heap.size,0,none⟩) 4 4, .slice (some ⟨w2.heap.size,0,none⟩) 4 4, .slice A xs.length c] [Enc.four xs.length,Enc.four (Enc.sum xs),xs]):=by
  refine zh ⟨rfl,fun i v hv=> ?_,fun i v l hv hl=> ?_⟩
  ·rw[add_flat,Nat.zero_add,(Blk.new w3 _ _).cell i]
   simpa using hv
  ·match i,hv,hl with
   | 0,hv,hl=>
    simp at hv hl
    subst hv hl
    exact holds_bs (xs:=Enc.four xs.length) (Row.bs ((HR1.out.touch HF3.out (fun _ _=>id)).alloc _))
   | 1,hv,hl=>
    simp at hv hl
    subst hv hl
    exact holds_bs (xs:=Enc.four (Enc.sum xs)) (Row.bs (HR3.out.alloc _))
   | 2,hv,hl=>
    simp at hv hl
    subst hv hl
    exact holds_bs ((HB1.out.fresh HF3.out).alloc _)
   | i+3,hv,hl=>simp at hv
 have HJ:=zh (Tryz.bytes_Join_many w3.heap.size 0 3 3 _ _ (.slice none 0 0) [] _ rfl (by omega) HP.out (Nat.le_refl _) ⟨none,0,rfl,fun _=>rfl,fun a ha=>by cases ha⟩ (by omega) (by simp[Lib.lens,Enc.four_length];omega))
 clear hf3 hr3 hs3 HP
 go_wp2_with fail
 refine HJ.out.mono ?_
 rintro e w4 ⟨v',rfl,hfb,hbel⟩
 obtain⟨g,cap,rfl,hg,hfb⟩:=fb_fresh hfb
 have hfr:Lib.join [Enc.four xs.length,Enc.four (Enc.sum xs),xs] []=Enc.frame xs:=by
  unfold Lib.join Enc.frame
  simp[List.intercalate,List.intersperse]
 rw[hfr]at hfb ⊢
 have hT:Fresh w w4:=((HF1.out.trans HF3.out (fun _ _ h=>h)).alloc _).trans (Touch.ofBelow hbel _) (fun _ _ h=>h)
 have hlen:(Enc.frame xs).length=xs.length+8:=by unfold Enc.frame;simp[Enc.four_length];omega
 rw[hlen]
 have HFB:=zh hfb;have HT:=zh hT
 have hg2:w.heap.size<=g:=by have:=HF1.out.size;have:=HF3.out.size;rw[alloc_size]at hg;omega
 clear hfb hT hbel hfr hlen hg HJ
 go_wp2_with fail
 go_ret
 exact⟨HT.out,g,cap,rfl,hg2,HFB.out⟩
def Unf(w w':World)(e:Ending):Option (List UInt8×Nat)->Prop
 | none=>e= .returned (.tuple #[.slice none 0 0, .int .i64 0, .int .i64 2])
 | some (p,k)=>∃B c',e= .returned (.tuple #[.slice B p.length c', .int .i64 (k:Int), .int .i64 0])/\Bs w' B p.length c' p/\∀a,B=some a->w.heap.size<=a.block
def UnfEnd(w:World)(xs:List UInt8)(e:Ending)(w':World):Prop:=Fresh w w'/\Unf w w' e (Enc.unframe xs)
theorem UnfEnd.bad{w w':World}{xs:List UInt8}(h:Enc.unframe xs=none)(hf:Fresh w w'):UnfEnd w xs (.returned (.tuple #[.slice none 0 0, .int .i64 0, .int .i64 2])) w':=⟨hf,by rw[h];exact rfl⟩
theorem UnfEnd.good{w w':World}{xs p:List UInt8}{k u c':Nat}{B:Option Addr}(h:Enc.unframe xs=some (p,k))(hu:p.length=u)(hf:Fresh w w')(hb:Bs w' B u c' p)(hn:∀a,B=some a->w.heap.size<=a.block):
  UnfEnd w xs (.returned (.tuple #[.slice B u c', .int .i64 (k:Int), .int .i64 0])) w':=by
 subst hu
 exact⟨hf,by rw[h];exact⟨B,c',rfl,hb,hn⟩⟩
theorem unframe_any(A:Option Addr)(n c:Nat)(xs:List UInt8)(w:World)(h:Bs w A n c xs)(hb:n<=1000000000):
  Calls Tryz.prog 149 #[.slice A n c] w (UnfEnd w xs):=by
 have hnc:=h.2.1
 have hcm:=h.2.2.1
 unfold maxLen at hcm
 have hxl:=h.1
 by_cases h8:n<8
 ·have h8I:(n:Int)<8:=by omega
  have HU:=zh (show Enc.unframe xs=none by unfold Enc.unframe;rw[if_pos (by omega)])
  clear h
  go_enter Tryz.func149,Tryz.ntmps149
  go_wp2_with fail
  refine bodyPost_ret (v:= .tuple #[.slice none 0 0, .int .i64 0, .int .i64 2]) ?_ rfl (UnfEnd.bad HU.out (Touch.refl (fun _=>False) w))
  simp[results,Tryz.results149,go_sem]
 ·have h8I:¬(n:Int)<8:=by omega
  obtain⟨b,o,rfl⟩:=h.at_ (by omega)
  have hul:=Enc.unfour_lt xs
  have hdef:Enc.unframe xs=if 1048576<Enc.unfour xs\/n-8<Enc.unfour xs then none
    else if Enc.sum ((xs.drop 8).take (Enc.unfour xs))=Enc.unfour (xs.drop 4) then some ((xs.drop 8).take (Enc.unfour xs),8+Enc.unfour xs) else none:=by
   unfold Enc.unframe
   rw[if_neg (by omega),hxl]
  have HC:=zh (unfour_any _ n c xs w h (by omega))
  generalize Enc.unfour xs=u at hdef hul HC
  have HD:=zh hdef
  have H:=zh h
  clear h hdef
  go_enter Tryz.func149,Tryz.ntmps149
  go_wp2_with fail
  refine HC.out.mono ?_
  rintro e W1 ⟨⟨k0,hW1⟩,rfl⟩
  have HF:=zh (show Fresh w W1 by rw[hW1];exact(Touch.refl _ w).drewN k0)
  have HB:=zh (H.out.fresh HF.out)
  clear hW1 HC
  have hcv:IntKind.i64.wrap (u:Int)=(u:Int):=IntWalk.i64_in _ (by omega)
  have hsub:IntKind.i64.wrap ((n:Int)-8)=(n:Int)-8:=IntWalk.i64_in _ (by omega)
  by_cases hb1:1048576<u
  ·have HD1:=zh (HD.out.trans (if_pos (.inl hb1)))
   have hb1I:(1048576:Int)<(u:Int):=by omega
   go_wp2_with fail
   refine bodyPost_ret (v:= .tuple #[.slice none 0 0, .int .i64 0, .int .i64 2]) ?_ rfl (UnfEnd.bad HD1.out HF.out)
   simp[results,Tryz.results149,go_sem]
  have hb1I:decide ((1048576:Int)<(u:Int))=false:=by simp;omega
  by_cases hb2:n-8<u
  ·have HD1:=zh (HD.out.trans (if_pos (.inr hb2)))
   have hb2I:(n:Int)-8<(u:Int):=by omega
   go_wp2_with fail
   refine bodyPost_ret (v:= .tuple #[.slice none 0 0, .int .i64 0, .int .i64 2]) ?_ rfl (UnfEnd.bad HD1.out HF.out)
   simp[results,Tryz.results149,go_sem]
  have hb2I:¬(n:Int)-8<(u:Int):=by omega
  have HD1:=zh (HD.out.trans (if_neg (by omega)))
  have hadd:IntKind.i64.wrap (8+(u:Int))=8+(u:Int):=IntWalk.i64_in _ (by omega)
  have h4:Bs W1 (some ⟨b,o+4,none⟩) (n-4) (c-4) (xs.drop 4):=HB.out.drop_ (by omega)
  have hpl:((xs.drop 8).take u).length=u:=by rw[List.length_take,List.length_drop];omega
  obtain⟨A8,hA8,h8b⟩:∃A8,A8=(if c=8 then some ⟨b,o,none⟩ else some ⟨b,o+8,none⟩:Option Addr)/\Bs W1 A8 u (c-8) ((xs.drop 8).take u):=by
   refine⟨_,rfl, ?_⟩
   by_cases hc8:c=8
   ·rw[if_pos hc8]
    exact⟨hpl,by omega,by unfold maxLen;omega,fun h=>by omega⟩
   ·rw[if_neg hc8]
    exact(HB.out.drop_ (k:=8) (by omega)).take (by omega)
  have HSUM:=zh (fun r=>sum_any A8 u (c-8) _ (W1.drewN r) (h8b.drewN r))
  have HUNF:=zh (fun r=>unfour_any _ (n-4) (c-4) _ (W1.drewN r) (h4.drewN r) (by omega))
  have HCL:=zh (fun r=>clone_any A8 u (c-8) _ (W1.drewN r) (h8b.drewN r) (by omega))
  generalize Enc.sum ((xs.drop 8).take u)=s at HSUM HD1
  generalize Enc.unfour (xs.drop 4)=v at HUNF HD1
  generalize (xs.drop 8).take u=p at HCL HD1 hpl
  have htn:(8+(u:Int)).toNat=8+u:=by omega
  have hun:(8+(u:Int))<=(c:Int):=by omega
  have h4n:(4:Int)<=(n:Int):=by omega
  have h88:(8:Int)<=8+(u:Int):=by omega
  have HS1:∀r,Calls Tryz.prog 123 #[.slice A8 u (c-8)] (W1.drewN r) fun e w'=>e= .returned (.int .u32 (s:Nat))/\w'=W1.drewN r:=fun r=>(HSUM.out r).mono fun e w' ⟨h1,h2⟩=>⟨h2,h1⟩
  have HS2:∀r,Calls Tryz.prog 174 #[.slice (some ⟨b,o+4,none⟩) (n-4) (c-4)] (W1.drewN r) fun e w'=>e= .returned (.int .u32 (v:Nat))/\∃m,w'=(W1.drewN r).drewN m:=fun r=>(HUNF.out r).mono fun e w' ⟨⟨k,h1⟩,h2⟩=>⟨h2,k,h1⟩
  have HT1:=zh HS1
  have HT2:=zh HS2
  have HA8:=zh hA8
  clear HS1 HS2 h8b h4 hA8 HSUM HUNF hb1 hul
  by_cases hc8:c=8
  ·subst hc8
   obtain rfl:A8=some ⟨b,o,none⟩:=by rw[HA8.out,if_pos rfl]
   obtain rfl:u=0:=by omega
   obtain rfl:n=8:=by omega
   by_cases hsv:s=v
   ·have hne:((s:Int) != (v:Int))=false:=by simp[hsv]
    have HD2:=zh (HD1.out.trans (if_pos hsv))
    go_wp2_with fail
    go_quiet ((first | (go_at_call 123;exact Calls.quiet_of_same (HT1.out _)) | (go_at_call 174;exact Calls.quiet_of (HT2.out _))))
    go_wp2_with fail
    refine(HCL.out _).mono ?_
    rintro e w9 ⟨hf9,B,c9,rfl,hr9,hn9⟩
    have HB9:=zh (Row.bs hr9)
    have HF9:=zh (((HF.out.drewN nq)).trans hf9 (fun _ _ h=>h))
    have HN9:=zh hn9
    clear hf9 hr9 hn9
    go_wp2_with fail
    refine bodyPost_ret (v:= .tuple #[.slice B 0 c9, .int .i64 8, .int .i64 0]) ?_ rfl (UnfEnd.good (k:=8) HD2.out hpl HF9.out HB9.out fun a ha=>Nat.le_trans HF.out.size (HN9.out a ha))
    simp[results,Tryz.results149,go_sem]
   ·have hne:((s:Int) != (v:Int))=true:=by simp;omega
    have HD2:=zh (HD1.out.trans (if_neg hsv))
    go_wp2_with fail
    go_quiet ((first | (go_at_call 123;exact Calls.quiet_of_same (HT1.out _)) | (go_at_call 174;exact Calls.quiet_of (HT2.out _))))
    go_wp2_with fail
    refine bodyPost_ret (v:= .tuple #[.slice none 0 0, .int .i64 0, .int .i64 2]) ?_ rfl (UnfEnd.bad HD2.out (HF.out.drewN nq))
    simp[results,Tryz.results149,go_sem]
  ·obtain rfl:A8=some ⟨b,o+8,none⟩:=by rw[HA8.out,if_neg hc8]
   have hc4:¬c=4:=by omega
   by_cases hsv:s=v
   ·have hne:((s:Int) != (v:Int))=false:=by simp[hsv]
    have HD2:=zh (HD1.out.trans (if_pos hsv))
    go_wp2_with fail
    go_quiet ((first | (go_at_call 123;exact Calls.quiet_of_same (HT1.out _)) | (go_at_call 174;exact Calls.quiet_of (HT2.out _))))
    go_wp2_with fail
    refine(HCL.out _).mono ?_
    rintro e w9 ⟨hf9,B,c9,rfl,hr9,hn9⟩
    have HB9:=zh (Row.bs hr9)
    have HF9:=zh (((HF.out.drewN nq)).trans hf9 (fun _ _ h=>h))
    have HN9:=zh hn9
    clear hf9 hr9 hn9
    go_wp2_with fail
    refine bodyPost_ret (v:= .tuple #[.slice B u c9, .int .i64 ((8+u:Nat):Int), .int .i64 0]) ?_ rfl (UnfEnd.good HD2.out hpl HF9.out HB9.out fun a ha=>Nat.le_trans HF.out.size (HN9.out a ha))
    simp[results,Tryz.results149,go_sem]
   ·have hne:((s:Int) != (v:Int))=true:=by simp;omega
    have HD2:=zh (HD1.out.trans (if_neg hsv))
    go_wp2_with fail
    go_quiet ((first | (go_at_call 123;exact Calls.quiet_of_same (HT1.out _)) | (go_at_call 174;exact Calls.quiet_of (HT2.out _))))
    go_wp2_with fail
    refine bodyPost_ret (v:= .tuple #[.slice none 0 0, .int .i64 0, .int .i64 2]) ?_ rfl (UnfEnd.bad HD2.out (HF.out.drewN nq))
    simp[results,Tryz.results149,go_sem]
end Go.Proofs.YtjehlgblkfofpaaGreat
namespace Go.Proofs.YtjehlgblkfofpaaGreat.Enc
def nsz(n:Nat):Nat:=if n=0 then 0 else n.log2 / 8+1
theorem lt_nsz(n k:Nat):k<nsz n↔0<n / 2 ^ (8*k):=by
 unfold nsz
 have hp:0<2 ^ (8*k):=Nat.two_pow_pos _
 by_cases h:n=0
 ·subst h;simp
 ·rw[if_neg h,Nat.div_pos_iff]
  have h1:n.log2<8*k↔n<2 ^ (8*k):=Nat.log2_lt h
  constructor
  ·intro h2;exact⟨hp,by omega⟩
  ·intro ⟨_,h2⟩;omega
theorem nsz_le{n k:Nat}(h:n<2 ^ (8*k)):nsz n<=k:=by
 rcases Nat.lt_or_ge k (nsz n) with h1 | h1
 ·have:=(lt_nsz n k).1 h1
  rw[Nat.div_eq_of_lt h]at this
  omega
 ·exact h1
theorem nsz_7{n:Nat}(h:n<=4503599627370496):nsz n<=7:=nsz_le (by omega)
def be:Nat->Nat->List UInt8
 | 0,_=> []
 | k+1,n=>UInt8.ofNat (n / 2 ^ (8*k)) :: be k n
theorem be_length(k n:Nat):(be k n).length=k:=by induction k<;>simp_all [be]
def numB(n:Nat):List UInt8:=UInt8.ofNat (nsz n) :: be (nsz n) n
theorem numB_length(n:Nat):(numB n).length=nsz n+1:=by simp[numB,be_length]
abbrev Enc:=Option (List UInt8)
def nil0:Enc:=some []
def cat(a b:Enc):Enc:=a.bind fun x=>b.map (x++·)
theorem cat_none(b:Enc):cat none b=none:=rfl
theorem cat_some(x:List UInt8)(b:Enc):cat (some x) b=b.map (x++·):=rfl
theorem cat_none_r(a:Enc):cat a none=none:=by cases a<;>rfl
theorem cat_assoc(a b c:Enc):cat (cat a b) c=cat a (cat b c):=by
 cases a<;>cases b<;>cases c<;>simp[cat_none,cat_some]
theorem cat_nil(a:Enc):cat a (some [])=a:=by cases a<;>simp[cat_none,cat_some]
theorem nil_cat(a:Enc):cat (some []) a=a:=by cases a<;>simp[cat_some]
def catAll:List Enc->Enc
 | []=>some []
 | a :: l=>cat a (catAll l)
def number(n lo hi:Int):Enc:=if n<lo\/hi<n then none else some (numB n.toNat)
def plain(n:Int):Enc:=number n 0 4503599627370496
def text(s:List UInt8):Enc:=cat (number s.length 0 1048576) (some s)
theorem number_size{n lo hi:Int}{b:List UInt8}(hh:hi<=4503599627370496)(h:number n lo hi=some b):b.length<=8:=by
 unfold number at h
 split at h
 ·cases h
 ·injection h with h
  subst h
  rw[numB_length]
  have:=nsz_7 (n:=n.toNat) (by omega)
  omega
theorem plain_size{n:Int}{b:List UInt8}(h:plain n=some b):b.length<=8:=number_size (by omega) h
def numberE(n:Int):Enc:=cat nil0 (plain n)
end Go.Proofs.YtjehlgblkfofpaaGreat.Enc
namespace Go.Proofs.YtjehlgblkfofpaaGreat.Dec
def val(l:List UInt8):Nat:=l.foldl (fun n b=>256*n+b.toNat) 0
theorem val_snoc(l:List UInt8)(b:UInt8):val (l++ [b])=256*val l+b.toNat:=by simp[val]
theorem val_lt_aux(l:List UInt8):∀a:Nat,l.foldl (fun n b=>256*n+b.toNat) a+1<=(a+1)*256 ^ l.length:=by
 induction l with
 | nil=>intro a;simp
 | cons b l ih=>
  intro a
  simp only[List.foldl_cons,List.length_cons]
  have h1:=ih (256*a+b.toNat)
  have h2:=b.toNat_lt
  have h3:(256*a+b.toNat+1)*256 ^ l.length<=((a+1)*256)*256 ^ l.length:=Nat.mul_le_mul_right _ (by omega)
  rw[Nat.pow_succ,Nat.mul_comm (256 ^ l.length) 256,<- Nat.mul_assoc]
  omega
theorem val_lt(l:List UInt8):val l<256 ^ l.length:=by
 have:=val_lt_aux l 0
 unfold val
 omega
theorem val_take(l:List UInt8)(i:Nat)(h:i<l.length):val (l.take (i+1))=256*val (l.take i)+l[i].toNat:=by
 rw[List.take_succ_eq_append_getElem h,val_snoc]
theorem val_lt7(l:List UInt8)(h:l.length<=7):val l<72057594037927936:=by
 have h1:=val_lt l
 have h2:256 ^ l.length<=256 ^ 7:=Nat.pow_le_pow_right (by omega) h
 have h3:(256:Nat) ^ 7=72057594037927936:=by decide
 omega
abbrev Rd(α:Type):=Except Nat (α×Nat)
def number(lo hi:Int)(raw:List UInt8)(p:Nat):Rd Int:=
 if raw.length<=p then .error raw.length
 else if 7<(raw.getD p 0).toNat then .error p
 else if raw.length-p-1<(raw.getD p 0).toNat then .error raw.length
 else if (0<(raw.getD p 0).toNat/\raw.getD (p+1) 0=0)\/(val ((raw.drop (p+1)).take (raw.getD p 0).toNat):Int)<lo\/hi<(val ((raw.drop (p+1)).take (raw.getD p 0).toNat):Int) then .error p
 else .ok ((val ((raw.drop (p+1)).take (raw.getD p 0).toNat):Int),p+1+(raw.getD p 0).toNat)
theorem number_ok{lo hi v:Int}{raw:List UInt8}{p q:Nat}(h:number lo hi raw p= .ok (v,q)):p<raw.length/\p<q/\q<=raw.length/\lo<=v/\v<=hi/\0<=v:=by
 unfold number at h
 split at h
 ·cases h
 ·split at h
  ·cases h
  ·split at h
   ·cases h
   ·split at h
    ·cases h
    ·injection h with h
     injection h with h1 h2
     subst h1 h2
     omega
def plain(raw:List UInt8)(p:Nat):Rd Int:=number 0 4503599627370496 raw p
def sgn(n:Int):Int:=if n % 2=1 then-((n+1) / 2) else n / 2
def signed(raw:List UInt8)(p:Nat):Rd Int:=
 match plain raw p with
 | .error a=> .error a
 | .ok (n,q)=> .ok (sgn n,q)
def text(raw:List UInt8)(p:Nat):Rd (List UInt8):=
 match number 0 1048576 raw p with
 | .error a=> .error a
 | .ok (n,q)=>if raw.length-q<n.toNat then .error raw.length else .ok ((raw.drop q).take n.toNat,q+n.toNat)
def flag(raw:List UInt8)(p:Nat):Rd Bool:=
 if raw.length<=p then .error raw.length else if 1<(raw.getD p 0).toNat then .error p else .ok ((raw.getD p 0).toNat == 1,p+1)
def bind{α β:Type}(r:Rd α)(f:α->Nat->Rd β):Rd β:=
 match r with
 | .error a=> .error a
 | .ok (x,q)=>f x q
def whole{α:Type}(r:Rd α)(n:Nat):Except Nat α:=
 match r with
 | .error a=> .error a
 | .ok (x,q)=>if q<n then .error q else .ok x
end Go.Proofs.YtjehlgblkfofpaaGreat.Dec
namespace Go.Proofs.YtjehlgblkfofpaaGreat.Plain
open Enc Dec
theorem pow8(k:Nat):2 ^ (8*k)=256 ^ k:=by rw[Nat.pow_mul]
theorem pow8s(k:Nat):(2:Nat) ^ (8*(k+1))=2 ^ (8*k)*256:=by rw[show 8*(k+1)=8*k+8 by omega,Nat.pow_add]
theorem fold_val(l:List UInt8):∀a:Nat,l.foldl (fun n b=>256*n+b.toNat) a=a*256 ^ l.length+val l:=by
 induction l with
 | nil=>intro a;simp[val]
 | cons b l ih=>
  intro a
  have h1:=ih (256*a+b.toNat)
  have h2:=ih (256*0+b.toNat)
  unfold val at*
  simp only[List.foldl_cons,List.length_cons]
  rw[h1,h2,Nat.pow_succ,Nat.add_mul,Nat.mul_zero,Nat.zero_add,Nat.mul_comm (256 ^ l.length) 256,<- Nat.mul_assoc,Nat.mul_comm 256 a]
  omega
theorem val_cons(b:UInt8)(l:List UInt8):val (b :: l)=b.toNat*2 ^ (8*l.length)+val l:=by
 have h:=fold_val l (256*0+b.toNat)
 rw[pow8]
 unfold val at*
 rw[List.foldl_cons,h]
 simp
theorem val_be(k n:Nat):val (be k n)=n % 2 ^ (8*k):=by
 induction k with
 | zero=>simp[be,val,Nat.mod_one]
 | succ k ih=>
  rw[be,val_cons,ih,be_length,pow8s,Nat.mod_mul]
  have:(UInt8.ofNat (n / 2 ^ (8*k))).toNat=n / 2 ^ (8*k) % 256:=by simp
  rw[this,Nat.mul_comm,Nat.add_comm]
theorem lt_two_nsz(n:Nat):n<2 ^ (8*nsz n):=by
 have h:=lt_nsz n (nsz n)
 have hp:0<2 ^ (8*nsz n):=Nat.two_pow_pos _
 rcases Nat.lt_or_ge n (2 ^ (8*nsz n)) with h1 | h1
 ·exact h1
 ·exact absurd (h.2 (Nat.div_pos h1 hp)) (Nat.lt_irrefl _)
theorem val_numB(n:Nat):val (be (nsz n) n)=n:=by rw[val_be,Nat.mod_eq_of_lt (lt_two_nsz n)]
theorem be_head(n:Nat)(h:0<nsz n):(be (nsz n) n).getD 0 0≠0:=by
 obtain⟨k,hk⟩:∃k,nsz n=k+1:=⟨nsz n-1,by omega⟩
 have h1:=(lt_nsz n k).1 (by omega)
 have h2:=lt_two_nsz n
 rw[hk,pow8s]at h2
 have h3:n / 2 ^ (8*k)<256:=Nat.div_lt_of_lt_mul h2
 rw[hk,be]
 simp only[List.getD_cons_zero]
 intro e
 have h4:=congrArg UInt8.toNat e
 simp at h4
 omega
theorem be_add(k:Nat):∀a m n,k<=m->be k (a*2 ^ (8*m)+n)=be k n:=by
 induction k with
 | zero=>intros;rfl
 | succ k ih=>
  intro a m n h
  rw[be,be,ih a m n (by omega)]
  congr 1
  obtain⟨d,rfl⟩:∃d,m=k+1+d:=⟨m-(k+1),by omega⟩
  have e:a*2 ^ (8*(k+1+d))=2 ^ (8*k)*(256*(a*2 ^ (8*d))):=by
   rw[show 8*(k+1+d)=8*k+(8+8*d) by omega,Nat.pow_add,Nat.pow_add,show (2:Nat) ^ 8=256 from rfl]
   rw[Nat.mul_left_comm,Nat.mul_left_comm a 256]
  rw[e,Nat.mul_add_div (Nat.two_pow_pos _)]
  apply UInt8.toNat_inj.1
  simp
theorem be_val(l:List UInt8):be l.length (val l)=l:=by
 induction l with
 | nil=>rfl
 | cons b l ih=>
  have hv:val l<2 ^ (8*l.length):=by rw[pow8];exact val_lt l
  rw[val_cons,List.length_cons,be,be_add _ _ _ _ (Nat.le_refl _),ih]
  congr 1
  rw[Nat.mul_comm,Nat.mul_add_div (Nat.two_pow_pos _),Nat.div_eq_of_lt hv]
  simp
theorem nsz_val(l:List UInt8)(h:0<l.length->l.getD 0 0≠0):nsz (val l)=l.length:=by
 have hv:val l<2 ^ (8*l.length):=by rw[pow8];exact val_lt l
 have h1:=nsz_le hv
 cases l with
 | nil=>exact Nat.le_zero.1 h1
 | cons b l=>
  have hb:b≠0:=by simpa using h (by simp)
  have hb2:0<b.toNat:=by
   rcases Nat.eq_zero_or_pos b.toNat with e | e
   ·exact absurd (UInt8.toNat_inj.1 (by simpa using e)) hb
   ·exact e
  have h2:l.length<nsz (val (b :: l)):=by
   rw[lt_nsz]
   refine Nat.div_pos ?_ (Nat.two_pow_pos _)
   rw[val_cons]
   have:=Nat.mul_le_mul_right (2 ^ (8*l.length)) hb2
   omega
  simp only[List.length_cons]at h1 ⊢
  omega
theorem drop_more{raw ys post:List UInt8}{p:Nat}(h:raw.drop p=ys++post):raw.drop (p+ys.length)=post:=by
 rw[<- List.drop_drop,h,List.drop_left]
theorem len_at{raw ys post:List UInt8}{p:Nat}(h:raw.drop p=ys++post):raw.length-p=ys.length+post.length:=by
 rw[<- List.length_drop,h,List.length_append]
theorem getD_at(raw:List UInt8)(p i:Nat):raw.getD (p+i) 0=(raw.drop p).getD i 0:=by
 simp[List.getD_eq_getElem?_getD,List.getElem?_drop]
theorem number_nat{raw post:List UInt8}{p n:Nat}{lo hi:Int}(h:raw.drop p=numB n++post)(h1:lo<=n)(h2:(n:Int)<=hi)(_h3:hi<=4503599627370496):
  Dec.number lo hi raw p= .ok ((n:Int),p+(numB n).length):=by
 have hl:=len_at h
 rw[numB_length]at hl ⊢
 have h7:=nsz_7 (n:=n) (by omega)
 have hg:raw.getD p 0=UInt8.ofNat (nsz n):=by
  have:=getD_at raw p 0
  rw[Nat.add_zero,h]at this
  rw[this]
  rfl
 have hk:(UInt8.ofNat (nsz n)).toNat=nsz n:=by simp;omega
 have hd:(raw.drop (p+1)).take (nsz n)=be (nsz n) n:=by
  rw[<- List.drop_drop,h]
  simp only[numB,List.cons_append,List.drop_succ_cons,List.drop_zero]
  rw[List.take_left' (be_length _ _)]
 have hz:0<nsz n->raw.getD (p+1) 0≠0:=by
  intro h0
  rw[getD_at,h]
  have h4:=be_head n h0
  simp only[numB,List.cons_append,List.getD_cons_succ]
  obtain⟨b,l,hb⟩:∃b l,be (nsz n) n=b :: l:=by
   cases e:be (nsz n) n with
   | nil=>have:=be_length (nsz n) n;rw[e]at this;simp at this;omega
   | cons b l=>exact⟨b,l,rfl⟩
  rw[hb]at h4 ⊢
  simpa using h4
 unfold Dec.number
 rw[hg,hk,hd,val_numB,if_neg (by omega),if_neg (by omega),if_neg (by omega),if_neg]
 ·congr 2;omega
 ·rintro(⟨h4,h5⟩ | h4 | h4)
  ·exact hz h4 h5
  ·omega
  ·omega
theorem number_enc{raw ys post:List UInt8}{p:Nat}{n lo hi:Int}(h0:0<=lo)(h3:hi<=4503599627370496)(he:Enc.number n lo hi=some ys)(h:raw.drop p=ys++post):
  Dec.number lo hi raw p= .ok (n,p+ys.length):=by
 unfold Enc.number at he
 split at he
 ·cases he
 ·injection he with he
  subst he
  have hn:((n.toNat:Nat):Int)=n:=by omega
  have:=number_nat (n:=n.toNat) (lo:=lo) h (by omega) (by omega) h3
  rw[hn]at this
  exact this
theorem number_dec{raw:List UInt8}{p q:Nat}{v lo hi:Int}(_h3:hi<=4503599627370496)(h:Dec.number lo hi raw p= .ok (v,q)):
  ∃ys,Enc.number v lo hi=some ys/\raw.drop p=ys++raw.drop q/\q=p+ys.length:=by
 unfold Dec.number at h
 split at h
 ·cases h
 ·rename_i hp
  split at h
  ·cases h
  ·rename_i hk
   split at h
   ·cases h
   ·rename_i hs
    split at h
    ·cases h
    ·rename_i hb
     injection h with h
     injection h with hv hq
     obtain⟨k,hkE⟩:∃k,k=(raw.getD p 0).toNat:=⟨_,rfl⟩
     rw[<- hkE]at hk hs hb hv hq
     obtain⟨ds,hds⟩:∃ds,ds=(raw.drop (p+1)).take k:=⟨_,rfl⟩
     rw[<- hds]at hb hv
     have hdl:ds.length=k:=by rw[hds,List.length_take,List.length_drop];omega
     have hnz:nsz (val ds)=k:=by
      rw[<- hdl]
      refine nsz_val ds fun h0=> ?_
      intro e
      apply hb
      left
      refine⟨by omega, ?_⟩
      rw[hds,List.getD_eq_getElem?_getD,List.getElem?_take,if_pos (by omega),List.getElem?_drop,Nat.add_zero]at e
      rw[List.getD_eq_getElem?_getD]
      exact e
     subst hv
     refine⟨numB (val ds), ?_, ?_,by rw[numB_length,hnz];omega⟩
     ·unfold Enc.number
      rw[if_neg (fun h=>hb (.inr h))]
      rfl
     ·unfold numB
      rw[hnz]
      have hbe:be k (val ds)=ds:=by rw[<- hdl];exact be_val ds
      rw[hbe,hkE,<- hq]
      have h1:raw.drop p=raw.getD p 0 :: raw.drop (p+1):=by
       rw[List.drop_eq_getElem_cons (by omega)]
       simp[List.getD_eq_getElem?_getD,List.getElem?_eq_getElem (show p<raw.length by omega)]
      rw[h1]
      have h2:UInt8.ofNat (raw.getD p 0).toNat=raw.getD p 0:=by simp
      rw[h2,List.cons_append,hds]
      congr 1
      rw[<- List.drop_drop (j:=p+1),List.take_append_drop]
theorem cat_inv{a b:Enc}{ys:List UInt8}(h:cat a b=some ys):∃y1 y2,a=some y1/\b=some y2/\ys=y1++y2:=by
 cases a with
 | none=>cases h
 | some y1=>
  cases b with
  | none=>cases h
  | some y2=>exact⟨y1,y2,rfl,rfl,(Option.some.inj h).symm⟩
theorem plain_enc{raw ys post:List UInt8}{p:Nat}{n:Int}(he:Enc.plain n=some ys)(h:raw.drop p=ys++post):Dec.plain raw p= .ok (n,p+ys.length):=
 number_enc (by omega) (by omega) he h
theorem text_enc{raw ys post s:List UInt8}{p:Nat}(he:Enc.text s=some ys)(h:raw.drop p=ys++post):Dec.text raw p= .ok (s,p+ys.length):=by
 obtain⟨y1,y2,h1,h2,rfl⟩:=cat_inv he
 injection h2 with h2
 subst h2
 rw[List.append_assoc]at h
 have hn:=number_enc (by omega) (by omega) h1 h
 have hd:=drop_more h
 have hl:=len_at hd
 unfold Dec.text
 rw[hn]
 simp only[Int.toNat_natCast]
 rw[if_neg (by omega),hd,List.take_left,List.length_append]
 congr 2
 omega
theorem text_dec{raw s:List UInt8}{p q:Nat}(h:Dec.text raw p= .ok (s,q)):∃ys,Enc.text s=some ys/\raw.drop p=ys++raw.drop q/\q=p+ys.length:=by
 unfold Dec.text at h
 split at h
 ·cases h
 ·rename_i n q' hn
  split at h
  ·cases h
  ·rename_i hs
   injection h with h
   injection h with h1 h2
   obtain⟨ys,hy,hd,hq⟩:=number_dec (by omega) hn
   have hr:=number_ok hn
   have hsl:s.length=n.toNat:=by rw[<- h1,List.length_take,List.length_drop];omega
   have hsn:((s.length:Nat):Int)=n:=by omega
   refine⟨ys++s, ?_, ?_,by rw[List.length_append];omega⟩
   ·unfold Enc.text
    rw[hsn,hy]
    rfl
   ·rw[hd,List.append_assoc,<- h1,<- h2,<- List.drop_drop (j:=q'),List.take_append_drop]
theorem whole_enc{α:Type}{f:List UInt8->Nat->Rd α}{x:α}{ys:List UInt8}(h:f ys 0= .ok (x,0+ys.length)):Dec.whole (f ys 0) ys.length= .ok x:=by
 rw[h,Dec.whole]
 simp
end Go.Proofs.YtjehlgblkfofpaaGreat.Plain
namespace Go.Proofs.YtjehlgblkfofpaaGreat.Dec
structure Op where
 k:List UInt8
 v:List UInt8
 g:Bool
def op(raw:List UInt8)(p:Nat):Rd Op:=
 bind (text raw p) fun k p=>bind (flag raw p) fun g p=>if g=true then .ok (⟨k, [],true⟩,p) else bind (text raw p) fun v p=> .ok (⟨k,v,false⟩,p)
def many{α:Type}(f:List UInt8->Nat->Rd α)(raw:List UInt8):Nat->Nat->Rd (List α)
 | 0,p=> .ok ([],p)
 | n+1,p=>bind (f raw p) fun x p=>bind (many f raw n p) fun l p=> .ok (x :: l,p)
def pre{α:Type}(l:List α)(r:Rd (List α)):Rd (List α):=bind r fun l' q=> .ok (l++l',q)
theorem pre_nil{α:Type}(r:Rd (List α)):pre [] r=r:=by unfold pre bind;cases r<;>rfl
theorem pre_done{α:Type}(l:List α)(f:List UInt8->Nat->Rd α)(raw:List UInt8)(p:Nat):pre l (many f raw 0 p)= .ok (l,p):=by unfold pre bind many;simp
theorem pre_step{α:Type}{l:List α}{f:List UInt8->Nat->Rd α}{raw:List UInt8}{m p q:Nat}{x:α}(h:f raw p= .ok (x,q)):pre l (many f raw (m+1) p)=pre (l++ [x]) (many f raw m q):=by
 unfold pre
 rw[many]
 unfold bind
 rw[h]
 cases hm:many f raw m q with
 | error a=>simp[hm]
 | ok y=>simp[hm]
theorem pre_bad{α:Type}{l:List α}{f:List UInt8->Nat->Rd α}{raw:List UInt8}{m p a:Nat}(h:f raw p= .error a):pre l (many f raw (m+1) p)= .error a:=by
 unfold pre
 rw[many]
 unfold bind
 rw[h]
def ops(raw:List UInt8)(p:Nat):Rd (List Op):=bind (plain raw p) fun n p=>many op raw n.toNat p
end Go.Proofs.YtjehlgblkfofpaaGreat.Dec
namespace Go.Proofs.YtjehlgblkfofpaaGreat.Enc
def flag(g:Bool):Enc:=some [if g=true then 1 else 0]
def op(o:Dec.Op):Enc:=cat (cat (text o.k) (flag o.g)) (if o.g=true then (if o.v= [] then some [] else none) else text o.v)
def ops(l:List Dec.Op):Enc:=cat (plain l.length) (catAll (l.map op))
end Go.Proofs.YtjehlgblkfofpaaGreat.Enc
namespace Go.Proofs.YtjehlgblkfofpaaGreat.Plain
open Enc Dec
theorem flag_enc{raw post:List UInt8}{p:Nat}(g:Bool)(h:raw.drop p= [if g=true then 1 else 0]++post):Dec.flag raw p= .ok (g,p+1):=by
 have hl:=len_at h
 simp only[List.length_singleton]at hl
 have hg:raw.getD p 0=if g=true then 1 else 0:=by
  have:=getD_at raw p 0
  rw[Nat.add_zero]at this
  rw[this,h]
  simp
 unfold Dec.flag
 rw[if_neg (by omega),hg]
 cases g<;>rfl
theorem flag_dec{raw:List UInt8}{p q:Nat}{g:Bool}(h:Dec.flag raw p= .ok (g,q)):raw.drop p= [if g=true then 1 else 0]++raw.drop q/\q=p+1:=by
 unfold Dec.flag at h
 split at h
 ·cases h
 ·rename_i h1
  split at h
  ·cases h
  ·rename_i h2
   injection h with h
   injection h with hg hq
   subst hq
   refine⟨?_,rfl⟩
   have hlt:p<raw.length:=by omega
   rw[List.drop_eq_getElem_cons hlt]
   have e:raw.getD p 0=raw[p]:=by simp[List.getD_eq_getElem?_getD,List.getElem?_eq_getElem hlt]
   rw[e]at hg h2
   have h3:raw[p].toNat=0\/raw[p].toNat=1:=by omega
   rcases h3 with h3 | h3
   ·have h4:raw[p]=0:=UInt8.toNat_inj.1 h3
    rw[h4]at hg ⊢
    subst hg
    rfl
   ·have h4:raw[p]=1:=UInt8.toNat_inj.1 h3
    rw[h4]at hg ⊢
    subst hg
    rfl
theorem op_enc{raw ys post:List UInt8}{p:Nat}(o:Dec.Op)(he:Enc.op o=some ys)(h:raw.drop p=ys++post):Dec.op raw p= .ok (o,p+ys.length):=by
 obtain⟨k,v,g⟩:=o
 unfold Enc.op at he
 obtain⟨y1,y3,h1,h3,rfl⟩:=cat_inv he
 obtain⟨y0,y2,h0,h2,rfl⟩:=cat_inv h1
 simp only[Enc.flag,Option.some.injEq]at h2
 subst h2
 simp only[List.append_assoc]at h
 have d1:=drop_more h
 have d2:=drop_more (ys:= [if g=true then 1 else 0]) d1
 simp only[List.length_singleton]at d2
 unfold Dec.op Dec.bind
 rw[text_enc h0 h]
 simp only[flag_enc g d1]
 cases g with
 | true=>
  simp only[if_true]at h3 ⊢
  split at h3
  ·rename_i hv
   injection h3 with h3
   subst h3
   have hv:v= []:=hv
   subst hv
   simp
   omega
  ·cases h3
 | false=>
  simp only[Bool.false_eq_true,if_false]at h3 ⊢
  rw[text_enc h3 d2]
  simp
  omega
theorem op_dec{raw:List UInt8}{p q:Nat}{o:Dec.Op}(h:Dec.op raw p= .ok (o,q)):∃ys,Enc.op o=some ys/\raw.drop p=ys++raw.drop q/\q=p+ys.length:=by
 simp only[Dec.op,Dec.bind]at h
 split at h
 ·cases h
 rename_i k q1 hk
 obtain⟨y1,e1,d1,l1⟩:=text_dec hk
 split at h
 ·cases h
 rename_i g q2 hg
 obtain⟨d2,l2⟩:=flag_dec hg
 cases g with
 | true=>
  simp only[if_true]at h
  injection h with h
  injection h with ho hq
  subst ho hq
  refine⟨y1++ [1], ?_, ?_, ?_⟩
  ·simp[Enc.op,Enc.flag,e1,Enc.cat_some]
  ·rw[d1,d2];simp
  ·simp;omega
 | false=>
  simp only[Bool.false_eq_true,if_false]at h
  split at h
  ·cases h
  rename_i v q3 hv
  obtain⟨y3,e3,d3,l3⟩:=text_dec hv
  injection h with h
  injection h with ho hq
  subst ho hq
  refine⟨y1++ [0]++y3, ?_, ?_, ?_⟩
  ·simp[Enc.op,Enc.flag,e1,e3,Enc.cat_some]
  ·rw[d1,d2,d3];simp
  ·simp;omega
theorem many_enc{α:Type}{f:List UInt8->Nat->Rd α}{e:α->Enc.Enc}{raw:List UInt8}(hf:∀(x:α) (ys post:List UInt8) (p:Nat),e x=some ys->raw.drop p=ys++post->f raw p= .ok (x,p+ys.length)):
  ∀(l:List α) (ys post:List UInt8) (p:Nat),catAll (l.map e)=some ys->raw.drop p=ys++post->Dec.many f raw l.length p= .ok (l,p+ys.length)
 | [],ys,post,p,he,_=>by
  simp only[List.map_nil,catAll,Option.some.injEq]at he
  subst he
  rfl
 | x :: l,ys,post,p,he,h=>by
  simp only[List.map_cons,catAll]at he
  obtain⟨y1,y2,h1,h2,rfl⟩:=cat_inv he
  rw[List.append_assoc]at h
  have d1:=drop_more h
  rw[List.length_cons,Dec.many]
  unfold Dec.bind
  rw[hf x y1 _ p h1 h]
  simp only[many_enc hf l y2 post _ h2 d1]
  rw[List.length_append,Nat.add_assoc]
theorem ops_enc{raw ys post:List UInt8}{p:Nat}(l:List Dec.Op)(he:Enc.ops l=some ys)(h:raw.drop p=ys++post):Dec.ops raw p= .ok (l,p+ys.length):=by
 obtain⟨y1,y2,h1,h2,rfl⟩:=cat_inv he
 rw[List.append_assoc]at h
 have d1:=drop_more h
 unfold Dec.ops Dec.bind
 rw[plain_enc h1 h]
 simp only[Int.toNat_natCast,many_enc (fun x ys post p=>op_enc x) l y2 post _ h2 d1]
 rw[List.length_append,Nat.add_assoc]
theorem ops_whole{ys:List UInt8}(l:List Dec.Op)(he:Enc.ops l=some ys):Dec.whole (Dec.ops ys 0) ys.length= .ok l:=
 whole_enc (ops_enc (post:= []) l he (by simp))
end Go.Proofs.YtjehlgblkfofpaaGreat.Plain
namespace Go.Proofs.YtjehlgblkfofpaaGreat
theorem slt_irr(a:List UInt8):¬a<a:=List.lt_irrefl a
theorem slt_trans{a b c:List UInt8}(h:a<b)(h':b<c):a<c:=List.lt_trans h h'
theorem slt_asymm{a b:List UInt8}(h:a<b):¬b<a:=List.lt_asymm h
theorem slt_tri(a b:List UInt8):a<b\/a=b\/b<a:=by
 by_cases h1:a<b
 ·exact .inl h1
 ·by_cases h2:b<a
  ·exact .inr (.inr h2)
  ·exact .inr (.inl (List.le_antisymm (List.not_lt.1 h2) (List.not_lt.1 h1)))
theorem slt_ne{a b:List UInt8}(h:a<b):a≠b:=fun e=>slt_irr b (by rw[e]at h;exact h)
abbrev KL:=List (List UInt8×List UInt8)
def KSort(l:KL):Prop:=l.Pairwise fun a b=>a.1<b.1
theorem KSort.tail{x:List UInt8×List UInt8}{l:KL}(h:KSort (x :: l)):KSort l:=(List.pairwise_cons.1 h).2
theorem KSort.head{x:List UInt8×List UInt8}{l:KL}(h:KSort (x :: l)):∀y∈l,x.1<y.1:=(List.pairwise_cons.1 h).1
def kput(o:Dec.Op):KL->KL
 | []=>if o.g=true then [] else [(o.k,o.v)]
 | x :: r=>if x.1=o.k then (if o.g=true then r else (o.k,o.v) :: r) else if o.k<x.1 then (if o.g=true then x :: r else (o.k,o.v) :: x :: r) else x :: kput o r
def kdo(l:KL)(ops:List Dec.Op):KL:=ops.foldl (fun l o=>kput o l) l
def kget(k:List UInt8):KL->Option (List UInt8)
 | []=>none
 | x :: r=>if x.1=k then some x.2 else kget k r
def ksize(l:KL):Nat:=(l.map fun x=>x.1.length+x.2.length).sum
theorem ksize_cons(x:List UInt8×List UInt8)(l:KL):ksize (x :: l)=x.1.length+x.2.length+ksize l:=by unfold ksize;rw[List.map_cons,List.sum_cons]
theorem ksize_append(a b:KL):ksize (a++b)=ksize a+ksize b:=by unfold ksize;rw[List.map_append,List.sum_append]
section
variable {o:Dec.Op}{l:KL}{k v:List UInt8}{x:List UInt8×List UInt8}
theorem kput_mem:∀{l:KL} {x:List UInt8×List UInt8},x∈kput o l->x=(o.k,o.v)\/x∈l
 | [],x,h=>by
  unfold kput at h
  split at h
  ·cases h
  ·exact .inl (List.mem_singleton.1 h)
 | y :: r,x,h=>by
  unfold kput at h
  split at h
  ·split at h
   ·exact .inr (List.mem_cons_of_mem _ h)
   ·rcases List.mem_cons.1 h with rfl | h
    ·exact .inl rfl
    ·exact .inr (List.mem_cons_of_mem _ h)
  ·split at h
   ·split at h
    ·exact .inr h
    ·rcases List.mem_cons.1 h with rfl | h
     ·exact .inl rfl
     ·exact .inr h
   ·rcases List.mem_cons.1 h with rfl | h
    ·exact .inr (List.mem_cons_self ..)
    ·rcases kput_mem h with h | h
     ·exact .inl h
     ·exact .inr (List.mem_cons_of_mem _ h)
theorem kput_sort:∀{l:KL},KSort l->KSort (kput o l)
 | [],_=>by unfold kput;split<;>simp[KSort]
 | y :: r,h=>by
  unfold kput
  split
  ·rename_i e
   split
   ·exact h.tail
   ·exact List.pairwise_cons.2 ⟨fun z hz=>by have:=h.head z hz;rw[e]at this;exact this,h.tail⟩
  ·split
   ·rename_i e
    split
    ·exact h
    ·exact List.pairwise_cons.2 ⟨fun z hz=>by
      rcases List.mem_cons.1 hz with rfl | hz
      ·exact e
      ·exact slt_trans e (h.head z hz),h⟩
   ·rename_i e1 e2
    refine List.pairwise_cons.2 ⟨fun z hz=> ?_,kput_sort h.tail⟩
    rcases kput_mem hz with rfl | hz
    ·rcases slt_tri y.1 o.k with h1 | h1 | h1
     ·exact h1
     ·exact absurd h1 e1
     ·exact absurd h1 e2
    ·exact h.head z hz
theorem kget_none_lt:∀{l:KL},(∀y∈l,k<y.1)->kget k l=none
 | [],_=>rfl
 | y :: r,h=>by
  unfold kget
  rw[if_neg (fun e=>slt_irr k (by have:=h y (List.mem_cons_self ..);rw[e]at this;exact this))]
  exact kget_none_lt fun z hz=>h z (List.mem_cons_of_mem _ hz)
theorem kget_mem:∀{l:KL},kget k l=some v->(k,v)∈l
 | [],h=>by cases h
 | y :: r,h=>by
  unfold kget at h
  split at h
  ·rename_i e
   injection h with h
   rw[<- h,<- e]
   exact List.mem_cons_self ..
  ·exact List.mem_cons_of_mem _ (kget_mem h)
theorem kget_of_mem:∀{l:KL},KSort l->(k,v)∈l->kget k l=some v
 | [],_,h=>by cases h
 | y :: r,hs,h=>by
  unfold kget
  rcases List.mem_cons.1 h with rfl | h
  ·rw[if_pos rfl]
  ·have:=hs.head _ h
   rw[if_neg (slt_ne this)]
   exact kget_of_mem hs.tail h
def kpos(k:List UInt8):KL->Nat
 | []=>0
 | y :: r=>if y.1<k then kpos k r+1 else 0
theorem kpos_le:∀(l:KL),kpos k l<=l.length
 | []=>Nat.le_refl _
 | y :: r=>by
  unfold kpos
  split
  ·have:=kpos_le r;rw[List.length_cons];omega
  ·exact Nat.zero_le _
theorem kpos_lt:∀{l:KL} {t:Nat},t<kpos k l->∀y,l[t]? =some y->y.1<k
 | [],t,h,y,hy=>by simp at hy
 | z :: r,t,h,y,hy=>by
  unfold kpos at h
  split at h
  ·rename_i hz
   cases t with
   | zero=>simp at hy;rw[<- hy];exact hz
   | succ t=>exact kpos_lt (l:=r) (t:=t) (by omega) y (by simpa using hy)
  ·omega
theorem kpos_ge:∀{l:KL} {t:Nat},KSort l->kpos k l<=t->∀y,l[t]? =some y->¬y.1<k
 | [],t,_,h,y,hy=>by simp at hy
 | z :: r,t,hs,h,y,hy=>by
  unfold kpos at h
  split at h
  ·cases t with
   | zero=>omega
   | succ t=>exact kpos_ge (l:=r) (t:=t) hs.tail (by omega) y (by simpa using hy)
  ·rename_i hz
   cases t with
   | zero=>simp at hy;rw[<- hy];exact hz
   | succ t=>
    have h1:=hs.head y (List.mem_of_getElem? (by simpa using hy))
    exact fun h2=>hz (slt_trans h1 h2)
theorem kget_pos:∀{l:KL},KSort l->(kget k l=some v↔l[kpos k l]? =some (k,v))
 | [],_=>by simp[kget]
 | y :: r,hs=>by
  unfold kget kpos
  by_cases h1:y.1=k
  ·rw[if_pos h1,if_neg (by rw[h1];exact slt_irr k)]
   simp only[List.getElem?_cons_zero,Option.some.injEq]
   constructor
   ·intro h;rw[<- h,<- h1]
   ·intro h;rw[h]
  ·rw[if_neg h1]
   by_cases h2:y.1<k
   ·rw[if_pos h2,List.getElem?_cons_succ]
    exact kget_pos hs.tail
   ·rw[if_neg h2,List.getElem?_cons_zero]
    have h3:k<y.1:=by
     rcases slt_tri y.1 k with h | h | h
     ·exact absurd h h2
     ·exact absurd h h1
     ·exact h
    rw[kget_none_lt fun z hz=>slt_trans h3 (hs.head z hz)]
    simp only[Option.some.injEq,reduceCtorEq,false_iff]
    intro h
    exact h1 (by rw[h])
theorem kput_new:∀{l:KL},KSort l->kget o.k l=none->kput o l=if o.g=true then l else l.take (kpos o.k l)++(o.k,o.v) :: l.drop (kpos o.k l)
 | [],_,_=>by simp[kput,kpos]
 | y :: r,hs,h=>by
  unfold kget at h
  split at h
  ·cases h
  ·rename_i e
   unfold kput kpos
   rw[if_neg e]
   by_cases h2:y.1<o.k
   ·rw[if_neg (slt_asymm h2),if_pos h2,kput_new hs.tail h]
    split
    ·rfl
    ·rfl
   ·have h3:o.k<y.1:=by
     rcases slt_tri y.1 o.k with h | h | h
     ·exact absurd h h2
     ·exact absurd h e
     ·exact h
    rw[if_pos h3,if_neg h2]
    rfl
theorem kput_old:∀{l:KL},KSort l->kget o.k l=some v->kput o l=l.take (kpos o.k l)++(if o.g=true then [] else [(o.k,o.v)])++l.drop (kpos o.k l+1)
 | [],_,h=>by cases h
 | y :: r,hs,h=>by
  unfold kget at h
  unfold kput kpos
  by_cases e:y.1=o.k
  ·rw[if_pos e,if_neg (show ¬y.1<o.k by rw[e];exact slt_irr _)]
   split<;>simp
  ·rw[if_neg e]at h ⊢
   have hm:=kget_mem h
   have h2:y.1<o.k:=hs.head _ hm
   rw[if_neg (slt_asymm h2),if_pos h2,kput_old hs.tail h]
   simp
end
theorem ksize_split{l:KL}{k v:List UInt8}(hs:KSort l)(h:kget k l=some v):ksize l=ksize (l.take (kpos k l))+(k.length+v.length)+ksize (l.drop (kpos k l+1)):=by
 have hp:=(kget_pos hs).1 h
 have hlt:=(List.getElem?_eq_some_iff.1 hp).1
 have hsplit:l=l.take (kpos k l)++(k,v) :: l.drop (kpos k l+1):=by
  conv=>lhs;rw[<- List.take_append_drop (kpos k l) l]
  rw[List.drop_eq_getElem_cons hlt,(List.getElem?_eq_some_iff.1 hp).2]
 conv=>lhs;rw[hsplit]
 rw[ksize_append,ksize_cons]
 dsimp only
 omega
theorem ksize_new{l:KL}{o:Dec.Op}(hs:KSort l)(h:kget o.k l=none):ksize (kput o l)=ksize l+(if o.g=true then 0 else o.k.length+o.v.length):=by
 rw[kput_new hs h]
 split
 ·omega
 ·have:ksize l=ksize (l.take (kpos o.k l))+ksize (l.drop (kpos o.k l)):=by rw[<- ksize_append,List.take_append_drop]
  rw[ksize_append,ksize_cons]
  dsimp only
  omega
theorem ksize_old{l:KL}{o:Dec.Op}{v:List UInt8}(hs:KSort l)(h:kget o.k l=some v):ksize (kput o l)+(o.k.length+v.length)=ksize l+(if o.g=true then 0 else o.k.length+o.v.length):=by
 have h1:=ksize_split hs h
 rw[kput_old hs h]
 split
 ·rw[List.append_nil,ksize_append];omega
 ·have:ksize ([(o.k,o.v)]:KL)=o.k.length+o.v.length:=by simp[ksize]
  rw[ksize_append,ksize_append,this]
  omega
theorem kdo_sort:∀(ops:List Dec.Op) {l:KL},KSort l->KSort (kdo l ops)
 | [],_,h=>h
 | _ :: r,_,h=>kdo_sort r (kput_sort h)
def rstep(o:Dec.Op)(s:KL×Bool)(x:List UInt8×List UInt8):KL×Bool:=
 if x.1=o.k then s else if s.2=false/\o.k<x.1 then (s.1++ [(o.k,o.v)]++ [x],true) else (s.1++ [x],s.2)
def rfin(o:Dec.Op)(s:KL×Bool):KL:=if s.2=true then s.1 else s.1++ [(o.k,o.v)]
def rput(o:Dec.Op)(l:KL):KL:=rfin o (l.foldl (rstep o) ([],o.g))
theorem rstep_same{o:Dec.Op}{s:KL×Bool}{x:List UInt8×List UInt8}(h:x.1=o.k):rstep o s x=s:=by unfold rstep;rw[if_pos h]
theorem rstep_in{o:Dec.Op}{pre:KL}{x:List UInt8×List UInt8}(h:¬x.1=o.k)(h2:o.k<x.1):rstep o (pre,false) x=(pre++ [(o.k,o.v)]++ [x],true):=by unfold rstep;rw[if_neg h,if_pos ⟨rfl,h2⟩]
theorem rstep_on{o:Dec.Op}{s:KL×Bool}{x:List UInt8×List UInt8}(h:¬x.1=o.k)(h2:¬(s.2=false/\o.k<x.1)):rstep o s x=(s.1++ [x],s.2):=by unfold rstep;rw[if_neg h,if_neg h2]
theorem rput_done(o:Dec.Op):∀(l pre:KL),rfin o (l.foldl (rstep o) (pre,true))=pre++l.filter fun x=>decide (x.1≠o.k)
 | [],pre=>by simp[rfin]
 | x :: r,pre=>by
  rw[List.foldl_cons,List.filter_cons]
  by_cases h:x.1=o.k
  ·rw[rstep_same h,if_neg (by simp[h])]
   exact rput_done o r pre
  ·rw[rstep_on h (by simp),if_pos (by simpa using h)]
   have:=rput_done o r (pre++ [x])
   rw[List.append_assoc]at this
   exact this
theorem filter_above{k:List UInt8}{l:KL}(h:∀y∈l,k<y.1):(l.filter fun x=>decide (x.1≠k))=l:=by
 refine List.filter_eq_self.2 fun x hx=> ?_
 exact decide_eq_true fun e=>slt_irr k (by have:=h x hx;rw[e]at this;exact this)
theorem kput_above{o:Dec.Op}(hg:o.g=false):∀{l:KL},(∀y∈l,o.k<y.1)->kput o l=(o.k,o.v) :: l
 | [],_=>by simp[kput,hg]
 | z :: q,h=>by
  have hz:=h z (List.mem_cons_self ..)
  unfold kput
  rw[if_neg (show ¬z.1=o.k from fun e=>slt_irr o.k (by rw[e]at hz;exact hz)),if_pos hz,hg,if_neg (by simp)]
theorem rput_go(o:Dec.Op)(hg:o.g=false):∀(l pre:KL),KSort l->rfin o (l.foldl (rstep o) (pre,false))=pre++kput o l
 | [],pre,_=>by simp[rfin,kput,hg]
 | x :: r,pre,hs=>by
  rw[List.foldl_cons]
  by_cases h:x.1=o.k
  ·have ha:∀y∈r,o.k<y.1:=fun y hy=>by rw[<- h];exact hs.head y hy
   rw[rstep_same h,rput_go o hg r pre hs.tail,kput_above hg ha]
   unfold kput
   rw[if_pos h,hg,if_neg (by simp)]
  ·by_cases h2:o.k<x.1
   ·rw[rstep_in h h2,rput_done,filter_above fun y hy=>slt_trans h2 (hs.head y hy)]
    unfold kput
    rw[if_neg h,if_pos h2,hg,if_neg (by simp)]
    simp
   ·rw[rstep_on h (by simp[h2])]
    have:=rput_go o hg r (pre++ [x]) hs.tail
    rw[List.append_assoc]at this
    unfold kput
    rw[if_neg h,if_neg h2]
    exact this
theorem kput_gone(o:Dec.Op)(hg:o.g=true):∀{l:KL},KSort l->kput o l=l.filter fun x=>decide (x.1≠o.k)
 | [],_=>by simp[kput,hg]
 | x :: r,hs=>by
  unfold kput
  rw[List.filter_cons]
  by_cases h:x.1=o.k
  ·rw[if_pos h,if_pos hg,if_neg (by simp[h]),filter_above fun y hy=>by rw[<- h];exact hs.head y hy]
  ·rw[if_neg h,if_pos (show decide (x.1≠o.k)=true by simpa using h)]
   by_cases h2:o.k<x.1
   ·rw[if_pos h2,if_pos hg,filter_above fun y hy=>slt_trans h2 (hs.head y hy)]
   ·rw[if_neg h2,kput_gone o hg hs.tail]
theorem rput_eq{o:Dec.Op}{l:KL}(hs:KSort l):rput o l=kput o l:=by
 unfold rput
 cases hg:o.g with
 | false=>exact(rput_go o hg l [] hs).trans (List.nil_append _)
 | true=>rw[rput_done,List.nil_append,kput_gone o hg hs]
theorem ksize_put_le{l:KL}(o:Dec.Op)(hs:KSort l):ksize (kput o l)<=ksize l+(o.k.length+o.v.length):=by
 cases h:kget o.k l with
 | none=>
  rw[ksize_new hs h]
  split<;>omega
 | some v=>
  have:=ksize_old (o:=o) hs h
  split at this<;>omega
theorem klen_put_le{l:KL}(o:Dec.Op)(hs:KSort l):(kput o l).length<=l.length+1:=by
 have hle:=kpos_le (k:=o.k) l
 cases h:kget o.k l with
 | none=>
  rw[kput_new hs h]
  split
  ·omega
  ·simp only[List.length_append,List.length_take,List.length_cons,List.length_drop]
   omega
 | some v=>
  rw[kput_old hs h]
  split
  ·simp only[List.length_append,List.length_take,List.length_drop,List.length_nil]
   omega
  ·simp only[List.length_append,List.length_take,List.length_cons,List.length_drop,List.length_nil]
   omega
def opsum(l:List Dec.Op):Nat:=(l.map fun o=>o.k.length+o.v.length).sum
theorem opsum_take:∀(l:List Dec.Op) (j:Nat),opsum (l.take j)<=opsum l
 | [],j=>by simp[opsum]
 | o :: r,0=>by simp[opsum]
 | o :: r,j+1=>by
  have:=opsum_take r j
  simp only[opsum,List.take_succ_cons,List.map_cons,List.sum_cons]at this ⊢
  omega
theorem kdo_snoc(l:KL)(a:List Dec.Op)(o:Dec.Op):kdo l (a++ [o])=kput o (kdo l a):=by simp[kdo]
theorem ksize_kdo:∀(ops:List Dec.Op) {l:KL},KSort l->ksize (kdo l ops)<=ksize l+opsum ops/\(kdo l ops).length<=l.length+ops.length
 | [],l,_=>by simp[kdo,opsum]
 | o :: r,l,hs=>by
  have h1:=ksize_put_le o hs
  have h2:=klen_put_le o hs
  obtain⟨h3,h4⟩:=ksize_kdo r (kput_sort (o:=o) hs)
  have e:kdo l (o :: r)=kdo (kput o l) r:=rfl
  rw[e]
  have e2:opsum (o :: r)=o.k.length+o.v.length+opsum r:=by simp[opsum]
  rw[e2,List.length_cons]
  omega
def wgt(l:KL):Nat:=(l.map fun x=>x.1.length+x.2.length+32).sum
theorem wt_append(a b:KL):wgt (a++b)=wgt a+wgt b:=by simp[wgt]
theorem wt_take(l:KL)(j:Nat):wgt (l.take j)<=wgt l:=by
 have:=wt_append (l.take j) (l.drop j)
 rw[List.take_append_drop]at this
 omega
theorem wt_one(x:List UInt8×List UInt8):wgt [x]=x.1.length+x.2.length+32:=by simp[wgt]
def rightB(o:Dec.Op):Bool:= !o.k.isEmpty && decide (o.k.length<=200) && decide (o.v.length<=65536) && !(o.g && !o.v.isEmpty)
def longB(l:List Dec.Op):Bool:=match Enc.ops l with
 | none=>true
 | some ys=>decide (1048512<ys.length)
def opA(x:Dec.Op):Value:= .agg #[.string ⟨x.k.toArray⟩, .string ⟨x.v.toArray⟩, .bool x.g]
end Go.Proofs.YtjehlgblkfofpaaGreat
namespace Go.Proofs.YtjehlgblkfofpaaGreat
open Go.RowKit Go.Maps
def sR(v:Value):Option (DataW Unit×List MemPlace):=
 match v with
 | .string s=>some (.lit (.string s.data.toList), [])
 | _=>none
theorem sR_mk(l:List UInt8):sR (.string ⟨l.toArray⟩)=some (.lit (.string l), []):=rfl
theorem sR_inv{v:Value}{l:List UInt8}{ps:List MemPlace}(h:sR v=some (.lit (.string l),ps)):v= .string ⟨l.toArray⟩:=by
 unfold sR at h
 split at h
 ·rename_i s
  simp only[Option.some.injEq,Prod.mk.injEq,DataW.lit.injEq,Lit.string.injEq]at h
  rw[<- h.1]
 ·cases h
theorem before_lt:∀(a b:List UInt8),bytesBefore a b=decide (a<b)
 | [], []=>by simp[bytesBefore]
 | _ :: _, []=>by simp[bytesBefore]
 | [],_ :: _=>by simp[bytesBefore]
 | a :: x,b :: y=>by
  rw[bytesBefore,before_lt x y]
  simp only[List.cons_lt_cons_iff]
  by_cases h1:a<b<;>by_cases h2:a=b<;>by_cases h3:x<y<;>simp[h1,h2,h3]
def entS(l:KL):List (Lit×DataW Unit):=l.map fun p=>(.string p.1, .lit (.string p.2))
def insS(k v:List UInt8):KL->KL
 | []=> [(k,v)]
 | p :: r=>if k<p.1 then (k,v) :: p :: r else p :: insS k v r
theorem entS_ins(k v:List UInt8)(l:KL):entS (insS k v l)=DataW.insert (.string k, .lit (.string v)) (entS l):=by
 induction l with
 | nil=>rfl
 | cons p r ih=>
  unfold insS
  show entS (if _ then _ else _)=DataW.insert _ ((Lit.string p.1,DataW.lit (.string p.2)) :: entS r)
  unfold DataW.insert
  by_cases h:k<p.1
  ·rw[if_pos h,if_pos (by simpa [Lit.before,before_lt] using h)]
   rfl
  ·rw[if_neg h,if_neg (by simpa [Lit.before,before_lt] using h),<- ih]
   rfl
theorem entS_filter(k:List UInt8)(l:KL):(entS l).filter (fun p=> !p.1.sameKey (.string k))=entS (l.filter fun p=>decide (p.1≠k)):=by
 induction l with
 | nil=>rfl
 | cons p r ih=>
  show List.filter _ ((Lit.string p.1,DataW.lit (.string p.2)) :: entS r)= _
  by_cases h:p.1=k
  ·rw[List.filter_cons_of_neg (by simp[Lit.sameKey,h]),List.filter_cons_of_neg (by simp[h]),ih]
  ·rw[List.filter_cons_of_pos (by simp[Lit.sameKey,h]),List.filter_cons_of_pos (by simp[h]),ih]
   rfl
theorem entS_find(k:List UInt8):∀l:KL,(entS l).find? (fun p=>p.1.sameKey (.string k))=(kget k l).map fun v=>(.string k, .lit (.string v))
 | []=>rfl
 | p :: r=>by
  show List.find? _ ((Lit.string p.1,DataW.lit (.string p.2)) :: entS r)= _
  rw[List.find?_cons]
  unfold kget
  by_cases h:p.1=k
  ·rw[if_pos h,show (Lit.string p.1).sameKey (.string k)=true by simp[Lit.sameKey,h],h]
   rfl
  ·rw[if_neg h,<- entS_find k r,show (Lit.string p.1).sameKey (.string k)=false by simp[Lit.sameKey,h]]
theorem kget_same{k:List UInt8}{p:List UInt8×List UInt8}{r:KL}(h:p.1=k):kget k (p :: r)=some p.2:=by rw[kget,if_pos h]
theorem kget_next{k:List UInt8}{p:List UInt8×List UInt8}{r:KL}(h:¬p.1=k):kget k (p :: r)=kget k r:=by rw[kget,if_neg h]
theorem entS_any(k:List UInt8):∀l:KL,(entS l).any (fun p=>p.1.sameKey (.string k))=(kget k l).isSome
 | []=>rfl
 | p :: r=>by
  show List.any ((Lit.string p.1,DataW.lit (.string p.2)) :: entS r) _= _
  rw[List.any_cons,entS_any k r]
  by_cases h:p.1=k
  ·rw[kget_same h,show (Lit.string p.1).sameKey (.string k)=true by simp[Lit.sameKey,h]]
   rfl
  ·rw[kget_next h,show (Lit.string p.1).sameKey (.string k)=false by simp[Lit.sameKey,h],Bool.false_or]
theorem entS_at(k:List UInt8)(l:KL)(z:DataW Unit):(DataW.map (entS l)).atKey (.string k) z=match kget k l with | some v=> .lit (.string v) | none=>z:=by
 unfold DataW.atKey
 simp only[entS_find]
 cases kget k l<;>rfl
theorem insS_kput{o:Dec.Op}(hg:o.g=false):∀{l:KL},KSort l->insS o.k o.v (l.filter fun p=>decide (p.1≠o.k))=kput o l
 | [],_=>by simp[insS,kput,hg]
 | x :: r,hs=>by
  by_cases h:x.1=o.k
  ·have ha:∀y∈r,o.k<y.1:=fun y hy=>by rw[<- h];exact hs.head y hy
   rw[List.filter_cons,if_neg (by simp[h]),filter_above ha]
   unfold kput
   rw[if_pos h,hg,if_neg (by simp)]
   cases r with
   | nil=>rfl
   | cons z q=>
    unfold insS
    rw[if_pos (ha z (List.mem_cons_self ..))]
  ·rw[List.filter_cons,if_pos (show decide (x.1≠o.k)=true by simpa using h)]
   unfold insS kput
   rw[if_neg h]
   by_cases h2:o.k<x.1
   ·rw[if_pos h2,if_pos h2,hg,if_neg (by simp),filter_above fun y hy=>slt_trans h2 (hs.head y hy)]
   ·rw[if_neg h2,if_neg h2,insS_kput hg hs.tail]
def SMap(w:World)(b:Nat)(l:KL):Prop:=w.ownsMap Tryz.prog 9 sR b l.length (.map (entS l))
section
variable {w w':World}{b:Nat}{l:KL}
theorem SMap.lt(h:SMap w b l):b<w.heap.size:=World.ownsMap.lt h
theorem SMap.heap(h:SMap w b l)(hb:w'.heap[b]? =w.heap[b]?):SMap w' b l:=by
 obtain⟨es',clock,h1,rest⟩:=h
 exact⟨es',clock,hb.trans h1,rest⟩
theorem SMap.touch{S:Nat->Prop}(h:SMap w b l)(ht:Touch S w w')(hn:¬S b):SMap w' b l:=h.heap (ht.block b h.lt hn)
theorem SMap.new(w:World):SMap (w.alloc (.map #[] 0)) w.heap.size []:=World.ownsMap_made w _ _ _
theorem SMap.ne_blk{g:Nat}{t:TypeId}{cs:Array Value}(h:SMap w b l)(hg:Blk w g t cs):b≠g:=by
 obtain⟨es',clock,hb,_⟩:=h
 rintro rfl
 have:=hb.symm.trans hg
 injection this with this
 cases this
theorem SMap.norm{n:Nat}(h:w.ownsMap Tryz.prog 9 sR b n (.map (entS l))):SMap w b l:=by
 obtain⟨es',clock,hb,F,hs,hD⟩:=h
 refine⟨es',clock,hb,F, ?_,hD⟩
 injection hD with hD
 have:=congrArg List.length hD
 rw[length_sorted,List.length_map]at this
 unfold entS at this
 rw[List.length_map]at this
 simpa using Nat.le_of_eq this.symm
theorem key_str:Keyed Tryz.prog 9:=string_keyed Tryz.underlying9
theorem keyOf_str{k:List UInt8}(h:k.length<=maxLen):keyOf Tryz.prog 9 (.string ⟨k.toArray⟩)=some (.string k):=by
 rw[keyOf_string Tryz.underlying9]
 simp[mapKey,Tryz.underlying9,ByteArray.size,h]
theorem zeroStr(w:World):(zeroValue 9).run Tryz.prog w= .ok (.string ⟨#[]⟩) w:=by kernel_rfl
theorem SMap.look(h:SMap w b l){k:List UInt8}(hn:k.length<=maxLen):(Instr.lookup 92 (.map (some b)) (.string ⟨k.toArray⟩) false).run Tryz.prog w= .ok (.string ⟨((kget k l).getD []).toArray⟩) w:=by
 obtain⟨v,ps,hrun,hv⟩:=World.ownsMap.lookup (H:=Unit) h key_str Tryz.underlying92 (zeroStr w) (sR_mk []) (keyOf_str hn)
 rw[hrun]
 rw[entS_at]at hv
 cases hf:kget k l with
 | some u=>rw[hf]at hv;rw[sR_inv hv];rfl
 | none=>rw[hf]at hv;rw[sR_inv hv];rfl
theorem SMap.look2(h:SMap w b l){k:List UInt8}(hn:k.length<=maxLen):(Instr.lookup 92 (.map (some b)) (.string ⟨k.toArray⟩) true).run Tryz.prog w= .ok (.tuple #[.string ⟨((kget k l).getD []).toArray⟩, .bool (kget k l).isSome]) w:=by
 obtain⟨v,ps,hrun,hv⟩:=World.ownsMap.look_ok (H:=Unit) h key_str Tryz.underlying92 (zeroStr w) (sR_mk []) (keyOf_str hn)
 rw[hrun]
 rw[entS_at]at hv
 have hh:Maps.has (DataW.map (entS l)) (.string k)=(kget k l).isSome:=by
  rw[Maps.has_eq]
  exact entS_any k l
 rw[hh]
 cases hf:kget k l with
 | some u=>rw[hf]at hv;rw[sR_inv hv];rfl
 | none=>rw[hf]at hv;rw[sR_inv hv];rfl
theorem SMap.put(h:SMap w b l){o:Dec.Op}(hg0:o.g=false)(hs:KSort l)(hn:o.k.length<=maxLen)(hm:l.length<maxLen):
  ∃w',(Instr.mapUpdate 92 (.map (some b)) (.string ⟨o.k.toArray⟩) (.string ⟨o.v.toArray⟩)).run Tryz.prog w= .ok () w'/\SMap w' b (kput o l)/\w.grownBy w' (some b):=by
 obtain⟨w',hrun,hown,hg⟩:=World.ownsMap.update (H:=Unit) h key_str Tryz.underlying92 hm (keyOf_str hn) (sR_mk o.v)
 refine⟨w',hrun,SMap.norm (n:=l.length+1) ?_,hg⟩
 rw[<- insS_kput hg0 hs,entS_ins,<- entS_filter]
 exact hown
theorem SMap.del(h:SMap w b l){o:Dec.Op}(hg0:o.g=true)(hs:KSort l)(hn:o.k.length<=maxLen)(ty:TypeId):
  ∃w',(Builtin.delete_ #[92,9] ty #[.map (some b), .string ⟨o.k.toArray⟩]).run Tryz.prog w= .ok (.tuple #[]) w'/\SMap w' b (kput o l)/\w.mapTurned w' b:=by
 obtain⟨w',hrun,hown,hg⟩:=World.ownsMap.drop (H:=Unit) h key_str Tryz.underlying92 (keyOf_str hn) ty
 refine⟨w',hrun,SMap.norm (n:=l.length) ?_,hg⟩
 rw[kput_gone o hg0 hs,<- entS_filter]
 exact hown
end
end Go.Proofs.YtjehlgblkfofpaaGreat
namespace Go.Proofs.YtjehlgblkfofpaaGreat
open Go.RowKit
theorem Own.bs{w:World}{A:Option Addr}{n c:Nat}{l:List UInt8}(h:Own w 5 1 (.slice A n c) n (u8s l)):Bs w A n c l:=by
 obtain⟨A',c',hv,hle,hm,hA⟩:=h.form
 injection hv with e1 _ e3
 subst e1 e3
 have hl:l.length=n:=by have:=h.1;rw[u8s_length]at this;omega
 refine⟨hl,hle,hm,fun h0=> ?_⟩
 rcases hA with⟨_,h2,_⟩ | ⟨g,rfl⟩
 ·omega
 ·refine⟨g,0,rfl,fun j x hx=> ?_⟩
  have hj:j<n:=by have:=(List.getElem?_eq_some_iff.1 hx).1;omega
  rw[Nat.zero_add,h.cell (j:=j) (by omega),u8s_get,hx]
  rfl
theorem grow_step{W w1 w2:World}{o:Obj}{row:Option Nat}{v:Value}(hf:Fresh W w1)(hg:(w1.alloc o).grownBy w2 row)(hr:∀q,row=some q->W.heap.size<=q)(hb:v.ownBlock=row\/v.ownBlock=some (w1.alloc o).heap.size):Fresh W w2/\∀q,v.ownBlock=some q->W.heap.size<=q:=by
 refine⟨(hf.alloc o).grown hg fun q hq=> .inl (hr q hq),fun q hq=> ?_⟩
 rcases hb with h | h
 ·exact hr q (h.symm.trans hq)
 ·rw[hq,World.size_alloc]at h
  injection h with h
  have:=hf.size
  omega
section
variable {P:Program}
theorem run_fb_src(w:World)(t tx ty e:TypeId)(i:TypeInfo)(ht:P.underlying t=some (.slice e))(hi:P.info? e=some i)(hz:i.zero=some (.int .u8 0))(hs1:i.size=1)(hb1:i.bytes=1)
  {g cap:Nat} {l ys:List UInt8} (h:Fb w g cap l) (x:Value) (m:Nat) (hs:Src P 1 tx x m (u8s ys) w) (h63:l.length+m<=140737488355328):
  ∃g' c' w',(Builtin.append_ #[t,tx] ty #[.slice (some ⟨g,0,none⟩) l.length cap,x]).run P w= .ok (.slice (some ⟨g',0,none⟩) (l.length+m) c') w'/\Bs w' (some ⟨g',0,none⟩) (l.length+m) c' (l++ys)/\w.grownBy w' (some g)/\(g'=g\/g'=w.heap.size):=by
 obtain⟨hc,hth,hle,hmx⟩:=h
 have hym:ys.length=m:=by have:=hs.newsLen;rw[u8s_length]at this;omega
 have hlen:(l++ys).length=l.length+m:=by rw[List.length_append,hym]
 have hs':Src P i.size tx x m (u8s ys) w:=by rw[hs1];exact hs
 by_cases hroom:l.length+m<=cap
 ·have hrun:=run_append_room_src (P:=P) w t tx ty e i ht hi g 0 l.length cap x m (u8s ys) hs' hroom
   (fun j hj=>by rw[u8s_length,hym]at hj;rw[hs1,Nat.mul_one,Nat.add_assoc];exact(hth (l.length+j) (by omega)).1) (fun j hj=>by rw[u8s_length,hym]at hj;rw[hs1,Nat.mul_one,Nat.add_assoc];exact(hth (l.length+j) (by omega)).2)
  rw[Nat.zero_add,hs1,Nat.mul_one]at hrun
  refine⟨g,cap,_,hrun,⟨hlen,hroom,hmx,fun _=>⟨g,0,rfl,fun j y hy=> ?_⟩⟩,⟨World.os_setCells w g _ _,tape_setCells g _ _ w,World.output_setCells w g _ _,Nat.le_of_eq (size_setCells g _ _ w).symm,fun k hk hne=>World.heap_setCells_other w g _ _ hk (fun e=>hne (by rw[e]))⟩, .inl rfl⟩
  rw[Nat.zero_add]
  by_cases hj:j<l.length
  ·rw[List.getElem?_append_left hj]at hy
   rw[World.cell?_setCells_out g _ _ w ⟨g,j,none⟩ (fun _ _=> .inl hj)]
   exact hc j y hy
  ·rw[List.getElem?_append_right (by omega)]at hy
   have hjl:j-l.length<(u8s ys).length:=by rw[u8s_length];exact(List.getElem?_eq_some_iff.1 hy).1
   have h1:=World.cell?_setCells_in g (u8s ys) l.length w (fun q hq=>by
    rw[u8s_length,hym]at hq
    have:=(hth (l.length+q) (by omega)).1
    rwa [Nat.zero_add]at this) (j-l.length) hjl
   rw[show l.length+(j-l.length)=j by omega]at h1
   rw[h1,<- List.getElem?_eq_getElem hjl,u8s_get,hy]
   rfl
 ·have hold:(Builtin.firstCells i.size l.length (.slice (some ⟨g,0,none⟩) l.length cap)).run P w.drew= .ok (u8s l).toArray w.drew:=by
   have hsrc:Src P 1 t (.slice (some ⟨g,0,none⟩) l.length cap) l.length (u8s l) w.drew:=by
    refine Src.ofSlice w.drew ht _ _ _ _ (by rw[u8s_length,Nat.mul_one]) (fun j u hu=> ?_) (u8s_one l)
    rw[u8s_get]at hu
    obtain⟨y,hy,rfl⟩:=Option.map_eq_some_iff.1 hu
    rw[add_flat,Nat.zero_add]
    exact hc j y hy
   have:=hsrc.cells
   rw[hs1]
   exact this
  have hrun:=run_append_grow_src (P:=P) w t tx ty e i (.int .u8 0) ht hi hz (some ⟨g,0,none⟩) l.length cap (u8s l) hold x m (u8s ys) hs' (by omega) (by omega) (growslice_fits (by omega) (by rw[hb1];omega))
  refine⟨w.heap.size,_,_,hrun,⟨hlen,grownCap_ge w (l.length+m) cap e,grownCap_le_maxLen w (l.length+m) cap e (by unfold maxLen;omega),fun _=>⟨w.heap.size,0,rfl,fun j y hy=> ?_⟩⟩,⟨rfl,rfl,rfl,by simp,fun k hk _=>Below.heap_alloc w.drew _ k hk⟩, .inr rfl⟩
  have hj:j<(l++ys).length:=(List.getElem?_eq_some_iff.1 hy).1
  have hb:=(show Blk (w.drew.alloc (.cells ((u8s l++u8s ys).toArray++Builtin.zeroCells (Value.int .u8 0).cells (grownCap w (l.length+m) cap e-(l.length+m))) e)) w.heap.size e _ from heap_alloc_new w.drew _)
  rw[Nat.zero_add,hb.cell j,Array.getElem?_append_left (by rw[List.size_toArray,<- u8s_append,u8s_length];exact hj),List.getElem?_toArray,<- u8s_append,u8s_get,hy]
  rfl
theorem wpList_fb_src(w:World){ops:Array Oper}{rest:List Oper}{o:Oper}{a:Act}{Q:Exit->Act->World->Prop}(hgd:o.guard=none)(s x:Operand)(t tx:TypeId)
  (ho:o.op= .call { callee:= .builtin .append,args:= #[s,x],argTypes:= #[t,tx] })
  (e:TypeId) (hinfo:(P.info? e).map (fun i=>(i.zero,i.size,i.bytes))=some (some (.int .u8 0),1,1)) (ht:P.underlying t=some (.slice e))
  {g cap:Nat} {l ys:List UInt8} (hv:a.eval s= .slice (some ⟨g,0,none⟩) l.length cap) (h:Fb w g cap l) (y:Value) (m:Nat) (hx:a.eval x=y) (hs:Src P 1 tx y m (u8s ys) w) (h63:l.length+m<=140737488355328)
  (hk:∀g' c' w',Bs w' (some ⟨g',0,none⟩) (l.length+m) c' (l++ys)->w.grownBy w' (some g)->(g'=g\/g'=w.heap.size)->wpList P ops Q rest (a.put o.dst (.slice (some ⟨g',0,none⟩) (l.length+m) c')) w'):wpList P ops Q (o :: rest) a w:=
 wpList_plain hgd fun K hK=>by
  obtain⟨i,hi,hz,hs1,hb1⟩:=info_parts hinfo
  obtain⟨g',c',w',hr,h2,h3,h4⟩:=run_fb_src (P:=P) w t tx o.type e i ht hi hz hs1 hb1 h y m hs h63
  unfold Oper.wp execOp
  simp only[ho,resolve,invoke,builtin,Sem.run_bind,Sem.run_pure,Result.andThen_ok,List.map_toArray,List.map_cons,List.map_nil,hv,hx,hr]
  exact hK _ _ (hk g' c' w' h2 h3 h4)
end
end Go.Proofs.YtjehlgblkfofpaaGreat