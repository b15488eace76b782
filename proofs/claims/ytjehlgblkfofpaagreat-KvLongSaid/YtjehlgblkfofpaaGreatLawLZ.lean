/- The law KvLong, walked. The law's wakes stands ahead of it as a contract. -/
import Derived.Test.YtjehlgblkfofpaaGreatLitZ
namespace Go.Proofs.YtjehlgblkfofpaaGreat
open Go.RowKit
attribute [local go_sem] Oper.semAt_some
theorem made_zero(m:Nat):(madeCells #[.int .u8 0] m).toList=u8s (List.replicate m 0):=by
 refine List.ext_getElem? fun j=> ?_
 rw[u8s_get,List.getElem?_replicate]
 unfold madeCells
 by_cases h:j<m
 ·simp[h,Nat.mod_one]
 ·simp[h]
theorem make_bytes(m:Nat)(hm:m<=100000000)(W:World):(Instr.makeSlice 29 (.int .i64 (m:Int)) (.int .i64 (m:Int))).run Tryz.prog W= .ok (.slice (some ⟨W.heap.size,0,none⟩) m m) (W.alloc (.cells (madeCells #[.int .u8 0] m) 5)):=by
 obtain⟨i,hi,hz,hs1,hb1⟩:=info_parts Tryz.info5
 have:=run_make (P:=Tryz.prog) W 29 5 i (.int .u8 0) Tryz.underlying29 hi hz .i64 .i64 (m:Int) (m:Int) (by omega) (Int.le_refl _) (by rw[hb1];omega) (by omega)
 rw[hs1,Int.toNat_natCast,Nat.mul_one]at this
 exact this
theorem made_row(m:Nat)(hm:m<=100000000)(W:World):Row (W.alloc (.cells (madeCells #[.int .u8 0] m) 5)) (.slice (some ⟨W.heap.size,0,none⟩) m m) (List.replicate m 0):=by
 have:=World.ownsRow_lit (base:=0) (e:=5) (size:=1) W (madeCells #[.int .u8 0] m) m (Nat.zero_le _) (by unfold maxLen;omega) (by rw[size_madeCells,Nat.mul_one])
 rw[made_zero]at this
 unfold Row
 rw[List.length_replicate]
 exact this
theorem one_bs(W:World)(c:UInt8):Bs (W.alloc (.cells #[.int .u8 (c.toNat:Int)] 5)) (some ⟨W.heap.size,0,none⟩) 1 1 [c]:=by
 refine⟨rfl,Nat.le_refl _,by unfold maxLen;omega,fun _=>⟨_,_,rfl,fun j x hx=> ?_⟩⟩
 have h0:j=0:=by have:=(List.getElem?_eq_some_iff.1 hx).1;simp at this;omega
 subst h0
 injection hx with hx
 rw[<- hx]
 exact(Blk.new W 5 #[.int .u8 (c.toNat:Int)]).cell 0
def Five(lo:Nat)(l:KL):Prop:=∀x∈l,(∃c:UInt8,lo<=c.toNat/\c.toNat<=101/\x.1= [c])/\x.2.length<=2999
theorem five_wt:∀{l:KL} {lo:Nat},KSort l->Five lo l->lo<=102->wgt l<=(102-lo)*3032
 | [],lo,_,_,_=>by simp[wgt]
 | x :: r,lo,hs,h,hlo=>by
  obtain⟨⟨c,c1,c2,c3⟩,hv⟩:=h x (List.mem_cons_self ..)
  have h2:Five (c.toNat+1) r:=fun y hy=>by
   obtain⟨⟨d,d1,d2,d3⟩,hv2⟩:=h y (List.mem_cons_of_mem _ hy)
   refine⟨⟨d, ?_,d2,d3⟩,hv2⟩
   have h3:=hs.head y hy
   rw[c3,d3]at h3
   have h4:c<d:=by
    rcases List.cons_lt_cons_iff.1 h3 with h | ⟨_,h⟩
    ·exact h
    ·exact absurd h (List.not_lt_nil _)
   have h5:=UInt8.lt_iff_toNat_lt.1 h4
   omega
  have h3:=five_wt hs.tail h2 (by omega)
  have e:wgt (x :: r)=x.1.length+x.2.length+32+wgt r:=by simp[wgt]
  rw[e,c3,List.length_singleton]
  have h6:(102-(c.toNat+1))*3032+3032=(102-c.toNat)*3032:=by
   rw[<- Nat.succ_mul]
   congr 1
   omega
  have h7:(102-c.toNat)*3032<=(102-lo)*3032:=Nat.mul_le_mul_right _ (by omega)
  omega
theorem Five.put{l:KL}{c:UInt8}{ys:List UInt8}(h:Five 97 l)(h1:97<=c.toNat)(h2:c.toNat<=101)(h3:ys.length<=2999):Five 97 (kdo l [⟨[c],ys,false⟩]):=fun x hx=>by
 rcases kput_mem (o:=⟨[c],ys,false⟩) (show x∈kput ⟨[c],ys,false⟩ l from hx) with rfl | hx
 ·exact⟨⟨c,h1,h2,rfl⟩,h3⟩
 ·exact h x hx
set_option maxRecDepth 200000 in
set_option maxHeartbeats 16000000 in
theorem law_long(KW:WakesOk)(w:World)(KA:Option Addr)(kn kc:Nat)(ks:List Int)(hk:IsInts w KA kn kc ks)
  (BA:Option Addr) (bn bc:Nat) (whs:List Bool) (hb:Vs w 1 BA bn bc (whs.map Value.bool))
  (CA:Option Addr) (cn cc:Nat) (cuts:List Int) (hz:IsInts w CA cn cc cuts) (hzw:∀x∈cuts,-9223372036854775808<=x/\x<=9223372036854775807) (hzB:∀a,CA=some a->0<cn->a.block<w.heap.size):
  Calls Tryz.prog 9 #[.slice KA kn kc, .slice BA bn bc, .slice CA cn cc] w fun e w'=>e= .returned (.bool true)/\Fresh w w':=by
 have hnc:=hk.2.1
 have hcm:=hk.2.2.1
 unfold maxLen at hcm
 have hbc:=hb.2.1
 have hbm:=hb.2.2.1
 unfold maxLen at hbm
 have KB:=zh (begunK_any w)
 have KW:=zh KW
 have HK:=zh hk;have HB:=zh hb;have HZ:=zh hz;have HZW:=zh hzw;have HZB:=zh hzB
 clear hk hz hzw hzB hb
 go_enter Tryz.func9,Tryz.ntmps9
 go_wp2_with fail
 refine KB.out.mono ?_
 rintro e w1 ⟨bp,bd,F,rfl,hf1,hpg,hnew⟩
 have HPG:=zh hpg;have HF1:=zh hf1;have HNEW:=zh hnew
 have HLO:=zh (show LoF w.heap.size w1 F from⟨hf1.size,hnew⟩)
 clear hpg hf1 hnew KB
 go_wp2_with fail
 go_loopw [8,9,10] (fun i _ _ W=>∃(k:Nat) (q:KP),k<=kn/\k<=60/\i= .int .i64 (k:Int)/\KG w1 W bp bd F q/\KInv q (k*11+1) 4 (k*605000) Any/\q.Calm/\q.maybe= []/\q.f=0/\Five 97 q.has) (fun i _ _ _=>kn-(intOf i).toNat)
 case atStart=>exact⟨0,KP.new,Nat.zero_le _,Nat.zero_le _,rfl,HPG.out,KInv.new.up (Nat.le_refl _) (by omega) (Nat.le_refl _),⟨rfl,rfl⟩,rfl,rfl,fun x hx=>by cases hx⟩
 case round=>
  obtain⟨k,q,hk,hk2,rfl,hpg,hv,hcl,hmb,hf0,h5⟩:=hrel
  have hfw:=hpg.new_ HF1.out HNEW.out
  have HFW:=zh hfw
  have HV:=zh hv;have HCL:=zh hcl;have HMB:=zh hmb;have HF0:=zh hf0;have H5:=zh h5
  obtain⟨a,hx⟩:=hpg
  have HX:=zh hx
  by_cases hlt:k<kn/\k<60
  ·obtain⟨hl1,hl2⟩:=hlt
   obtain⟨kb,koff,rfl,hkc⟩:=HK.out.2.2.2 (by omega)
   have hkl:=HK.out.1
   obtain⟨z,hz⟩:∃z,ks[k]? =some z:=⟨_,List.getElem?_eq_getElem (by omega)⟩
   have k0:wr.cell? ⟨kb,koff+k,none⟩=some (.int .i64 z):=hfw.cell (hkc k z hz) id
   have hkd:decide ((k:Int)<(kn:Int))=true:=decide_eq_true (by omega)
   have hkd2:decide ((k:Int)<60)=true:=decide_eq_true (by omega)
   have hwk:IntKind.i64.wrap ((k:Int)+1)=(k:Int)+1:=IntWalk.i64_in _ (by omega)
   have h60:=Int.emod_nonneg z (show (3000:Int)≠0 by omega)
   have h61:=Int.emod_lt_of_pos z (show (0:Int)<3000 by omega)
   obtain⟨m,hm⟩:∃m:Nat,z % 3000=(m:Int):=⟨(z % 3000).toNat,by omega⟩
   have hmb3:m<3000:=by omega
   have KWI:=zh (within_any z 3000 wr (by omega) (by omega))
   rw[hm]at KWI
   have hmk:=make_bytes m (by omega) wr
   obtain⟨wM,hwM⟩:∃wM,wM=wr.alloc (.cells (madeCells #[.int .u8 0] m) 5):=⟨_,rfl⟩
   have hrow:=made_row m (by omega) wr
   rw[<- hwM]at hmk hrow
   have hfM:Fresh wr wM:=by rw[hwM];exact(Touch.refl (fun _=>False) wr).alloc _
   obtain⟨g,hg⟩:∃g,g=wr.heap.size:=⟨_,rfl⟩
   have hgM:g<wM.heap.size:=by rw[hwM,World.size_alloc,hg];exact Nat.lt_succ_self _
   rw[<- hg]at hmk hrow
   have HROW:=zh hrow
   have HFG:=zh (show∀W,Touch (fun k=>k=g) wM W->Fresh wr W/\g<W.heap.size from fun W hW=>⟨hfM.trans hW fun q hq e=>by omega,Nat.lt_of_lt_of_le hgM hW.size⟩)
   have HW9:=zh (show∀W,Fresh wr W->Fresh w W from fun W hW=>hfw.trans hW fun _ _=>id)
   have HXF:=zh (show∀W,Fresh wr W->KX w1 W bp bd F a q q.f q.has q.cm from fun W hW=>hx.fresh hW)
   clear hx hv hcl hmb hf0 h5 hfw hkc hz hm h60 h61 hrow hfM hwM hg hgM
   go_wp2_with fail
   refine KWI.out.mono ?_
   rintro e w' ⟨rfl,rfl⟩
   clear KWI
   go_wp2_with fail
   go_loopw [10] (fun j W=>∃jj:Nat,jj<=m/\j= .int .i64 (jj:Int)/\Touch (fun k=>k=g) wM W/\∃ys:List UInt8,ys.length=m/\Row W (.slice (some ⟨g,0,none⟩) m m) ys) (fun j _=>m-(intOf j).toNat)
   case atStart=>exact⟨0,Nat.zero_le _,rfl,Touch.refl _ _,_,List.length_replicate ..,HROW.out⟩
   case round=>
    obtain⟨j,hj,rfl,ht,ys,hyl,hr⟩:=hrel
    by_cases hjm:j<m
    ·have hr':wr.ownsRow 0 5 1 (.slice (some ⟨g,0,none⟩) m m) m (u8s ys):=by unfold Row at hr;rw[hyl]at hr;exact hr
     have hcell:=hr'.cellAt j (by omega)
     have hfro:=hr'.frozenAt j
     rw[u8s_get,List.getElem?_eq_getElem (by omega)]at hcell
     simp only[Option.map_some]at hcell
     have hst:=fun u=>(hr'.stored j u).1
     generalize (ys[j]'(by omega)).toNat=y at hcell
     have hjd:decide ((j:Int)<(m:Int))=true:=decide_eq_true (by omega)
     have hkj:IntKind.i64.wrap ((k:Int)+(j:Int))=(k:Int)+(j:Int):=IntWalk.i64_in _ (by omega)
     obtain⟨r,hr2⟩:∃r:Nat,r=(k+j) % 26:=⟨_,rfl⟩
     have hr26:r<26:=by rw[hr2];exact Nat.mod_lt _ (by omega)
     have hrm:Int.tmod ((k:Int)+(j:Int)) 26=(r:Int):=by rw[hr2,<- Int.natCast_add];exact(Int.ofNat_tmod (k+j) 26).symm
     have hrw:IntKind.i64.wrap (r:Int)=(r:Int):=IntWalk.i64_in _ (by omega)
     have hrw2:IntKind.i64.wrap (97+(r:Int))=97+(r:Int):=IntWalk.i64_in _ (by omega)
     obtain⟨zz,hzz⟩:∃zz:UInt8,IntKind.u8.wrap (97+(r:Int))=(zz.toNat:Int):=⟨UInt8.ofNat (97+r),by
      simp[IntKind.wrap,IntKind.bits,IntKind.signed]⟩
     have hwj:IntKind.i64.wrap ((j:Int)+1)=(j:Int)+1:=IntWalk.i64_in _ (by omega)
     have hst:=hst (.int .u8 (zz.toNat:Int))
     have HST:=zh hst
     have HT:=zh (ht.setCell (p:=⟨g,j,none⟩) (.inr rfl) (.int .u8 (zz.toNat:Int)))
     have HYL:=zh hyl
     clear hst hr hr' ht hyl hr2
     go_wp2_with fail
     go_roundw
     case rel=>
      refine⟨j+1,by omega,by go_num,HT.out,ys.set j zz,by rw[List.length_set];exact HYL.out, ?_⟩
      have h1:=HST.out
      unfold Row
      rw[List.length_set,HYL.out,show u8s (ys.set j zz)=(u8s ys).set j (.int .u8 (zz.toNat:Int)) from List.map_set]
      exact h1
     case measure=>simp[intOf]<;>omega
    ·obtain rfl:j=m:=by omega
     have hjd:decide ((j:Int)<(j:Int))=false:=decide_eq_false (by omega)
     have hbs:Bs wr (some ⟨g,0,none⟩) j j ys:=Row.bs (by rw[<- hyl]at hr ⊢;exact hr)
     obtain⟨hfr,hgr⟩:=HFG.out wr ht
     obtain⟨c5,hc5⟩:∃c5:UInt8,c5=UInt8.ofNat (97+k % 5):=⟨_,rfl⟩
     have hk5:k % 5<5:=Nat.mod_lt _ (by omega)
     have hcn:c5.toNat=97+k % 5:=by rw[hc5,UInt8.toNat_ofNat'];exact Nat.mod_eq_of_lt (by omega)
     obtain⟨r,hr2⟩:∃r:Nat,r=k % 5:=⟨_,rfl⟩
     rw[<- hr2]at hk5 hcn
     have hrm:Int.tmod (k:Int) 5=(r:Int):=by rw[hr2];exact(Int.ofNat_tmod k 5).symm
     have hrw:IntKind.i64.wrap (r:Int)=(r:Int):=IntWalk.i64_in _ (by omega)
     have hrw2:IntKind.i64.wrap (97+(r:Int))=97+(r:Int):=IntWalk.i64_in _ (by omega)
     have hzz:IntKind.u8.wrap (97+(r:Int))=(c5.toNat:Int):=by
      rw[hcn]
      simp[IntKind.wrap,IntKind.bits,IntKind.signed]
      omega
     have hfA:Fresh wr (wr.alloc (.cells #[.int .u8 (c5.toNat:Int)] 5)):=(Touch.refl (fun _=>False) wr).alloc _
     have kc1:=run_convert_Bs (P:=Tryz.prog) 29 9 Tryz.underlying29 Tryz.underlying5 Tryz.underlying9 (one_bs wr c5)
     have kc2:=run_convert_Bs (P:=Tryz.prog) 29 9 Tryz.underlying29 Tryz.underlying5 Tryz.underlying9 (hbs.fresh hfA)
     have hlr:([⟨[c5],ys,false⟩]:List Dec.Op).all rightB=true:=by
      rw[List.all_cons,List.all_nil,Bool.and_true]
      exact right_iff.2 ⟨rfl,by simp,by show ys.length<= _;omega,fun e=>by cases e⟩
     have hlw:opwt [⟨[c5],ys,false⟩]<=4256:=by
      rw[opwt_cons]
      show 1+ys.length+32+opwt []<= _
      have:opwt []=0:=rfl
      omega
     have KCM:=zh ((HXF.out _ (hfr.trans hfA fun _ _=>id)).commit_lit HV.out (by omega) (by omega) (by omega) [⟨[c5],ys,false⟩] (cs:= #[.string ⟨#[c5]⟩, .string ⟨ys.toArray⟩, .bool false]) rfl (nn:=1) rfl (by omega) hlr hlw (wr.alloc (.cells #[.int .u8 (c5.toNat:Int)] 5)) (Touch.refl _ _) _ (Touch.refl _ _))
     rw[HF0.out,World.size_alloc]at KCM
     have HEN:=zh (show∀q',CoR q 0 [⟨[c5],ys,false⟩] q'->q'.Calm/\q'.f=0/\Five 97 q'.has/\q'.maybe= [] from fun q' hco=>by
      have hf0:=HF0.out
      rw[<- hf0]at hco
      obtain⟨d1,d2,d3,d4⟩:=hco.calm HV.out (by omega) (by omega) HCL.out HMB.out hlr (by simp) hlw
      exact⟨d1,d2.trans hf0,by rw[d3];exact H5.out.put (by omega) (by omega) (by omega),d4⟩)
     have hwk2:IntKind.i64.wrap ((k:Int)+1)=(k:Int)+1:=IntWalk.i64_in _ (by omega)
     clear hr ht hyl hbs hfr hgr hc5 hr2 hlr hlw hfA hcn HXF hmk hj
     go_wp2_with fail
     refine KCM.out.mono ?_
     rintro e w3 ⟨rfl,q3,⟨a3,hx3⟩,hk3,hco⟩
     obtain⟨cl3,f3,v3,m3⟩:=HEN.out q3 hco
     have hs3:=five_wt hk3.sort v3 (by omega)
     have hk3:=hk3.down m3 (n':=4) (by omega)
     have hfw3:=hx3.kg.new_ HF1.out HNEW.out
     have HX3:=zh hx3;have HK3:=zh hk3;have HCL3:=zh cl3;have HF3:=zh f3;have HV3:=zh v3;have HM3:=zh m3;have HFW3:=zh hfw3
     have hbl:=HB.out.1
     rw[List.length_map,Nat.mul_one]at hbl
     by_cases hkb:k<bn
     ·obtain⟨bb,boff,rfl,hbc2⟩:=HB.out.2.2.2 (by omega)
      obtain⟨wh,hwh⟩:∃wh,whs[k]? =some wh:=⟨_,List.getElem?_eq_getElem (by omega)⟩
      have b0:w3.cell? ⟨bb,boff+k,none⟩=some (.bool wh):=hfw3.cell (hbc2 k _ (by rw[List.getElem?_map,hwh];rfl)) id
      have hkbd:decide ((k:Int)<(bn:Int))=true:=decide_eq_true (by omega)
      cases wh with
      | false=>
       clear hx3 hk3 cl3 f3 v3 m3 hfw3 hco hs3 KCM HEN kc1 kc2 hbc2 hwh
       go_wp2_with fail
       go_roundw
       case rel=>exact⟨k+1,q3,by omega,by omega,by go_num,⟨a3,HX3.out⟩,HK3.out.up (by omega) (Nat.le_refl _) (by omega),HCL3.out,HM3.out,HF3.out,HV3.out⟩
       case measure=>simp[intOf]<;>omega
      | true=>
       have KD4:=zh (does_pg (o:=⟨4,0,0,0,none,0,0, [],none,0,0, []⟩) ⟨a3,hx3⟩ HLO.out hk3 (by omega) (by omega) (by omega) ⟨⟨rfl,Nat.le_refl _,Nat.zero_le _,fun h=>absurd h (by simp)⟩,fun a ha=>(by cases ha),⟨rfl,Nat.le_refl _,Nat.zero_le _,fun h=>absurd h (by simp)⟩,fun a ha=>(by cases ha),fun x hx=>(by cases hx)⟩)
       clear hx3 hk3 cl3 f3 v3 m3 hfw3 hco hs3 KCM HEN kc1 kc2 hbc2 hwh
       go_wp2_with fail
       refine KD4.out.mono ?_
       rintro e w4 ⟨rfl,q4,hx4,hk4,_,_,hd4⟩
       obtain⟨f4,s4,m4,c4⟩:=hd4 (.inl (by omega)) HM3.out
       have hcl4:=c4 HCL3.out
       have hpg4:KG w1 w4 bp bd F q4:=hx4
       have hfw4:=hpg4.new_ HF1.out HNEW.out
       have KD7:=zh (does_pg (o:=⟨7,0,0,0,none,0,0, [],CA,cn,cc,cuts⟩) hpg4 HLO.out hk4 (by omega) (by omega) (by omega) ⟨⟨rfl,Nat.le_refl _,Nat.zero_le _,fun h=>absurd h (by simp)⟩,fun a ha=>(by cases ha),HZ.out.touch hfw4 (fun _ _ _=>id),HZB.out,HZW.out⟩)
       have HM4:=zh m4;have HCL4:=zh hcl4;have HF4:=zh (f4.trans HF3.out);have HS4:=zh s4
       clear hx4 hk4 f4 s4 m4 c4 hcl4 hpg4 hfw4 hd4 KD4
       go_wp2_with fail
       refine KD7.out.mono ?_
       rintro e w5 ⟨rfl,q5,hx5,hk5',_,_,hd5⟩
       obtain⟨f5,s5,m5,c5'⟩:=hd5 (.inr (by omega)) HM4.out
       have h55:Five 97 q5.has:=by rw[s5,HS4.out];exact HV3.out
       have hs5:=five_wt hk5'.sort h55 (by omega)
       have HX5:=zh hx5;have HK5:=zh (hk5'.down m5 (n':=4) (by omega));have HM5:=zh m5;have HCL5:=zh (c5' HCL4.out);have HF5:=zh (f5.trans HF4.out);have H55:=zh h55
       clear hx5 hk5' f5 s5 m5 c5' hd5 h55 hs5 KD7
       go_wp2_with fail
       go_roundw
       case rel=>exact⟨k+1,q5,by omega,by omega,by go_num,HX5.out,HK5.out.up (by omega) (Nat.le_refl _) (by omega),HCL5.out,HM5.out,HF5.out,H55.out⟩
       case measure=>simp[intOf]<;>omega
     ·have hkbd:decide ((k:Int)<(bn:Int))=false:=decide_eq_false (by omega)
      have hkbi:¬(k:Int)<(bn:Int):=by omega
      clear hx3 hk3 cl3 f3 v3 m3 hfw3 hco hs3 KCM HEN kc1 kc2
      go_wp2_with fail
      go_roundw
      case rel=>exact⟨k+1,q3,by omega,by omega,by go_num,⟨a3,HX3.out⟩,HK3.out.up (by omega) (Nat.le_refl _) (by omega),HCL3.out,HM3.out,HF3.out,HV3.out⟩
      case measure=>simp[intOf]<;>omega
  ·have y1:wr.cell? ⟨bp,1,none⟩=some (.pointer (some ⟨a.bs,0,none⟩)):=hx.km.blk.cell 1
   have y2:wr.cell? ⟨bp,2,none⟩=some (.pointer (some ⟨a.bc,0,none⟩)):=hx.km.blk.cell 2
   have KT:=zh (show∀W,Fresh wr W->Calls Tryz.prog 31 #[.pointer (some ⟨a.bs,0,none⟩), .pointer (some ⟨a.bc,0,none⟩)] W fun e w'=>Fresh wr w'/\e= .returned (.bool true) from fun W hW=>(tells_px (hx.fresh hW) hv (by omega)).mono fun e w' q=>⟨hW.trans q.1 fun _ _=>id,q.2⟩)
   clear hx hv hcl hmb hf0 h5 hfw
   go_upto_region 5 with fail
   go_cut [21] from 14 to 21 (fun v W=>v= .bool false/\wr=W)
   case first=>
    by_cases hl1:k<kn
    ·have hkd:decide ((k:Int)<(kn:Int))=true:=decide_eq_true (by omega)
     have hki:(k:Int)<(kn:Int):=by omega
     have hkd2:decide ((k:Int)<60)=false:=decide_eq_false (by omega)
     have hki2:¬(k:Int)<60:=by omega
     go_wp2_with fail
     all_goals
      go_meet
      case rel=>exact⟨by first | rfl | (rw[decide_eq_false (by omega)]),rfl⟩
    ·have hkd:decide ((k:Int)<(kn:Int))=false:=decide_eq_false (by omega)
     have hki:¬(k:Int)<(kn:Int):=by omega
     go_wp2_with fail
     all_goals
      go_meet
      case rel=>exact⟨by first | rfl | (rw[decide_eq_false (by omega)]),rfl⟩
   case rest=>
    obtain⟨rfl,rfl⟩:=hcut
    go_upto_region 17 with fail
    refine wp_region_any (by kernel_rfl) ?_
    try (change wpAny _ _ _ _ _ _ _ (World.drew _))
    refine wpAny_take (i:=0) (oi:= ?o190) (v:= ?v190) ?i190 (by kernel_rfl) (by kernel_rfl) (by kernel_rfl) ?q190 ?y190 ?r190
    case i190=>(apply op_at;rfl)
    case q190=>exact fun _ _ _ h=>h
    case y190=>(refine Or.inl ⟨by rfl, ?_⟩;intro wx;go_simp;try with_reducible rfl)
    try simp only[Act.put,List.setIfInBounds_toArray,List.set_cons_zero,List.set_cons_succ]
    refine wpAny_take (i:=1) (oi:= ?o191) (v:= ?v191) ?i191 (by kernel_rfl) (by kernel_rfl) (by kernel_rfl) ?q191 ?y191 ?r191
    case i191=>(apply op_at;rfl)
    case q191=>exact fun _ _ _ h=>h
    case y191=>(refine Or.inl ⟨by rfl, ?_⟩;intro wx;go_simp;try with_reducible rfl)
    try simp only[Act.put,List.setIfInBounds_toArray,List.set_cons_zero,List.set_cons_succ]
    refine wpAny_take (i:=2) (oi:= ?o192) (v:= ?v192) ?i192 (by kernel_rfl) (by kernel_rfl) (by kernel_rfl) ?q192 ?y192 ?r192
    case i192=>(apply op_at;rfl)
    case q192=>exact fun _ _ _ h=>h
    case y192=>(refine Or.inl ⟨by rfl, ?_⟩;intro wx;go_simp;try with_reducible rfl)
    try simp only[Act.put,List.setIfInBounds_toArray,List.set_cons_zero,List.set_cons_succ]
    refine wpAny_take (i:=4) (oi:= ?o193) (v:= ?v193) ?i193 (by kernel_rfl) (by kernel_rfl) (by kernel_rfl) ?q193 ?y193 ?r193
    case i193=>(apply op_at;rfl)
    case q193=>exact fun _ _ _ h=>h
    case y193=>(refine Or.inl ⟨by rfl, ?_⟩;intro wx;go_simp;try with_reducible rfl)
    try simp only[Act.put,List.setIfInBounds_toArray,List.set_cons_zero,List.set_cons_succ]
    refine wpAny_take (i:=5) (oi:= ?o194) (v:= ?v194) ?i194 (by kernel_rfl) (by kernel_rfl) (by kernel_rfl) ?q194 ?y194 ?r194
    case i194=>(apply op_at;rfl)
    case q194=>exact fun _ _ _ h=>h
    case y194=>(refine Or.inl ⟨by rfl, ?_⟩;intro wx;go_simp;try with_reducible rfl)
    try simp only[Act.put,List.setIfInBounds_toArray,List.set_cons_zero,List.set_cons_succ]
    refine wpAny_take (i:=6) (oi:= ?o195) (v:= ?v195) ?i195 (by kernel_rfl) (by kernel_rfl) (by kernel_rfl) ?q195 ?y195 ?r195
    case i195=>(apply op_at;rfl)
    case q195=>exact fun _ _ _ h=>h
    case y195=>(refine Or.inl ⟨by rfl, ?_⟩;intro wx;go_simp;try with_reducible rfl)
    try simp only[Act.put,List.setIfInBounds_toArray,List.set_cons_zero,List.set_cons_succ]
    refine wpAny_ready (rs:= [3,7]) (by kernel_rfl) (by simp) ?_
    refine AllReady.cons (o:= ?o196) ?i196 ?s196 ?m196
    case i196=>(apply op_at;rfl)
    case s196=>
     intro K hK
     go_simp;refine hK _ _ ?_
     clear hK K
     try simp only[Act.put,List.setIfInBounds_toArray,List.set_cons_zero,List.set_cons_succ]
     refine wpAny_ready (rs:= [7]) (by kernel_rfl) (by simp) ?_
     refine AllReady.cons (o:= ?o197) ?i197 ?s197 ?m197
     case i197=>(apply op_at;rfl)
     case s197=>
      intro K hK
      go_simp;refine hK _ _ ?_
      clear hK K
      try simp only[Act.put,List.setIfInBounds_toArray,List.set_cons_zero,List.set_cons_succ]
      refine wpAny_ready (rs:= [8]) (by kernel_rfl) (by simp) ?_
      refine AllReady.cons (o:= ?o198) ?i198 ?s198 ?m198
      case i198=>(apply op_at;rfl)
      case s198=>
       intro K hK
       go_simp;go_at_call 31;refine(KT.out _ (by repeat (first | exact HFW.out | exact Touch.refl _ _ | refine Touch.alloc ?_ _ | refine Touch.drew ?_))).mono ?_;rintro e w8 ⟨hf8,rfl⟩;have HF8:=zh hf8;clear hf8;(try go_simp);refine hK _ _ ?_
       clear hK K
       try simp only[Act.put,List.setIfInBounds_toArray,List.set_cons_zero,List.set_cons_succ]
       refine wpAny_take (i:=9) (oi:= ?o199) (v:= ?v199) ?i199 (by kernel_rfl) (by kernel_rfl) (by kernel_rfl) ?q199 ?y199 ?r199
       case i199=>(apply op_at;rfl)
       case q199=>exact fun _ _ _ h=>h
       case y199=>(refine Or.inl ⟨by rfl, ?_⟩;intro wx;go_simp;try with_reducible rfl)
       try simp only[Act.put,List.setIfInBounds_toArray,List.set_cons_zero,List.set_cons_succ]
       refine wpAny_ready (rs:= [10]) (by kernel_rfl) (by simp) ?_
       refine AllReady.cons (o:= ?o200) ?i200 ?s200 ?m200
       case i200=>(apply op_at;rfl)
       case s200=>
        intro K hK
        go_simp;go_at_call 20;refine(KW.out _).mono ?_;rintro e w9 ⟨rfl,hf9⟩;have HF9:=zh hf9;clear hf9;(try go_simp);refine hK _ _ ?_
        clear hK K
        try simp only[Act.put,List.setIfInBounds_toArray,List.set_cons_zero,List.set_cons_succ]
        refine wpAny_take (i:=11) (oi:= ?o201) (v:= ?v201) ?i201 (by kernel_rfl) (by kernel_rfl) (by kernel_rfl) ?q201 ?y201 ?r201
        case i201=>(apply op_at;rfl)
        case q201=>exact fun _ _ _ h=>h
        case y201=>(refine Or.inl ⟨by rfl, ?_⟩;intro wx;go_simp;try with_reducible rfl)
        try simp only[Act.put,List.setIfInBounds_toArray,List.set_cons_zero,List.set_cons_succ]
        refine wpAny_take (i:=12) (oi:= ?o202) (v:= ?v202) ?i202 (by kernel_rfl) (by kernel_rfl) (by kernel_rfl) ?q202 ?y202 ?r202
        case i202=>(apply op_at;rfl)
        case q202=>exact fun _ _ _ h=>h
        case y202=>(refine Or.inl ⟨by rfl, ?_⟩;intro wx;go_simp;try with_reducible rfl)
        try simp only[Act.put,List.setIfInBounds_toArray,List.set_cons_zero,List.set_cons_succ]
        refine wpAny_done (by kernel_rfl) ?_ _
        go_wp2_with fail
        go_ret
        exact⟨rfl,(HFW.out.trans HF8.out fun _ _=>id).trans HF9.out fun _ _=>id⟩
       exact AllReady.nil
      exact AllReady.nil
     exact AllReady.nil
    refine AllReady.cons (o:= ?o203) ?i203 ?s203 ?m203
    case i203=>(apply op_at;rfl)
    case s203=>
     intro K hK
     go_simp;refine hK _ _ ?_
     clear hK K
     try simp only[Act.put,List.setIfInBounds_toArray,List.set_cons_zero,List.set_cons_succ]
     refine wpAny_ready (rs:= [3]) (by kernel_rfl) (by simp) ?_
     refine AllReady.cons (o:= ?o204) ?i204 ?s204 ?m204
     case i204=>(apply op_at;rfl)
     case s204=>
      intro K hK
      go_simp;refine hK _ _ ?_
      clear hK K
      try simp only[Act.put,List.setIfInBounds_toArray,List.set_cons_zero,List.set_cons_succ]
      refine wpAny_ready (rs:= [8]) (by kernel_rfl) (by simp) ?_
      refine AllReady.cons (o:= ?o205) ?i205 ?s205 ?m205
      case i205=>(apply op_at;rfl)
      case s205=>
       intro K hK
       go_simp;go_at_call 31;refine(KT.out _ (by repeat (first | exact HFW.out | exact Touch.refl _ _ | refine Touch.alloc ?_ _ | refine Touch.drew ?_))).mono ?_;rintro e w8 ⟨hf8,rfl⟩;have HF8:=zh hf8;clear hf8;(try go_simp);refine hK _ _ ?_
       clear hK K
       try simp only[Act.put,List.setIfInBounds_toArray,List.set_cons_zero,List.set_cons_succ]
       refine wpAny_take (i:=9) (oi:= ?o206) (v:= ?v206) ?i206 (by kernel_rfl) (by kernel_rfl) (by kernel_rfl) ?q206 ?y206 ?r206
       case i206=>(apply op_at;rfl)
       case q206=>exact fun _ _ _ h=>h
       case y206=>(refine Or.inl ⟨by rfl, ?_⟩;intro wx;go_simp;try with_reducible rfl)
       try simp only[Act.put,List.setIfInBounds_toArray,List.set_cons_zero,List.set_cons_succ]
       refine wpAny_ready (rs:= [10]) (by kernel_rfl) (by simp) ?_
       refine AllReady.cons (o:= ?o207) ?i207 ?s207 ?m207
       case i207=>(apply op_at;rfl)
       case s207=>
        intro K hK
        go_simp;go_at_call 20;refine(KW.out _).mono ?_;rintro e w9 ⟨rfl,hf9⟩;have HF9:=zh hf9;clear hf9;(try go_simp);refine hK _ _ ?_
        clear hK K
        try simp only[Act.put,List.setIfInBounds_toArray,List.set_cons_zero,List.set_cons_succ]
        refine wpAny_take (i:=11) (oi:= ?o208) (v:= ?v208) ?i208 (by kernel_rfl) (by kernel_rfl) (by kernel_rfl) ?q208 ?y208 ?r208
        case i208=>(apply op_at;rfl)
        case q208=>exact fun _ _ _ h=>h
        case y208=>(refine Or.inl ⟨by rfl, ?_⟩;intro wx;go_simp;try with_reducible rfl)
        try simp only[Act.put,List.setIfInBounds_toArray,List.set_cons_zero,List.set_cons_succ]
        refine wpAny_take (i:=12) (oi:= ?o209) (v:= ?v209) ?i209 (by kernel_rfl) (by kernel_rfl) (by kernel_rfl) ?q209 ?y209 ?r209
        case i209=>(apply op_at;rfl)
        case q209=>exact fun _ _ _ h=>h
        case y209=>(refine Or.inl ⟨by rfl, ?_⟩;intro wx;go_simp;try with_reducible rfl)
        try simp only[Act.put,List.setIfInBounds_toArray,List.set_cons_zero,List.set_cons_succ]
        refine wpAny_done (by kernel_rfl) ?_ _
        go_wp2_with fail
        go_ret
        exact⟨rfl,(HFW.out.trans HF8.out fun _ _=>id).trans HF9.out fun _ _=>id⟩
       exact AllReady.nil
      exact AllReady.nil
     exact AllReady.nil
    exact AllReady.nil
end Go.Proofs.YtjehlgblkfofpaaGreat
