/- The claims' texts, several in one: Cmt, Cmm, Cps, Doa, Dox, Dor, Dom. Conditions stand with each theorem. -/
import Derived.Test.YtjehlgblkfofpaaGreatZa36
import Derived.Test.YtjehlgblkfofpaaGreatZa37
import Derived.BigQuiet
set_option maxHeartbeats 16000000
set_option maxRecDepth 200000
namespace Go.Proofs.YtjehlgblkfofpaaGreat
open Go.RowKit
attribute [local go_sem] Oper.semAt_some
theorem opsV_W(l:List Dec.Op):opsV l=opsW l:=rfl
theorem Oz.vs3{w:World}{e:TypeId}{B:Option Addr}{n c:Nat}{us:List Value}(h:Oz w e 3 (.slice B n c) n us):Vs w 3 B n c us:=by
 rcases h with h | ⟨A,hv,rfl,rfl⟩
 ·obtain⟨B',c',hv,hvs,_⟩:=h.vs3
  injection hv with e1 _ e2
  subst e1 e2
  exact hvs
 ·injection hv with e1 _ e2
  subst e1 e2
  exact⟨rfl,Nat.le_refl _,Nat.zero_le _,fun h=>by omega⟩
section
variable {w w' w0 W W':World}{bp bd:Nat}{F:Nat->Prop}{a:KA}{q q2:KP}{sf:Int}{sh:KL}{sm:Nat}{i n T:Nat}{P:KS->Prop}
theorem KX.repl(h:KX w0 W bp bd F a q sf sh sm)(h1:q2.p.d=q.p.d)(h2:q2.p.l=q.p.l)(h3:q2.p.struck=q.p.struck)(h4:q2.p.stop=q.p.stop)(h5:q2.f=q.f)(h6:q2.has=q.has)(h7:q2.maybe=q.maybe)(h8:q2.broken=q.broken)(h9:q2.cm=q.cm):KX w0 W bp bd F a q2 sf sh sm:=by
 have hk:=h.km
 exact⟨⟨by rw[h4,h8,h9];exact hk.blk,by rw[h1];exact hk.sd,by rw[h2];exact hk.alk,by rw[h5,h6];exact hk.c,hk.mo,by rw[h7];exact hk.ml,by rw[h7];exact hk.mc,by rw[h3];exact hk.ts,hk.dis,hk.nQ,hk.Qlt⟩,h.tch,h.sF⟩
theorem KM.begs(h:KM w bp bd a q sf sh sm)(hv:PInv q.p i T)(hi:i<=900)(hb:q.p.l.base=0):BegB a.l q.p.d 270000000 a.l.c.first a.l.c.next 0/\a.l.segs.length<1024:=by
 obtain⟨h1,h2,h3,h4,h5⟩:=hv.cn hi h.alk
 have h6:a.l.c.first<=a.l.c.next:=Nat.le_add_right _ _
 exact⟨hv.begB hi (by omega) h.alk (by omega) (by omega) (by omega),by omega⟩
theorem KP.call_good{q:KP}{b:List UInt8}{nx:Int×KL}(he:(appendP q.p.d q.p.l b).2.2.2=0):q.call b nx={ q.good nx with p:=q.p.app b }:=by unfold KP.call;rw[if_pos he];rfl
theorem KP.call_bad{q:KP}{b:List UInt8}{nx:Int×KL}(he:(appendP q.p.d q.p.l b).2.2.2≠0):q.call b nx={ q.bad nx with p:=q.p.app b }:=by unfold KP.call;rw[if_neg he];rfl
theorem store_app(h:KX w0 w bp bd F a q q.f q.has q.cm){b:List UInt8}{fs:Int}{hs:KL}{cm':Nat}(hsb:SB w w' a.bs a.bl bd a.S a.R a.sv a.rv a.kv a.mb (appendP q.p.d a.l b).2.1 (appendP q.p.d a.l b).1 fs hs cm'):
  ∃a4 q1,q1={ q with p:={ q.p with d:=(appendP q.p.d q.p.l b).1,l:=(appendP q.p.d q.p.l b).2.1 } }/\KX w0 w' bp bd F a4 q1 fs hs cm'/\Touch a.sto w w':=by
 obtain⟨S',R',sv',rv',vs',cs',kv',hx⟩:=hsb
 obtain⟨e1,e2,e3⟩:=append_alk (d:=q.p.d) h.km.alk b
 have h2:=h.store hx e2
 rw[e1]at h2
 refine⟨_,_,rfl,h2,hx.tch.mono fun k _ hk=> ?_⟩
 rcases hk with e | e | e
 ·exact .inl e
 ·exact .inr (.inl e)
 ·exact .inr (.inr (.inr e))
theorem append_err(h:KM w bp bd a q sf sh sm)(b:List UInt8):(appendP q.p.d a.l b).2.2.2=(appendP q.p.d q.p.l b).2.2.2:=by
 obtain⟨e1,e2,e3⟩:=append_alk (d:=q.p.d) h.alk b
 rw[e3]
theorem call_end{b:List UInt8}{nx:Int×KL}{e:Int}{sm:Nat}(h:KInv q i n T P)(hi:i<=900)(hT:T<=50000000)(hb:b.length<=260000)(he:e=(appendP q.p.d q.p.l b).2.2.2){q1:KP}(hq1:q1={ q with p:={ q.p with d:=(appendP q.p.d q.p.l b).1,l:=(appendP q.p.d q.p.l b).2.1 } })
  (hbad:e≠0->(e=3\/e=4)/\hindered q.p q.p.d.ops (q.call b nx).p.d.ops=true) (hsm:sm=if e=0 then q.cm+1 else q.cm) {w2:World} {fs:Int} {hs:KL} (hfs:fs=if e=0 then nx.1 else q.f) (hhs:hs=if e=0 then nx.2 else q.has)
  (hx:∃a',KX w0 w2 bp bd F a' (q1.noted nx e) fs hs sm):calB q1 sm e q.p.d.ops=true/\∃a',KX w0 w2 bp bd F a' (q.call b nx) (q.call b nx).f (q.call b nx).has (q.call b nx).cm:=by
 obtain⟨g1,g2,g3,g4⟩:=app_more h hi hT hb
 obtain⟨_,_,_,_,g5,g6,g7,g8⟩:=h.pv.app (by omega) (by omega) hb
 obtain⟨a',hx⟩:=hx
 by_cases h0:e=0
 ·rw[if_pos h0]at hsm hfs hhs
  rw[KP.call_good (by rw[<- he];exact h0)]
  refine⟨?_,a', ?_⟩
  ·unfold calB
   rw[if_pos h0,hq1]
   exact decide_eq_true hsm
  ·unfold KP.noted at hx
   rw[if_pos h0,hfs,hhs,hsm]at hx
   exact hx.repl (by rw[hq1];exact g5) (by rw[hq1];exact g6) (by rw[hq1];exact g7) (by rw[hq1];exact g8) rfl rfl rfl rfl (by rw[hq1];rfl)
 ·rw[if_neg h0]at hsm hfs hhs
  have hcb:=KP.call_bad (q:=q) (b:=b) (nx:=nx) (by rw[<- he];exact h0)
  obtain⟨n1,n2⟩:=hbad h0
  rw[hcb]at n2 ⊢
  refine⟨?_,a', ?_⟩
  ·unfold calB
   rw[if_neg h0]
   have e1:q1.p.d=(appendP q.p.d q.p.l b).1:=by rw[hq1]
   have e2:q1.cm=q.cm:=by rw[hq1]
   have e3:(q.p.app b).d.ops=(appendP q.p.d q.p.l b).1.ops:=by rw[g5]
   have h3:hindered q1.p q.p.d.ops q1.p.d.ops=true:=by
    rw[hindered_congr (p:=q.p) (p':=q1.p) (by rw[hq1]) (by rw[hq1]),e1,<- e3]
    exact n2
   rw[h3,e2,decide_eq_true hsm]
   rcases n1 with n1 | n1<;>rw[n1]<;>rfl
  ·unfold KP.noted at hx
   rw[if_neg h0,hfs,hhs,hsm]at hx
   refine hx.repl (by rw[hq1];exact g5) (by rw[hq1];exact g6) (by rw[hq1];exact g7) (by rw[hq1];exact g8) (by rw[hq1];rfl) (by rw[hq1];rfl) (by rw[hq1];rfl) rfl (by rw[hq1];rfl)
def RaR(q:KP)(g:Int)(q':KP):Prop:=(q'=q/\¬(q.f<g/\g<=4503599627370496))\/(q.f<g/\g<=4503599627370496/\∃ys,Enc.plain g=some ys/\q'=q.call (102 :: ys) (g,q.has))
theorem raise_pg(h:KX w0 w bp bd F a q q.f q.has q.cm)(hv:KInv q i n T P)(hi:i<=890)(hT:T<=49000000)(hl6:q.has.length<=1000000)(g:Int):
  Calls Tryz.prog 34 #[.pointer (some ⟨bp,0,none⟩), .int .i64 g] w fun x w'=>x= .returned (.bool true)/\∃q',(∃a',KX w0 w' bp bd F a' q' q'.f q'.has q'.cm)/\KInv q' (i+1) n (T+5000) Any/\RaR q g q':=by
 have hm:=h.km
 have hlens:=hv.lens
 obtain⟨hB,hns⟩:=hm.begs hv.pv (by omega) hv.base
 have KO:=zh (disk_ops hm.sd.ld.dk)
 obtain⟨v,hrs,_,_⟩:=hm.c
 have KR:=zh (rraise_any hrs g)
 have KA:=zh (show Calls Tryz.prog 36 #[.pointer (some ⟨a.bs,0,none⟩), .int .i64 g] w (RaEnd w a.bs a.bl bd a.S a.R a.sv a.rv a.kv a.mb a.l q.p.d q.f q.has q.cm g) from Go.Proofs.YtjehlgblkfofpaaGreat.raise_any hm.sd g hv.f0.1 (by omega) hB hns)
 have b0:w.cell? ⟨bp,0,none⟩=some (.pointer (some ⟨bd,0,none⟩)):=hm.blk.cell 0
 have b1:w.cell? ⟨bp,1,none⟩=some (.pointer (some ⟨a.bs,0,none⟩)):=hm.blk.cell 1
 have b2:w.cell? ⟨bp,2,none⟩=some (.pointer (some ⟨a.bc,0,none⟩)):=hm.blk.cell 2
 have H:=zh h;have HV:=zh hv
 obtain⟨no,hno⟩:∃no:Int,no=if g<=q.f then 5 else if 4503599627370496<g then 1 else 0:=⟨_,rfl⟩
 rw[<- hno]at KR
 have HNO:=zh hno
 clear h hv hm hB hns hrs hno
 go_enter Tryz.func34,Tryz.ntmps34
 go_wp2_with fail
 refine KO.out.mono ?_
 rintro e _ ⟨rfl,rfl⟩
 go_wp2_with fail
 refine KR.out.mono ?_
 rintro e _ ⟨rfl,rfl⟩
 go_wp2_with fail
 refine KA.out.mono ?_
 intro e w4 hend
 clear KA KR KO b0 b1 b2
 cases hend with
 | fenced hle he hf=>
  subst he
  have hn5:no=5:=by rw[HNO.out,if_pos hle]
  subst hn5
  have HF:=zh hf;have HLE:=zh hle
  clear hf hle
  go_wp2_with fail
  go_ret
  exact⟨rfl,q,⟨a,H.out.fresh HF.out⟩,(HV.out.weak fun _ _=>trivial).up (by omega) (Nat.le_refl _) (by omega), .inl ⟨rfl,fun e=>by have:=HLE.out;omega⟩⟩
 | arg hlt h52 he hf=>
  subst he
  have hn5:no=1:=by rw[HNO.out,if_neg (by omega),if_pos h52]
  subst hn5
  have HF:=zh hf;have HLE:=zh h52
  clear hf hlt h52
  go_wp2_with fail
  go_ret
  exact⟨rfl,q,⟨a,H.out.fresh HF.out⟩,(HV.out.weak fun _ _=>trivial).up (by omega) (Nat.le_refl _) (by omega), .inl ⟨rfl,fun e=>by have:=HLE.out;omega⟩⟩
 | bad hlt h52 ys hy he hn hs=>
  subst he
  obtain rfl:no=0:=by rw[HNO.out,if_neg (by omega),if_neg (by omega)]
  have HAE:=zh (append_err H.out.km (102 :: ys))
  obtain⟨a4,q1,hq1,hx4,ht4⟩:=store_app H.out hs
  have hb102:(102 :: ys:List UInt8).length<=260000:=by
   obtain⟨ys',h1,h2⟩:=plain_ok (n:=g) (by have:=HV.out.f0.1;omega) h52
   rw[hy]at h1
   injection h1 with h1
   rw[List.length_cons,h1]
   omega
  have hinv:=HV.out.call (by omega) (by omega) hb102 (.fence g) ⟨ys,hy,rfl⟩ (fun _=>trivial) (nx:=(g,q.has)) (fun s h1 h2=>⟨rfl,h2⟩) (Nat.le_refl _) ⟨HV.out.sort,⟨by have:=HV.out.f0.1;show 0<=g;omega,h52⟩,HV.out.wt⟩ (by show q.f<=g;omega)
  have hbl:(102 :: ys:List UInt8).length<=9:=by
   obtain⟨ys',h1,h2⟩:=plain_ok (n:=g) (by have:=HV.out.f0.1;omega) h52
   rw[hy]at h1
   injection h1 with h1
   rw[List.length_cons,h1]
   omega
  obtain⟨er,her⟩:∃er,er=(appendP q.p.d q.p.l (102 :: ys)).2.2.2:=⟨_,rfl⟩
  have her0:¬er=0:=by rw[her,<- HAE.out];exact hn
  rw[HAE.out,<- her]
  have HX4:=zh hx4;have HQ1:=zh hq1;have HINV:=zh hinv;have HER:=zh her;have HER0:=zh her0
  have HB102:=zh (And.intro hb102 hbl);have HRA:=zh (show RaR q g (q.call (102 :: ys) (g,q.has)) from .inr ⟨hlt,h52,ys,hy,rfl⟩)
  have d2:w4.cell? ⟨bp,2,none⟩=some (.pointer (some ⟨a4.bc,0,none⟩)):=hx4.km.blk.cell 2
  obtain⟨v4,hr4,_,_⟩:=hx4.km.c
  have KCP:=zh (rcopy_any hr4 (by rw[hq1];exact hl6))
  clear hs hx4 hq1 hinv her her0 hb102 hbl ht4 hr4 hn hy hlt h52
  go_wp2_with fail
  refine KCP.out.mono ?_
  rintro e w5 ⟨hf5,b5,v5,rfl,hb5,hr5,hv5⟩
  have hc5:w5.cell? ⟨b5,0,none⟩=some (.int .i64 q1.f):=hr5.blk.cell 0
  have hz5:w5.frozen? ⟨b5,0,none⟩=false:=hr5.blk.frozen 0
  obtain⟨w6,hw6⟩:∃w6,w6=w5.setCell ⟨b5,0,none⟩ (.int .i64 g):=⟨_,rfl⟩
  have ht56:Touch (fun k=>k=b5) w5 w6:=by rw[hw6];exact(Touch.refl (fun k=>k=b5) w5).setCell (p:=⟨b5,0,none⟩) (.inr rfl) _
  have hf46:Fresh w4 w6:=hf5.trans ht56 fun k hk e=>by omega
  have hr6:RSt w6 b5 g v5 q1.has:=⟨by rw[hw6];simpa using hr5.blk.set_ 0 (.int .i64 g),by
   rw[hw6]
   rcases hr5.row with ho | ho
   ·exact .inl (ho.touch (by rw[<- hw6];exact ht56) fun k hk e=>ho.ne_blk hr5.blk (by decide) (by rw[hk,e]))
   ·exact .inr ho⟩
  have hs46:=hf46.size
  have hs04:=HX4.out.tch.size
  have hlt6:∀k,(k=b5\/v5.ownBlock=some k)->w0.heap.size<=k/\k<w6.heap.size/\¬a4.foot bp k:=fun k hk=>by
   have h1:w4.heap.size<=k/\k<w6.heap.size:=by
    rcases hk with e | e
    ·rw[e];exact⟨hb5,hr6.blk.lt⟩
    ·have:=hv5 k e
     have:=ht56.size
     omega
   exact⟨by omega,h1.2,fun e=>by have:=HX4.out.km.lt k e;omega⟩
  have KCL:=zh (calls_any (nx:=(g,q1.has)) (HX4.out.fresh hf46) (by rw[HQ1.out];have:=HV.out.pv.lens;show q.p.struck.length<= _;omega) (by rw[HQ1.out];have:=HV.out.lens;show q.maybe.length<= _;omega) (by rw[HQ1.out];have:=HV.out.lens;show q.cm<= _;omega) hr6 hlt6 er q.p.d.ops)
  have HW6:=zh hw6
  clear hr6 hlt6 hw6 ht56 hf46 hs46 hs04 hf5 hr5 hv5 hb5 KCP d2
  go_wp2_with fail
  rw[<- HW6.out]
  refine KCL.out.mono ?_
  rintro e w7 ⟨rfl,hx7⟩
  have hqh:q1.has=q.has:=by rw[HQ1.out]
  have hx7':=hx7
  rw[hqh]at hx7'
  have hend:=call_end (nx:=(g,q.has)) (b:=102 :: ys) (e:=er) HV.out (by omega) (by omega) HB102.out.1 HER.out HQ1.out (by rw[HER.out];exact HINV.out.2) (by rw[if_neg HER0.out]) (fs:=q.f) (hs:=q.has) (by rw[if_neg HER0.out]) (by rw[if_neg HER0.out]) hx7'
  have HE:=zh hend
  clear hend hx7 KCL
  go_wp2_with fail
  go_ret
  refine⟨by rw[HE.out.1];rfl,q.call (102 :: ys) (g,q.has),HE.out.2,HINV.out.1.up (Nat.le_refl _) (Nat.le_refl _) (by have:=HB102.out.2;omega),HRA.out⟩
 | good hlt h52 ys hy he hn hs=>
  subst he
  obtain rfl:no=0:=by rw[HNO.out,if_neg (by omega),if_neg (by omega)]
  have HAE:=zh (append_err H.out.km (102 :: ys))
  obtain⟨a4,q1,hq1,hx4,ht4⟩:=store_app H.out hs
  have hb102:(102 :: ys:List UInt8).length<=260000:=by
   obtain⟨ys',h1,h2⟩:=plain_ok (n:=g) (by have:=HV.out.f0.1;omega) h52
   rw[hy]at h1
   injection h1 with h1
   rw[List.length_cons,h1]
   omega
  have hinv:=HV.out.call (by omega) (by omega) hb102 (.fence g) ⟨ys,hy,rfl⟩ (fun _=>trivial) (nx:=(g,q.has)) (fun s h1 h2=>⟨rfl,h2⟩) (Nat.le_refl _) ⟨HV.out.sort,⟨by have:=HV.out.f0.1;show 0<=g;omega,h52⟩,HV.out.wt⟩ (by show q.f<=g;omega)
  have hbl:(102 :: ys:List UInt8).length<=9:=by
   obtain⟨ys',h1,h2⟩:=plain_ok (n:=g) (by have:=HV.out.f0.1;omega) h52
   rw[hy]at h1
   injection h1 with h1
   rw[List.length_cons,h1]
   omega
  obtain⟨er,her⟩:∃er,er=(appendP q.p.d q.p.l (102 :: ys)).2.2.2:=⟨_,rfl⟩
  have her0:er=0:=by rw[her,<- HAE.out];exact hn
  have HX4:=zh hx4;have HQ1:=zh hq1;have HINV:=zh hinv;have HER:=zh her;have HER0:=zh her0
  have HB102:=zh (And.intro hb102 hbl);have HRA:=zh (show RaR q g (q.call (102 :: ys) (g,q.has)) from .inr ⟨hlt,h52,ys,hy,rfl⟩)
  have d2:w4.cell? ⟨bp,2,none⟩=some (.pointer (some ⟨a4.bc,0,none⟩)):=hx4.km.blk.cell 2
  obtain⟨v4,hr4,_,_⟩:=hx4.km.c
  have KCP:=zh (rcopy_any hr4 (by rw[hq1];exact hl6))
  clear hs hx4 hq1 hinv her her0 hb102 hbl ht4 hr4 hn hy hlt h52
  go_wp2_with fail
  refine KCP.out.mono ?_
  rintro e w5 ⟨hf5,b5,v5,rfl,hb5,hr5,hv5⟩
  have hc5:w5.cell? ⟨b5,0,none⟩=some (.int .i64 q1.f):=hr5.blk.cell 0
  have hz5:w5.frozen? ⟨b5,0,none⟩=false:=hr5.blk.frozen 0
  obtain⟨w6,hw6⟩:∃w6,w6=w5.setCell ⟨b5,0,none⟩ (.int .i64 g):=⟨_,rfl⟩
  have ht56:Touch (fun k=>k=b5) w5 w6:=by rw[hw6];exact(Touch.refl (fun k=>k=b5) w5).setCell (p:=⟨b5,0,none⟩) (.inr rfl) _
  have hf46:Fresh w4 w6:=hf5.trans ht56 fun k hk e=>by omega
  have hr6:RSt w6 b5 g v5 q1.has:=⟨by rw[hw6];simpa using hr5.blk.set_ 0 (.int .i64 g),by
   rw[hw6]
   rcases hr5.row with ho | ho
   ·exact .inl (ho.touch (by rw[<- hw6];exact ht56) fun k hk e=>ho.ne_blk hr5.blk (by decide) (by rw[hk,e]))
   ·exact .inr ho⟩
  have hs46:=hf46.size
  have hs04:=HX4.out.tch.size
  have hlt6:∀k,(k=b5\/v5.ownBlock=some k)->w0.heap.size<=k/\k<w6.heap.size/\¬a4.foot bp k:=fun k hk=>by
   have h1:w4.heap.size<=k/\k<w6.heap.size:=by
    rcases hk with e | e
    ·rw[e];exact⟨hb5,hr6.blk.lt⟩
    ·have:=hv5 k e
     have:=ht56.size
     omega
   exact⟨by omega,h1.2,fun e=>by have:=HX4.out.km.lt k e;omega⟩
  have KCL:=zh (calls_any (nx:=(g,q1.has)) (HX4.out.fresh hf46) (by rw[HQ1.out];have:=HV.out.pv.lens;show q.p.struck.length<= _;omega) (by rw[HQ1.out];have:=HV.out.lens;show q.maybe.length<= _;omega) (by rw[HQ1.out];have:=HV.out.lens;show q.cm<= _;omega) hr6 hlt6 0 q.p.d.ops)
  have HW6:=zh hw6
  clear hr6 hlt6 hw6 ht56 hf46 hs46 hs04 hf5 hr5 hv5 hb5 KCP d2
  go_wp2_with fail
  rw[<- HW6.out]
  refine KCL.out.mono ?_
  rintro e w7 ⟨rfl,hx7⟩
  have hqh:q1.has=q.has:=by rw[HQ1.out]
  have hx7':=hx7
  rw[hqh,<- HER0.out]at hx7'
  have hend:=call_end (nx:=(g,q.has)) (b:=102 :: ys) (e:=er) HV.out (by omega) (by omega) HB102.out.1 HER.out HQ1.out (by rw[HER.out];exact HINV.out.2) (by rw[if_pos HER0.out]) (fs:=g) (hs:=q.has) (by rw[if_pos HER0.out]) (by rw[if_pos HER0.out]) hx7'
  rw[HER0.out]at hend
  have HE:=zh hend
  clear hend hx7 KCL
  go_wp2_with fail
  go_ret
  refine⟨by rw[HE.out.1];rfl,q.call (102 :: ys) (g,q.has),HE.out.2,HINV.out.1.up (Nat.le_refl _) (Nat.le_refl _) (by have:=HB102.out.2;omega),HRA.out⟩
end
section
variable {w w' w0 W W':World}{bp bd:Nat}{F:Nat->Prop}{a:KA}{q q2:KP}{sf:Int}{sh:KL}{sm:Nat}{i n T:Nat}{P:KS->Prop}
def CmE(w0 w:World)(bp bd:Nat)(F:Nat->Prop)(a:KA)(q:KP)(g:Int)(ops:List Dec.Op)(er:Int)(w':World):Prop:=
 ((refE q.f g ops≠0\/ops= [])/\er=refE q.f g ops/\Fresh w w')\/
 (g=q.f/\ops.all rightB=true/\ops≠ []/\∃ys,Enc.ops ops=some ys/\er=(appendP q.p.d q.p.l (111 :: ys)).2.2.2/\
  ∃a4 q1,q1={ q with p:={ q.p with d:=(appendP q.p.d q.p.l (111 :: ys)).1,l:=(appendP q.p.d q.p.l (111 :: ys)).2.1 } }/\KX w0 w' bp bd F a4 q1 q.f (if er=0 then kdo q.has ops else q.has) (if er=0 then q.cm+1 else q.cm)/\Touch a.sto w w')
theorem CmE.cell{g:Int}{ops:List Dec.Op}{er:Int}(h:CmE w0 w bp bd F a q g ops er w')(hm:KM w bp bd a q sf sh sm):w'.cell? ⟨bp,1,none⟩=some (.pointer (some ⟨a.bs,0,none⟩)):=by
 have h1:w.cell? ⟨bp,1,none⟩=some (.pointer (some ⟨a.bs,0,none⟩)):=hm.blk.cell 1
 rcases h with⟨_,_,hf⟩ | ⟨_,_,_,_,_,_,_,_,_,_,ht⟩
 ·exact hf.cell h1 id
 ·exact ht.cell h1 (hm.dis bp (.inl (.inl rfl)))
theorem commit_see(h:KX w0 w bp bd F a q q.f q.has q.cm)(hv:KInv q i n T P)(hi:i<=890)(hl:q.has.length<=50000)(hz:ksize q.has<=100000000)(g:Int){B:Option Addr}{nn c:Nat}{ops:List Dec.Op}(hf:Fresh w W)(hb:Vs W 3 B nn c (opsV ops))(hB:∀a',B=some a'->0<nn->w.heap.size<=a'.block/\a'.block<W.heap.size)
  (hn:nn<=10000) (hs:∀x∈ops,x.k.length<=1048576/\x.v.length<=1048576) (hw:opwt ops<=1000000):
  Calls Tryz.prog 15 #[.pointer (some ⟨a.bs,0,none⟩), .int .i64 g, .slice B nn c] W fun e w'=>∃er:Int,e= .returned (.int .i64 er)/\CmE w0 w bp bd F a q g ops er w':=by
 have hm:=h.km
 obtain⟨hB1,hns⟩:=hm.begs hv.pv (by omega) hv.base
 have hlens:=hv.lens
 have hln:ops.length=nn:=by have:=hb.1;rw[opsV_length]at this;omega
 have hsW:=hm.sd.fresh hf
 refine(commit_any hsW g B nn c ops hb (fun a' ha h0=> ?_) hn (fun x hx=>by have:=hs x hx;unfold maxLen;omega) hl hz (by omega) hB1 hns).mono ?_
 ·obtain⟨h1,h2⟩:=hB a' ha h0
  refine⟨fun e=> ?_,h2⟩
  have:=hm.sd.lt_ a'.block (by
   rcases e with e | e | e
   ·exact .inl e
   ·exact .inr (.inl e)
   ·exact .inr (.inr (.inr e)))
  omega
 ·intro e w' hend
  have go:∀{ys:List UInt8} {hs':KL} {cm':Nat} (er:Int),g=q.f->ops.all rightB=true->ops≠ []->Enc.ops ops=some ys->er=(appendP q.p.d a.l (111 :: ys)).2.2.2->hs'=(if er=0 then kdo q.has ops else q.has)->cm'=(if er=0 then q.cm+1 else q.cm)->
    SB W w' a.bs a.bl bd a.S a.R a.sv a.rv a.kv a.mb (appendP q.p.d a.l (111 :: ys)).2.1 (appendP q.p.d a.l (111 :: ys)).1 q.f hs' cm'->CmE w0 w bp bd F a q g ops er w':=by
   intro ys hs' cm' er h1 h2 h3 h4 h5 h6 h7 hsb
   obtain⟨a4,q1,e1,e2,e3⟩:=store_app (h.fresh hf) hsb
   rw[h6,h7]at e2
   exact .inr ⟨h1,h2,h3,ys,h4,by rw[h5,append_err hm],a4,q1,e1,e2,(hf.mono fun _ _=>False.elim).trans e3 fun _ _ e=>e⟩
  cases hend with
  | fenced h1 he hf2=>exact⟨5,he, .inl ⟨.inl (by unfold refE;rw[if_pos h1];omega),by unfold refE;rw[if_pos h1],hf.trans hf2 fun _ _=>id⟩⟩
  | form h1 h2 he hf2=>
   have e:refE q.f g ops=2:=by unfold refE;rw[if_neg (by omega),if_neg (by rw[h2];simp)]
   exact⟨2,he, .inl ⟨.inl (by omega),e.symm,hf.trans hf2 fun _ _=>id⟩⟩
  | large h1 h2 h3 he hf2=>
   exfalso
   obtain⟨ys,hy,hyl⟩:=right_enc h2 (by omega) hw
   unfold longB at h3
   rw[hy]at h3
   have:=of_decide_eq_true h3
   omega
  | none_ h1 h2 he hf2=>
   have e:refE q.f g ops=0:=by unfold refE;rw[if_neg (by omega),if_pos (by simp[h2])]
   exact⟨0,he, .inl ⟨.inr h2,e.symm,hf.trans hf2 fun _ _=>id⟩⟩
  | bad h1 h2 h3 ys hy hyl he hne hsb=>exact⟨_,he,go _ h1 h2 h3 hy rfl (by rw[if_neg hne]) (by rw[if_neg hne]) (by rw[<- h1]at hsb ⊢;exact hsb)⟩
  | good h1 h2 h3 ys hy hyl he hne hsb=>exact⟨0,he,go 0 h1 h2 h3 hy hne.symm (by rw[if_pos rfl]) (by rw[if_pos rfl]) (by rw[<- h1]at hsb ⊢;exact hsb)⟩
def CoR(q:KP)(g:Int)(ops:List Dec.Op)(q':KP):Prop:=(q'=q/\(refE q.f g ops≠0\/ops= []))\/(g=q.f/\ops.all rightB=true/\ops≠ []/\∃ys,Enc.ops ops=some ys/\q'=q.call (111 :: ys) (q.f,kdo q.has ops))
theorem commit_pg(h:KX w0 w bp bd F a q q.f q.has q.cm)(hv:KInv q i n T P)(hi:i<=890)(hT:T<=49000000)(hl6:q.has.length<=50000)(hz6:ksize q.has<=100000000)(g:Int)(A:Option Addr)(nn c:Nat)(ops:List Dec.Op)(hvs:Vs w 3 A nn c (opsV ops))(hA:∀a',A=some a'->0<nn->¬a.sto a'.block/\a'.block<w.heap.size)
  (hn:nn<=10000) (hs:∀x∈ops,x.k.length<=1048576/\x.v.length<=1048576) (hw:opwt ops<=1000000) (hwr:ops.all rightB=true->opwt ops<=4256):
  Calls Tryz.prog 25 #[.pointer (some ⟨bp,0,none⟩), .int .i64 g, .slice A nn c] w fun x w'=>x= .returned (.bool true)/\∃q',(∃a',KX w0 w' bp bd F a' q' q'.f q'.has q'.cm)/\KInv q' (i+1) (n+1) (T+5000) Any/\CoR q g ops q':=by
 have hm:=h.km
 have hln:ops.length=nn:=by have:=hvs.1;rw[opsV_length]at this;omega
 have KO:=zh (disk_ops hm.sd.ld.dk)
 obtain⟨v,hrs,_,_⟩:=hm.c
 have KR:=zh (refuses_any hrs g A nn c ops hvs (fun a' ha h0=>(hA a' ha h0).2) hn hs hw)
 have b0:w.cell? ⟨bp,0,none⟩=some (.pointer (some ⟨bd,0,none⟩)):=hm.blk.cell 0
 have b2:w.cell? ⟨bp,2,none⟩=some (.pointer (some ⟨a.bc,0,none⟩)):=hm.blk.cell 2
 have KC:=zh (fun (W:World) (B:Option Addr) (c':Nat) (hf:Fresh w W) (hb:Vs W 3 B nn c' (opsV ops)) (hB:∀a',B=some a'->0<nn->w.heap.size<=a'.block/\a'.block<W.heap.size)=>commit_see h hv hi hl6 hz6 g hf hb hB hn hs hw)
 have HS1:=zh (show∀W,Fresh w W->W.cell? ⟨bp,1,none⟩=some (.pointer (some ⟨a.bs,0,none⟩)) from fun W hW=>hW.cell (hm.blk.cell 1) id)
 have HSR:=zh (show∀W,Fresh w W->Src Tryz.prog 3 28 (.slice A nn c) nn (opsV ops) W from fun W hW=>by
  have hvw:=hvs.fresh hW
  by_cases h0:0<nn
  ·obtain⟨bb,o,rfl,hc⟩:=hvw.2.2.2 h0
   exact Src.ofSlice W Tryz.underlying28 _ _ _ _ (by rw[hvw.1]) (fun j u hu=>by rw[add_flat];exact hc j u hu) (opsV_one _)
  ·obtain rfl:nn=0:=by omega
   have he:opsV ops= []:=List.eq_nil_of_length_eq_zero (by rw[hvw.1])
   rw[he]
   cases A with
   | none=>exact Src.ofNil W Tryz.underlying28 c
   | some a'=>exact Src.ofSlice W Tryz.underlying28 a' 0 c [] (by simp) (by simp) (by simp))
 have H:=zh h;have HV:=zh hv;have HVS:=zh hvs;have HA:=zh hA;have HLN:=zh hln;have HSS:=zh hs;have HWR:=zh hwr;have HM:=zh hm
 obtain⟨no,hno⟩:∃no:Int,no=refE q.f g ops:=⟨_,rfl⟩
 rw[<- hno]at KR
 have HNO:=zh hno
 clear h hv hm hrs hno hvs hA hln hs hwr
 go_enter Tryz.func25,Tryz.ntmps25
 go_wp2_with fail
 refine KO.out.mono ?_
 rintro e _ ⟨rfl,rfl⟩
 go_wp2_with fail
 refine KR.out.mono ?_
 rintro e w2 ⟨rfl,hf2⟩
 have HF2:=zh hf2
 have y1:=HS1.out w2 hf2
 clear hf2 KR KO b0 b2
 go_upto_region 3 with fail
 go_region_held3 (fun W=>W.cell? ⟨bp,1,none⟩=some (.pointer (some ⟨a.bs,0,none⟩)))
  (first | exact HCE.out.cell HM.out | exact HS1.out _ (by repeat (first | exact HF2.out | exact Touch.refl _ _ | refine Touch.alloc ?_ _ | refine Touch.drew ?_ | refine Touch.trans ?_ HFA.out (fun _ _=>id))) | go_keep)
  (first
  | (refine step_cp_src _ rfl _ _ 28 28 rfl 31 (.agg #[.string ⟨#[]⟩, .string ⟨#[]⟩, .bool false]) 3 40 Tryz.info31 Tryz.underlying28 rfl (some ⟨_,0,none⟩) rfl (.slice A nn c) nn (opsV ops) rfl (HSR.out _ (by repeat (first | exact HF2.out | exact Touch.refl _ _ | refine Touch.alloc ?_ _ | refine Touch.drew ?_))) (by unfold maxLen;omega) (by omega) ?_;intro BA cA2 wA hA hfA hoA;have HA9:=zh hA;have HFA:=zh hfA;have HOA:=zh hoA;clear hA hfA hoA)
  | (go_at_call 15;refine(KC.out _ BA cA2 (by repeat (first | exact HF2.out | exact Touch.refl _ _ | refine Touch.alloc ?_ _ | refine Touch.drew ?_ | refine Touch.trans ?_ HFA.out (fun _ _=>id))) (by exact HA9.out.vs3) (by intro a' ha h0;have ho:=HA9.out.own h0;have h1:=ho.lt a'.block (by rw[ha];rfl);have s1:=HF2.out.size;have s2:=HFA.out.size;rcases HOA.out with e | ⟨e,_⟩<;>(rw[ha]at e;simp only[Value.ownBlock,Option.some.injEq,World.size_alloc,World.size_drew]at e s2;refine⟨by omega, ?_⟩;first | exact h1 | (simp only[World.size_alloc,World.size_drew];omega)))).mono ?_;rintro e w4 ⟨er,rfl,hce⟩;have HCE:=zh hce;clear hce))
 obtain⟨w5,hw5⟩:∃w5,w5=w4:=⟨_,rfl⟩
 clear hw5
 rcases HCE.out with⟨hc1,hc2,hc3⟩ | ⟨hc1,hc2,hc3,ys,hy,her,a4,q1,hq1,hx4,ht4⟩
 ·have HCO:=zh (show CoR q g ops q from .inl ⟨rfl,hc1⟩)
  have HF:=zh hc3
  have hen:er=no:=by rw[hc2,HNO.out]
  subst hen
  by_cases h0:er=0
  ·subst h0
   have hnil:nn=0:=by
    rw[<- HLN.out]
    rcases hc1 with e | e
    ·exact absurd HNO.out.symm e
    ·rw[e];rfl
   subst hnil
   clear hc1 hc2 hc3
   go_wp2_with fail
   go_ret
   exact⟨rfl,q,⟨a,H.out.fresh HF.out⟩,(HV.out.weak fun _ _=>trivial).up (by omega) (by omega) (by omega),HCO.out⟩
  ·have h0b:(er != 0)=true:=bne_iff_ne.2 h0
   have HEE:=zh h0
   clear hc1 hc2 hc3 h0
   go_wp2_with fail
   go_ret
   exact⟨by simp,q,⟨a,H.out.fresh HF.out⟩,(HV.out.weak fun _ _=>trivial).up (by omega) (by omega) (by omega),HCO.out⟩
 ·subst hc1
  obtain rfl:no=0:=by rw[HNO.out];unfold refE;rw[if_neg (by simp),if_pos hc2]
  have hne0:¬nn=0:=fun e=>hc3 (List.length_eq_zero_iff.1 (by rw[HLN.out,e]))
  have hnei:¬(nn:Int)=0:=by omega
  have hneb:((nn:Int) == 0)=false:=beq_eq_false_iff_ne.2 hnei
  have hwo:=HWR.out hc2
  have hyl:ys.length<=opwt ops+8:=by
   obtain⟨ys',h1,h2⟩:=right_enc hc2 (by rw[HLN.out];exact hn) hw
   rw[hy]at h1
   injection h1 with h1
   rw[h1]
   exact h2
  have hb111:(111 :: ys:List UInt8).length<=4300:=by rw[List.length_cons];omega
  have hinv:=HV.out.call (by omega) (by omega) (by omega) (.ops ops) ⟨ys,hy,rfl⟩ (fun _=>trivial) (nx:=(q.f,kdo q.has ops)) (fun s h1 h2=>⟨h1,by show kdo s.has ops= _;rw[h2]⟩) (Nat.le_succ n) ⟨kdo_sort ops HV.out.sort,HV.out.f0,by have:=wt_kdo ops HV.out.sort;have:=HV.out.wt;show wgt (kdo q.has ops)<= _;rw[Nat.succ_mul];omega⟩ (Int.le_refl _)
  have HX4:=zh hx4;have HQ1:=zh hq1;have HINV:=zh hinv;have HER:=zh her
  have HB111:=zh hb111;have HRA:=zh (show CoR q q.f ops (q.call (111 :: ys) (q.f,kdo q.has ops)) from .inr ⟨rfl,hc2,hc3,ys,hy,rfl⟩)
  have d2:w4.cell? ⟨bp,2,none⟩=some (.pointer (some ⟨a4.bc,0,none⟩)):=hx4.km.blk.cell 2
  obtain⟨v4,hr4,_,_⟩:=hx4.km.c
  have KCP:=zh (rcopy_any hr4 (by rw[hq1];show q.has.length<= _;omega))
  have HV4:=zh (HVS.out.touch ht4 fun a' ha h0 e=>(HA.out a' ha h0).1 e)
  have HA4:=zh (fun a' (ha:A=some a') (h0:0<nn)=>Nat.lt_of_lt_of_le (HA.out a' ha h0).2 ht4.size)
  clear hx4 hq1 hinv her hb111 ht4 hr4 hy hc2 hc3 hwo hyl
  go_wp2_with fail
  refine KCP.out.mono ?_
  rintro e w5 ⟨hf5,b5,v5,rfl,hb5,hr5,hv5⟩
  have KDO:=zh (rdo_any hr5 (by rw[HQ1.out];exact HV.out.sort) A nn c ops (by rw[<- opsV_W];exact HV4.out.fresh hf5) (fun a' ha h0 e=>by have:=HA4.out a' ha h0;omega) (by rw[HQ1.out];show q.has.length+nn<= _;omega))
  have HF5:=zh hf5;have HV5:=zh hv5;have HB5:=zh hb5
  clear hf5 hv5 hb5 hr5 KCP d2
  go_wp2_with fail
  refine KDO.out.mono ?_
  rintro e w6 ⟨rfl,v6,hr6,ht56,hv6⟩
  have hf46:Fresh w4 w6:=HF5.out.trans ht56 fun k hk e=>by have:=HB5.out;omega
  have hs46:=hf46.size
  have hs04:=HX4.out.tch.size
  have hs5:=HF5.out.size
  have hlt6:∀k,(k=b5\/v6.ownBlock=some k)->w0.heap.size<=k/\k<w6.heap.size/\¬a4.foot bp k:=fun k hk=>by
   have h1:w4.heap.size<=k/\k<w6.heap.size:=by
    rcases hk with e | e
    ·rw[e];exact⟨HB5.out,hr6.blk.lt⟩
    ·have h3:=ht56.size
     rcases hv6 k e with e | e
     ·have:=HV5.out k e
      omega
     ·omega
   exact⟨by omega,h1.2,fun e=>by have:=HX4.out.km.lt k e;omega⟩
  have KCL:=zh (calls_any (nx:=(q1.f,kdo q1.has ops)) (HX4.out.fresh hf46) (by rw[HQ1.out];have:=HV.out.pv.lens;show q.p.struck.length<= _;omega) (by rw[HQ1.out];have:=HV.out.lens;show q.maybe.length<= _;omega) (by rw[HQ1.out];have:=HV.out.lens;show q.cm<= _;omega) hr6 hlt6 er q.p.d.ops)
  obtain⟨bv,hbv⟩:∃bv,bv=calB q1 (if er=0 then q.cm+1 else q.cm) er q.p.d.ops:=⟨_,rfl⟩
  rw[<- hbv]at KCL
  have HBV:=zh hbv
  clear hr6 hlt6 ht56 hf46 hs46 hs04 hs5 hv6 KDO hbv
  go_wp2_with fail
  refine KCL.out.mono ?_
  rintro e w7 ⟨rfl,hx7⟩
  have hq2:((q1.f,kdo q1.has ops):Int×KL)=(q.f,kdo q.has ops):=by rw[HQ1.out]
  rw[hq2]at hx7
  have hend:=call_end (nx:=(q.f,kdo q.has ops)) (b:=111 :: ys) (e:=er) HV.out (by omega) (by omega) (by have:=HB111.out;omega) HER.out HQ1.out (by rw[HER.out];exact HINV.out.2) rfl (fs:=q.f) (hs:=if er=0 then kdo q.has ops else q.has) (by split<;>rfl) rfl hx7
  have HE:=zh hend
  obtain rfl:bv=true:=HBV.out.trans hend.1
  clear hend hx7 KCL hq2 HBV
  go_wp2_with fail
  go_ret
  refine⟨rfl,q.call (111 :: ys) (q.f,kdo q.has ops),HE.out.2,HINV.out.1.up (Nat.le_refl _) (Nat.le_refl _) (by have:=HB111.out;omega),HRA.out⟩
end
end Go.Proofs.YtjehlgblkfofpaaGreat
namespace Go.Proofs.YtjehlgblkfofpaaGreat
open Go.RowKit
theorem app_st(p:PS)(b:List UInt8):(p.app b).struck=p.struck/\(p.app b).stop=p.stop/\(p.app b).d=(appendP p.d p.l b).1/\(p.app b).l=(appendP p.d p.l b).2.1:=by
 unfold PS.app
 split<;>exact⟨rfl,rfl,rfl,rfl⟩
theorem cutS_st(p:PS)(m:Nat):(p.cutS m).struck=p.struck/\(p.cutS m).stop=p.stop/\(p.cutS m).d=(cutP p.d p.l m).1/\(p.cutS m).l=(cutP p.d p.l m).2.1:=by
 unfold PS.cutS
 split<;>exact⟨rfl,rfl,rfl,rfl⟩
theorem cpt_facts(q:KP)(ys zs:List UInt8):(q.cpt ys zs).1.f=q.f/\(q.cpt ys zs).1.has=q.has/\(q.cpt ys zs).1.maybe=q.maybe/\(q.cpt ys zs).1.cm=q.cm/\(q.cpt ys zs).1.p.struck=q.p.struck/\(q.cpt ys zs).1.p.stop=q.p.stop/\(q.cpt ys zs).1.broken=(q.broken || decide ((q.cpt ys zs).2≠0)):=by
 have h1:=app_st q.p [98]
 have h2:=app_st (q.p.app [98]) (112 :: ys)
 have h3:=app_st ((q.p.app [98]).app (112 :: ys)) (101 :: zs)
 have h4:=cutS_st (((q.p.app [98]).app (112 :: ys)).app (101 :: zs)) q.p.c.next
 unfold KP.cpt
 split
 ·exact⟨rfl,rfl,rfl,rfl,rfl,rfl,by simp⟩
 ·split
  ·rename_i h
   exact⟨rfl,rfl,rfl,rfl,h1.1,h1.2.1,by simp[h]⟩
  ·split
   ·rename_i h
    exact⟨rfl,rfl,rfl,rfl,h2.1.trans h1.1,h2.2.1.trans h1.2.1,by simp[h]⟩
   ·split
    ·rename_i h
     exact⟨rfl,rfl,rfl,rfl,h3.1.trans (h2.1.trans h1.1),h3.2.1.trans (h2.2.1.trans h1.2.1),by simp[h]⟩
    ·exact⟨rfl,rfl,rfl,rfl,h4.1.trans (h3.1.trans (h2.1.trans h1.1)),h4.2.1.trans (h3.2.1.trans (h2.2.1.trans h1.2.1)),rfl⟩
section
variable {w w' w0 W W':World}{bp bd:Nat}{F:Nat->Prop}{a:KA}{q q2:KP}{i n T:Nat}{P:KS->Prop}
def KP.at_(q:KP)(p:PS):KP:={ q with p:={ q.p with d:=p.d,l:=p.l } }
theorem compact_see(h:KX w0 w bp bd F a q q.f q.has q.cm)(hv:KInv q i n T P)(hi:i<=890)(hT:T<=49000000)(hn:n<=61){ys zs:List UInt8}(hy:Enc.ops (opsOf q.has)=some ys)(hyl:ys.length<=wgt q.has+8)(hz:Enc.plain q.f=some zs)(hzl:zs.length<=8):
  Calls Tryz.prog 66 #[.pointer (some ⟨a.bs,0,none⟩)] w fun e w'=>e= .returned (.int .i64 (q.cpt ys zs).2)/\∃a',KX w0 w' bp bd F a' (q.at_ (q.cpt ys zs).1.p) q.f q.has q.cm:=by
 have hm:=h.km
 have hw:=hv.wt
 have hwm:n*4256<=259616:=by omega
 have hwe:=wgt_eq q.has
 obtain⟨c1,c2,c3,c4,c5⟩:=hv.pv.cn (by omega) hm.alk
 obtain⟨hB,hns⟩:=hm.begs hv.pv (by omega) hv.base
 -- the three records
 obtain⟨g1,_,_,g4,g5,g6,_,_⟩:=hv.pv.app (b:= [98]) (by omega) (by omega) (by decide)
 obtain⟨p1,hp1⟩:∃p1,p1=q.p.app [98]:=⟨_,rfl⟩
 rw[<- hp1]at g1 g4 g5 g6
 obtain⟨k1,_,_,k4,k5,k6,_,_⟩:=g1.app (b:=112 :: ys) (by omega) (by simp only[List.length_cons,List.length_nil];omega) (by rw[List.length_cons];omega)
 obtain⟨p2,hp2⟩:∃p2,p2=p1.app (112 :: ys):=⟨_,rfl⟩
 rw[<- hp2]at k1 k4 k5 k6
 obtain⟨m1,_,_,m4,m5,m6,_,_⟩:=k1.app (b:=101 :: zs) (by omega) (by simp only[List.length_cons,List.length_nil];omega) (by rw[List.length_cons];omega)
 obtain⟨p3,hp3⟩:∃p3,p3=p2.app (101 :: zs):=⟨_,rfl⟩
 rw[<- hp3]at m1 m4 m5 m6
 obtain⟨x1,x2,x3⟩:=append_alk (d:=q.p.d) hm.alk [98]
 rw[<- g5]at x1
 rw[<- g6]at x2
 have y1:=append_alk (d:=p1.d) x2 (112 :: ys)
 rw[<- k5,<- k6]at y1
 have e1:(cp1 q.p.d a.l).1=p1.d:=x1
 have e2:(cp2 q.p.d a.l ys).1=p2.d:=by unfold cp2;rw[e1];exact y1.1
 have a2:Alk p2.l (cp2 q.p.d a.l ys).2.1:=by unfold cp2;rw[e1];exact y1.2.1
 have r2:(cp2 q.p.d a.l ys).2.2=(appendP p1.d p1.l (112 :: ys)).2.2:=by unfold cp2;rw[e1];exact y1.2.2
 have z1:=append_alk (d:=p2.d) a2 (101 :: zs)
 rw[<- m5,<- m6]at z1
 have e3:(cp3 q.p.d a.l ys zs).1=p3.d:=by unfold cp3;rw[e2];exact z1.1
 have a3:Alk p3.l (cp3 q.p.d a.l ys zs).2.1:=by unfold cp3;rw[e2];exact z1.2.1
 have r3:(cp3 q.p.d a.l ys zs).2.2=(appendP p2.d p2.l (101 :: zs)).2.2:=by unfold cp3;rw[e2];exact z1.2.2
 have hbase1:p1.l.base=0:=g4.trans hv.base
 have hbase2:p2.l.base=0:=k4.trans hbase1
 have hbase3:p3.l.base=0:=m4.trans hbase2
 have cn1:=g1.cn (by omega) x2
 have cn2:=k1.cn (by omega) a2
 have cn3:=m1.cn (by omega) a3
 have fle:∀c:Ct,c.first<=c.next:=fun c=>Nat.le_add_right _ _
 have hB1:BegB (cp1 q.p.d a.l).2.1 (cp1 q.p.d a.l).1 270000000 (cp1 q.p.d a.l).2.1.c.first (cp1 q.p.d a.l).2.1.c.next 0:=by
  rw[e1]
  have h8:(cp1 q.p.d a.l).2.1.c.next<=900:=cn1.2.1
  have h9:=fle (cp1 q.p.d a.l).2.1.c
  exact g1.begB (by omega) (by omega) x2 (by omega) (by omega) (by omega)
 have hB2:BegB (cp2 q.p.d a.l ys).2.1 (cp2 q.p.d a.l ys).1 270000000 (cp2 q.p.d a.l ys).2.1.c.first (cp2 q.p.d a.l ys).2.1.c.next 0:=by
  rw[e2]
  have h8:=cn2.2.1
  have h9:=fle (cp2 q.p.d a.l ys).2.1.c
  exact k1.begB (by omega) (by omega) a2 (by omega) (by omega) (by omega)
 have hB3:BegB (cp3 q.p.d a.l ys zs).2.1 (cp3 q.p.d a.l ys zs).1 270000000 0 0 0:=by
  rw[e3]
  exact m1.begB (by omega) (by omega) a3 (by omega) (by omega) (by omega)
 have hT3:(cp3 q.p.d a.l ys zs).2.1.c.size<=100000000:=by
  have:=cn3.2.2.2.2
  simp only[List.length_cons,List.length_nil]at this
  omega
 refine(compact_any hm.sd (by omega) (by omega) (by omega) ys zs hy (by omega) hz hzl hB hns hB1 (by have:=cn1.2.2.1;show (cp1 q.p.d a.l).2.1.segs.length< _;exact Nat.lt_of_le_of_lt this (by omega)) hB2 (by have:=cn2.2.2.1;omega) hB3 (by have:=cn3.2.2.1;omega) (fun b hb=>by have:=cn3.2.2.2.1 b hb;omega) hT3).mono ?_
 intro e w' hend
 have go:∀{l':Lg} {d':Dk} (p':PS),SB w w' a.bs a.bl bd a.S a.R a.sv a.rv a.kv a.mb l' d' q.f q.has q.cm->d'=p'.d->Alk p'.l l'->∃a',KX w0 w' bp bd F a' (q.at_ p') q.f q.has q.cm:=by
  intro l' d' p' hsb hd hal
  obtain⟨S',R',sv',rv',vs',cs',kv',hx⟩:=hsb
  rw[hd]at hx
  exact⟨_,h.store hx hal⟩
 have hc12:a.l.c=q.p.c:=c1
 have hx3:(cp1 q.p.d a.l).2.2.2=(appendP q.p.d q.p.l [98]).2.2.2:=by
  have:(cp1 q.p.d a.l).2.2=(appendP q.p.d q.p.l [98]).2.2:=x3
  rw[this]
 have hx4:(cp2 q.p.d a.l ys).2.2.2=(appendP p1.d p1.l (112 :: ys)).2.2.2:=by rw[r2]
 have hx5:(cp3 q.p.d a.l ys zs).2.2.2=(appendP p2.d p2.l (101 :: zs)).2.2.2:=by rw[r3]
 cases hend with
 | idle h1 he hf=>
  have e:q.cpt ys zs=(q,0):=by unfold KP.cpt;rw[if_pos (by rw[<- hc12];exact h1)]
  rw[e]
  exact⟨he,a,h.fresh hf⟩
 | bad1 h1 he hne hs=>
  have e:q.cpt ys zs=({ q with p:=p1,broken:=true },(cp1 q.p.d a.l).2.2.2):=by
   unfold KP.cpt
   rw[if_neg (by rw[<- hc12];exact h1),if_pos (by rw[<- hx3];exact hne),hx3,hp1]
  rw[e]
  exact⟨he,go p1 hs e1 x2⟩
 | bad2 h1 h2 he hne hs=>
  have e:q.cpt ys zs=({ q with p:=p2,broken:=true },(cp2 q.p.d a.l ys).2.2.2):=by
   unfold KP.cpt
   rw[if_neg (by rw[<- hc12];exact h1),if_neg (by rw[<- hx3];exact fun h=>h h2),<- hp1,if_pos (by rw[<- hx4];exact hne),hx4,hp2]
  rw[e]
  exact⟨he,go p2 hs e2 a2⟩
 | bad3 h1 h2 h3 he hne hs=>
  have e:q.cpt ys zs=({ q with p:=p3,broken:=true },(cp3 q.p.d a.l ys zs).2.2.2):=by
   unfold KP.cpt
   rw[if_neg (by rw[<- hc12];exact h1),if_neg (by rw[<- hx3];exact fun h=>h h2),<- hp1,if_neg (by rw[<- hx4];exact fun h=>h h3),<- hp2,if_pos (by rw[<- hx5];exact hne),hx5,hp3]
  rw[e]
  exact⟨he,go p3 hs e3 a3⟩
 | cut h1 h2 h3 h4 he hs=>
  have hck:=cutM_alk (d:=p3.d) a3 (q.p.c.next:Int)
  have h40:cp4 q.p.d a.l ys zs=cutM p3.d (cp3 q.p.d a.l ys zs).2.1 (q.p.c.next:Int):=by unfold cp4;rw[e3,hc12]
  rw[h40]at he hs
  have e:q.cpt ys zs=({ q with p:=p3.cutS q.p.c.next,broken:=q.broken || decide ((cutP p3.d p3.l (q.p.c.next:Int)).2.2≠0) },(cutP p3.d p3.l (q.p.c.next:Int)).2.2):=by
   unfold KP.cpt
   rw[if_neg (by rw[<- hc12];exact h1),if_neg (by rw[<- hx3];exact fun h=>h h2),<- hp1,if_neg (by rw[<- hx4];exact fun h=>h h3),<- hp2,if_neg (by rw[<- hx5];exact fun h=>h h4),<- hp3]
  rw[e]
  obtain⟨_,_,s3,s4⟩:=cutS_st p3 q.p.c.next
  exact⟨by rw[he,hck.e],go (p3.cutS q.p.c.next) hs (by rw[s3];exact hck.d) (by rw[s4];exact hck.l)⟩
end
attribute [local go_sem] Oper.semAt_some
theorem src_one{P:Program}{t e':TypeId}(ht:P.underlying t=some (.slice e')){W:World}{k:Nat}{u:Value}(h:W.cell? ⟨k,0,none⟩=some u)(hu:u.oneCell'=true):Src P 1 t (.slice (some ⟨k,0,none⟩) 1 1) 1 [u] W:=by
 refine Src.ofSlice W ht _ 1 1 [u] rfl (fun j x hj=> ?_) (by simpa using hu)
 have h0:j=0:=by have:=(List.getElem?_eq_some_iff.1 hj).1;simp at this;omega
 subst h0
 injection hj with hj
 rw[<- hj,add_flat]
 exact h
theorem tok_wt{l:KL}(h:wgt l<=10000000):Tok l:=by
 have he:=wgt_eq l
 have hm:∀(l:KL) (x:List UInt8×List UInt8),x∈l->x.1.length<=wgt l:=by
  intro l
  induction l with
  | nil=>intro x hx;cases hx
  | cons y r ih=>
   intro x hx
   have h1:wgt (y :: r)=y.1.length+y.2.length+32+wgt r:=by simp[wgt]
   rcases List.mem_cons.1 hx with rfl | hx
   ·omega
   ·have:=ih x hx;omega
 exact⟨by omega,by omega,fun x hx=>by have:=hm l x hx;unfold maxLen;omega⟩
section
variable {w w' w0 W W':World}{bp bd:Nat}{F:Nat->Prop}{a:KA}{q q2:KP}{sf:Int}{sh:KL}{sm:Nat}{i n T:Nat}{P:KS->Prop}
def DoE(w0:World)(bp bd:Nat)(F:Nat->Prop)(q:KP)(i n T:Nat)(Do:Int)(e:Ending)(w':World):Prop:=
 e= .returned (.bool true)/\∃q',(∃a',KX w0 w' bp bd F a' q' q'.f q'.has q'.cm)/\KInv q' (i+5) (n+1) (T+300000) Any/\q.f<=q'.f/\((5<=Do % 9/\Do % 9<=7)\/(q'.p.struck=q.p.struck/\q'.p.stop=q.p.stop))/\((Do % 9=4\/Do % 9=7)->q.maybe= []->q'.f=q.f/\q'.has=q.has/\q'.maybe= []/\(q.p.struck= []/\q.p.stop= -1->q'.p.struck= []/\q'.p.stop= -1))
theorem KX.note_stop(h:KX w0 W bp bd F a q sf sh sm)(x:Int):KX w0 (W.setCell ⟨bp,5,none⟩ (.int .i64 x)) bp bd F a { q with p:={ q.p with stop:=x } } sf sh sm:=by
 have hp:=h.km
 obtain⟨w4,hw4⟩:∃w4,w4=W.setCell ⟨bp,5,none⟩ (.int .i64 x):=⟨_,rfl⟩
 have hT:Touch (fun k=>k=bp) W w4:=by rw[hw4];exact(Touch.refl (fun k=>k=bp) W).setCell (p:=⟨bp,5,none⟩) (.inr rfl) _
 rw[<- hw4]
 have hQ:∀k,a.Q k->¬k=bp:=fun k hk e=>hp.nQ k hk (.inl e)
 refine h.own (q2:={ q with p:={ q.p with stop:=x } }) (bc2:=a.bc) (mv2:=a.mv) (tv2:=a.tv) (Q2:=a.Q) (ptrs2:=a.ptrs) (hT.mono fun k _ e=> .inl e) rfl rfl ?_ (hp.c.touch hT hQ) (hp.mo.touch hT fun k hk e=>hp.mo.ne_blk hp.blk (by decide) (by rw[hk,e])) hp.ml (fun i y b h1 h2=>(hp.mc i y b h1 h2).touch hT hQ) (hp.ts.touch hT fun k hk e=>hp.ts.ne_blk hp.blk (by decide) (by rw[hk,e])) (fun k hk=> .inl (.inr hk)) fun k hk=> .inl hk
 rw[hw4]
 have:=hp.blk.set_ 5 (.int .i64 x)
 simpa using this
theorem KX.note_calm(h:KX w0 W bp bd F a q sf sh sm):KX w0 ((W.setCell ⟨bp,4,none⟩ (.slice none 0 0)).setCell ⟨bp,5,none⟩ (.int .i64 (-1))) bp bd F { a with tv:= .slice none 0 0 } { q with p:={ q.p with struck:= [],stop:= -1 } } sf sh sm:=by
 have hp:=h.km
 obtain⟨w4,hw4⟩:∃w4,w4=(W.setCell ⟨bp,4,none⟩ (.slice none 0 0)).setCell ⟨bp,5,none⟩ (.int .i64 (-1)):=⟨_,rfl⟩
 have hT:Touch (fun k=>k=bp) W w4:=by rw[hw4];exact((Touch.refl (fun k=>k=bp) W).setCell (p:=⟨bp,4,none⟩) (.inr rfl) _).setCell (p:=⟨bp,5,none⟩) (.inr rfl) _
 rw[<- hw4]
 have hQ:∀k,a.Q k->¬k=bp:=fun k hk e=>hp.nQ k hk (.inl e)
 refine h.own (q2:={ q with p:={ q.p with struck:= [],stop:= -1 } }) (bc2:=a.bc) (mv2:=a.mv) (tv2:= .slice none 0 0) (Q2:=a.Q) (ptrs2:=a.ptrs) (hT.mono fun k _ e=> .inl e) rfl rfl ?_ (hp.c.touch hT hQ) (hp.mo.touch hT fun k hk e=>hp.mo.ne_blk hp.blk (by decide) (by rw[hk,e])) hp.ml (fun i y b h1 h2=>(hp.mc i y b h1 h2).touch hT hQ) (Own.nil_ _ _ _) (fun k hk=> ?_) fun k hk=> .inl hk
 ·rw[hw4]
  have:=(hp.blk.set_ 4 (.slice none 0 0)).set_ 5 (.int .i64 (-1))
  simpa using this
 ·rcases hk with hk | hk
  ·exact .inl (.inr (.inl hk))
  ·cases hk
theorem KX.note_hit(h:KX w0 w bp bd F a q sf sh sm){w3:World}{o:Obj}{x:Int}{B:Option Addr}{c:Nat}(hg:(w.alloc o).grownBy w3 a.tv.ownBlock)(ho:Own w3 3 1 (.slice B (q.p.struck.length+1) c) (q.p.struck.length+1) (intsV q.p.struck++ [.int .i64 x]))
  (hb:(Value.slice B (q.p.struck.length+1) c).ownBlock=a.tv.ownBlock\/(Value.slice B (q.p.struck.length+1) c).ownBlock=some (w.alloc o).heap.size):
  KX w0 (w3.setCell ⟨bp,4,none⟩ (.slice B (q.p.struck.length+1) c)) bp bd F { a with tv:= .slice B (q.p.struck.length+1) c } { q with p:={ q.p with struck:=q.p.struck++ [x] } } sf sh sm:=by
 have hp:=h.km
 have hbA:=hp.blk.alloc o
 have hb3:=hbA.grown hg fun e=>hp.ts.ne_blk hp.blk (by decide) e.symm
 have hT3:Touch (fun k=>a.tv.ownBlock=some k) w w3:=((Touch.refl (fun k=>a.tv.ownBlock=some k) w).alloc o).grown hg fun k hk=> .inr hk
 obtain⟨w4,hw4⟩:∃w4,w4=w3.setCell ⟨bp,4,none⟩ (.slice B (q.p.struck.length+1) c):=⟨_,rfl⟩
 have hT4:Touch (fun k=>k=bp) w3 w4:=by rw[hw4];exact(Touch.refl (fun k=>k=bp) w3).setCell (p:=⟨bp,4,none⟩) (.inr rfl) _
 rw[<- hw4]
 have hT:Touch (fun k=>a.tv.ownBlock=some k\/k=bp) w w4:=(hT3.mono fun k _ hk=> .inl hk).trans hT4 fun k _ hk=> .inr hk
 have hkb:∀k,a.tv.ownBlock=some k\/k=bp->a.own bp k:=fun k hk=>hk.elim (fun e=> .inr (.inr e)) .inl
 have hQ4:∀k,a.Q k->¬(a.tv.ownBlock=some k\/k=bp):=fun k hk e=>hp.nQ k hk (hkb k e)
 refine h.own (q2:={ q with p:={ q.p with struck:=q.p.struck++ [x] } }) (bc2:=a.bc) (mv2:=a.mv) (tv2:= .slice B (q.p.struck.length+1) c) (Q2:=a.Q) (ptrs2:=a.ptrs) (hT.mono fun k _ hk=>hkb k hk) rfl rfl ?_ (hp.c.touch hT hQ4) (hp.mo.touch hT fun k hk e=> ?_) hp.ml (fun i y b h1 h2=>(hp.mc i y b h1 h2).touch hT hQ4) ?_ (fun k hk=> ?_) fun k hk=> .inl hk
 ·rw[hw4]
  have:=hb3.set_ 4 (.slice B (q.p.struck.length+1) c)
  simpa using this
 ·rcases e with e | e
  ·exact(hp.mo.ow.ne_ow hp.ts.ow (by decide)) k hk e
  ·exact hp.mo.ne_blk hp.blk (by decide) (by rw[hk,e])
 ·have h9:=ho.touch hT4 fun k hk e=>ho.ne_blk hb3 (by decide) (by rw[hk,e])
  dsimp only
  rw[List.length_append,List.length_singleton]
  have h7:intsV (q.p.struck++ [x])=intsV q.p.struck++ [.int .i64 x]:=by simp[intsV]
  rw[h7]
  exact h9
 ·rcases hk with hk | hk
  ·exact .inl (.inr (.inl hk))
  ·rcases hb with hb | hb
   ·exact .inl (.inr (.inr (hb.symm.trans hk)))
   ·rw[hk]at hb
    injection hb with hb
    rw[alloc_size]at hb
    exact .inr ⟨by omega,fun hq=>by have:=hp.Qlt k hq;omega⟩
theorem doesS(h:KX w0 w bp bd F a q q.f q.has q.cm)(hv:KInv q i n T P)(hi:i<=880){Do f N K:Int}(hDo:Do % 9=6){BA CA:Option Addr}{bm bc cm cc:Nat}:
  Calls Tryz.prog 32 #[.pointer (some ⟨bp,0,none⟩), .agg #[.int .i64 Do, .int .i64 f, .int .i64 N, .int .i64 K, .slice BA bm bc, .slice CA cm cc]] w (DoE w0 bp bd F q i n T Do):=by
 obtain⟨w1,hw1⟩:∃w1,w1=w.alloc (.cells #[.int .i64 Do, .int .i64 f, .int .i64 N, .int .i64 K, .slice BA bm bc, .slice CA cm cc] 72):=⟨_,rfl⟩
 have hf1:Fresh w w1:=by rw[hw1];exact(Touch.refl (fun _=>False) w).alloc _
 have hb0:Blk w1 w.heap.size 72 #[.int .i64 Do, .int .i64 f, .int .i64 N, .int .i64 K, .slice BA bm bc, .slice CA cm cc]:=by rw[hw1];exact Blk.new _ _ _
 obtain⟨m,hm⟩:∃m:Nat,N % 15=(m:Int):=⟨(N % 15).toNat,by have:=Int.emod_nonneg N (show (15:Int)≠0 by omega);omega⟩
 have hm12:m<15:=by have:=Int.emod_lt_of_pos N (show (0:Int)<15 by omega);omega
 have hx1:=h.fresh hf1
 have c0:w1.cell? ⟨w.heap.size,0,none⟩=some (.int .i64 Do):=hb0.cell 0
 have c1:w1.cell? ⟨w.heap.size,2,none⟩=some (.int .i64 N):=hb0.cell 2
 have d0:w1.cell? ⟨bp,0,none⟩=some (.pointer (some ⟨bd,0,none⟩)):=hx1.km.blk.cell 0
 have KO:=zh (disk_ops hx1.km.sd.ld.dk)
 have KW:=zh (within_any Do 9 w1 (by omega) (by omega))
 have KW2:=zh (within_any N 15 w1 (by omega) (by omega))
 rw[hm]at KW2
 rw[hDo]at KW
 have KS:=zh (disk_stop hx1.km.sd.ld.dk (hv.pv.small (by omega)) (by omega) (after:=(m:Int)) (by omega))
 obtain⟨lo,hlo⟩:∃lo,lo=q.p.d.ops:=⟨_,rfl⟩
 have hlob:lo<=200000000:=by rw[hlo];have:=hv.pv.ops;omega
 have hwl:IntKind.i64.wrap ((lo:Int)+(m:Int))=(lo:Int)+(m:Int):=IntWalk.i64_in _ (by omega)
 rw[<- hlo]at KO
 have HX1:=zh hx1;have HW1:=zh hw1;have HLO:=zh hlo;have HV:=zh hv;have HDO:=zh hDo
 clear h hv hf1 hb0 hx1 hw1 hlo hm
 go_enter Tryz.func32,Tryz.ntmps32
 go_upto_region 1 with fail
 rw[<- HW1.out]
 go_wp2_with fail
 refine KO.out.mono ?_
 rintro e w2 ⟨rfl,rfl⟩
 go_wp2_with fail
 refine KW.out.mono ?_
 rintro e w2 ⟨rfl,rfl⟩
 go_wp2_with fail
 refine KW2.out.mono ?_
 rintro e w2 ⟨rfl,rfl⟩
 go_wp2_with fail
 refine KS.out.mono ?_
 rintro e w2 ⟨rfl,ht2,hd2⟩
 have hx2:=HX1.out.disk ht2 hd2
 have e8:w2.cell? ⟨bp,5,none⟩=some (.int .i64 q.p.stop):=hx2.km.blk.cell 5
 have f8:w2.frozen? ⟨bp,5,none⟩=false:=hx2.km.blk.frozen 5
 have HX3:=zh (hx2.note_stop ((lo:Int)+(m:Int)))
 clear ht2 hd2 hx2 KO KW KW2 KS c0 c1 d0
 go_wp2_with fail
 go_ret
 have hk:=HV.out.halt (by omega) (m:=m) hm12
 rw[<- HLO.out]at hk
 refine⟨rfl,_,⟨_,HX3.out⟩,(hk.weak fun _ _=>trivial).up (by omega) (by omega) (by omega),Int.le_refl _, .inl (by have:=HDO.out;omega),fun h0=>by exfalso;have:=HDO.out;omega⟩
theorem doesF(h:KX w0 w bp bd F a q q.f q.has q.cm)(hv:KInv q i n T P)(hi:i<=880){Do f N K:Int}(hDo:Do % 9=5){BA CA:Option Addr}{bm bc cm cc:Nat}:
  Calls Tryz.prog 32 #[.pointer (some ⟨bp,0,none⟩), .agg #[.int .i64 Do, .int .i64 f, .int .i64 N, .int .i64 K, .slice BA bm bc, .slice CA cm cc]] w (DoE w0 bp bd F q i n T Do):=by
 obtain⟨tA,tc,htv,_⟩:=h.km.ts.form
 obtain⟨tl,htl⟩:∃tl,tl=q.p.struck.length:=⟨_,rfl⟩
 rw[<- htl]at htv
 obtain⟨w1,hw1⟩:∃w1,w1=w.alloc (.cells #[.int .i64 Do, .int .i64 f, .int .i64 N, .int .i64 K, .slice BA bm bc, .slice CA cm cc] 72):=⟨_,rfl⟩
 have hf1:Fresh w w1:=by rw[hw1];exact(Touch.refl (fun _=>False) w).alloc _
 have hb0:Blk w1 w.heap.size 72 #[.int .i64 Do, .int .i64 f, .int .i64 N, .int .i64 K, .slice BA bm bc, .slice CA cm cc]:=by rw[hw1];exact Blk.new _ _ _
 obtain⟨m,hm⟩:∃m:Nat,N % 15=(m:Int):=⟨(N % 15).toNat,by have:=Int.emod_nonneg N (show (15:Int)≠0 by omega);omega⟩
 have hm12:m<15:=by have:=Int.emod_lt_of_pos N (show (0:Int)<15 by omega);omega
 have hx1:=h.fresh hf1
 have c0:w1.cell? ⟨w.heap.size,0,none⟩=some (.int .i64 Do):=hb0.cell 0
 have c1:w1.cell? ⟨w.heap.size,2,none⟩=some (.int .i64 N):=hb0.cell 2
 have c2:w1.cell? ⟨w.heap.size,3,none⟩=some (.int .i64 K):=hb0.cell 3
 have d0:w1.cell? ⟨bp,0,none⟩=some (.pointer (some ⟨bd,0,none⟩)):=hx1.km.blk.cell 0
 have KO:=zh (disk_ops hx1.km.sd.ld.dk)
 have KW:=zh (within_any Do 9 w1 (by omega) (by omega))
 have KW2:=zh (within_any N 15 w1 (by omega) (by omega))
 rw[hm]at KW2
 rw[hDo]at KW
 have KS:=zh (show∀W,Fresh w1 W->Calls Tryz.prog 14 #[.pointer (some ⟨bd,0,none⟩), .int .i64 (m:Int), .int .i64 K] W fun e w2=>e= .returned (.tuple #[])/\∃S2,KX w0 w2 bp bd F { a with S:=S2 } { q with p:={ q.p with d:=q.p.d.fail m K } } q.f q.has q.cm from fun W hW=>by
  have hxW:=hx1.fresh hW
  refine(disk_fail hxW.km.sd.ld.dk (hv.pv.small (by omega)) (by omega) (after:=(m:Int)) K (by omega)).mono ?_
  rintro e w2 ⟨rfl,ht2,hd2⟩
  exact⟨rfl,_,hxW.disk ht2 hd2⟩)
 obtain⟨lo,hlo⟩:∃lo,lo=q.p.d.ops:=⟨_,rfl⟩
 have hlob:lo<=200000000:=by rw[hlo];have:=hv.pv.ops;omega
 have hslen:tl<=900:=by have:=hv.pv.lens;omega
 have hwl:IntKind.i64.wrap ((lo:Int)+(m:Int))=(lo:Int)+(m:Int):=IntWalk.i64_in _ (by omega)
 rw[<- hlo]at KO
 have HX1:=zh hx1;have HW1:=zh hw1;have HLO:=zh hlo;have HV:=zh hv;have HDO:=zh hDo;have HTV:=zh htv;have HTL:=zh htl
 clear h hv hf1 hb0 hx1 hw1 hlo hm htv htl
 go_enter Tryz.func32,Tryz.ntmps32
 go_upto_region 1 with fail
 rw[<- HW1.out]
 go_wp2_with fail
 refine KO.out.mono ?_
 rintro e w2 ⟨rfl,rfl⟩
 go_wp2_with fail
 refine KW.out.mono ?_
 rintro e w2 ⟨rfl,rfl⟩
 go_wp2_with fail
 refine KW2.out.mono ?_
 rintro e w2 ⟨rfl,rfl⟩
 go_upto_region 21 with fail
 go_region_law (first
  | (go_simp;go_at_call 14;refine(KS.out _ (by first | exact(Touch.refl _ w1).drew | exact Touch.refl _ w1)).mono ?_;rintro e w2 ⟨rfl,S2,hx2⟩;have HX2:=zh hx2;clear hx2))
 all_goals
  have e7:w2.cell? ⟨bp,4,none⟩=some (.slice tA tl tc):=by rw[<- HTV.out];exact HX2.out.km.blk.cell 4
  have f7:w2.frozen? ⟨bp,4,none⟩=false:=HX2.out.km.blk.frozen 4
  have hts:=HX2.out.km.ts
  dsimp only at hts
  rw[HTV.out,<- HTL.out]at hts
  have HTS:=zh hts
  have HBK:=zh HX2.out.km.blk
  clear KO KW KW2 KS c0 c1 c2 d0 hts
  go_wp2_with (at_builtin;refine wpList_own_src _ rfl _ _ 22 22 rfl 3 (.int .i64 0) 1 8 Tryz.info3 Tryz.underlying22 rfl (.slice tA tl tc) tl (intsV q.p.struck) rfl (HTS.out.alloc _) (intsV_one _) (.slice (some ⟨w2.heap.size,0,none⟩) 1 1) 1 [.int .i64 ((lo:Int)+(m:Int))] rfl (src_one Tryz.underlying22 (by exact(Blk.new w2 3 #[.int .i64 ((lo:Int)+(m:Int))]).cell 0) rfl) (by unfold maxLen;omega) (by omega) ?_;intro B6 c6 w6 o6 g6 b6;have hb6:=(HBK.out.alloc (.cells #[.int .i64 ((lo:Int)+(m:Int))] 3)).grown g6 (fun e=>(HTS.out.alloc (.cells #[.int .i64 ((lo:Int)+(m:Int))] 3)).ne_blk (HBK.out.alloc _) (by decide) e.symm);have e6:w6.cell? ⟨bp,4,none⟩=some a.tv:=hb6.cell 4;have f6:w6.frozen? ⟨bp,4,none⟩=false:=hb6.frozen 4;have HO6:=zh o6;have HG6:=zh g6;have HB6:=zh b6;clear o6 g6 b6 hb6)
  go_ret
  have hk:=HV.out.fail (by omega) (m:=m) (k:=K) hm12
  rw[<- HLO.out]at hk
  have hfin:=HX2.out.note_hit (w3:=w6) (o:= .cells #[.int .i64 ((lo:Int)+(m:Int))] 3) (x:=(lo:Int)+(m:Int)) (B:=B6) (c:=c6) (by dsimp only;rw[HTV.out];exact HG6.out) (by dsimp only;rw[<- HTL.out];exact HO6.out) (by dsimp only;rw[HTV.out,<- HTL.out];exact HB6.out)
  dsimp only at hfin
  rw[<- HTL.out]at hfin
  refine⟨rfl,_,⟨_,hfin⟩,(hk.weak fun _ _=>trivial).up (by omega) (by omega) (by omega),Int.le_refl _, .inl (by have:=HDO.out;omega),fun h0=>by exfalso;have:=HDO.out;omega⟩
end
section
variable {w w' w0 W W':World}{bp bd:Nat}{F:Nat->Prop}{a:KA}{q q2 q':KP}{sf:Int}{sh:KL}{sm:Nat}{i n T:Nat}{P:KS->Prop}
theorem call_facts(q:KP)(b:List UInt8)(nx:Int×KL):(q.call b nx).p.struck=q.p.struck/\(q.call b nx).p.stop=q.p.stop/\((q.call b nx).f=q.f\/(q.call b nx).f=nx.1):=by
 have h1:=app_st q.p b
 by_cases he:(appendP q.p.d q.p.l b).2.2.2=0
 ·rw[KP.call_good he]
  exact⟨h1.1,h1.2.1, .inr rfl⟩
 ·rw[KP.call_bad he]
  exact⟨h1.1,h1.2.1, .inl rfl⟩
theorem RaR.ends{g:Int}(h:RaR q g q'):q.f<=q'.f/\q'.p.struck=q.p.struck/\q'.p.stop=q.p.stop:=by
 rcases h with⟨rfl,_⟩ | ⟨h1,_,ys,_,rfl⟩
 ·exact⟨Int.le_refl _,rfl,rfl⟩
 ·obtain⟨a1,a2,a3⟩:=call_facts q (102 :: ys) (g,q.has)
  exact⟨by rcases a3 with e | e<;>rw[e]<;>first | exact Int.le_refl _ | (dsimp only;omega),a1,a2⟩
theorem CoR.ends{g:Int}{ops:List Dec.Op}(h:CoR q g ops q'):q.f<=q'.f/\q'.p.struck=q.p.struck/\q'.p.stop=q.p.stop:=by
 rcases h with⟨rfl,_⟩ | ⟨_,_,_,ys,_,rfl⟩
 ·exact⟨Int.le_refl _,rfl,rfl⟩
 ·obtain⟨a1,a2,a3⟩:=call_facts q (111 :: ys) (q.f,kdo q.has ops)
  exact⟨by rcases a3 with e | e<;>rw[e]<;>exact Int.le_refl _,a1,a2⟩
theorem KInv.tok(h:KInv q i n T P)(hn:n<=1000):Tok q.has/\∀y∈q.maybe,Tok y.2:=by
 have h1:=h.wt
 have h2:n*4256<=1000*4256:=Nat.mul_le_mul_right _ hn
 exact⟨tok_wt (by omega),fun y hy=>tok_wt (by have:=(h.mays y hy).2.2;omega)⟩
theorem doesX(h:KX w0 w bp bd F a q q.f q.has q.cm)(hv:KInv q i n T P)(hi:i<=880)(hT:T<=40000000)(hn:n<=60){Do f N K:Int}(hDo:Do % 9=7){BA CA:Option Addr}{bm bc cm cc:Nat}{cuts:List Int}
  (hz:IsInts w CA cm cc cuts) (hzw:∀x∈cuts,-9223372036854775808<=x/\x<=9223372036854775807) (hzb:∀a',CA=some a'->0<cm->¬a.S a'.block):
  Calls Tryz.prog 32 #[.pointer (some ⟨bp,0,none⟩), .agg #[.int .i64 Do, .int .i64 f, .int .i64 N, .int .i64 K, .slice BA bm bc, .slice CA cm cc]] w (DoE w0 bp bd F q i n T Do):=by
 obtain⟨w1,hw1⟩:∃w1,w1=w.alloc (.cells #[.int .i64 Do, .int .i64 f, .int .i64 N, .int .i64 K, .slice BA bm bc, .slice CA cm cc] 72):=⟨_,rfl⟩
 have hf1:Fresh w w1:=by rw[hw1];exact(Touch.refl (fun _=>False) w).alloc _
 have hb0:Blk w1 w.heap.size 72 #[.int .i64 Do, .int .i64 f, .int .i64 N, .int .i64 K, .slice BA bm bc, .slice CA cm cc]:=by rw[hw1];exact Blk.new _ _ _
 have hx1:=h.fresh hf1
 have c0:w1.cell? ⟨w.heap.size,0,none⟩=some (.int .i64 Do):=hb0.cell 0
 have c4:w1.cell? ⟨w.heap.size,5,none⟩=some (.slice CA cm cc):=hb0.cell 5
 have d0:w1.cell? ⟨bp,0,none⟩=some (.pointer (some ⟨bd,0,none⟩)):=hx1.km.blk.cell 0
 have KO:=zh (disk_ops hx1.km.sd.ld.dk)
 have KW:=zh (within_any Do 9 w1 (by omega) (by omega))
 rw[hDo]at KW
 have KS:=zh (show∀W,Fresh w1 W->Calls Tryz.prog 16 #[.pointer (some ⟨bd,0,none⟩), .slice CA cm cc] W fun e w2=>e= .returned (.tuple #[])/\∃S2,KX w0 w2 bp bd F { a with S:=S2 } { q with p:={ q.p with d:=q.p.d.crash cuts } } q.f q.has q.cm from fun W hW=>by
  have hxW:=hx1.fresh hW
  have hz2:IsInts W CA cm cc cuts:=⟨hz.1,hz.2.1,hz.2.2.1,fun h0=>by
   obtain⟨b,o,e,hc⟩:=hz.2.2.2 h0
   exact⟨b,o,e,fun j x hx=>(hf1.trans hW fun _ _=>id).cell (hc j x hx) id⟩⟩
  refine(disk_crash hxW.km.sd.ld.dk (hv.pv.small (by omega)) (by omega) hz2 hzw hzb).mono ?_
  rintro e w2 ⟨rfl,ht2,hd2⟩
  exact⟨rfl,_,hxW.disk ht2 hd2⟩)
 have HX1:=zh hx1;have HW1:=zh hw1;have HV:=zh hv;have HDO:=zh hDo
 clear h hv hf1 hb0 hx1 hw1 hz hzw hzb
 go_enter Tryz.func32,Tryz.ntmps32
 go_upto_region 1 with fail
 rw[<- HW1.out]
 go_wp2_with fail
 refine KO.out.mono ?_
 rintro e w2 ⟨rfl,rfl⟩
 go_wp2_with fail
 refine KW.out.mono ?_
 rintro e w2 ⟨rfl,rfl⟩
 go_upto_region 28 with fail
 go_region_law (first
  | (go_simp;go_at_call 16;refine(KS.out _ (by first | exact(Touch.refl _ w1).drew | exact Touch.refl _ w1)).mono ?_;rintro e w2 ⟨rfl,S2,hx2⟩;have HX2:=zh hx2;clear hx2))
 all_goals
  have e7:w2.cell? ⟨bp,4,none⟩=some a.tv:=HX2.out.km.blk.cell 4
  have f7:w2.frozen? ⟨bp,4,none⟩=false:=HX2.out.km.blk.frozen 4
  have e8:w2.cell? ⟨bp,5,none⟩=some (.int .i64 q.p.stop):=HX2.out.km.blk.cell 5
  have f8:w2.frozen? ⟨bp,5,none⟩=false:=HX2.out.km.blk.frozen 5
  have hx3:=HX2.out.note_calm
  obtain⟨w3,hw3⟩:∃w3,w3=(w2.setCell ⟨bp,4,none⟩ (.slice none 0 0)).setCell ⟨bp,5,none⟩ (.int .i64 (-1)):=⟨_,rfl⟩
  rw[<- hw3]at hx3
  obtain⟨st,s1,s2,s3,s4⟩:=HV.out.crash (by omega) cuts
  have he:({ q.p with d:=q.p.d.crash cuts,struck:= [],stop:= -1 }:PS).reop=q.p.crashS cuts:=by unfold PS.reop PS.crashS;rw[HV.out.base]
  obtain⟨t1,t2⟩:=HV.out.tok (by omega)
  have KOP:=zh (opened_any (cr:=true) (i:=i+1) (T:=T) (st:=st) hx3 (by dsimp only;rw[he];exact s4.pv) (by omega) (by omega) (by dsimp only;rw[he];exact s1) (s2.imp id fun e=>⟨rfl,e⟩) (s4.tok (by omega)).1 t1 t2 (by have:=HV.out.lens;dsimp only;omega))
  have HX3:=zh hx3;have HW3:=zh hw3;have HE:=zh he;have HS:=zh (And.intro s3 s4);have HM2:=zh s2
  clear hx3 hw3 he s1 s2 s3 s4 t1 t2 KO KW KS c0 c4 d0
  go_upto_region 30 with fail
  rw[<- HW3.out]
  go_wp2_with fail
  refine KOP.out.mono ?_
  rintro e w4 ⟨rfl,a4,hx4⟩
  have HX4:=zh hx4
  clear hx4 KOP
  go_wp2_with fail
  go_ret
  have hx5:=HX4.out
  unfold KP.reop at hx5
  dsimp only at hx5
  rw[HE.out]at hx5
  exact⟨rfl,_,⟨a4,hx5⟩,HS.out.2.up (by omega) (by omega) (by omega),HS.out.1, .inl (by have:=HDO.out;omega),fun _ hm=>by
   rcases HM2.out with⟨g1,g2⟩ | g
   ·exact⟨g1,g2,rfl,fun _=>⟨rfl,rfl⟩⟩
   ·rw[hm]at g;cases g⟩
theorem doesO(h:KX w0 w bp bd F a q q.f q.has q.cm)(hv:KInv q i n T P)(hi:i<=880)(hT:T<=40000000)(hn:n<=60){Do f N K:Int}(hDo:Do % 9=8){BA CA:Option Addr}{bm bc cm cc:Nat}:
  Calls Tryz.prog 32 #[.pointer (some ⟨bp,0,none⟩), .agg #[.int .i64 Do, .int .i64 f, .int .i64 N, .int .i64 K, .slice BA bm bc, .slice CA cm cc]] w (DoE w0 bp bd F q i n T Do):=by
 obtain⟨w1,hw1⟩:∃w1,w1=w.alloc (.cells #[.int .i64 Do, .int .i64 f, .int .i64 N, .int .i64 K, .slice BA bm bc, .slice CA cm cc] 72):=⟨_,rfl⟩
 have hf1:Fresh w w1:=by rw[hw1];exact(Touch.refl (fun _=>False) w).alloc _
 have hb0:Blk w1 w.heap.size 72 #[.int .i64 Do, .int .i64 f, .int .i64 N, .int .i64 K, .slice BA bm bc, .slice CA cm cc]:=by rw[hw1];exact Blk.new _ _ _
 have hx1:=h.fresh hf1
 have c0:w1.cell? ⟨w.heap.size,0,none⟩=some (.int .i64 Do):=hb0.cell 0
 have d0:w1.cell? ⟨bp,0,none⟩=some (.pointer (some ⟨bd,0,none⟩)):=hx1.km.blk.cell 0
 have d6:w1.cell? ⟨bp,6,none⟩=some (.bool q.broken):=hx1.km.blk.cell 6
 have KO:=zh (disk_ops hx1.km.sd.ld.dk)
 have KW:=zh (within_any Do 9 w1 (by omega) (by omega))
 rw[hDo]at KW
 cases hbr:q.broken with
 | true=>
  rw[hbr]at d6
  have HX1:=zh hx1;have HW1:=zh hw1;have HV:=zh hv;have HDO:=zh hDo
  clear h hv hf1 hb0 hx1 hw1
  go_enter Tryz.func32,Tryz.ntmps32
  go_upto_region 1 with fail
  rw[<- HW1.out]
  go_wp2_with fail
  refine KO.out.mono ?_
  rintro e w2 ⟨rfl,rfl⟩
  go_wp2_with fail
  refine KW.out.mono ?_
  rintro e w2 ⟨rfl,rfl⟩
  go_wp2_with fail
  go_ret
  exact⟨rfl,q,⟨a,HX1.out⟩,(HV.out.weak fun _ _=>trivial).up (by omega) (by omega) (by omega),Int.le_refl _, .inr ⟨rfl,rfl⟩,fun h0=>by exfalso;omega⟩
 | false=>
  rw[hbr]at d6
  obtain⟨s1,s2⟩:=hv.reopen (by omega) hbr
  have he:q.p.reop=q.p.openS:=by unfold PS.reop PS.openS;rw[hv.base]
  obtain⟨st,r1,r2,r3,_⟩:=hv.run
  obtain⟨t1,t2⟩:=hv.tok (by omega)
  have KOP:=zh (opened_any (cr:=false) (i:=i+1) (T:=T) (st:=st) hx1 (by rw[he];exact s1.pv) (by omega) (by omega) (by rw[he,s2];exact r1) (.inl ⟨r2,r3⟩) (by rw[r3];exact t1) t1 t2 (by have:=hv.lens;omega))
  have HX1:=zh hx1;have HW1:=zh hw1;have HE:=zh he;have HS:=zh (And.intro s1 (And.intro r2 r3))
  clear h hv hf1 hb0 hx1 hw1 s1 s2 he r1 r2 r3 t1 t2
  go_enter Tryz.func32,Tryz.ntmps32
  go_upto_region 1 with fail
  rw[<- HW1.out]
  go_wp2_with fail
  refine KO.out.mono ?_
  rintro e w2 ⟨rfl,rfl⟩
  go_wp2_with fail
  refine KW.out.mono ?_
  rintro e w2 ⟨rfl,rfl⟩
  go_wp2_with fail
  refine KOP.out.mono ?_
  rintro e w4 ⟨rfl,a4,hx4⟩
  have HX4:=zh hx4
  clear hx4 KOP
  go_wp2_with fail
  go_ret
  have hx5:=HX4.out
  obtain⟨s1,r2,r3⟩:=HS.out
  unfold KP.reop at hx5
  rw[HE.out,r2,r3]at hx5
  exact⟨rfl,_,⟨a4,hx5⟩,s1.up (by omega) (by omega) (by omega),Int.le_refl _, .inr ⟨rfl,rfl⟩,fun h0=>by exfalso;omega⟩
end
section
variable {w w' w0 W W':World}{bp bd:Nat}{F:Nat->Prop}{a:KA}{q q2 q':KP}{sf:Int}{sh:KL}{sm:Nat}{i n T:Nat}{P:KS->Prop}
theorem doesR(h:KX w0 w bp bd F a q q.f q.has q.cm)(hv:KInv q i n T P)(hi:i<=880)(hT:T<=40000000)(hn:n<=60){Do f N K:Int}(hDo:Do % 9=3){BA CA:Option Addr}{bm bc cm cc:Nat}:
  Calls Tryz.prog 32 #[.pointer (some ⟨bp,0,none⟩), .agg #[.int .i64 Do, .int .i64 f, .int .i64 N, .int .i64 K, .slice BA bm bc, .slice CA cm cc]] w (DoE w0 bp bd F q i n T Do):=by
 obtain⟨w1,hw1⟩:∃w1,w1=w.alloc (.cells #[.int .i64 Do, .int .i64 f, .int .i64 N, .int .i64 K, .slice BA bm bc, .slice CA cm cc] 72):=⟨_,rfl⟩
 have hf1:Fresh w w1:=by rw[hw1];exact(Touch.refl (fun _=>False) w).alloc _
 have hb0:Blk w1 w.heap.size 72 #[.int .i64 Do, .int .i64 f, .int .i64 N, .int .i64 K, .slice BA bm bc, .slice CA cm cc]:=by rw[hw1];exact Blk.new _ _ _
 have hx1:=h.fresh hf1
 have c0:w1.cell? ⟨w.heap.size,0,none⟩=some (.int .i64 Do):=hb0.cell 0
 have c1:w1.cell? ⟨w.heap.size,1,none⟩=some (.int .i64 f):=hb0.cell 1
 have d0:w1.cell? ⟨bp,0,none⟩=some (.pointer (some ⟨bd,0,none⟩)):=hx1.km.blk.cell 0
 have d2:w1.cell? ⟨bp,2,none⟩=some (.pointer (some ⟨a.bc,0,none⟩)):=hx1.km.blk.cell 2
 obtain⟨v,hrs,_,_⟩:=hx1.km.c
 have g0:w1.cell? ⟨a.bc,0,none⟩=some (.int .i64 q.f):=hrs.blk.cell 0
 have KO:=zh (disk_ops hx1.km.sd.ld.dk)
 have KW:=zh (within_any Do 9 w1 (by omega) (by omega))
 have KW3:=zh (show∀W,Calls Tryz.prog 12 #[.int .i64 f, .int .i64 3] W fun e w'=>e= .returned (.int .i64 (f % 3))/\w'=W from fun W=>(within_any f 3 W (by omega) (by omega)).mono fun e w' hq=>⟨hq.2,hq.1.symm⟩)
 rw[hDo]at KW
 have hl6:q.has.length<=1000000:=(hv.tok (by omega)).1.1
 have KR:=zh (show∀W (g:Int),Fresh w1 W->Calls Tryz.prog 34 #[.pointer (some ⟨bp,0,none⟩), .int .i64 g] W fun e w'=>e= .returned (.bool true)/\DoE w0 bp bd F q i n T Do e w' from fun W g hW=>by
  refine(raise_pg (hx1.fresh hW) hv (by omega) (by omega) hl6 g).mono ?_
  rintro e w' ⟨rfl,q',hx,hk,hr⟩
  obtain⟨e1,e2,e3⟩:=hr.ends
  exact⟨rfl,rfl,q',hx,hk.up (by omega) (by omega) (by omega),e1, .inr ⟨e2,e3⟩,fun h0=>by exfalso;omega⟩)
 have HW1:=zh hw1
 obtain⟨ff,hff⟩:∃ff,ff=q.f:=⟨_,rfl⟩
 have hf0:=hv.f0
 unfold Fok at hf0
 rw[<- hff]at hf0 g0
 obtain⟨r3,hr3⟩:∃r3,r3=f % 3:=⟨_,rfl⟩
 have hr30:0<=r3/\r3<3:=by rw[hr3];exact⟨Int.emod_nonneg _ (by omega),Int.emod_lt_of_pos _ (by omega)⟩
 rw[<- hr3]at KW3
 have hw8:IntKind.i64.wrap (ff+r3)=ff+r3:=IntWalk.i64_in _ (by omega)
 have hw9:IntKind.i64.wrap (ff+r3-1)=ff+r3-1:=IntWalk.i64_in _ (by omega)
 clear h hv hf1 hb0 hx1 hw1 hrs hff hr3
 by_cases hbig:f > 1099511627776
 ·have b1:decide (1099511627776<f)=true:=decide_eq_true hbig
  by_cases hle:f<=4503599627370496
  ·have b2:decide (f<=4503599627370496)=true:=decide_eq_true hle
   go_enter Tryz.func32,Tryz.ntmps32
   go_upto_region 1 with fail
   rw[<- HW1.out]
   go_wp2_with fail
   refine KO.out.mono ?_
   rintro e w2 ⟨rfl,rfl⟩
   go_wp2_with fail
   refine KW.out.mono ?_
   rintro e w2 ⟨rfl,rfl⟩
   go_upto_region 13 with fail
   go_quiet ((first | (go_at_call 12;exact Calls.quiet_of_same (KW3.out _))))
   generalize hw7:World.drewN _ _=w7
   have hf7:Fresh w1 w7:=by rw[<- hw7];exact(Touch.refl (fun _=>False) _).drewN _
   clear hw7
   go_wp2_with fail
   refine(KR.out w7 _ hf7).mono ?_
   rintro e w4 ⟨rfl,hd⟩
   have HD:=zh hd
   clear hd
   go_wp2_with fail
   go_ret
   exact HD.out
  ·have b2:decide (f<=4503599627370496)=false:=decide_eq_false hle
   have b3:decide (f< -1099511627776)=false:=decide_eq_false (by omega)
   go_enter Tryz.func32,Tryz.ntmps32
   go_upto_region 1 with fail
   rw[<- HW1.out]
   go_wp2_with fail
   refine KO.out.mono ?_
   rintro e w2 ⟨rfl,rfl⟩
   go_wp2_with fail
   refine KW.out.mono ?_
   rintro e w2 ⟨rfl,rfl⟩
   go_wp2_with fail
   refine(KR.out _ _ (Touch.refl _ _)).mono ?_
   rintro e w4 ⟨rfl,hd⟩
   have HD:=zh hd
   clear hd
   go_wp2_with fail
   go_ret
   exact HD.out
 ·have b1:decide (1099511627776<f)=false:=decide_eq_false (by omega)
  by_cases hlo:f< -1099511627776
  ·have b3:decide (f< -1099511627776)=true:=decide_eq_true hlo
   go_enter Tryz.func32,Tryz.ntmps32
   go_upto_region 1 with fail
   rw[<- HW1.out]
   go_wp2_with fail
   refine KO.out.mono ?_
   rintro e w2 ⟨rfl,rfl⟩
   go_wp2_with fail
   refine KW.out.mono ?_
   rintro e w2 ⟨rfl,rfl⟩
   go_upto_region 13 with fail
   go_quiet ((first | (go_at_call 12;exact Calls.quiet_of_same (KW3.out _))))
   generalize hw7:World.drewN _ _=w7
   have hf7:Fresh w1 w7:=by rw[<- hw7];exact(Touch.refl (fun _=>False) _).drewN _
   clear hw7
   go_wp2_with fail
   refine(KR.out w7 _ hf7).mono ?_
   rintro e w4 ⟨rfl,hd⟩
   have HD:=zh hd
   clear hd
   go_wp2_with fail
   go_ret
   exact HD.out
  ·have b3:decide (f< -1099511627776)=false:=decide_eq_false hlo
   go_enter Tryz.func32,Tryz.ntmps32
   go_upto_region 1 with fail
   rw[<- HW1.out]
   go_wp2_with fail
   refine KO.out.mono ?_
   rintro e w2 ⟨rfl,rfl⟩
   go_wp2_with fail
   refine KW.out.mono ?_
   rintro e w2 ⟨rfl,rfl⟩
   go_wp2_with fail
   refine(KR.out _ _ (Touch.refl _ _)).mono ?_
   rintro e w4 ⟨rfl,hd⟩
   have HD:=zh hd
   clear hd
   go_wp2_with fail
   go_ret
   exact HD.out
end
section
variable {w w' w0 W W':World}{bp bd:Nat}{F:Nat->Prop}{a:KA}{q q2 q':KP}{sf:Int}{sh:KL}{sm:Nat}{i n T:Nat}{P:KS->Prop}
theorem KX.note_broken(h:KX w0 W bp bd F a q sf sh sm)(b:Bool):KX w0 (W.setCell ⟨bp,6,none⟩ (.bool b)) bp bd F a { q with broken:=b } sf sh sm:=by
 have hp:=h.km
 obtain⟨w4,hw4⟩:∃w4,w4=W.setCell ⟨bp,6,none⟩ (.bool b):=⟨_,rfl⟩
 have hT:Touch (fun k=>k=bp) W w4:=by rw[hw4];exact(Touch.refl (fun k=>k=bp) W).setCell (p:=⟨bp,6,none⟩) (.inr rfl) _
 rw[<- hw4]
 have hQ:∀k,a.Q k->¬k=bp:=fun k hk e=>hp.nQ k hk (.inl e)
 refine h.own (q2:={ q with broken:=b }) (bc2:=a.bc) (mv2:=a.mv) (tv2:=a.tv) (Q2:=a.Q) (ptrs2:=a.ptrs) (hT.mono fun k _ e=> .inl e) rfl rfl ?_ (hp.c.touch hT hQ) (hp.mo.touch hT fun k hk e=>hp.mo.ne_blk hp.blk (by decide) (by rw[hk,e])) hp.ml (fun i y b h1 h2=>(hp.mc i y b h1 h2).touch hT hQ) (hp.ts.touch hT fun k hk e=>hp.ts.ne_blk hp.blk (by decide) (by rw[hk,e])) (fun k hk=> .inl (.inr hk)) fun k hk=> .inl hk
 rw[hw4]
 have:=hp.blk.set_ 6 (.bool b)
 simpa using this
theorem doesM(h:KX w0 w bp bd F a q q.f q.has q.cm)(hv:KInv q i n T P)(hi:i<=880)(hT:T<=40000000)(hn:n<=60){Do f N K:Int}(hDo:Do % 9=4){BA CA:Option Addr}{bm bc cm cc:Nat}:
  Calls Tryz.prog 32 #[.pointer (some ⟨bp,0,none⟩), .agg #[.int .i64 Do, .int .i64 f, .int .i64 N, .int .i64 K, .slice BA bm bc, .slice CA cm cc]] w (DoE w0 bp bd F q i n T Do):=by
 obtain⟨w1,hw1⟩:∃w1,w1=w.alloc (.cells #[.int .i64 Do, .int .i64 f, .int .i64 N, .int .i64 K, .slice BA bm bc, .slice CA cm cc] 72):=⟨_,rfl⟩
 have hf1:Fresh w w1:=by rw[hw1];exact(Touch.refl (fun _=>False) w).alloc _
 have hb0:Blk w1 w.heap.size 72 #[.int .i64 Do, .int .i64 f, .int .i64 N, .int .i64 K, .slice BA bm bc, .slice CA cm cc]:=by rw[hw1];exact Blk.new _ _ _
 have hx1:=h.fresh hf1
 have c0:w1.cell? ⟨w.heap.size,0,none⟩=some (.int .i64 Do):=hb0.cell 0
 have d0:w1.cell? ⟨bp,0,none⟩=some (.pointer (some ⟨bd,0,none⟩)):=hx1.km.blk.cell 0
 have d1:w1.cell? ⟨bp,1,none⟩=some (.pointer (some ⟨a.bs,0,none⟩)):=hx1.km.blk.cell 1
 have KO:=zh (disk_ops hx1.km.sd.ld.dk)
 have KW:=zh (within_any Do 9 w1 (by omega) (by omega))
 rw[hDo]at KW
 have hwt:=hv.wt
 have hwm:n*4256<=60*4256:=Nat.mul_le_mul_right _ hn
 obtain⟨ys,hy,hyl⟩:=encsnap_some (l:=q.has) (by omega)
 obtain⟨zs,hz,hzl⟩:=plain_ok hv.f0.1 hv.f0.2
 obtain⟨k1,k2⟩:=hv.compact (by omega) (by omega) (by omega) hy hyl hz hzl
 obtain⟨x1,x2,x3,x4,x5,x6,x7⟩:=cpt_facts q ys zs
 have KS:=compact_see hx1 hv (by omega) (by omega) (by omega) hy hyl hz hzl
 obtain⟨q5,hq5⟩:∃q5,q5=(q.cpt ys zs).1:=⟨_,rfl⟩
 obtain⟨er,her⟩:∃er,er=(q.cpt ys zs).2:=⟨_,rfl⟩
 rw[<- hq5,<- her]at KS k2
 rw[<- hq5]at k1
 rw[<- hq5]at x1 x2 x3 x4 x5 x6 x7
 rw[<- her]at x7
 have KS:=zh KS
 obtain⟨lo,hlo⟩:∃lo,lo=q.p.d.ops:=⟨_,rfl⟩
 rw[<- hlo]at KO k2
 have hmb:=hv.lens
 have hst5:q5.p.struck.length<=1000000:=by rw[x5];have:=hv.pv.lens;omega
 have HFIN:=zh (show∀w2 a' b,KX w0 w2 bp bd F a' (q.at_ q5.p) q.f q.has q.cm->b=(q.broken || decide (er≠0))->KX w0 (w2.setCell ⟨bp,6,none⟩ (.bool b)) bp bd F a' q5 q5.f q5.has q5.cm from fun w2 a' b hx hb=>by
  rw[x1,x2,x4]
  refine(hx.note_broken b).repl rfl rfl ?_ ?_ ?_ ?_ ?_ ?_ ?_
  ·exact x5
  ·exact x6
  ·exact x1
  ·exact x2
  ·exact x3
  ·exact x7.trans hb.symm
  ·exact x4)
 have HEND:=zh (show∀w',(∃a',KX w0 w' bp bd F a' q5 q5.f q5.has q5.cm)->DoE w0 bp bd F q i n T Do (.returned (.bool true)) w' from fun w' hx=>⟨rfl,q5,hx,k1.up (by omega) (by omega) (by omega),by rw[x1];exact Int.le_refl _, .inr ⟨x5,x6⟩,fun _ hm=>⟨x1,x2,x3.trans hm,fun hc=>⟨x5.trans hc.1,x6.trans hc.2⟩⟩⟩)
 have HIN:=zh (show er≠0->(er=3\/er=4)/\hindered q5.p lo q5.p.d.ops=true from fun he=>⟨(k2 he).1,by rw[hindered_congr (p:=q.p) x5 x6];exact(k2 he).2⟩)
 have HW1:=zh hw1
 obtain⟨br,hbr⟩:∃br,br=q.broken:=⟨_,rfl⟩
 have HBR:=zh hbr
 have HST:=zh hst5
 clear h hv hf1 hb0 hx1 hw1 hy hyl hz hzl k1 k2 x1 x2 x3 x4 x5 x6 x7 hq5 her hlo hmb hbr hst5
 go_enter Tryz.func32,Tryz.ntmps32
 go_upto_region 1 with fail
 rw[<- HW1.out]
 go_wp2_with fail
 refine KO.out.mono ?_
 rintro e w2 ⟨rfl,rfl⟩
 go_wp2_with fail
 refine KW.out.mono ?_
 rintro e w2 ⟨rfl,rfl⟩
 go_wp2_with fail
 refine KS.out.mono ?_
 rintro e w3 ⟨rfl,a3,hx3⟩
 have e6:w3.cell? ⟨bp,6,none⟩=some (.bool br):=by rw[HBR.out];exact hx3.km.blk.cell 6
 have f6:w3.frozen? ⟨bp,6,none⟩=false:=hx3.km.blk.frozen 6
 have HX3:=zh hx3
 clear hx3 KO KW KS c0 d0 d1
 by_cases he:er=0
 ·subst he
  have hx4:=HFIN.out w3 a3 br HX3.out (by rw[HBR.out];simp)
  have HD:=zh (HEND.out _ ⟨a3,hx4⟩)
  clear hx4
  cases br with
  | true=>
   go_wp2_with fail
   go_ret
   exact HD.out
  | false=>
   go_wp2_with fail
   go_ret
   exact HD.out
 ·obtain⟨h34,hh⟩:=HIN.out he
  have hx4:=HFIN.out w3 a3 true HX3.out (by rw[decide_eq_true he,Bool.or_true])
  have HD:=zh (HEND.out _ ⟨a3,hx4⟩)
  obtain⟨w4,hw4⟩:∃w4,w4=w3.setCell ⟨bp,6,none⟩ (.bool true):=⟨_,rfl⟩
  rw[<- hw4]at hx4 HD
  have KH:=zh (hindered_any hx4.km HST.out lo)
  rw[hh]at KH
  have HW4:=zh hw4
  clear hx4 hw4 hh he
  rcases h34 with rfl | rfl
  all_goals
   cases br with
   | true=>
    go_upto_region 18 with fail
    rw[<- HW4.out]
    go_wp2_with fail
    refine KH.out.mono ?_
    rintro e w5 ⟨rfl,rfl⟩
    go_wp2_with fail
    go_ret
    exact HD.out
   | false=>
    go_upto_region 18 with fail
    rw[<- HW4.out]
    go_wp2_with fail
    refine KH.out.mono ?_
    rintro e w5 ⟨rfl,rfl⟩
    go_wp2_with fail
    go_ret
    exact HD.out
end
end Go.Proofs.YtjehlgblkfofpaaGreat