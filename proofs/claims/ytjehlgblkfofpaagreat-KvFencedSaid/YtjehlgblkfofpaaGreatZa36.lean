/- The claims' texts, several in one: Pm, Cal, Cal2, Opd. Conditions stand with each theorem. -/
import Derived.Test.YtjehlgblkfofpaaGreatZa32
import Derived.Test.YtjehlgblkfofpaaGreatZa35
import Derived.Test.YtjehlgblkfofpaaGreatZa24
import Derived.Test.YtjehlgblkfofpaaGreatZa16
import Derived.Test.YtjehlgblkfofpaaGreatZa31
import Derived.Deep.RegionHeld3
import Derived.Deep.CutBlock
set_option maxHeartbeats 16000000
set_option maxRecDepth 200000
namespace Go.Proofs.YtjehlgblkfofpaaGreat
open Go.RowKit
def ptrsV(l:List Nat):List Value:=l.map fun b=> .pointer (some ⟨b,0,none⟩)
theorem ptrsV_one(l:List Nat):∀u∈ptrsV l,u.oneCell'=true:=by
 intro u hu
 obtain⟨x,_,rfl⟩:=List.mem_map.1 hu
 rfl
def RMx(w:World)(Q:Nat->Prop)(b:Nat)(f:Int)(l:KL):Prop:=∃v,RSt w b f v l/\Q b/\∀k,v.ownBlock=some k->Q k
theorem RMx.touch{w w':World}{Q S:Nat->Prop}{b:Nat}{f:Int}{l:KL}(h:RMx w Q b f l)(ht:Touch S w w')(hn:∀k,Q k->¬S k):RMx w' Q b f l:=by
 obtain⟨v,h1,h2,h3⟩:=h
 exact⟨v,h1.touch ht (hn b h2) fun k hk=>hn k (h3 k hk),h2,h3⟩
theorem RMx.weak{w:World}{Q Q':Nat->Prop}{b:Nat}{f:Int}{l:KL}(h:RMx w Q b f l)(hn:∀k,Q k->Q' k):RMx w Q' b f l:=by
 obtain⟨v,h1,h2,h3⟩:=h
 exact⟨v,h1,hn b h2,fun k hk=>hn k (h3 k hk)⟩
structure KA where
 bs:Nat
 bl:Nat
 bc:Nat
 mb:Nat
 S:Nat->Prop
 R:Nat->Prop
 Q:Nat->Prop
 l:Lg
 sv:Value
 rv:Value
 kv:Value
 mv:Value
 tv:Value
 vs:List Value
 cs:Array Value
 ptrs:List Nat
def KA.own(a:KA)(bp k:Nat):Prop:=k=bp\/a.mv.ownBlock=some k\/a.tv.ownBlock=some k
def KA.sto(a:KA)(k:Nat):Prop:=(k=a.bs\/cfoot a.kv a.mb k)\/lfoot a.bl a.sv a.rv k\/a.R k\/a.S k
def KA.foot(a:KA)(bp k:Nat):Prop:=a.own bp k\/a.Q k\/a.sto k
structure KM(w:World)(bp bd:Nat)(a:KA)(q:KP)(sf:Int)(sh:KL)(sm:Nat):Prop where
 blk:Blk w bp 37 #[.pointer (some ⟨bd,0,none⟩), .pointer (some ⟨a.bs,0,none⟩), .pointer (some ⟨a.bc,0,none⟩),a.mv,a.tv, .int .i64 q.p.stop, .bool q.broken, .int .i64 (q.cm:Int)]
 sd:SD w a.bs a.bl bd a.S a.R a.l q.p.d a.sv a.rv a.vs a.cs a.kv a.mb sf sh sm
 alk:Alk q.p.l a.l
 c:RMx w a.Q a.bc q.f q.has
 mo:Own w 34 1 a.mv a.ptrs.length (ptrsV a.ptrs)
 ml:a.ptrs.length=q.maybe.length
 mc:∀(i:Nat) (y:Int×KL) (b:Nat),q.maybe[i]? =some y->a.ptrs[i]? =some b->RMx w a.Q b y.1 y.2
 ts:Own w 3 1 a.tv q.p.struck.length (intsV q.p.struck)
 dis:∀k,(a.own bp k\/a.Q k)->¬a.sto k
 nQ:∀k,a.Q k->¬a.own bp k
 Qlt:∀k,a.Q k->k<w.heap.size
structure KX(w w':World)(bp bd:Nat)(F:Nat->Prop)(a':KA)(q':KP)(sf:Int)(sh:KL)(sm:Nat):Prop where
 km:KM w' bp bd a' q' sf sh sm
 tch:Touch F w w'
 sF:∀k,a'.foot bp k->F k\/w.heap.size<=k
def KG(w w':World)(bp bd:Nat)(F:Nat->Prop)(q':KP):Prop:=∃a',KX w w' bp bd F a' q' q'.f q'.has q'.cm
section
variable {w w' w'':World}{bp bd:Nat}{F F2:Nat->Prop}{a a' a2:KA}{q q' q2:KP}{sf sf':Int}{sh sh':KL}{sm sm':Nat}
theorem SD.lt_{bs bl bd mb cm:Nat}{S R:Nat->Prop}{l:Lg}{d:Dk}{sv rv kv:Value}{vs:List Value}{cs:Array Value}{fence:Int}{has:KL}(h:SD w bs bl bd S R l d sv rv vs cs kv mb fence has cm):
  ∀k,((k=bs\/cfoot kv mb k)\/lfoot bl sv rv k\/R k\/S k)->k<w.heap.size:=by
 rintro k (hk | hk | hk | hk)
 ·exact h.ct.lt k hk
 ·exact h.ld.lt k (.inl hk)
 ·exact h.ld.lt k (.inr hk)
 ·exact h.ld.dk.below k hk
theorem KM.lt(h:KM w bp bd a q sf sh sm):∀k,a.foot bp k->k<w.heap.size:=by
 rintro k (hk | hk | hk)
 ·rcases hk with rfl | hk | hk
  ·exact h.blk.lt
  ·exact h.mo.lt k hk
  ·exact h.ts.lt k hk
 ·exact h.Qlt k hk
 ·exact h.sd.lt_ k hk
theorem KM.same(h:KM w bp bd a q sf sh sm):KX w w bp bd (a.foot bp) a q sf sh sm:=⟨h,Touch.refl _ _,fun _=> .inl⟩
theorem KX.store{l' pl':Lg}{d':Dk}{S' R':Nat->Prop}{sv' rv' kv':Value}{vs':List Value}{cs':Array Value}(h:KX w w' bp bd F a q sf sh sm)
  (hx:SX w' w'' a.bs a.bl bd a.S a.R a.sv a.rv a.kv a.mb l' d' S' R' sv' rv' vs' cs' kv' sf' sh' sm') (ha:Alk pl' l'):
  KX w w'' bp bd F { a with S:=S',R:=R',l:=l',sv:=sv',rv:=rv',kv:=kv',vs:=vs',cs:=cs' } { q with p:={ q.p with d:=d',l:=pl' } } sf' sh' sm':=by
 have hm:=h.km
 have hlt:=hm.lt
 have hs:=h.tch.size
 have hT:=hx.tch
 have hs2:=hT.size
 have hsub:∀k,((k=a.bs\/cfoot a.kv a.mb k)\/lfoot a.bl a.sv a.rv k\/a.S k)->a.sto k:=fun k hk=>by
  rcases hk with e | e | e
  ·exact .inl e
  ·exact .inr (.inl e)
  ·exact .inr (.inr (.inr e))
 have d1:∀k,(a.own bp k\/a.Q k)->¬((k=a.bs\/cfoot a.kv a.mb k)\/lfoot a.bl a.sv a.rv k\/a.S k):=fun k hk e=>hm.dis k hk (hsub k e)
 have hsto:∀k,((k=a.bs\/cfoot kv' a.mb k)\/lfoot a.bl sv' rv' k\/R' k\/S' k)->a.sto k\/w'.heap.size<=k:=fun k hk=>by
  rcases hk with(e | e | e) | e | e | e
  ·exact .inl (.inl (.inl e))
  ·exact(hx.sK k e).imp (fun e=> .inl (.inr (.inl e))) id
  ·exact .inl (.inl (.inr (.inr e)))
  ·exact(hx.sF k e).imp (fun e=> .inr (.inl e)) id
  ·exact(hx.sR k e).imp (fun e=> .inr (.inr (.inl e))) id
  ·exact(hx.sS k e).imp (fun e=> .inr (.inr (.inr e))) id
 have hol:∀k,(a.own bp k\/a.Q k)->k<w'.heap.size:=fun k hk=>hlt k (hk.elim .inl fun e=> .inr (.inl e))
 refine⟨⟨hm.blk.touch hT (d1 bp (.inl (.inl rfl))),hx.sd,ha,hm.c.touch hT fun k hk=>d1 k (.inr hk),hm.mo.touch hT fun k hk=>d1 k (.inl (.inr (.inl hk))),hm.ml,fun i y b h1 h2=>(hm.mc i y b h1 h2).touch hT fun k hk=>d1 k (.inr hk),hm.ts.touch hT fun k hk=>d1 k (.inl (.inr (.inr hk))),fun k hk e=> ?_,hm.nQ,fun k hk=>by have:=hm.Qlt k hk;omega⟩, ?_,fun k hk=> ?_⟩
 ·have h3:=hol k hk
  exact(hsto k e).elim (hm.dis k hk) fun e=>by omega
 ·refine h.tch.trans hT fun k hk e=>(h.sF k (.inr (.inr (hsub k e)))).elim id fun e=>by omega
 ·rcases hk with e | e | e
  ·exact h.sF k (.inl e)
  ·exact h.sF k (.inr (.inl e))
  ·exact(hsto k e).elim (fun e=>h.sF k (.inr (.inr e))) fun e=> .inr (by omega)
theorem KX.fresh(h:KX w w' bp bd F a q sf sh sm)(hf:Fresh w' w''):KX w w'' bp bd F a q sf sh sm:=h.store (h.km.sd.same.fresh hf) h.km.alk
theorem KX.disk{d2:Dk}(h:KX w w' bp bd F a q sf sh sm)(ht:Touch a.S w' w'')(hd:Disk w'' (more a.S w' w'') bd d2):KX w w'' bp bd F { a with S:=more a.S w' w'' } { q with p:={ q.p with d:=d2 } } sf sh sm:=
 h.store (h.km.sd.log (h.km.sd.ld.same.disk ht hd)) h.km.alk
theorem KX.own{bc2:Nat}{mv2 tv2:Value}{Q2:Nat->Prop}{ptrs2:List Nat}(h:KX w w' bp bd F a q sf sh sm)(ht:Touch (a.own bp) w' w'')(hd:q2.p.d=q.p.d)(hl:q2.p.l=q.p.l)
  (hb:Blk w'' bp 37 #[.pointer (some ⟨bd,0,none⟩), .pointer (some ⟨a.bs,0,none⟩), .pointer (some ⟨bc2,0,none⟩),mv2,tv2, .int .i64 q2.p.stop, .bool q2.broken, .int .i64 (q2.cm:Int)])
  (hc:RMx w'' Q2 bc2 q2.f q2.has) (hm:Own w'' 34 1 mv2 ptrs2.length (ptrsV ptrs2)) (hml:ptrs2.length=q2.maybe.length) (hmc:∀(i:Nat) (y:Int×KL) (b:Nat),q2.maybe[i]? =some y->ptrs2[i]? =some b->RMx w'' Q2 b y.1 y.2)
  (hts:Own w'' 3 1 tv2 q2.p.struck.length (intsV q2.p.struck)) (h1:∀k,mv2.ownBlock=some k\/tv2.ownBlock=some k->a.own bp k\/(w'.heap.size<=k/\¬Q2 k)) (h2:∀k,Q2 k->a.Q k\/(w.heap.size<=k/\k<w''.heap.size/\¬a.foot bp k)):
  KX w w'' bp bd F { a with bc:=bc2,mv:=mv2,tv:=tv2,Q:=Q2,ptrs:=ptrs2 } q2 sf sh sm:=by
 have hp:=h.km
 have hlt:=hp.lt
 have hs:=h.tch.size
 have hs2:=ht.size
 have own2:∀k,(k=bp\/mv2.ownBlock=some k\/tv2.ownBlock=some k)->a.own bp k\/(w'.heap.size<=k/\¬Q2 k):=fun k hk=>by
  rcases hk with e | e
  ·exact .inl (.inl e)
  ·exact h1 k e
 have hsd:SD w'' a.bs a.bl bd a.S a.R a.l q.p.d a.sv a.rv a.vs a.cs a.kv a.mb sf sh sm:=
  ⟨hp.sd.ld.away ht fun k hk e=>hp.dis k (.inl hk) (.inr e),hp.sd.ct.touch ht fun k hk e=>hp.dis k (.inl e) (.inl hk),hp.sd.s0,hp.sd.s1,hp.sd.s5,hp.sd.apart⟩
 refine⟨⟨hb,by rw[hd];exact hsd,by rw[hl];exact hp.alk,hc,hm,hml,hmc,hts,fun k hk e=> ?_,fun k hk e=> ?_,fun k hk=> ?_⟩,h.tch.trans ht fun k hk e=>(h.sF k (.inl e)).elim id fun e=>by omega,fun k hk=> ?_⟩
 ·have hkl:=hlt k (.inr (.inr e))
  rcases hk with hk | hk
  ·rcases own2 k hk with h3 | h3
   ·exact hp.dis k (.inl h3) e
   ·omega
  ·rcases h2 k hk with h3 | ⟨_,_,h4⟩
   ·exact hp.dis k (.inr h3) e
   ·exact h4 (.inr (.inr e))
 ·rcases own2 k e with h3 | h3
  ·rcases h2 k hk with h4 | ⟨_,_,h5⟩
   ·exact hp.nQ k h4 h3
   ·exact h5 (.inl h3)
  ·exact h3.2 hk
 ·rcases h2 k hk with h3 | h3
  ·have:=hp.Qlt k h3;omega
  ·exact h3.2.1
 ·rcases hk with hk | hk | hk
  ·rcases own2 k hk with h3 | h3
   ·exact h.sF k (.inl h3)
   ·exact .inr (by omega)
  ·rcases h2 k hk with h3 | h3
   ·exact h.sF k (.inr (.inl h3))
   ·exact .inr h3.1
  ·exact h.sF k (.inr (.inr hk))
theorem KX.swap{bs2 bl2 mb2:Nat}{R2:Nat->Prop}{lo pl2:Lg}{sv2 rv2 kv2:Value}{vs2:List Value}{cs2:Array Value}(h:KX w w' bp bd F a q sf sh sm)(ht:Touch (·=bp) w' w'')
  (hn:SD w' bs2 bl2 bd a.S R2 lo q.p.d sv2 rv2 vs2 cs2 kv2 mb2 sf' sh' sm') (hfr:∀k,((k=bs2\/cfoot kv2 mb2 k)\/lfoot bl2 sv2 rv2 k\/R2 k)->w.heap.size<=k/\¬a.own bp k/\¬a.Q k) (ha:Alk pl2 lo)
  (hq:q2.p={ q.p with l:=pl2,maybe:=q2.p.maybe,cuts:=q2.p.cuts,c:=q2.p.c }) (hf2:q2.f=q.f) (hh2:q2.has=q.has) (hmb:q2.maybe= [])
  (hb:Blk w'' bp 37 #[.pointer (some ⟨bd,0,none⟩), .pointer (some ⟨bs2,0,none⟩), .pointer (some ⟨a.bc,0,none⟩), .slice none 0 0,a.tv, .int .i64 q2.p.stop, .bool q2.broken, .int .i64 (q2.cm:Int)]):
  KX w w'' bp bd F { a with bs:=bs2,bl:=bl2,mb:=mb2,R:=R2,l:=lo,sv:=sv2,rv:=rv2,kv:=kv2,vs:=vs2,cs:=cs2,mv:= .slice none 0 0,ptrs:= [] } q2 sf' sh' sm':=by
 have hp:=h.km
 have hlt:=hp.lt
 have hs:=h.tch.size
 have hs2:=ht.size
 have hdq:q2.p.d=q.p.d:=by rw[hq]
 have hlq:q2.p.l=pl2:=by rw[hq]
 have hsq:q2.p.struck=q.p.struck:=by rw[hq]
 have hown:∀k,(k=bp\/(Value.slice none 0 0).ownBlock=some k\/a.tv.ownBlock=some k)->a.own bp k:=fun k hk=>by
  rcases hk with e | e | e
  ·exact .inl e
  ·cases e
  ·exact .inr (.inr e)
 have hnb:∀k,((k=bs2\/cfoot kv2 mb2 k)\/lfoot bl2 sv2 rv2 k\/R2 k\/a.S k)->k≠bp:=fun k hk e=>by
  rcases hk with e' | e' | e' | e'
  ·exact(hfr k (.inl e')).2.1 (.inl e)
  ·exact(hfr k (.inr (.inl e'))).2.1 (.inl e)
  ·exact(hfr k (.inr (.inr e'))).2.1 (.inl e)
  ·exact hp.dis k (.inl (.inl e)) (.inr (.inr (.inr e')))
 have hsd:SD w'' bs2 bl2 bd a.S R2 lo q2.p.d sv2 rv2 vs2 cs2 kv2 mb2 sf' sh' sm':=by
  rw[hdq]
  exact⟨hn.ld.away ht fun k hk e=>hnb k (.inr e) hk,hn.ct.touch ht fun k hk e=>hnb k (.inl hk) e,hn.s0,hn.s1,hn.s5,hn.apart⟩
 refine⟨⟨hb,hsd,by rw[hlq];exact ha, ?_,Own.nil_ _ _ _,by rw[hmb];rfl,fun i y b h1 h2=>by rw[hmb]at h1;simp at h1, ?_,fun k hk e=> ?_,fun k hk e=>hp.nQ k hk (hown k e),fun k hk=>by have:=hp.Qlt k hk;omega⟩,h.tch.trans ht fun k hk e=>(h.sF k (.inl (.inl e))).elim id fun e=>by omega,fun k hk=> ?_⟩
 ·rw[hf2,hh2]
  exact hp.c.touch ht fun k hk e=>hp.nQ k hk (.inl e)
 ·rw[hsq]
  exact hp.ts.touch ht fun k hk e=>hp.ts.ne_blk hp.blk (by decide) (by rw[hk,e])
 ·have hk':a.own bp k\/a.Q k:=hk.imp (hown k) id
  rcases e with e' | e' | e' | e'
  ·exact hk'.elim (hfr k (.inl e')).2.1 (hfr k (.inl e')).2.2
  ·exact hk'.elim (hfr k (.inr (.inl e'))).2.1 (hfr k (.inr (.inl e'))).2.2
  ·exact hk'.elim (hfr k (.inr (.inr e'))).2.1 (hfr k (.inr (.inr e'))).2.2
  ·exact hp.dis k hk' (.inr (.inr (.inr e')))
 ·rcases hk with e | e | e
  ·exact h.sF k (.inl (hown k e))
  ·exact h.sF k (.inr (.inl e))
  ·rcases e with e' | e' | e' | e'
   ·exact .inr (hfr k (.inl e')).1
   ·exact .inr (hfr k (.inr (.inl e'))).1
   ·exact .inr (hfr k (.inr (.inr e'))).1
   ·exact h.sF k (.inr (.inr (.inr (.inr (.inr e')))))
theorem KX.kg(h:KX w w' bp bd F a q q.f q.has q.cm):KG w w' bp bd F q:=⟨a,h⟩
theorem KG.fresh(h:KG w w' bp bd F q)(hf:Fresh w' w''):KG w w'' bp bd F q:=by
 obtain⟨a,hx⟩:=h
 exact⟨a,hx.fresh hf⟩
theorem KG.new_{w1 W:World}(h:KG w1 W bp bd F q)(hf:Fresh w w1)(hl:∀k,F k->w.heap.size<=k):Fresh w W:=hf.trans h.choose_spec.tch fun k hk e=>by have:=hl k e;omega
end
attribute [local go_sem] Oper.semAt_some
def hitS(lo hi:Nat)(s:Int):Bool:=decide ((lo:Int)<=s) && decide (s<(hi:Int))
section
variable {w w' w0:World}{bp bd:Nat}{F:Nat->Prop}{a:KA}{q:KP}{sf:Int}{sh:KL}{sm:Nat}
theorem hindered_any(h:KM w bp bd a q sf sh sm)(hs:q.p.struck.length<=1000000)(lo:Nat):
  Calls Tryz.prog 67 #[.pointer (some ⟨bp,0,none⟩), .int .i64 (lo:Int)] w fun e w'=>e= .returned (.bool (hindered q.p lo q.p.d.ops))/\w'=w:=by
 have KO:=zh (disk_ops h.sd.ld.dk)
 obtain⟨p,hp⟩:∃p,p=q.p:=⟨_,rfl⟩
 rw[<- hp]at KO ⊢
 obtain⟨hi,hhi⟩:∃hi,hi=p.d.ops:=⟨_,rfl⟩
 rw[<- hhi]at KO ⊢
 obtain⟨m,hm⟩:∃m,m=p.struck.length:=⟨_,rfl⟩
 have hts:=h.ts
 rw[<- hp]at hts hs
 obtain⟨tA,tc,htv,_,_,htA⟩:=hts.form
 rw[htv]at hts
 rw[<- hm]at hts htv htA
 have b0:w.cell? ⟨bp,0,none⟩=some (.pointer (some ⟨bd,0,none⟩)):=h.blk.cell 0
 have b7:w.cell? ⟨bp,4,none⟩=some (.slice tA m tc):=by rw[<- htv];exact h.blk.cell 4
 have b8:w.cell? ⟨bp,5,none⟩=some (.int .i64 p.stop):=by rw[hp];exact h.blk.cell 5
 obtain⟨ts,hts0⟩:∃ts,ts=p.struck:=⟨_,rfl⟩
 have HE:=zh (show hindered p lo hi=(ts.any (hitS lo hi) || (decide (0<=p.stop) && decide (p.stop<(hi:Int)))) by rw[hts0];rfl)
 rw[<- hts0]at hm hts
 rw[<- hts0,<- hm]at hs
 obtain⟨stp,hstp⟩:∃stp,stp=p.stop:=⟨_,rfl⟩
 rw[<- hstp]at b8 HE
 have HTS:=zh hts;have HM:=zh hm
 clear h hm htv hts hts0 hhi hstp hp
 go_enter Tryz.func67,Tryz.ntmps67
 go_wp2_with fail
 refine KO.out.mono ?_
 rintro e w' ⟨rfl,rfl⟩
 go_wp2_with fail
 go_loopw [6] (fun i wr=>∃k:Nat,k<=m/\i= .int .i64 k/\wr=w/\(ts.take k).any (hitS lo hi)=false) (fun i _=>m-(intOf i).toNat)
 case atStart=>exact⟨0,Nat.zero_le _,rfl,rfl,rfl⟩
 case round=>
  obtain⟨k,hk,rfl,rfl,ha⟩:=hrel
  have HA:=zh ha
  clear ha
  by_cases hlt:k<m
  ·obtain⟨g,rfl⟩:∃g,tA=some ⟨g,0,none⟩:=by
    rcases htA with⟨_,h2,_⟩ | ⟨g,e⟩
    ·omega
    ·exact⟨g,e⟩
   obtain⟨s,hsk⟩:∃s,ts[k]? =some s:=⟨_,List.getElem?_eq_getElem (by rw[<- HM.out];exact hlt)⟩
   have ck:wr.cell? ⟨g,k,none⟩=some (.int .i64 s):=by
    rw[HTS.out.cell (j:=k) (by omega),intsV_get,hsk]
    rfl
   have HSUC:=zh (show (ts.take (k+1)).any (hitS lo hi)=((ts.take k).any (hitS lo hi) || hitS lo hi s) by
    rw[List.take_add_one,hsk,List.any_append]
    simp)
   have HSK:=zh (List.mem_of_getElem? hsk)
   have hwk:IntKind.i64.wrap ((k:Int)+1)=(k:Int)+1:=IntWalk.i64_in _ (by omega)
   clear hsk htA
   by_cases h1:(lo:Int)<=s
   ·have h1d:decide ((lo:Int)<=s)=true:=decide_eq_true h1
    by_cases h2:s<(hi:Int)
    ·have h2d:decide (s<(hi:Int))=true:=decide_eq_true h2
     go_wp2_with fail
     go_ret
     refine⟨?_,rfl⟩
     rw[HE.out,show ts.any (hitS lo hi)=true from List.any_eq_true.2 ⟨s,HSK.out,by unfold hitS;rw[h1d,h2d];rfl⟩]
     rfl
    ·have h2d:decide (s<(hi:Int))=false:=decide_eq_false h2
     go_wp2_with fail
     go_roundw
     case rel=>exact⟨k+1,by omega,by go_num,by first | rfl | trivial,by rw[HSUC.out,HA.out];unfold hitS;rw[h2d,Bool.and_false];rfl⟩
     case measure=>simp[intOf]<;>omega
   ·have h1d:decide ((lo:Int)<=s)=false:=decide_eq_false h1
    go_wp2_with fail
    go_roundw
    case rel=>exact⟨k+1,by omega,by go_num,by first | rfl | trivial,by rw[HSUC.out,HA.out];unfold hitS;rw[h1d];rfl⟩
    case measure=>simp[intOf]<;>omega
  ·obtain rfl:k=m:=by omega
   have hany:ts.any (hitS lo hi)=false:=by
    have:=HA.out
    rwa [HM.out,List.take_length]at this
   have HANY:=zh hany
   clear hany htA
   by_cases h1:0<=stp
   ·have h1d:decide (0<=stp)=true:=decide_eq_true h1
    by_cases h2:stp<(hi:Int)
    ·have h2d:decide (stp<(hi:Int))=true:=decide_eq_true h2
     go_wp2_with fail
     go_ret
     exact⟨by rw[HE.out,HANY.out,h1d,h2d];rfl,rfl⟩
    ·have h2d:decide (stp<(hi:Int))=false:=decide_eq_false h2
     go_wp2_with fail
     go_ret
     exact⟨by rw[HE.out,HANY.out,h1d,h2d];rfl,rfl⟩
   ·have h1d:decide (0<=stp)=false:=decide_eq_false h1
    go_wp2_with fail
    go_ret
    exact⟨by rw[HE.out,HANY.out,h1d];rfl,rfl⟩
theorem ptr_new(w:World)(b:Nat):Src Tryz.prog 1 35 (.slice (some ⟨w.heap.size,0,none⟩) 1 1) 1 [.pointer (some ⟨b,0,none⟩)] (w.alloc (.cells #[.pointer (some ⟨b,0,none⟩)] 34)):=by
 refine Src.ofSlice _ Tryz.underlying35 _ _ _ _ rfl (fun j u hu=> ?_) (fun u hu=> ?_)
 ·rw[add_flat,Nat.zero_add,(Blk.new w 34 #[.pointer (some ⟨b,0,none⟩)]).cell]
  simpa using hu
 ·simp only[List.mem_cons,List.not_mem_nil,or_false]at hu
  rw[hu]
  rfl
theorem Tryz.infoRs:(Tryz.prog.info? 34).map (fun i=>(i.zero,i.size,i.bytes))=some (some (.pointer none),1,8):=by kernel_rfl
def KP.good(q:KP)(nx:Int×KL):KP:={ q with f:=nx.1,has:=nx.2,maybe:= [],broken:=false,cm:=q.cm+1 }
def KP.bad(q:KP)(nx:Int×KL):KP:={ q with maybe:=q.maybe++ [nx],broken:=true }
theorem note_good(h:KX w0 w bp bd F a q sf sh sm){nx:Int×KL}{bn:Nat}{v:Value}(hn:RSt w bn nx.1 v nx.2)(hnew:∀k,(k=bn\/v.ownBlock=some k)->w0.heap.size<=k/\k<w.heap.size/\¬a.foot bp k):
  ∃a',KX w0 ((((w.setCell ⟨bp,2,none⟩ (.pointer (some ⟨bn,0,none⟩))).setCell ⟨bp,3,none⟩ (.slice none 0 0)).setCell ⟨bp,6,none⟩ (.bool false)).setCell ⟨bp,7,none⟩ (.int .i64 ((q.cm:Int)+1))) bp bd F a' (q.good nx) sf sh sm/\a'.bs=a.bs:=by
 have hp:=h.km
 obtain⟨w4,hw4⟩:∃w4,w4=(((w.setCell ⟨bp,2,none⟩ (.pointer (some ⟨bn,0,none⟩))).setCell ⟨bp,3,none⟩ (.slice none 0 0)).setCell ⟨bp,6,none⟩ (.bool false)).setCell ⟨bp,7,none⟩ (.int .i64 ((q.cm:Int)+1)):=⟨_,rfl⟩
 have hT:Touch (fun k=>k=bp) w w4:=by
  rw[hw4]
  exact((((Touch.refl (fun k=>k=bp) w).setCell (p:=⟨bp,2,none⟩) (.inr rfl) _).setCell (p:=⟨bp,3,none⟩) (.inr rfl) _).setCell (p:=⟨bp,6,none⟩) (.inr rfl) _).setCell (p:=⟨bp,7,none⟩) (.inr rfl) _
 rw[<- hw4]
 have hsz:=hT.size
 have hnb:∀k,(k=bn\/v.ownBlock=some k)->k≠bp:=fun k hk e=>(hnew k hk).2.2 (.inl (.inl e))
 refine⟨_,h.own (q2:=q.good nx) (bc2:=bn) (mv2:= .slice none 0 0) (tv2:=a.tv) (Q2:=fun k=>a.Q k\/k=bn\/v.ownBlock=some k) (ptrs2:= []) (hT.mono fun k _ hk=> .inl hk) rfl rfl ?_ ⟨v,hn.touch hT (hnb bn (.inl rfl)) (fun k hk=>hnb k (.inr hk)), .inr (.inl rfl),fun k hk=> .inr (.inr hk)⟩ (Own.nil_ _ _ _) rfl (fun i y b h1 _=>by simp[KP.good]at h1) (hp.ts.touch hT fun k hk e=>hp.ts.ne_blk hp.blk (by decide) (by rw[hk,e])) (fun k hk=> ?_) (fun k hk=> ?_),rfl⟩
 ·rw[hw4]
  have:=(((hp.blk.set_ 2 (.pointer (some ⟨bn,0,none⟩))).set_ 3 (.slice none 0 0)).set_ 6 (.bool false)).set_ 7 (.int .i64 ((q.cm:Int)+1))
  simpa [KP.good] using this
 ·rcases hk with hk | hk
  ·cases hk
  ·exact .inl (.inr (.inr hk))
 ·rcases hk with hk | hk
  ·exact .inl hk
  ·obtain⟨h1,h2,h3⟩:=hnew k hk
   exact .inr ⟨h1,by omega,h3⟩
theorem note_bad(h:KX w0 w bp bd F a q sf sh sm){nx:Int×KL}{bn:Nat}{v:Value}(hn:RSt w bn nx.1 v nx.2)(hnew:∀k,(k=bn\/v.ownBlock=some k)->w0.heap.size<=k/\k<w.heap.size/\¬a.foot bp k){w3:World}{o:Obj}{B:Option Addr}{c:Nat}
  (hg:(w.alloc o).grownBy w3 a.mv.ownBlock) (ho:Own w3 34 1 (.slice B (a.ptrs.length+1) c) (a.ptrs.length+1) (ptrsV a.ptrs++ [.pointer (some ⟨bn,0,none⟩)]))
  (hb:(Value.slice B (a.ptrs.length+1) c).ownBlock=a.mv.ownBlock\/(Value.slice B (a.ptrs.length+1) c).ownBlock=some (w.alloc o).heap.size):
  ∃a',KX w0 ((w3.setCell ⟨bp,3,none⟩ (.slice B (a.ptrs.length+1) c)).setCell ⟨bp,6,none⟩ (.bool true)) bp bd F a' (q.bad nx) sf sh sm/\a'.bs=a.bs:=by
 have hp:=h.km
 have hbA:=hp.blk.alloc o
 have hb3:=hbA.grown hg fun e=>hp.mo.ne_blk hp.blk (by decide) e.symm
 have hT3:Touch (fun k=>a.mv.ownBlock=some k) w w3:=((Touch.refl (fun k=>a.mv.ownBlock=some k) w).alloc o).grown hg fun k hk=> .inr hk
 obtain⟨w4,hw4⟩:∃w4,w4=(w3.setCell ⟨bp,3,none⟩ (.slice B (a.ptrs.length+1) c)).setCell ⟨bp,6,none⟩ (.bool true):=⟨_,rfl⟩
 have hT4:Touch (fun k=>k=bp) w3 w4:=by rw[hw4];exact((Touch.refl (fun k=>k=bp) w3).setCell (p:=⟨bp,3,none⟩) (.inr rfl) _).setCell (p:=⟨bp,6,none⟩) (.inr rfl) _
 rw[<- hw4]
 have hT:Touch (fun k=>a.mv.ownBlock=some k\/k=bp) w w4:=(hT3.mono fun k _ hk=> .inl hk).trans hT4 fun k _ hk=> .inr hk
 have hsz:=hT.size
 have hkb:∀k,a.mv.ownBlock=some k\/k=bp->a.own bp k:=fun k hk=>hk.elim (fun e=> .inr (.inl e)) .inl
 have hnb:∀k,(k=bn\/v.ownBlock=some k)->¬(a.mv.ownBlock=some k\/k=bp):=fun k hk e=>(hnew k hk).2.2 (.inl (hkb k e))
 have hQ4:∀k,a.Q k->¬(a.mv.ownBlock=some k\/k=bp):=fun k hk e=>hp.nQ k hk (hkb k e)
 have hnx:RMx w4 (fun k=>a.Q k\/k=bn\/v.ownBlock=some k) bn nx.1 nx.2:=⟨v,hn.touch hT (hnb bn (.inl rfl)) (fun k hk=>hnb k (.inr hk)), .inr (.inl rfl),fun k hk=> .inr (.inr hk)⟩
 refine⟨_,h.own (q2:=q.bad nx) (bc2:=a.bc) (mv2:= .slice B (a.ptrs.length+1) c) (tv2:=a.tv) (Q2:=fun k=>a.Q k\/k=bn\/v.ownBlock=some k) (ptrs2:=a.ptrs++ [bn]) (hT.mono fun k _ hk=>hkb k hk) rfl rfl ?_ ((hp.c.touch hT hQ4).weak fun k=> .inl) ?_ (by simp[KP.bad,hp.ml]) (fun i y b h1 h2=> ?_) (hp.ts.touch hT fun k hk e=> ?_) (fun k hk=> ?_) (fun k hk=> ?_),rfl⟩
 ·rw[hw4]
  have:=(hb3.set_ 3 (.slice B (a.ptrs.length+1) c)).set_ 6 (.bool true)
  simpa [KP.bad] using this
 ·rw[List.length_append,List.length_singleton,show ptrsV (a.ptrs++ [bn])=ptrsV a.ptrs++ [.pointer (some ⟨bn,0,none⟩)] by simp[ptrsV]]
  exact ho.touch hT4 fun k hk e=>ho.ne_blk hb3 (by decide) (by rw[hk,e])
 ·have h1:(q.maybe++ [nx])[i]? =some y:=h1
  by_cases hl:i<q.maybe.length
  ·rw[List.getElem?_append_left hl]at h1
   rw[List.getElem?_append_left (by rw[hp.ml];exact hl)]at h2
   exact((hp.mc i y b h1 h2).touch hT hQ4).weak fun k=> .inl
  ·rw[List.getElem?_append_right (by omega)]at h1
   rw[List.getElem?_append_right (by rw[hp.ml];omega),hp.ml]at h2
   have h0:i-q.maybe.length=0:=by have:=(List.getElem?_eq_some_iff.1 h1).1;simp at this;omega
   rw[h0]at h1 h2
   injection h1 with h1
   injection h2 with h2
   subst h1 h2
   exact hnx
 ·rcases e with e | e
  ·exact(hp.mo.ow.ne_ow hp.ts.ow (by decide)) k e hk
  ·exact hp.ts.ne_blk hp.blk (by decide) (by rw[hk,e])
 ·rcases hk with hk | hk
  ·rcases hb with hb | hb
   ·exact .inl (.inr (.inl (hb.symm.trans hk)))
   ·rw[hk]at hb
    injection hb with hb
    rw[World.size_alloc]at hb
    refine .inr ⟨by omega,fun hq=> ?_⟩
    rcases hq with hq | hq
    ·have:=hp.Qlt k hq;omega
    ·have:=(hnew k hq).2.1;omega
  ·exact .inl (.inr (.inr hk))
 ·rcases hk with hk | hk
  ·exact .inl hk
  ·obtain⟨h1,h2,h3⟩:=hnew k hk
   exact .inr ⟨h1,by omega,h3⟩
end
def calB(q:KP)(sm:Nat)(e:Int)(lo:Nat):Bool:=if e=0 then decide (sm=q.cm+1) else (decide (e=3) || decide (e=4)) && hindered q.p lo q.p.d.ops && decide (sm=q.cm)
def KP.noted(q:KP)(nx:Int×KL)(e:Int):KP:=if e=0 then q.good nx else q.bad nx
section
variable {w w' w0:World}{bp bd:Nat}{F:Nat->Prop}{a:KA}{q:KP}{sf:Int}{sh:KL}{sm:Nat}
theorem calls_any(h:KX w0 w bp bd F a q sf sh sm)(hs:q.p.struck.length<=1000000)(hml:q.maybe.length<=1000000)(hcm:q.cm<=1000000){nx:Int×KL}{bn:Nat}{v:Value}(hn:RSt w bn nx.1 v nx.2)(hnew:∀k,(k=bn\/v.ownBlock=some k)->w0.heap.size<=k/\k<w.heap.size/\¬a.foot bp k)(e:Int)(lo:Nat):
  Calls Tryz.prog 63 #[.pointer (some ⟨bp,0,none⟩), .pointer (some ⟨bn,0,none⟩), .int .i64 e, .int .i64 (lo:Int)] w fun x w'=>x= .returned (.bool (calB q sm e lo))/\∃a',KX w0 w' bp bd F a' (q.noted nx e) sf sh sm:=by
 have hm:=h.km
 by_cases he:e=0
 ·subst he
  have c1:w.cell? ⟨bp,1,none⟩=some (.pointer (some ⟨a.bs,0,none⟩)):=hm.blk.cell 1
  have c2:w.cell? ⟨bp,2,none⟩=some (.pointer (some ⟨a.bc,0,none⟩)):=hm.blk.cell 2
  have c3:w.cell? ⟨bp,3,none⟩=some a.mv:=hm.blk.cell 3
  have c6:w.cell? ⟨bp,6,none⟩=some (.bool q.broken):=hm.blk.cell 6
  have c7:w.cell? ⟨bp,7,none⟩=some (.int .i64 (q.cm:Int)):=hm.blk.cell 7
  have f2:w.frozen? ⟨bp,2,none⟩=false:=hm.blk.frozen 2
  have f3:w.frozen? ⟨bp,3,none⟩=false:=hm.blk.frozen 3
  have f6:w.frozen? ⟨bp,6,none⟩=false:=hm.blk.frozen 6
  have f7:w.frozen? ⟨bp,7,none⟩=false:=hm.blk.frozen 7
  have hwk:IntKind.i64.wrap ((q.cm:Int)+1)=(q.cm:Int)+1:=IntWalk.i64_in _ (by omega)
  obtain⟨a',hx,hbs⟩:=note_good h hn hnew
  obtain⟨w2,hw2⟩:∃w2,w2=(((w.setCell ⟨bp,2,none⟩ (.pointer (some ⟨bn,0,none⟩))).setCell ⟨bp,3,none⟩ (.slice none 0 0)).setCell ⟨bp,6,none⟩ (.bool false)).setCell ⟨bp,7,none⟩ (.int .i64 ((q.cm:Int)+1)):=⟨_,rfl⟩
  rw[<- hw2]at hx
  have d1:∀r,(w2.drewN r).cell? ⟨bp,1,none⟩=some (.pointer (some ⟨a.bs,0,none⟩)):=fun _=>by rw[<- hbs];exact hx.km.blk.cell 1
  have d7:∀r,(w2.drewN r).cell? ⟨bp,7,none⟩=some (.int .i64 ((q.cm:Int)+1)):=fun _=>hx.km.blk.cell 7
  have KC:=zh (show∀r,Calls Tryz.prog 68 #[.pointer (some ⟨a.bs,0,none⟩)] (w2.drewN r) fun e w'=>e= .returned (.int .i64 (sm:Int))/\w'=w2.drewN r from fun r=>by
   rw[<- hbs]
   exact kvcommits_any (hx.km.sd.fresh ((Touch.refl _ w2).drewN r)))
  have HW2:=zh hw2;have HX:=zh hx
  clear h hm hn hnew hx hw2 hs hml hbs
  go_enter Tryz.func63,Tryz.ntmps63
  go_upto_region 5 with fail
  rw[<- HW2.out]
  clear c1 c2 c3 c6 c7 f2 f3 f6 f7 hwk
  go_quiet ((first | (go_at_call 68;exact Calls.quiet_of_same (KC.out _))))
  go_wp2_with fail
  go_ret
  refine⟨?_,a', ?_⟩
  ·unfold calB
   rw[if_pos rfl]
   by_cases hq:sm=q.cm+1
   ·rw[decide_eq_true hq]
    have:((sm:Int) == (q.cm:Int)+1)=true:=by rw[hq];simp
    simp[this]
   ·rw[decide_eq_false hq]
    have:((sm:Int) == (q.cm:Int)+1)=false:=beq_eq_false_iff_ne.2 (by omega)
    simp[this]
  ·unfold KP.noted
   rw[if_pos rfl]
   exact HX.out.fresh ((Touch.refl (fun _=>False) w2).drewN _)
 ·have heb:(e == 0)=false:=beq_eq_false_iff_ne.2 he
  have hed:decide (e=0)=false:=decide_eq_false he
  obtain⟨mA,mc,hmv,_,_,_⟩:=hm.mo.form
  obtain⟨n,hnn⟩:∃n,n=a.ptrs.length:=⟨_,rfl⟩
  have hn6:n<=1000000:=by rw[hnn,hm.ml];exact hml
  have hmo:=hm.mo
  rw[hmv]at hmo
  rw[<- hnn]at hmo hmv
  have c3:w.cell? ⟨bp,3,none⟩=some (.slice mA n mc):=by rw[<- hmv];exact hm.blk.cell 3
  have c3a:∀o,(w.alloc o).cell? ⟨bp,3,none⟩=some (.slice mA n mc):=fun o=>by rw[<- hmv];exact(hm.blk.alloc o).cell 3
  have HMO:=zh hmo;have HB:=zh hm.blk
  have HMV:=zh hmv;have HNN:=zh hnn;have HML:=zh hm.mo
  have HX0:=zh (fun (w3:World) (o:Obj) (B:Option Addr) (c:Nat)=> @note_bad w w0 bp bd F a q sf sh sm h nx bn v hn hnew w3 o B c)
  clear h hm hn hnew hmo hmv hnn hml
  go_enter Tryz.func63,Tryz.ntmps63
  go_upto_region 6 with fail
  go_upto_region 8 with(at_builtin;refine wpList_own_src _ rfl _ _ 35 35 rfl 34 (.pointer none) 1 8 Tryz.infoRs Tryz.underlying35 rfl (.slice mA n mc) n (ptrsV a.ptrs) rfl (by exact HMO.out.alloc _) (ptrsV_one _) (.slice (some ⟨_,0,none⟩) 1 1) 1 [.pointer (some ⟨bn,0,none⟩)] rfl (by exact ptr_new _ bn) (by unfold maxLen;omega) (by omega) ?_;intro B6 c6 w6 o6 g6 b6;have hb6:=(HB.out.alloc (.cells #[.pointer (some ⟨bn,0,none⟩)] 34)).grown g6 (fun e=>(HMO.out.alloc (.cells #[.pointer (some ⟨bn,0,none⟩)] 34)).ne_blk (HB.out.alloc _) (by decide) e.symm);have e3:w6.cell? ⟨bp,3,none⟩=some a.mv:=hb6.cell 3;have e6:w6.cell? ⟨bp,6,none⟩=some (.bool q.broken):=hb6.cell 6;have f3:w6.frozen? ⟨bp,3,none⟩=false:=hb6.frozen 3;have f6:w6.frozen? ⟨bp,6,none⟩=false:=hb6.frozen 6;have HO6:=zh o6;have HG6:=zh g6;have HB6:=zh b6;clear o6 g6 b6 hb6)
  obtain⟨a',hx,hbs⟩:=HX0.out w6 (.cells #[.pointer (some ⟨bn,0,none⟩)] 34) B6 c6 (by rw[HMV.out];exact HG6.out) (by rw[<- HNN.out];exact HO6.out) (by rw[HMV.out,<- HNN.out];exact HB6.out)
  rw[<- HNN.out]at hx
  obtain⟨w9,hw9⟩:∃w9,w9=(w6.setCell ⟨bp,3,none⟩ (.slice B6 (n+1) c6)).setCell ⟨bp,6,none⟩ (.bool true):=⟨_,rfl⟩
  rw[<- hw9]at hx ⊢
  have d1:∀r,(w9.drewN r).cell? ⟨bp,1,none⟩=some (.pointer (some ⟨a.bs,0,none⟩)):=fun _=>by rw[<- hbs];exact hx.km.blk.cell 1
  have d7:∀r,(w9.drewN r).cell? ⟨bp,7,none⟩=some (.int .i64 (q.cm:Int)):=fun _=>hx.km.blk.cell 7
  have KC:=zh (show∀r,Calls Tryz.prog 68 #[.pointer (some ⟨a.bs,0,none⟩)] (w9.drewN r) fun e w'=>e= .returned (.int .i64 (sm:Int))/\w'=w9.drewN r from fun r=>by
   rw[<- hbs]
   exact kvcommits_any (hx.km.sd.fresh ((Touch.refl _ w9).drewN r)))
  obtain⟨hd,hhd⟩:∃hd,hd=hindered q.p lo q.p.d.ops:=⟨_,rfl⟩
  have KH:=zh (show∀r,Calls Tryz.prog 67 #[.pointer (some ⟨bp,0,none⟩), .int .i64 (lo:Int)] (w9.drewN r) fun e w'=>e= .returned (.bool hd)/\w'=w9.drewN r from fun r=>by
   rw[hhd]
   exact hindered_any (hx.fresh ((Touch.refl _ w9).drewN r)).km hs lo)
  have HX:=zh hx;have HHD:=zh hhd
  have HEND:=zh (show∀(r:Nat) (b:Bool),b=((decide (e=3) || decide (e=4)) && hd && decide (sm=q.cm))->(Ending.returned (.bool b)= .returned (.bool (calB q sm e lo))/\∃a',KX w0 (w9.drewN r) bp bd F a' (q.noted nx e) sf sh sm) from fun r b hb=>by
   refine⟨?_,a', ?_⟩
   ·unfold calB
    rw[if_neg he,hb,hhd]
   ·unfold KP.noted
    rw[if_neg he]
    exact hx.fresh ((Touch.refl (fun _=>False) w9).drewN _))
  clear hx hw9 hhd hs hbs c3 c3a e3 e6 f3 f6
  have hsb:((sm:Int) == (q.cm:Int))=decide (sm=q.cm):=by
   by_cases hq:sm=q.cm
   ·rw[decide_eq_true hq,hq];simp
   ·rw[decide_eq_false hq];exact beq_eq_false_iff_ne.2 (by omega)
  have HSB:=zh hsb
  clear hsb
  by_cases h3:e=3
  ·subst h3
   cases hd with
   | true=>
    go_quiet ((first | (go_at_call 68;exact Calls.quiet_of_same (KC.out _)) | (go_at_call 67;exact Calls.quiet_of_same (KH.out _))))
    go_wp2_with fail
    go_ret
    exact HEND.out _ _ (by rw[HSB.out];rfl)
   | false=>
    go_quiet ((first | (go_at_call 68;exact Calls.quiet_of_same (KC.out _)) | (go_at_call 67;exact Calls.quiet_of_same (KH.out _))))
    go_wp2_with fail
    go_ret
    exact HEND.out _ _ (by rfl)
  ·by_cases h4:e=4
   ·subst h4
    cases hd with
    | true=>
     go_quiet ((first | (go_at_call 68;exact Calls.quiet_of_same (KC.out _)) | (go_at_call 67;exact Calls.quiet_of_same (KH.out _))))
     go_wp2_with fail
     go_ret
     exact HEND.out _ _ (by rw[HSB.out];rfl)
    | false=>
     go_quiet ((first | (go_at_call 68;exact Calls.quiet_of_same (KC.out _)) | (go_at_call 67;exact Calls.quiet_of_same (KH.out _))))
     go_wp2_with fail
     go_ret
     exact HEND.out _ _ (by rfl)
   ·have h3b:(e == 3)=false:=beq_eq_false_iff_ne.2 h3
    have h4b:(e == 4)=false:=beq_eq_false_iff_ne.2 h4
    have h3d:decide (e=3)=false:=decide_eq_false h3
    have h4d:decide (e=4)=false:=decide_eq_false h4
    go_quiet ((first | (go_at_call 68;exact Calls.quiet_of_same (KC.out _)) | (go_at_call 67;exact Calls.quiet_of_same (KH.out _))))
    go_wp2_with fail
    go_ret
    exact HEND.out _ _ (by rw[h3d,h4d];rfl)
end
def PS.reop(p:PS):PS:={ p with l:=openP p.d.fs 0,c:=(openP p.d.fs 0).c,maybe:= [],cuts:= [] }
def KP.reop(q:KP)(st:KS):KP:=⟨q.p.reop,st.fence,st.has, [],false,0⟩
section
variable {w w' w0 W W':World}{bp bd sb bl2 mb2:Nat}{F R2:Nat->Prop}{a:KA}{q:KP}{sf:Int}{sh:KL}{sm:Nat}{lo:Lg}{sv2 rv2 kv2:Value}{vs2:List Value}{cs2:Array Value}{st:KS}
theorem KX.setc(h:KX w0 W bp bd F a q sf sh sm){y:Int×KL}{b:Nat}(hc:RMx W a.Q b y.1 y.2):KX w0 (W.setCell ⟨bp,2,none⟩ (.pointer (some ⟨b,0,none⟩))) bp bd F { a with bc:=b } { q with f:=y.1,has:=y.2 } sf sh sm:=by
 have hp:=h.km
 have hT:Touch (fun k=>k=bp) W (W.setCell ⟨bp,2,none⟩ (.pointer (some ⟨b,0,none⟩))):=(Touch.refl (fun k=>k=bp) W).setCell (p:=⟨bp,2,none⟩) (.inr rfl) _
 have hQ:∀k,a.Q k->¬k=bp:=fun k hk e=>hp.nQ k hk (.inl e)
 refine h.own (q2:={ q with f:=y.1,has:=y.2 }) (bc2:=b) (mv2:=a.mv) (tv2:=a.tv) (Q2:=a.Q) (ptrs2:=a.ptrs) (hT.mono fun k _ e=> .inl e) rfl rfl ?_ (hc.touch hT hQ) (hp.mo.touch hT fun k hk e=>hp.mo.ne_blk hp.blk (by decide) (by rw[hk,e])) hp.ml (fun i y b h1 h2=>(hp.mc i y b h1 h2).touch hT hQ) (hp.ts.touch hT fun k hk e=>hp.ts.ne_blk hp.blk (by decide) (by rw[hk,e])) (fun k hk=> .inl (.inr hk)) fun k hk=> .inl hk
 have:=hp.blk.set_ 2 (.pointer (some ⟨b,0,none⟩))
 simpa using this
structure OSt(w0 w W:World)(bp bd:Nat)(F:Nat->Prop)(a:KA)(q:KP)(sf:Int)(sh:KL)(sm:Nat)(sb bl2 mb2:Nat)(R2:Nat->Prop)(lo:Lg)(sv2 rv2 kv2:Value)(vs2:List Value)(cs2:Array Value)(st:KS)(bc1:Nat)(y:Int×KL):Prop where
 px:KX w0 W bp bd F { a with bc:=bc1 } { q with f:=y.1,has:=y.2 } sf sh sm
 sd:SD W sb bl2 bd a.S R2 lo q.p.d sv2 rv2 vs2 cs2 kv2 mb2 st.fence st.has 0
 new:∀k,((k=sb\/cfoot kv2 mb2 k)\/lfoot bl2 sv2 rv2 k\/R2 k)->w.heap.size<=k
theorem OSt.fresh{bc1:Nat}{y:Int×KL}(h:OSt w0 w W bp bd F a q sf sh sm sb bl2 mb2 R2 lo sv2 rv2 kv2 vs2 cs2 st bc1 y)(hf:Fresh W W'):OSt w0 w W' bp bd F a q sf sh sm sb bl2 mb2 R2 lo sv2 rv2 kv2 vs2 cs2 st bc1 y:=⟨h.px.fresh hf,h.sd.fresh hf,h.new⟩
theorem OSt.setc{bc1 b:Nat}{y y2:Int×KL}(h:OSt w0 w W bp bd F a q sf sh sm sb bl2 mb2 R2 lo sv2 rv2 kv2 vs2 cs2 st bc1 y)(hbp:bp<w.heap.size)(hc:RMx W a.Q b y2.1 y2.2):
  OSt w0 w (W.setCell ⟨bp,2,none⟩ (.pointer (some ⟨b,0,none⟩))) bp bd F a q sf sh sm sb bl2 mb2 R2 lo sv2 rv2 kv2 vs2 cs2 st b y2:=by
 have hT:Touch (fun k=>k=bp) W (W.setCell ⟨bp,2,none⟩ (.pointer (some ⟨b,0,none⟩))):=(Touch.refl (fun k=>k=bp) W).setCell (p:=⟨bp,2,none⟩) (.inr rfl) _
 have hd:=h.sd
 have hdis:=h.px.km.dis
 refine⟨h.px.setc (a:={ a with bc:=bc1 }) (q:={ q with f:=y.1,has:=y.2 }) hc,⟨hd.ld.away hT fun k hk e=> ?_,hd.ct.touch hT fun k hk e=> ?_,hd.s0,hd.s1,hd.s5,hd.apart⟩,h.new⟩
 ·subst hk
  rcases e with e | e | e
  ·have:=h.new k (.inr (.inl e));omega
  ·have:=h.new k (.inr (.inr e));omega
  ·exact hdis k (.inl (.inl rfl)) (.inr (.inr (.inr e)))
 ·have:=h.new k (.inl hk);omega
theorem opened_st(h:KX w0 w bp bd F a q sf sh sm){e:Ending}(ho:OpnK w bd a.S q.p.d lo st e w'):
  ∃sb bl2 mb2 R2 sv2 rv2 kv2 vs2 cs2,e= .returned (.tuple #[.pointer (some ⟨sb,0,none⟩), .int .i64 0])/\OSt w0 w w' bp bd F a q sf sh sm sb bl2 mb2 R2 lo sv2 rv2 kv2 vs2 cs2 st a.bc (q.f,q.has):=by
 obtain⟨sb,bl2,mb2,R2,sv2,rv2,kv2,vs2,cs2,rfl,ht,hsd,hnew⟩:=ho
 have hl:=h.km.sd.ld
 have hx:LX w w' a.bl bd a.S a.R a.sv a.rv a.l q.p.d a.S a.R a.sv a.rv a.vs:=⟨⟨hl.lm.touch ht hl.dis,hsd.ld.dk,hl.dis,hl.nR,fun k hk=>Nat.lt_of_lt_of_le (hl.Rlt k hk) ht.size⟩,ht.mono fun k _ hk=> .inr hk,fun _=> .inl,fun _=> .inl,fun _=> .inl⟩
 exact⟨sb,bl2,mb2,R2,sv2,rv2,kv2,vs2,cs2,rfl,h.store (h.km.sd.log hx) h.km.alk,hsd,hnew⟩
theorem OSt.end_{bc1:Nat}{y:Int×KL}(h:OSt w0 w W bp bd F a q sf sh sm sb bl2 mb2 R2 (openP q.p.d.fs 0) sv2 rv2 kv2 vs2 cs2 st bc1 y)(hw:w0.heap.size<=w.heap.size)(hfl:∀k,(a.own bp k\/a.Q k)->k<w.heap.size)(hy:y=(st.fence,st.has)):
  ∃a',KX w0 ((((W.setCell ⟨bp,1,none⟩ (.pointer (some ⟨sb,0,none⟩))).setCell ⟨bp,3,none⟩ (.slice none 0 0)).setCell ⟨bp,6,none⟩ (.bool false)).setCell ⟨bp,7,none⟩ (.int .i64 0)) bp bd F a' (q.reop st) st.fence st.has 0:=by
 subst hy
 have hp:=h.px.km
 have hT:Touch (fun k=>k=bp) W ((((W.setCell ⟨bp,1,none⟩ (.pointer (some ⟨sb,0,none⟩))).setCell ⟨bp,3,none⟩ (.slice none 0 0)).setCell ⟨bp,6,none⟩ (.bool false)).setCell ⟨bp,7,none⟩ (.int .i64 0)):=
  ((((Touch.refl (fun k=>k=bp) W).setCell (p:=⟨bp,1,none⟩) (.inr rfl) _).setCell (p:=⟨bp,3,none⟩) (.inr rfl) _).setCell (p:=⟨bp,6,none⟩) (.inr rfl) _).setCell (p:=⟨bp,7,none⟩) (.inr rfl) _
 refine⟨_,h.px.swap (q2:=q.reop st) hT h.sd (fun k hk=> ?_) (Alk.refl _) rfl rfl rfl rfl ?_⟩
 ·have h1:=h.new k hk
  exact⟨by omega,fun e=>by have:=hfl k (.inl e);omega,fun e=>by have:=hfl k (.inr e);omega⟩
 ·have:=(((hp.blk.set_ 1 (.pointer (some ⟨sb,0,none⟩))).set_ 3 (.slice none 0 0)).set_ 6 (.bool false)).set_ 7 (.int .i64 0)
  simpa [KP.reop,PS.reop] using this
end
def Tok(l:KL):Prop:=l.length<=1000000/\ksize l<=1000000000/\∀x∈l,x.1.length<=maxLen
section
variable {w w' w0 W W':World}{bp bd:Nat}{F:Nat->Prop}{a:KA}{q:KP}{sf:Int}{sh:KL}{sm:Nat}{st:KS}
theorem opened_any(h:KX w0 w bp bd F a q sf sh sm){cr:Bool}{i T:Nat}(hv:PInv q.p.reop i T)(hi:i<=900)(hT:T<=300000000)(hr:Runs KS.new q.p.reop.c.rows st)(hal:(st.fence=q.f/\st.has=q.has)\/(cr=true/\(st.fence,st.has)∈q.maybe))
  (ht1:Tok st.has) (ht2:Tok q.has) (ht3:∀y∈q.maybe,Tok y.2) (hml:q.maybe.length<=1000000):
  Calls Tryz.prog 33 #[.pointer (some ⟨bp,0,none⟩), .bool cr] w fun x w'=>x= .returned (.bool true)/\∃a',KX w0 w' bp bd F a' (q.reop st) st.fence st.has 0:=by
 have hm:=h.km
 have hbp:=hm.blk.lt
 have hw0:=h.tch.size
 have b0:w.cell? ⟨bp,0,none⟩=some (.pointer (some ⟨bd,0,none⟩)):=hm.blk.cell 0
 have KO:=zh (show Calls Tryz.prog 17 #[.pointer (some ⟨bd,0,none⟩), .int .i64 0] w fun e w'=>∃sb bl2 mb2 R2 sv2 rv2 kv2 vs2 cs2,e= .returned (.tuple #[.pointer (some ⟨sb,0,none⟩), .int .i64 0])/\OSt w0 w w' bp bd F a q sf sh sm sb bl2 mb2 R2 (openP q.p.d.fs 0) sv2 rv2 kv2 vs2 cs2 st a.bc (q.f,q.has) from
  (open_sd (p:=q.p.reop) hm.sd.ld.dk hv hi hT rfl hr).mono fun e w' ho=>opened_st h ho)
 have HFL:=zh (show∀k,(a.own bp k\/a.Q k)->k<w.heap.size from fun k hk=>hm.lt k (hk.elim .inl fun e=> .inr (.inl e)))
 have H:=zh h;have HAL:=zh hal;have HT1:=zh ht1;have HT2:=zh ht2;have HT3:=zh ht3
 obtain⟨mA,mc,hmv,_,_,_⟩:=hm.mo.form
 obtain⟨L,hL⟩:∃L,L=a.ptrs.length:=⟨_,rfl⟩
 rw[<- hL]at hmv
 have hLm:L=q.maybe.length:=by rw[hL];exact hm.ml
 have HMV:=zh hmv;have HL:=zh hL;have HLM:=zh hLm
 have hL6:L<=1000000:=by omega
 clear h hm hv hr hal ht1 ht2 ht3 hmv hL hLm hml
 go_enter Tryz.func33,Tryz.ntmps33
 go_wp2_with fail
 refine KO.out.mono ?_
 rintro e w1 ⟨sb,bl2,mb2,R2,sv2,rv2,kv2,vs2,cs2,rfl,hst⟩
 have HST:=zh hst
 have KC:=zh (kvcommits_any hst.sd)
 clear hst KO b0
 go_wp2_with fail
 refine KC.out.mono ?_
 rintro e w2 ⟨rfl,rfl⟩
 have y2:w2.cell? ⟨bp,2,none⟩=some (.pointer (some ⟨a.bc,0,none⟩)):=HST.out.px.km.blk.cell 2
 have KT:=zh (show Calls Tryz.prog 31 #[.pointer (some ⟨sb,0,none⟩), .pointer (some ⟨a.bc,0,none⟩)] w2 fun e w'=>Fresh w2 w'/\e= .returned (.bool (tellB st.fence st.has q.f q.has)) from by
  obtain⟨v,h1,_,_⟩:=HST.out.px.km.c
  exact tells_any HST.out.sd HT1.out.1 HT1.out.2.2 h1 HT2.out.1 HT2.out.2.1)
 clear KC
 go_wp2_with fail
 refine KT.out.mono ?_
 rintro e w3 ⟨hf3,rfl⟩
 have HST3:=zh (HST.out.fresh hf3)
 obtain⟨ok0,hok0⟩:∃ok0,ok0=tellB st.fence st.has q.f q.has:=⟨_,rfl⟩
 rw[<- hok0]
 have HOK:=zh hok0
 clear hf3 hok0 y2 KT HST
 go_upto_block 0 with fail
 go_cut [7] from 8 to 68 (fun okv W=>okv= .bool true/\∃bc1,OSt w0 w W bp bd F a q sf sh sm sb bl2 mb2 R2 (openP q.p.d.fs 0) sv2 rv2 kv2 vs2 cs2 st bc1 (st.fence,st.has))
 case first=>
  go_wp2_with fail
  go_loopw [7,8] (fun okv i W=>∃(k:Nat) (okb:Bool) (bc1:Nat) (y:Int×KL),k<=L/\i= .int .i64 (k:Int)/\okv= .bool okb/\OSt w0 w W bp bd F a q sf sh sm sb bl2 mb2 R2 (openP q.p.d.fs 0) sv2 rv2 kv2 vs2 cs2 st bc1 y/\((okb=true/\y=(st.fence,st.has))\/(okb=false/\y=(q.f,q.has)/\cr=true/\(st.fence,st.has)∈q.maybe.drop k))) (fun _ i _=>L-(intOf i).toNat)
  case atStart=>
   refine⟨0,ok0,a.bc,(q.f,q.has),Nat.zero_le _,rfl,rfl,HST3.out, ?_⟩
   cases hb:ok0 with
   | true=>
    have:=HOK.out
    rw[hb]at this
    unfold tellB at this
    have:=of_decide_eq_true this.symm
    exact .inl ⟨rfl,by rw[this.1,this.2]⟩
   | false=>
    have h1:=HOK.out
    rw[hb]at h1
    unfold tellB at h1
    have h2:=of_decide_eq_false h1.symm
    rcases HAL.out with h3 | ⟨h3,h4⟩
    ·exact absurd h3 h2
    ·exact .inr ⟨rfl,rfl,h3,by rw[List.drop_zero];exact h4⟩
  case round=>
   obtain⟨k,okb,bc1,y,hk,rfl,rfl,hst,hcase⟩:=hrel
   have HS1:=zh hst
   have c3:wr.cell? ⟨bp,3,none⟩=some (.slice mA L mc):=by rw[<- HMV.out];exact hst.px.km.blk.cell 3
   cases okb with
   | true=>
    have HY:=zh (show y=(st.fence,st.has) from by
     rcases hcase with⟨_,h⟩ | ⟨h,_⟩
     ·exact h
     ·cases h)
    clear hst hcase
    by_cases hkL:k<L
    ·have hkd:decide ((k:Int)<(L:Int))=true:=decide_eq_true (by omega)
     have hki:(k:Int)<(L:Int):=by omega
     cases cr with
     | true=>
      go_wp2_with fail
      go_meet
      case rel=>exact⟨rfl,bc1,by rw[<- HY.out];exact HS1.out⟩
     | false=>
      go_wp2_with fail
      go_meet
      case rel=>exact⟨rfl,bc1,by rw[<- HY.out];exact HS1.out⟩
    ·have hkd:decide ((k:Int)<(L:Int))=false:=decide_eq_false (by omega)
     have hki:¬(k:Int)<(L:Int):=by omega
     go_wp2_with fail
     go_meet
     case rel=>exact⟨rfl,bc1,by rw[<- HY.out];exact HS1.out⟩
   | false=>
    obtain⟨hy,hcr,hmem⟩:y=(q.f,q.has)/\cr=true/\(st.fence,st.has)∈q.maybe.drop k:=by
     rcases hcase with⟨h,_⟩ | ⟨_,h⟩
     ·cases h
     ·exact h
    subst hcr
    have hkL:k<L:=by
     rw[HLM.out]
     by_cases hh:k<q.maybe.length
     ·exact hh
     ·rw[List.drop_of_length_le (by omega)]at hmem
      cases hmem
    have hkd:decide ((k:Int)<(L:Int))=true:=decide_eq_true (by omega)
    have hki:(k:Int)<(L:Int):=by omega
    obtain⟨z,hz⟩:∃z,q.maybe[k]? =some z:=⟨_,List.getElem?_eq_getElem (by rw[<- HLM.out];exact hkL)⟩
    obtain⟨bz,hbz⟩:∃bz,a.ptrs[k]? =some bz:=⟨_,List.getElem?_eq_getElem (by rw[<- HL.out];exact hkL)⟩
    have hrz:RMx wr a.Q bz z.1 z.2:=hst.px.km.mc k z bz hz hbz
    have hmo:=hst.px.km.mo
    have hmo:Own wr 34 1 a.mv a.ptrs.length (ptrsV a.ptrs):=hmo
    rw[HMV.out,<- HL.out]at hmo
    obtain⟨g,rfl⟩:∃g,mA=some ⟨g,0,none⟩:=by
     obtain⟨A',c',hv,_,_,hA'⟩:=hmo.form
     injection hv with e1 _ _
     rcases hA' with⟨_,h0,_⟩ | ⟨g,h2⟩
     ·omega
     ·exact⟨g,e1.trans h2⟩
    have cg:wr.cell? ⟨g,k,none⟩=some (.pointer (some ⟨bz,0,none⟩)):=by
     rw[hmo.cell (j:=k) (by omega)]
     simp[ptrsV,hbz]
    have HRZ:=zh hrz;have HZ:=zh hz;have HMEM:=zh hmem;have HYY:=zh hy
    have KT:=zh (show Calls Tryz.prog 31 #[.pointer (some ⟨sb,0,none⟩), .pointer (some ⟨bz,0,none⟩)] wr fun e w'=>Fresh wr w'/\e= .returned (.bool (tellB st.fence st.has z.1 z.2)) from by
     obtain⟨v,h1,_,_⟩:=hrz
     have:=HT3.out z (List.mem_of_getElem? hz)
     exact tells_any hst.sd HT1.out.1 HT1.out.2.2 h1 this.1 this.2.1)
    have hwk:IntKind.i64.wrap ((k:Int)+1)=(k:Int)+1:=IntWalk.i64_in _ (by omega)
    clear hst hcase hrz hmo hz hbz hmem hy
    go_wp2_with fail
    refine KT.out.mono ?_
    rintro e w5 ⟨hf5,rfl⟩
    have HS5:=zh (HS1.out.fresh hf5)
    have HF5:=zh hf5
    obtain⟨tb,htb⟩:∃tb,tb=tellB st.fence st.has z.1 z.2:=⟨_,rfl⟩
    rw[<- htb]
    have HTB:=zh htb
    have d3:w5.cell? ⟨bp,3,none⟩=some (.slice (some ⟨g,0,none⟩) L mc):=hf5.cell c3 id
    have dg:w5.cell? ⟨g,k,none⟩=some (.pointer (some ⟨bz,0,none⟩)):=hf5.cell cg id
    have d2:w5.cell? ⟨bp,2,none⟩=some (.pointer (some ⟨bc1,0,none⟩)):=HS5.out.px.km.blk.cell 2
    have f2:w5.frozen? ⟨bp,2,none⟩=false:=HS5.out.px.km.blk.frozen 2
    clear hf5 htb c3 cg KT
    cases tb with
    | true=>
     have HEQ:=zh (show z=(st.fence,st.has) from by
      have:=HTB.out
      unfold tellB at this
      have:=of_decide_eq_true this.symm
      rw[this.1,this.2])
     go_wp2_with fail
     go_roundw
     case rel=>
      have hs6:=HS5.out.setc hbp (HRZ.out.touch HF5.out fun _ _=>id)
      exact⟨k+1,true,bz,z,by omega,by go_num,rfl,hs6, .inl ⟨rfl,HEQ.out⟩⟩
     case measure=>simp[intOf]<;>omega
    | false=>
     have HNE:=zh (show (st.fence,st.has)∈q.maybe.drop (k+1) from by
      have h1:=HTB.out
      unfold tellB at h1
      have h2:=of_decide_eq_false h1.symm
      have h3:=HMEM.out
      obtain⟨hlt,hz⟩:=List.getElem?_eq_some_iff.1 HZ.out
      rw[List.drop_eq_getElem_cons hlt,hz]at h3
      rcases List.mem_cons.1 h3 with h3 | h3
      ·exact absurd (by rw[<- h3];exact⟨rfl,rfl⟩) h2
      ·exact h3)
     go_wp2_with fail
     go_roundw
     case rel=>exact⟨k+1,false,bc1,y,by omega,by go_num,rfl,HS5.out, .inr ⟨by first | rfl | trivial,HYY.out,by first | rfl | trivial,HNE.out⟩⟩
     case measure=>simp[intOf]<;>omega
 case rest=>
  obtain⟨rfl,bc1,hst⟩:=hcut
  obtain⟨w6,hw6⟩:∃w6,w6=wc:=⟨_,rfl⟩
  rw[<- hw6]at hst ⊢
  clear hw6
  have hb:=hst.px.km.blk
  have e1:w6.cell? ⟨bp,1,none⟩=some (.pointer (some ⟨a.bs,0,none⟩)):=hb.cell 1
  have e3:w6.cell? ⟨bp,3,none⟩=some a.mv:=hb.cell 3
  have e6:w6.cell? ⟨bp,6,none⟩=some (.bool q.broken):=hb.cell 6
  have e7:w6.cell? ⟨bp,7,none⟩=some (.int .i64 (q.cm:Int)):=hb.cell 7
  have f1:w6.frozen? ⟨bp,1,none⟩=false:=hb.frozen 1
  have f3:w6.frozen? ⟨bp,3,none⟩=false:=hb.frozen 3
  have f6:w6.frozen? ⟨bp,6,none⟩=false:=hb.frozen 6
  have f7:w6.frozen? ⟨bp,7,none⟩=false:=hb.frozen 7
  have HST6:=zh hst
  clear hst hb
  go_wp2_with fail
  go_ret
  exact⟨rfl,HST6.out.end_ hw0 HFL.out rfl⟩
end
end Go.Proofs.YtjehlgblkfofpaaGreat