/- The claims' texts, several in one: Oi. Conditions stand with each theorem. -/
import Derived.Test.YtjehlgblkfofpaaGreatZa24
import Derived.Test.YtjehlgblkfofpaaGreatZa19
import Derived.Test.YtjehlgblkfofpaaGreatZa25
import Derived.Test.YtjehlgblkfofpaaGreatZa16
namespace Go.Proofs.YtjehlgblkfofpaaGreat
open Go.RowKit
def OE(t:TypeId):Prop:=t=9
theorem OE.ne{t:TypeId}(h:t≠9):¬OE t:=h
def OS(sb hb m0 k:Nat):Prop:=k=sb\/k=hb\/k=m0
theorem CM.lke{W W':World}{b o B:Nat}{t:TypeId}{cs:Array Value}{kv:Value}{mb:Nat}{l:KL}{S:Nat->Prop}(h:CM W b o t cs kv mb l)(ht:Touch (fun k=>k=b\/cfoot kv mb k) W W')(hS:S b)(hf:∀k,cfoot kv mb k->S k\/B<=k):LKe OE S B W W':=by
 refine⟨fun k t' cs' hk hz hb=>hb.touch ht ?_,fun p v hk hz hp=>ht.cell hp ?_⟩
 ·rintro(e | e)
  ·rw[e]at hk;exact hk hS
  ·have hlt:¬k<B:=fun h1=>(hf k e).elim hk fun h2=>by omega
   rcases e with e | e
   ·exact h.keys.ne_blk hb (fun e'=>hz.elim hlt fun h2=>h2 e'.symm) e
   ·exact h.map.ne_blk hb e.symm
 ·rintro(e | e)
  ·rw[e]at hk;exact hk hS
  ·exact(hf _ e).elim hk fun h2=>by omega
theorem KeepsLoops.touch{S:Nat->Prop}{A B:World}(h:Touch S A B)(hS:∀k o,S k->A.heap[k]? =some o->o.isCells=true\/o.isWalk=true):KeepsLoops A B:=fun k o hk h1 h2=>
 (h.block k (Array.getElem?_eq_some_iff.1 hk).1 fun hs=>by
  rcases hS k o hs hk with e | e
  ·rw[h1]at e;cases e
  ·rw[h2]at e;cases e).trans hk
theorem CM.kl{W W':World}{b o:Nat}{t:TypeId}{cs:Array Value}{kv:Value}{mb:Nat}{l:KL}(h:CM W b o t cs kv mb l)(ht:Touch (fun k=>k=b\/cfoot kv mb k) W W'):KeepsLoops W W':=by
 refine .touch ht fun k o hk ho=> ?_
 rcases hk with rfl | hk | rfl
 ·have:=ho.symm.trans h.blk
  injection this with this
  rw[this];exact .inl rfl
 ·rcases h.keys.2 with⟨rfl,_⟩ | ⟨g,cap,cur,rfl,hg,_⟩
  ·cases hk
  ·have e:g=k:=by simpa [Value.ownBlock] using hk
   subst e
   have:=ho.symm.trans hg
   injection this with this
   rw[this];exact .inl rfl
 ·obtain⟨es',clock,hb,_⟩:=h.map
  have:=ho.symm.trans hb
  injection this with this
  rw[this];exact .inr rfl
theorem KeepsLoops.fresh{A B:World}(h:Fresh A B):KeepsLoops A B:=fun k _ hk _ _=>(h.block k (Array.getElem?_eq_some_iff.1 hk).1 id).trans hk
theorem KeepsLoops.trans_{A B C:World}(h:KeepsLoops A B)(h':KeepsLoops B C):KeepsLoops A C:=fun k o hk h1 h2=>h' k o (h k o hk h1 h2) h1 h2
def ShotAt(W:World)(hb:Nat)(F:Nat->Prop):Option KL->Prop
 | none=>∃hc,Blk W hb 94 hc/\hc.size=3
 | some l=>∃hc kv mb,CM W hb 0 94 hc kv mb l/\hc.size=3/\∀k,cfoot kv mb k->F k
structure OI(W0:World)(sb xb hb bl m0:Nat)(st:KS)(W:World):Prop where
 tch:Touch (OS sb hb m0) W0 W
 box:Blk W xb 33 #[.pointer (some ⟨sb,0,none⟩)]
 lt:sb<W0.heap.size/\xb<W0.heap.size/\hb<W0.heap.size/\m0<W0.heap.size
 ne:xb≠sb/\xb≠hb/\xb≠m0/\sb≠hb/\sb≠m0/\hb≠m0
 ct:∃cs kv mb,CM W sb 2 96 cs kv mb st.has/\cs.size=6/\cs[0]? =some (.pointer (some ⟨bl,0,none⟩))/\cs[1]? =some (.int .i64 st.fence)/\cs[5]? =some (.int .i64 0)/\
  (∀k,cfoot kv mb k->k=m0\/W0.heap.size<=k)/\ShotAt W hb (fun k=>W0.heap.size<=k/\¬cfoot kv mb k) st.shot
section
variable {W0 W W' W1:World}{sb xb hb bl m0:Nat}{st:KS}
theorem ShotAt.touch{F S:Nat->Prop}{s:Option KL}(h:ShotAt W hb F s)(ht:Touch S W W')(h0:¬S hb)(hF:∀k,F k->¬S k):ShotAt W' hb F s:=by
 cases s with
 | none=>
  obtain⟨hc,h1,h2⟩:=h
  exact⟨hc,h1.touch ht h0,h2⟩
 | some l=>
  obtain⟨hc,kv,mb,h1,h2,h3⟩:=h
  refine⟨hc,kv,mb,h1.touch ht fun k hk=> ?_,h2,h3⟩
  rcases hk with e | hk
  ·rw[e];exact h0
  ·exact hF k (h3 k hk)
theorem ShotAt.weak{F G:Nat->Prop}{s:Option KL}(h:ShotAt W hb F s)(hF:∀l,s=some l->∀k,k<W.heap.size->F k->G k):ShotAt W hb G s:=by
 cases s with
 | none=>exact h
 | some l=>
  obtain⟨hc,kv,mb,h1,h2,h3⟩:=h
  exact⟨hc,kv,mb,h1,h2,fun k hk=>hF l rfl k (h1.lt k (.inr hk)) (h3 k hk)⟩
theorem OI.fresh(h:OI W0 sb xb hb bl m0 st W)(hf:Fresh W W'):OI W0 sb xb hb bl m0 st W':=by
 obtain⟨cs,kv,mb,h1,h2,h3,h4,h5,h6,h7⟩:=h.ct
 exact⟨h.tch.trans hf fun _ _=>False.elim,h.box.touch hf id,h.lt,h.ne,cs,kv,mb,h1.fresh hf,h2,h3,h4,h5,h6,h7.touch hf id fun _ _=>id⟩
theorem OI.putw(h:OI W0 sb xb hb bl m0 st W){cs:Array Value}{kv:Value}{mb:Nat}{l:KL}(h1:CM W sb 2 96 cs kv mb st.has)(h2:cs.size=6)(h3:cs[0]? =some (.pointer (some ⟨bl,0,none⟩)))(h4:cs[1]? =some (.int .i64 st.fence))(h5:cs[5]? =some (.int .i64 0))
  (h6:∀k,cfoot kv mb k->k=m0\/W0.heap.size<=k) (h7:ShotAt W hb (fun k=>W0.heap.size<=k/\¬cfoot kv mb k) st.shot) (hp:PutW W sb 2 96 cs kv mb l W'):
  OI W0 sb xb hb bl m0 { st with has:=l } W'/\LKe OE (OS sb hb m0) W0.heap.size W W':=by
 obtain⟨cs',kv',g1,g2,g3,g4,g5⟩:=hp
 have hsz:=h.tch.size
 have hlt:=h.lt;have hne:=h.ne
 have hx:¬(xb=sb\/cfoot kv mb xb):=by
  rintro(e | e)
  ·omega
  ·rcases h6 _ e with e | e<;>omega
 have hh:¬(hb=sb\/cfoot kv mb hb):=by
  rintro(e | e)
  ·omega
  ·rcases h6 _ e with e | e<;>omega
 refine⟨⟨h.tch.trans g2 fun k hk e=> ?_,h.box.touch g2 hx,h.lt,h.ne,cs',kv',mb,g1,by rw[g4];exact h2,by rw[g5 0 (by omega)];exact h3,by rw[g5 1 (by omega)];exact h4,by rw[g5 5 (by omega)];exact h5,fun k hk=> ?_, ?_⟩,h1.lke g2 (.inl rfl) fun k hk=>(h6 k hk).imp (fun e=> .inr (.inr e)) id⟩
 ·rcases e with e | e
  ·exact .inl e
  ·rcases h6 k e with e | e
   ·exact .inr (.inr e)
   ·omega
 ·rcases hk with hk | hk
  ·exact(g3 k hk).elim (fun e=>h6 k (.inl e)) fun e=> .inr (by omega)
  ·exact h6 k (.inr hk)
 ·refine((h7.weak (G:=fun k=>(W0.heap.size<=k/\¬cfoot kv mb k)/\k<W.heap.size) fun _ _ k hlt hk=>⟨hk,hlt⟩).touch g2 hh fun k hk e=> ?_).weak fun _ _ k _ hk=>⟨hk.1.1,fun e=> ?_⟩
  ·have h8:=hk.1.1
   rcases e with e | e
   ·omega
   ·exact hk.1.2 e
  ·rcases e with e | e
   ·exact(g3 k e).elim (fun e=>hk.1.2 (.inl e)) fun e=>by have:=hk.2;omega
   ·exact hk.1.2 (.inr e)
theorem CM.setc{b o i:Nat}{t:TypeId}{cs:Array Value}{kv:Value}{mb:Nat}{l:KL}(h:CM W b o t cs kv mb l)(u:Value)(hi:i<o\/o+2<i):CM (W.setCell ⟨b,i,none⟩ u) b o t (cs.setIfInBounds i u) kv mb l:=by
 have hn:=h.ne
 have ht:Touch (fun k=>k=b) W (W.setCell ⟨b,i,none⟩ u):=(Touch.refl (fun k=>k=b) W).setCell (p:=⟨b,i,none⟩) (.inr rfl) u
 refine⟨h.blk.set_ i u, ?_, ?_, ?_,h.keys.touch ht fun k hk e=> ?_,h.map.touch ht hn.2.1,h.sort,h.tne⟩
 ·rw[Array.getElem?_setIfInBounds_ne (by omega)];exact h.c0
 ·rw[Array.getElem?_setIfInBounds_ne (by omega)];exact h.c1
 ·rw[Array.getElem?_setIfInBounds_ne (by omega)];exact h.c2
 ·rw[e]at hk;exact hn.1 hk
theorem OI.fenced(h:OI W0 sb xb hb bl m0 st W)(f:Int):OI W0 sb xb hb bl m0 { st with fence:=f } (W.setCell ⟨sb,1,none⟩ (.int .i64 f))/\LKe OE (OS sb hb m0) W0.heap.size W (W.setCell ⟨sb,1,none⟩ (.int .i64 f)):=by
 obtain⟨cs,kv,mb,h1,h2,h3,h4,h5,h6,h7⟩:=h.ct
 have hne:=h.ne;have hlt:=h.lt
 have ht:Touch (fun k=>k=sb) W (W.setCell ⟨sb,1,none⟩ (.int .i64 f)):=(Touch.refl (fun k=>k=sb) W).setCell (p:=⟨sb,1,none⟩) (.inr rfl) _
 refine⟨⟨h.tch.trans ht fun k _ e=> .inl e,h.box.touch ht (by omega),h.lt,h.ne,_,kv,mb,h1.setc (.int .i64 f) (by omega),by rw[Array.size_setIfInBounds];exact h2, ?_, ?_, ?_,h6,h7.touch ht (by omega) fun k hk e=>by have:=hk.1;omega⟩, .touch (ht.mono fun k _ e=> .inl e)⟩
 ·rw[Array.getElem?_setIfInBounds_ne (by omega)];exact h3
 ·rw[Array.getElem?_setIfInBounds_self_of_lt (by omega)]
 ·rw[Array.getElem?_setIfInBounds_ne (by omega)];exact h5
def set3(W:World)(b o:Nat)(u0 u1 u2:Value):World:=((W.setCell ⟨b,o,none⟩ u0).setCell ⟨b,o+1,none⟩ u1).setCell ⟨b,o+2,none⟩ u2
theorem set3_touch(W:World)(b o:Nat)(u0 u1 u2:Value):Touch (fun k=>k=b) W (set3 W b o u0 u1 u2):=(((Touch.refl (fun k=>k=b) W).setCell (p:=⟨b,o,none⟩) (.inr rfl) u0).setCell (p:=⟨b,o+1,none⟩) (.inr rfl) u1).setCell (p:=⟨b,o+2,none⟩) (.inr rfl) u2
theorem set3_cm{b o:Nat}{t:TypeId}{cs:Array Value}{kv:Value}{mb:Nat}{l:KL}(hb:Blk W b t cs)(hsz:o+2<cs.size)(hk:Own W 9 1 kv l.length (keysV l))(hm:SMap W mb l)(hs:KSort l)(ht:t≠9):
  ∃cs',CM (set3 W b o kv (.map (some mb)) (.int .i64 (ksize l:Int))) b o t cs' kv mb l/\cs'.size=cs.size/\∀j,(j<o\/o+2<j)->cs'[j]? =cs[j]? :=by
 have hT:=set3_touch W b o kv (.map (some mb)) (.int .i64 (ksize l:Int))
 have h1:=((hb.set_ o kv).set_ (o+1) (.map (some mb))).set_ (o+2) (.int .i64 (ksize l:Int))
 refine⟨_,⟨h1, ?_, ?_, ?_,hk.touch hT fun k e e'=> ?_,hm.touch hT (hm.ne_blk hb),hs,ht⟩,by simp only[Array.size_setIfInBounds],fun j hj=> ?_⟩
 ·rw[Array.getElem?_setIfInBounds_ne (by omega),Array.getElem?_setIfInBounds_ne (by omega),Array.getElem?_setIfInBounds_self_of_lt (by omega)]
 ·rw[Array.getElem?_setIfInBounds_ne (by omega),Array.getElem?_setIfInBounds_self_of_lt (by simp only[Array.size_setIfInBounds];omega)]
 ·rw[Array.getElem?_setIfInBounds_self_of_lt (by simp only[Array.size_setIfInBounds];omega)]
 ·rw[e']at e;exact hk.ne_blk hb (fun e=>ht e.symm) e
 ·rw[Array.getElem?_setIfInBounds_ne (by omega),Array.getElem?_setIfInBounds_ne (by omega),Array.getElem?_setIfInBounds_ne (by omega)]
theorem ShotAt.blk{F:Nat->Prop}{s:Option KL}(h:ShotAt W hb F s):∃hc,Blk W hb 94 hc/\hc.size=3:=by
 cases s with
 | none=>exact h
 | some l=>
  obtain⟨hc,kv,mb,h1,h2,_⟩:=h
  exact⟨hc,h1.blk,h2⟩
theorem OI.start(h:OI W0 sb xb hb bl m0 st W1)(hf:Fresh W1 W){mb:Nat}(hm:SMap W mb [])(hge:W1.heap.size<=mb):
  OI W0 sb xb hb bl m0 { st with shot:=some [] } (set3 W hb 0 (.slice none 0 0) (.map (some mb)) (.int .i64 0))/\LKe OE (OS sb hb m0) W0.heap.size W1 (set3 W hb 0 (.slice none 0 0) (.map (some mb)) (.int .i64 0)):=by
 have hsz:=h.tch.size;have hlt:=h.lt;have hne:=h.ne;have hsz2:=hf.size
 obtain⟨cs,kv,mb2,h1,h2,h3,h4,h5,h6,h7⟩:=h.ct
 have hlt2:=h1.lt
 obtain⟨hc,hB,hcs⟩:=h7.blk
 obtain⟨hc',g1,g2,g3⟩:=set3_cm (o:=0) (l:= []) (hB.touch hf id) (by omega) (Own.nil_ W 9 1) hm (by simp[KSort]) (by decide)
 have ht:=set3_touch W hb 0 (.slice none 0 0) (.map (some mb)) (.int .i64 0)
 have hT:Touch (fun k=>k=hb) W1 (set3 W hb 0 (.slice none 0 0) (.map (some mb)) (.int .i64 0)):=(hf.mono fun _ _=>False.elim).trans ht fun _ _ e=>e
 have hh:¬cfoot kv mb2 hb:=fun e=>by rcases h6 _ e with e | e<;>omega
 refine⟨⟨h.tch.trans hT fun k _ e=> .inr (.inl e),h.box.touch hT hne.2.1,h.lt,h.ne,cs,kv,mb2,h1.touch hT ?_,h2,h3,h4,h5,h6,hc', .slice none 0 0,mb,g1,by omega, ?_⟩, .touch (hT.mono fun k _ e=> .inr (.inl e))⟩
 ·rintro k (e | e) e'
  ·omega
  ·rw[e']at e;exact hh e
 ·rintro k (e | e)
  ·cases e
  ·exact⟨by omega,fun e'=>by have:=hlt2 k (.inr e');omega⟩
theorem OI.part(h:OI W0 sb xb hb bl m0 st W){l:KL}(hs:st.shot=some l):∃hc kv mb,CM W hb 0 94 hc kv mb l/\∀l' W',PutW W hb 0 94 hc kv mb l' W'->OI W0 sb xb hb bl m0 { st with shot:=some l' } W'/\LKe OE (OS sb hb m0) W0.heap.size W W':=by
 obtain⟨cs,kv,mb,h1,h2,h3,h4,h5,h6,h7⟩:=h.ct
 have hsz:=h.tch.size;have hlt:=h.lt;have hne:=h.ne
 rw[hs]at h7
 obtain⟨hc,kv2,mb2,q1,q2,q3⟩:=h7
 refine⟨hc,kv2,mb2,q1,fun l' W' ⟨cs',kv',g1,g2,g3,g4,g5⟩=> ?_⟩
 have hx:¬(xb=hb\/cfoot kv2 mb2 xb):=by
  rintro(e | e)
  ·omega
  ·have:=(q3 _ e).1;omega
 have hlt2:=h1.lt
 refine⟨⟨h.tch.trans g2 fun k hk e=> ?_,h.box.touch g2 hx,h.lt,h.ne,cs,kv,mb,h1.touch g2 ?_,h2,h3,h4,h5,h6,cs',kv',mb2,g1,by omega,fun k hk=> ?_⟩,q1.lke g2 (.inr (.inl rfl)) fun k hk=> .inr (q3 k hk).1⟩
 ·rcases e with e | e
  ·exact .inr (.inl e)
  ·have:=(q3 k e).1;omega
 ·rintro k (e | e) (e' | e')
  ·omega
  ·have:=(q3 k e').1;omega
  ·rcases h6 k e with e | e<;>omega
  ·exact(q3 k e').2 e
 ·rcases hk with hk | hk
  ·rcases g3 k hk with e | e
   ·exact q3 k (.inl e)
   ·exact⟨by omega,fun e'=>by have:=hlt2 k (.inr e');omega⟩
  ·exact q3 k (.inr hk)
theorem OI.fin(h:OI W0 sb xb hb bl m0 st W1)(f:Int){l:KL}(hs:st.shot=some l):∃hc kv2 mb2,CM W1 hb 0 94 hc kv2 mb2 l/\∀{W:World} {mb:Nat},Fresh W1 W->SMap W mb []->W1.heap.size<=mb->
  OI W0 sb xb hb bl m0 ⟨f,l,some []⟩ (set3 (set3 (W.setCell ⟨sb,1,none⟩ (.int .i64 f)) sb 2 kv2 (.map (some mb2)) (.int .i64 (ksize l:Int))) hb 0 (.slice none 0 0) (.map (some mb)) (.int .i64 0))/\
  LKe OE (OS sb hb m0) W0.heap.size W1 (set3 (set3 (W.setCell ⟨sb,1,none⟩ (.int .i64 f)) sb 2 kv2 (.map (some mb2)) (.int .i64 (ksize l:Int))) hb 0 (.slice none 0 0) (.map (some mb)) (.int .i64 0)):=by
 obtain⟨cs,kv,mb0,h1,h2,h3,h4,h5,h6,h7⟩:=h.ct
 have hsz:=h.tch.size;have hlt:=h.lt;have hne:=h.ne
 rw[hs]at h7
 obtain⟨hc,kv2,mb2,q1,q2,q3⟩:=h7
 refine⟨hc,kv2,mb2,q1,fun {W mb} hf hm hge=> ?_⟩
 have hsz2:=hf.size
 have hlt2:=q1.lt
 obtain⟨WA,hWA⟩:∃WA,WA=W.setCell ⟨sb,1,none⟩ (.int .i64 f):=⟨_,rfl⟩
 have tA:Touch (fun k=>k=sb) W WA:=by rw[hWA];exact(Touch.refl (fun k=>k=sb) W).setCell (p:=⟨sb,1,none⟩) (.inr rfl) _
 have bA:Blk WA sb 96 (cs.setIfInBounds 1 (.int .i64 f)):=by rw[hWA];exact(h1.blk.touch hf id).set_ 1 _
 have nh:∀k,cfoot kv2 mb2 k->k≠sb/\k≠hb:=fun k hk=>by have:=(q3 k hk).1;omega
 have kA:=(q1.keys.touch hf fun _ _=>id).touch tA fun k hk=>(nh k (.inl hk)).1
 have mA:=(q1.map.touch hf id).touch tA (nh mb2 (.inr rfl)).1
 obtain⟨cs',g1,g2,g3⟩:=set3_cm (o:=2) bA (by rw[Array.size_setIfInBounds];omega) kA mA q1.sort (by decide)
 have tB:=set3_touch WA sb 2 kv2 (.map (some mb2)) (.int .i64 (ksize l:Int))
 have tAB:Touch (fun k=>k=sb) W (set3 WA sb 2 kv2 (.map (some mb2)) (.int .i64 (ksize l:Int))):=tA.trans tB fun _ _ e=>e
 obtain⟨hc',e1,e2,e3⟩:=set3_cm (o:=0) (l:= []) ((q1.blk.touch hf id).touch tAB (by omega)) (by omega) (Own.nil_ _ 9 1) (hm.touch tAB (by omega)) (by simp[KSort]) (by decide)
 have tC:=set3_touch (set3 WA sb 2 kv2 (.map (some mb2)) (.int .i64 (ksize l:Int))) hb 0 (.slice none 0 0) (.map (some mb)) (.int .i64 0)
 have tT:Touch (fun k=>k=sb\/k=hb) W1 (set3 (set3 WA sb 2 kv2 (.map (some mb2)) (.int .i64 (ksize l:Int))) hb 0 (.slice none 0 0) (.map (some mb)) (.int .i64 0)):=
  ((hf.mono fun _ _=>False.elim).trans tAB fun _ _ e=> .inl e).trans tC fun _ _ e=> .inr e
 rw[<- hWA]
 refine⟨⟨h.tch.trans tT fun k _ e=>e.elim .inl fun e=> .inr (.inl e),h.box.touch tT (by omega),h.lt,h.ne,cs',kv2,mb2,g1.touch tC ?_,by rw[g2,Array.size_setIfInBounds];exact h2, ?_, ?_, ?_,fun k hk=> .inr (q3 k hk).1,hc', .slice none 0 0,mb,e1,by omega, ?_⟩, .touch (tT.mono fun k _ e=>e.elim .inl fun e=> .inr (.inl e))⟩
 ·rintro k (e | e) e'
  ·omega
  ·exact(nh k e).2 e'
 ·rw[g3 0 (by omega),Array.getElem?_setIfInBounds_ne (by omega)];exact h3
 ·rw[g3 1 (by omega),Array.getElem?_setIfInBounds_self_of_lt (by omega)]
 ·rw[g3 5 (by omega),Array.getElem?_setIfInBounds_ne (by omega)];exact h5
 ·rintro k (e | e)
  ·cases e
  ·exact⟨by omega,fun e'=>by have:=hlt2 k (.inr e');omega⟩
theorem OI.does(h:OI W0 sb xb hb bl m0 st W1)(hf:Fresh W1 W){A:Option Addr}{n c:Nat}{ops:List Dec.Op}(hv:Vs W 3 A n c (opsV ops))(hA:∀a,A=some a->0<n->W1.heap.size<=a.block/\a.block<W.heap.size)
  (hb_:∀x∈ops,x.k.length<=1000000/\x.v.length<=1000000) (hl:st.has.length+ops.length<=400000000) (hz:ksize st.has+opsum ops<=1000000000):
  Calls Tryz.prog 46 #[.pointer (some ⟨sb,0,none⟩), .slice A n c] W fun e W'=>e= .returned (.tuple #[])/\OI W0 sb xb hb bl m0 { st with has:=kdo st.has ops } W'/\LKe OE (OS sb hb m0) W0.heap.size W1 W'/\KeepsLoops W1 W':=by
 obtain⟨cs,kv,mb,h1,h2,h3,h4,h5,h6,h7⟩:=h.ct
 have hlt:=h1.lt
 refine(do_any (h1.fresh hf) A n c ops hv (fun a ha h0=>⟨fun e=> ?_,(hA a ha h0).2⟩) hb_ hl hz).mono ?_
 ·have:=hlt _ e
  have:=(hA a ha h0).1
  omega
 ·rintro e W' ⟨rfl,hp⟩
  obtain⟨q1,q2⟩:=(h.fresh hf).putw (h1.fresh hf) h2 h3 h4 h5 h6 (h7.touch hf id fun _ _=>id) hp
  obtain⟨_,_,_,p2,_⟩:=hp
  exact⟨rfl,q1,(LKe.fresh hf).trans_ q2,(KeepsLoops.fresh hf).trans_ ((h1.fresh hf).kl p2)⟩
theorem touch_putObj(A:World)(k:Nat)(o:Obj):Touch (fun j=>j=k) A (A.putObj k o):=by
 have hg:=grownBy_putObj' A k o
 exact⟨hg.os,hg.tape,hg.output,hg.size,fun j hj hn=>hg.block j hj fun e=>hn (by injection e)⟩
theorem CM.loop{A:World}{k b o:Nat}{ob:Obj}{t:TypeId}{cs:Array Value}{kv:Value}{mb:Nat}{l:KL}(h:CM A b o t cs kv mb l)(hl:A.heap[k]? =some ob)(hcl:ob.isCells=false)(hwk:ob.isWalk=false):∀j,(j=b\/cfoot kv mb j)->¬j=k:=by
 rintro j hj rfl
 rcases hj with rfl | hj | rfl
 ·have:=hl.symm.trans h.blk
  injection this with this
  rw[this]at hcl;cases hcl
 ·rcases h.keys.2 with⟨rfl,_⟩ | ⟨g,cap,cur,rfl,hg,_⟩
  ·cases hj
  ·have e:g=j:=by simpa [Value.ownBlock] using hj
   subst e
   have:=hl.symm.trans hg
   injection this with this
   rw[this]at hcl;cases hcl
 ·obtain⟨es',clock,hb,_⟩:=h.map
  have:=hl.symm.trans hb
  injection this with this
  rw[this]at hwk;cases hwk
theorem OI.put_{A:World}{k:Nat}{ob:Obj}(o':Obj)(h:OI W0 sb xb hb bl m0 st A)(hk:W0.heap.size<=k)(hl:A.heap[k]? =some ob)(hcl:ob.isCells=false)(hwk:ob.isWalk=false):OI W0 sb xb hb bl m0 st (A.putObj k o'):=by
 obtain⟨cs,kv,mb,h1,h2,h3,h4,h5,h6,h7⟩:=h.ct
 have hlt:=h.lt
 have ht:=touch_putObj A k o'
 have h8:ShotAt (A.putObj k o') hb (fun k=>W0.heap.size<=k/\¬cfoot kv mb k) st.shot:=by
  generalize st.shot=s at h7
  cases s with
  | none=>
   obtain⟨hc,q1,q2⟩:=h7
   exact⟨hc,q1.touch ht (by omega),q2⟩
  | some l=>
   obtain⟨hc,kv2,mb2,q1,q2,q3⟩:=h7
   exact⟨hc,kv2,mb2,q1.touch ht (q1.loop hl hcl hwk),q2,q3⟩
 exact⟨h.tch.trans ht fun j hj e=>by omega,h.box.touch ht (by omega),h.lt,h.ne,cs,kv,mb,h1.touch ht (h1.loop hl hcl hwk),h2,h3,h4,h5,h6,h8⟩
theorem OI.loop{A:World}{k:Nat}{r:Loop}(r':Loop)(h:OI W0 sb xb hb bl m0 st A)(hk:W0.heap.size<=k)(hl:A.heap[k]? =some (.loop r)):OI W0 sb xb hb bl m0 st (A.putObj k (.loop r')):=h.put_ _ hk hl rfl rfl
theorem LKe.put{E:TypeId->Prop}{S:Nat->Prop}{B:Nat}(A:World)(k:Nat)(o o':Obj)(hk:A.heap[k]? =some o)(hc:o.isCells=false):LKe E S B A (A.putObj k o'):=by
 have ht:=touch_putObj A k o'
 refine⟨fun j t cs _ _ hb=>hb.touch ht ?_,fun p v _ _ hp=>ht.cell hp ?_⟩
 ·rintro rfl
  have:=hk.symm.trans hb
  injection this with this
  rw[this]at hc
  cases hc
 ·intro e
  obtain⟨o2,h1,h2⟩:=cells_of_cell hp
  rw[e]at h1
  have:=hk.symm.trans h1
  injection this with this
  rw[this,h2]at hc
  cases hc
theorem OI.base{cs:Array Value}{kv:Value}(h1:CM W sb 2 96 cs kv m0 [])(h2:cs.size=6)(h3:cs[0]? =some (.pointer (some ⟨bl,0,none⟩)))(h4:cs[1]? =some (.int .i64 0))(h5:cs[5]? =some (.int .i64 0))(hk:kv.ownBlock=none)
  (hx:Blk W xb 33 #[.pointer (some ⟨sb,0,none⟩)]) {hc:Array Value} (hh:Blk W hb 94 hc) (hz:hc.size=3):OI W sb xb hb bl m0 KS.new W:=by
 have e1:=hx.ne_ h1.blk (by decide)
 have e2:=hx.ne_ hh (by decide)
 have e3:=hh.ne_ h1.blk (by decide)
 have e4:=h1.map.ne_blk hx
 have e5:=h1.map.ne_blk hh
 have e6:=h1.ne.2.1
 refine⟨Touch.refl _ _,hx,⟨h1.blk.lt,hx.lt,hh.lt,h1.map.lt⟩,⟨e1,e2,Ne.symm e4,Ne.symm e3,Ne.symm e6,Ne.symm e5⟩,cs,kv,m0,h1,h2,h3,h4,h5,fun k e=> ?_,hc,hh,hz⟩
 rcases e with e | e
 ·rw[hk]at e;cases e
 ·exact .inl e
end
end Go.Proofs.YtjehlgblkfofpaaGreat