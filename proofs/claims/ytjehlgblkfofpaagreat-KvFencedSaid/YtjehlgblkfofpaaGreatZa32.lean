/- The claims' texts, several in one: Opk. Conditions stand with each theorem. -/
import Derived.Test.YtjehlgblkfofpaaGreatZa30
import Derived.Test.YtjehlgblkfofpaaGreatZa16
import Derived.Test.YtjehlgblkfofpaaGreatZa31
namespace Go.Proofs.YtjehlgblkfofpaaGreat
open Go.RowKit
def OpnK(w:World)(bd:Nat)(S:Nat->Prop)(d:Dk)(l:Lg)(st:KS)(e:Ending)(w':World):Prop:=
 ∃(sb bl mb:Nat) (R:Nat->Prop) (sv rv kv:Value) (vs:List Value) (cs:Array Value),e= .returned (.tuple #[.pointer (some ⟨sb,0,none⟩), .int .i64 0])/\Touch S w w'/\SD w' sb bl bd S R l d sv rv vs cs kv mb st.fence st.has 0/\
  ∀k,((k=sb\/cfoot kv mb k)\/lfoot bl sv rv k\/R k)->w.heap.size<=k
theorem KoEnd.opn{w w':World}{bd:Nat}{S:Nat->Prop}{d:Dk}{st:KS}{e:Ending}(h:KoEnd w bd S d st e w'):OpnK w bd S d (openP d.fs 0) st e w':=by
 obtain⟨w1,w4,sb,bl,m0,R,sv,rv,vs,rfl,h1,h2,h3,h4,h5,h6⟩:=h
 obtain⟨cs,kv,mb,q1,q2,q3,q4,q5,q6,q7⟩:=h6.ct
 have hs1:=h1.size
 have hs2:=h2.size
 have hlt:=h6.tch.size
 have hSlt:=h3.dk.below
 have hLlt:=h3.lt
 have t14:Touch S w w4:=h1.trans h2 fun _ _=>False.elim
 have hOS:∀k,OS sb (sb+2) m0 k->w1.heap.size<=k:=fun k hk=>by unfold OS at hk;omega
 have hold:∀k,lfoot bl sv rv k\/R k\/S k->k<w1.heap.size:=fun k hk=>by
  rcases hk with e | e | e
  ·exact hLlt k (.inl e)
  ·exact hLlt k (.inr e)
  ·exact hSlt k e
 have hnew:∀k,(k=sb\/cfoot kv mb k)->w1.heap.size<=k:=fun k hk=>by
  rcases hk with e | e
  ·omega
  ·rcases q6 k e with e | e<;>omega
 refine⟨sb,bl,mb,R,sv,rv,kv,vs,cs,rfl, ?_,⟨?_,q1,q3,q4,q5,fun k hk e=> ?_⟩,fun k hk=> ?_⟩
 ·exact t14.trans h6.tch fun k hk e=>by have:=hOS k e;omega
 ·exact(h3.fresh h2).away h6.tch fun k hk e=>by have:=hOS k hk;have:=hold k e;omega
 ·have:=hnew k hk;have:=hold k e;omega
 ·rcases hk with e | e
  ·have:=hnew k e;omega
  ·exact h4 k e
theorem open_sd{w:World}{bd:Nat}{S:Nat->Prop}{p:PS}{i T:Nat}(hD:Disk w S bd p.d)(hv:PInv p i T)(hi:i<=900)(hT:T<=300000000)(hl:p.l=openP p.d.fs 0){st:KS}(hr:Runs KS.new p.c.rows st):
  Calls Tryz.prog 17 #[.pointer (some ⟨bd,0,none⟩), .int .i64 0] w (OpnK w bd S p.d p.l st):=by
 obtain⟨ss,hlive,_⟩:=hv.live
 unfold Live at hlive
 have hsh:=hlive.shape
 have hc:(openP p.d.fs 0).c=p.c:=by rw[<- hl];exact hv.c
 have hb:p.l.base=0:=by rw[hl];rfl
 rw[hb]at hsh
 have h1:=hv.next;have h2:=hv.files;have h3:=hv.size
 have h4:=tot_size p.c
 rw[hl]
 exact kopen_any hD (hv.small hi) (by omega) (by omega) hsh (by rw[hc];omega) (by rw[hc];exact fun b hb=>by have:=hv.rows b hb;omega) (by rw[hc];omega) (by rw[hc];exact hr) _ fun e w' h=>h.opn
end Go.Proofs.YtjehlgblkfofpaaGreat