/- The batch of the law KvAtomic in plain data; a store under faults, without the document's store. Conditions stand with each. -/
import Derived.Test.YtjehlgblkfofpaaGreatZa39
namespace Go.Proofs.YtjehlgblkfofpaaGreat
open Go.RowKit
def atK(i:Nat):List UInt8:= [107,UInt8.ofNat (97+i / 10),UInt8.ofNat (97+i % 10)]
def atV(r:Nat):List UInt8:= [UInt8.ofNat (48+r)]
def atL(r n:Nat):List Dec.Op:=(List.range n).map fun i=>⟨atK i,atV r,false⟩
def atP(r n:Nat):KL:=(List.range n).map fun i=>(atK i,atV r)
theorem at_lt:∀i,i<40->∀j,j<40->i<j->atK i<atK j:=by decide+kernel
theorem kput_last:∀{l:KL} {o:Dec.Op},(∀x∈l,x.1<o.k)->o.g=false->kput o l=l++ [(o.k,o.v)]
 | [],o,_,hg=>by unfold kput;rw[hg];rfl
 | x :: r,o,h,hg=>by
  have hx:=h x (List.mem_cons_self ..)
  unfold kput
  rw[if_neg (slt_ne hx),if_neg (slt_asymm hx),kput_last (fun y hy=>h y (List.mem_cons_of_mem _ hy)) hg,List.cons_append]
theorem kput_mid:∀{l r:KL} {o:Dec.Op} {v:List UInt8},(∀x∈l,x.1<o.k)->o.g=false->kput o (l++(o.k,v) :: r)=l++(o.k,o.v) :: r
 | [],r,o,v,_,hg=>by
  rw[List.nil_append]
  unfold kput
  rw[if_pos rfl,hg]
  rfl
 | x :: l,r,o,v,h,hg=>by
  have hx:=h x (List.mem_cons_self ..)
  rw[List.cons_append]
  unfold kput
  rw[if_neg (slt_ne hx),if_neg (slt_asymm hx),kput_mid (fun y hy=>h y (List.mem_cons_of_mem _ hy)) hg,List.cons_append]
theorem atL_succ(r n:Nat):atL r (n+1)=atL r n++ [⟨atK n,atV r,false⟩]:=by unfold atL;rw[List.range_succ,List.map_append];rfl
theorem atP_succ(r n:Nat):atP r (n+1)=atP r n++ [(atK n,atV r)]:=by unfold atP;rw[List.range_succ,List.map_append];rfl
theorem atP_length(r n:Nat):(atP r n).length=n:=by unfold atP;simp
theorem atL_length(r n:Nat):(atL r n).length=n:=by unfold atL;simp
theorem atP_lt{r n:Nat}(h:n<40):∀x∈atP r n,x.1<atK n:=fun x hx=>by
 unfold atP at hx
 obtain⟨i,hi,rfl⟩:=List.mem_map.1 hx
 rw[List.mem_range]at hi
 exact at_lt i (by omega) n h hi
theorem atL_new(r:Nat):∀n,n<=40->kdo [] (atL r n)=atP r n
 | 0,_=>rfl
 | n+1,h=>by
  have ih:=atL_new r n (by omega)
  unfold kdo at ih ⊢
  rw[atL_succ,List.foldl_append,ih,atP_succ]
  exact kput_last (atP_lt (by omega)) rfl
theorem atL_over(n:Nat)(hn:n<=40):∀j,j<=n->kdo (atP 1 n) (atL 2 j)=atP 2 j++(atP 1 n).drop j
 | 0,_=>rfl
 | j+1,h=>by
  have ih:=atL_over n hn j (by omega)
  unfold kdo at ih ⊢
  have hd:(atP 1 n).drop j=(atK j,atV 1) :: (atP 1 n).drop (j+1):=by
   rw[List.drop_eq_getElem_cons (by rw[atP_length];omega)]
   simp[atP]
  rw[atL_succ,List.foldl_append,ih,atP_succ,hd,List.append_assoc]
  exact kput_mid (o:=⟨atK j,atV 2,false⟩) (atP_lt (by omega)) rfl
theorem atL_two(n:Nat)(hn:n<=40):kdo (atP 1 n) (atL 2 n)=atP 2 n:=by
 rw[atL_over n hn n (Nat.le_refl _),List.drop_of_length_le (by rw[atP_length];exact Nat.le_refl _),List.append_nil]
theorem atL_right(r n:Nat):(atL r n).all rightB=true:=by
 rw[List.all_eq_true]
 intro x hx
 unfold atL at hx
 obtain⟨i,_,rfl⟩:=List.mem_map.1 hx
 exact right_iff.2 ⟨rfl,by simp[atK],by simp[atV],fun e=>by cases e⟩
theorem atL_wt(r:Nat):∀n,opwt (atL r n)=n*36
 | 0=>rfl
 | n+1=>by
  have e:opwt (atL r n++ [⟨atK n,atV r,false⟩])=opwt (atL r n)+36:=by
   unfold opwt opsum
   simp[atK,atV]
   omega
  rw[atL_succ,e,atL_wt r n]
  omega
def St3(w1 W:World)(bd:Nat)(a:KA)(bs i n T:Nat)(f:Int)(has:KL)(mb:List (Int×KL)):Prop:=∃a' q',a'.bs=bs/\SqX w1 W bd a a' q'/\KInv q' i n T Any/\q'.f=f/\q'.has=has/\q'.maybe=mb
def St3X(w1 W:World)(bd:Nat)(a:KA)(bs i n T:Nat)(f:Int)(has:KL)(mb:List (Int×KL))(lo hi:Nat):Prop:=∃a' q',a'.bs=bs/\SqX w1 W bd a a' q'/\KInv q' i n T Any/\q'.f=f/\q'.has=has/\q'.maybe=mb/\∀k,a'.sto k->k<lo\/hi<=k
def St3C(w1 W:World)(bd:Nat)(a:KA)(bs:Nat)(cuts:List Int)(i n T:Nat)(f:Int)(has:KL)(mb:List (Int×KL)):Prop:=∃a' q',a'.bs=bs/\SqX w1 W bd a a' { q' with p:={ q'.p with d:=q'.p.d.crash cuts } }/\KInv q' i n T Any/\q'.f=f/\q'.has=has/\q'.maybe=mb
section
variable {w w' w1 W W' W0:World}{bp bd bs:Nat}{F:Nat->Prop}{a a' a2:KA}{q q' q2:KP}{i n T:Nat}{f:Int}{has:KL}{mb:List (Int×KL)}
theorem St2.commitV(h:St2 w1 W bd a bs i n T f has)(hi:i<=880)(hT:T<=40000000)(hn:n<=60){l:List Dec.Op}{B:Option Addr}{nn c:Nat}(hb:Vs W0 3 B nn c (opsV l))(hB:∀a',B=some a'->0<nn->W.heap.size<=a'.block/\a'.block<W0.heap.size)(hnb:nn<=1000)(hr:l.all rightB=true)(hw:opwt l<=4256)(hf:Fresh W W0):
  Calls Tryz.prog 15 #[.pointer (some ⟨bs,0,none⟩), .int .i64 f, .slice B nn c] W0 fun e w'=>e= .returned (.int .i64 0)/\St2 w1 w' bd a bs (i+1) (n+1) (T+5000) f (kdo has l):=by
 obtain⟨a',q',h1,h2,h3,h4,h5⟩:=h
 have hx:=h2.fresh hf
 subst h4 h5 h1
 refine(commit_ok hx.sq h3 hi hT hn hb (fun a9 ha h0=> ?_) hr hnb hw).mono ?_
 ·obtain⟨e1,e2⟩:=hB a9 ha h0
  refine⟨fun e=> ?_,e2⟩
  have:=h2.sq.lt _ e
  omega
 ·rintro e w' ⟨rfl,a3,q3,e1,e2,e3,e4,e5⟩
  exact⟨rfl,a3,q3,e1,hx.trans e2,e3,e4,e5⟩
theorem St2.st3(h:St2 w1 W bd a bs i n T f has):St3 w1 W bd a bs i n T f has []:=by
 obtain⟨a',q',h1,h2,h3,h4,h5⟩:=h
 exact⟨a',q',h1,h2,h3.2.1,h4,h5,h3.2.2⟩
theorem St3.fresh(h:St3 w1 W bd a bs i n T f has mb)(hf:Fresh W W'):St3 w1 W' bd a bs i n T f has mb:=by
 obtain⟨a',q',h1,h2,h3⟩:=h
 exact⟨a',q',h1,h2.fresh hf,h3⟩
theorem St3.tch(h:St3 w1 W bd a bs i n T f has mb):Touch a.sto w1 W:=by
 obtain⟨a',q',h1,h2,h3⟩:=h
 exact h2.tch
theorem St3.x(h:St3 w1 W bd a bs i n T f has mb)(hf:Fresh W W0):St3X w1 W0 bd a bs i n T f has mb W.heap.size W0.heap.size:=by
 obtain⟨a',q',h1,h2,h3,h4,h5,h6⟩:=h
 exact⟨a',q',h1,h2.fresh hf,h3,h4,h5,h6,fun k hk=> .inl (h2.sq.lt k hk)⟩
theorem St3X.st3{lo hi:Nat}(h:St3X w1 W bd a bs i n T f has mb lo hi):St3 w1 W bd a bs i n T f has mb:=by
 obtain⟨a',q',h1,h2,h3,h4,h5,h6,_⟩:=h
 exact⟨a',q',h1,h2,h3,h4,h5,h6⟩
theorem St3C.tch{cuts:List Int}(h:St3C w1 W bd a bs cuts i n T f has mb):Touch a.sto w1 W:=by
 obtain⟨a',q',h1,h2,h3⟩:=h
 exact h2.tch
theorem St3.halt(h:St3 w1 W bd a bs i n T f has mb)(hi:i<=880){m:Nat}(hm:m<15)(hf:Fresh W W0):
  Calls Tryz.prog 13 #[.pointer (some ⟨bd,0,none⟩), .int .i64 (m:Int)] W0 fun e w'=>e= .returned (.tuple #[])/\St3X w1 w' bd a bs (i+1) n T f has mb W.heap.size W0.heap.size/\Touch (fun k=>k<W.heap.size) W0 w':=by
 obtain⟨a',q',h1,h2,h3,h4,h5,h6,hlt⟩:=h.x hf
 have hslt:=hf.size
 refine(disk_stop h2.sq.sd.ld.dk (h3.pv.small (by omega)) (by omega) (after:=(m:Int)) (by omega)).mono ?_
 rintro e w' ⟨rfl,ht,hd⟩
 have hk:=h3.halt (by omega) (m:=m) hm
 have hs:=h2.sq.sd.log (h2.sq.sd.ld.same.disk ht hd)
 obtain⟨a3,e1,e2⟩:=SB.sqx (q':={ q' with p:={ q'.p with d:=q'.p.d.halt m,stop:=(q'.p.d.ops:Int)+m } }) hs.sb rfl rfl rfl rfl h2.sq.alk
 have hlt2:∀k,a'.sto k->k<W.heap.size:=fun k hk=>(hlt k hk).elim id fun e=>by have:=h2.sq.lt k hk;omega
 exact⟨rfl,⟨a3,_,e1.trans h1,h2.trans e2,hk,h4,h5,h6,fun k hk=>(e2.sub k hk).imp (hlt2 k) id⟩,e2.tch.mono fun k _ e=>hlt2 k e⟩
theorem St3.fault(h:St3 w1 W bd a bs i n T f has mb)(hi:i<=880){m:Nat}(hm:m<15)(k:Int)(hf:Fresh W W0):
  Calls Tryz.prog 14 #[.pointer (some ⟨bd,0,none⟩), .int .i64 (m:Int), .int .i64 k] W0 fun e w'=>e= .returned (.tuple #[])/\St3X w1 w' bd a bs (i+1) n T f has mb W.heap.size W0.heap.size/\Touch (fun k=>k<W.heap.size) W0 w':=by
 obtain⟨a',q',h1,h2,h3,h4,h5,h6,hlt⟩:=h.x hf
 have hslt:=hf.size
 refine(disk_fail h2.sq.sd.ld.dk (h3.pv.small (by omega)) (by omega) (after:=(m:Int)) k (by omega)).mono ?_
 rintro e w' ⟨rfl,ht,hd⟩
 have hk:=h3.fail (by omega) (m:=m) (k:=k) hm
 have hs:=h2.sq.sd.log (h2.sq.sd.ld.same.disk ht hd)
 obtain⟨a3,e1,e2⟩:=SB.sqx (q':={ q' with p:={ q'.p with d:=q'.p.d.fail m k,struck:=q'.p.struck++ [(q'.p.d.ops:Int)+m] } }) hs.sb rfl rfl rfl rfl h2.sq.alk
 have hlt2:∀k,a'.sto k->k<W.heap.size:=fun k hk=>(hlt k hk).elim id fun e=>by have:=h2.sq.lt k hk;omega
 exact⟨rfl,⟨a3,_,e1.trans h1,h2.trans e2,hk,h4,h5,h6,fun k hk=>(e2.sub k hk).imp (hlt2 k) id⟩,e2.tch.mono fun k _ e=>hlt2 k e⟩
theorem St3X.commit{lo hi:Nat}(h:St3X w1 W bd a bs i n T f has [] lo hi)(hi_:i<=880)(hT:T<=40000000)(hn:n<=60){l:List Dec.Op}(hne:l≠ []){B:Option Addr}{nn c:Nat}(hb:Vs W 3 B nn c (opsV l))(hB:∀a',B=some a'->0<nn->lo<=a'.block/\a'.block<hi/\a'.block<W.heap.size)(hnb:nn<=1000)(hr:l.all rightB=true)(hw:opwt l<=4256):
  Calls Tryz.prog 15 #[.pointer (some ⟨bs,0,none⟩), .int .i64 f, .slice B nn c] W fun e w'=>∃er:Int,e= .returned (.int .i64 er)/\∃hs mb,St3 w1 w' bd a bs (i+1) (n+1) (T+5000) f hs mb/\(hs=has\/hs=kdo has l)/\∀y∈mb,y.2=kdo has l:=by
 obtain⟨a',q',h1,h2,h3,h4,h5,h6,h7⟩:=h
 have hln:l.length=nn:=by have:=hb.1;rw[opsV_length]at this;omega
 subst h4 h5 h1
 obtain⟨t1,t2⟩:=h3.few_ hn
 refine(commit_sq h2.sq h3 (by omega) (by omega) (by omega) (by omega) q'.f hb (fun a9 ha h0=> ?_) (by omega) (fun x hx=>by have:=right_len hr x hx;omega) (by omega)).mono ?_
 ·obtain⟨e1,e2,e3⟩:=hB a9 ha h0
  refine⟨fun e=> ?_,e3⟩
  have:=h7 _ e
  omega
 ·rintro e w' ⟨er,rfl,hce⟩
  refine⟨er,rfl, ?_⟩
  rcases hce with⟨g1,g2,g3⟩ | ⟨g1,g2,g3,ys,hy,he,a3,e1,e2⟩
  ·exfalso
   have h0:refE q'.f q'.f l=0:=by unfold refE;rw[if_neg (by simp),if_pos hr]
   rw[h0]at g1
   exact g1.elim (fun e=>e rfl) hne
  ·have hk:=(h3.ops_ (by omega) (by omega) hy hr (by omega) hw).1
   refine⟨_,_,⟨a3,_,e1,h2.trans e2,hk, ?_,rfl,rfl⟩, ?_, ?_⟩
   ·unfold KP.call;split<;>rfl
   ·unfold KP.call;split
    ·exact .inr rfl
    ·exact .inl rfl
   ·unfold KP.call;split
    ·intro y hy;cases hy
    ·intro y hy
     dsimp only at hy
     rw[h6,List.nil_append,List.mem_singleton]at hy
     rw[hy]
theorem St3.crash(h:St3 w1 W bd a bs i n T f has mb)(hi:i<=880){A:Option Addr}{m c:Nat}{cuts:List Int}(hx:IsInts W A m c cuts)(hxw:∀x∈cuts,-9223372036854775808<=x/\x<=9223372036854775807)(hxb:∀a',A=some a'->0<m->¬a.sto a'.block/\a'.block<w1.heap.size):
  Calls Tryz.prog 16 #[.pointer (some ⟨bd,0,none⟩), .slice A m c] W fun e w'=>e= .returned (.tuple #[])/\St3C w1 w' bd a bs cuts i n T f has mb:=by
 obtain⟨a',q',h1,h2,h3,h4,h5,h6⟩:=h
 subst h4 h5 h1
 refine(crash_sq h2.sq h3.pv (by omega) hx hxw fun b hb h0 e=> ?_).mono ?_
 ·obtain⟨e1,e2⟩:=hxb b hb h0
  rcases h2.sub b.block (.inr (.inr (.inr e))) with e | e
  ·exact e1 e
  ·omega
 ·rintro e w' ⟨rfl,a3,e1,e2⟩
  exact⟨rfl,a3,q',e1,h2.trans e2,h3,rfl,rfl,h6⟩
theorem St3C.reopen{cuts:List Int}(h:St3C w1 W bd a bs cuts i n T f has mb)(hi:i<=880)(hT:T<=40000000):
  Calls Tryz.prog 17 #[.pointer (some ⟨bd,0,none⟩), .int .i64 0] W fun e w'=>∃bs' f' has',e= .returned (.tuple #[.pointer (some ⟨bs',0,none⟩), .int .i64 0])/\St3 w1 w' bd a bs' (i+1) n T f' has' []/\(has'=has\/∃y∈mb,has'=y.2):=by
 obtain⟨a',q',h1,h2,h3,h4,h5,h6⟩:=h
 subst h4 h5 h1
 obtain⟨s,s1,s2,s3,s4⟩:=reopen_sq h2.sq h3 (by omega) (by omega)
 refine s4.mono ?_
 rintro e w' ⟨a3,rfl,e2⟩
 refine⟨a3.bs,s.fence,s.has,rfl,⟨a3,_,rfl,h2.trans e2,s3,rfl,rfl,rfl⟩, ?_⟩
 rcases s1 with⟨_,e⟩ | e
 ·exact .inl e
 ·rw[h6]at e
  exact .inr ⟨_,e,rfl⟩
theorem St3.sd(h:St3 w1 W bd a bs i n T f has mb):∃(a':KA) (q':KP),SD W bs a'.bl bd a'.S a'.R a'.l q'.p.d a'.sv a'.rv a'.vs a'.cs a'.kv a'.mb f has q'.cm/\∀k,a'.sto k->a.sto k\/w1.heap.size<=k:=by
 obtain⟨a',q',h1,h2,h3,h4,h5,h6⟩:=h
 subst h4 h5 h1
 exact⟨a',q',h2.sq.sd,h2.sub⟩
end
end Go.Proofs.YtjehlgblkfofpaaGreat
