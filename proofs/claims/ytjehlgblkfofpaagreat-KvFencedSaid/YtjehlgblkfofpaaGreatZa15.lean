/- The claims' texts, several in one: App, Use, Play, Nic. Conditions stand with each theorem. -/
import Derived.Test.YtjehlgblkfofpaaGreatZa14
namespace Go.Proofs.YtjehlgblkfofpaaGreat
def putsOf:Nat->List (List UInt8)->List It
 | _, []=> []
 | n,b :: r=> .put n b :: putsOf (n+1) r
theorem puts_good:∀(r:List (List UInt8)) (n:Nat),n+r.length<=900000000->GoodIts n (putsOf n r)
 | [],_,h=>h
 | _ :: r,n,h=>⟨rfl,puts_good r (n+1) (by rw[List.length_cons]at h;omega)⟩
theorem puts_stop:∀(r:List (List UInt8)) (n:Nat),endOf n (putsOf n r)=n+r.length
 | [],_=>rfl
 | _ :: r,n=>by
  show endOf (n+1) (putsOf (n+1) r)= _
  rw[puts_stop r (n+1),List.length_cons]
  omega
theorem puts_items:∀(r:List (List UInt8)) (c:Ct),c.items (putsOf c.next r)=⟨c.first,c.rows++r⟩
 | [],c=>by simp[putsOf,Ct.items]
 | b :: r,c=>by
  have e:c.item (.put c.next b)=c.add b:=if_pos rfl
  show ((c.item (.put c.next b)).items (putsOf (c.next+1) r))= _
  rw[e]
  have:=puts_items r (c.add b)
  rw[Ct.next_add]at this
  rw[this]
  simp[Ct.add]
def Ct.puts(c:Ct):List It:=putsOf c.first c.rows
def Ct.size(c:Ct):Nat:=(encs c.puts).length
theorem puts_mem:∀{r:List (List UInt8)} {n:Nat} {i:It},i∈putsOf n r->∃m b,i= .put m b/\n<=m/\m<n+r.length/\b∈r
 | [],_,_,h=>by cases h
 | b :: r,n,i,h=>by
  rcases List.mem_cons.1 h with rfl | h
  ·exact⟨n,b,rfl,Nat.le_refl _,by simp,by simp⟩
  ·obtain⟨m,b',h1,h2,h3,h4⟩:=puts_mem h
   exact⟨m,b',h1,by omega,by rw[List.length_cons];omega,List.mem_cons_of_mem _ h4⟩
theorem enc_len_put(n:Nat)(b:List UInt8):(It.put n b).enc.length=b.length+25:=by simp only[It.enc,List.length_append,metaF_len,Enc.frame_len,List.length_cons,List.length_nil];omega
theorem encs_puts_len:∀(r:List (List UInt8)) (n:Nat),(encs (putsOf n r)).length=(r.map fun b=>b.length+25).sum
 | [],_=>rfl
 | b :: r,n=>by
  show (encs (.put n b :: putsOf (n+1) r)).length= _
  rw[encs_cons,List.length_append,enc_len_put,encs_puts_len r (n+1),List.map_cons,List.sum_cons]
theorem Ct.size_eq(c:Ct):c.size=(c.rows.map fun b=>b.length+25).sum:=encs_puts_len _ _
theorem Ct.size_add(c:Ct)(b:List UInt8):(c.add b).size=c.size+(b.length+25):=by
 rw[Ct.size_eq,Ct.size_eq]
 simp[Ct.add]
theorem sum_drop:∀(l:List Nat) (k:Nat),(l.drop k).sum<=l.sum
 | [],k=>by simp
 | a :: l,0=>by simp
 | a :: l,k+1=>by
  have:=sum_drop l k
  rw[List.drop_succ_cons,List.sum_cons]
  omega
theorem Ct.size_cut(c:Ct)(n:Nat):(c.cut n).size<=c.size:=by
 rw[Ct.size_eq,Ct.size_eq]
 unfold Ct.cut
 split
 ·dsimp only
  rw[List.map_drop]
  exact sum_drop _ _
 ·exact Nat.le_refl _
def Live(d:Dk)(l:Lg)(ss:List AS)(A:Ct->Prop):Prop:=Disked d.fs l.base ss l.c A l.segs l.dirty
def appendP(d:Dk)(l:Lg)(b:List UInt8):Dk×Lg×Nat×Int:=
 if 1048576<b.length then (d,{ l with failed:=false },0,5)
 else if (writeP d l (It.put l.c.next b).enc).2.2≠0 then ((writeP d l (It.put l.c.next b).enc).1,(writeP d l (It.put l.c.next b).enc).2.1,0,(writeP d l (It.put l.c.next b).enc).2.2)
 else ((tidyP l.c.first (writeP d l (It.put l.c.next b).enc).1 (setLast (writeP d l (It.put l.c.next b).enc).2.1.segs (l.c.next+1))).1,
  { (writeP d l (It.put l.c.next b).enc).2.1 with c:=l.c.add b,segs:=(tidyP l.c.first (writeP d l (It.put l.c.next b).enc).1 (setLast (writeP d l (It.put l.c.next b).enc).2.1.segs (l.c.next+1))).2 },l.c.next,0)
def sizes(segs:List Seg):Nat:=(segs.map Seg.size).sum
def cutW(d:Dk)(l:Lg)(b:Nat):Dk×Lg×Int:=
 if 2*(encs (l.c.cut b).puts).length+4096<sizes l.segs then beginP d l true b b (encs (l.c.cut b).puts) else writeP d l (It.cut b).enc
def cutP(d:Dk)(l:Lg)(before:Int):Dk×Lg×Int:=
 if min before l.c.next<=l.c.first then (d,{ l with failed:=false },0)
 else if (cutW d l (min before l.c.next).toNat).2.2≠0 then cutW d l (min before l.c.next).toNat
 else ((tidyP (min before l.c.next).toNat (cutW d l (min before l.c.next).toNat).1 (cutW d l (min before l.c.next).toNat).2.1.segs).1,
  { (cutW d l (min before l.c.next).toNat).2.1 with c:=l.c.cut (min before l.c.next).toNat,segs:=(tidyP (min before l.c.next).toNat (cutW d l (min before l.c.next).toNat).1 (cutW d l (min before l.c.next).toNat).2.1.segs).2 },0)
section
variable {d:Dk}{l:Lg}{ss:List AS}{A:Ct->Prop}
structure Went(d':Dk)(l l':Lg)(e:Int)(ss:List AS)(A:Ct->Prop)(c':Ct):Prop where
 base:l'.base=l.base
 good:e=0->l'.failed=false/\l'.c=c'/\∃ss',Live d' l' ss' (fun _=>False)/\lastNum ss'<=lastNum ss+1
 bad:e≠0->(e=3\/e=4)/\l'.failed=true/\l'.c=l.c/\Live d' l' ss fun x=>A x\/x=c'
theorem append_law(h:Live d l ss A)(hu:d.fs.length+l.segs.length<1048576){b:List UInt8}{K:Nat}(hK:K<=4611686018427387904)(hr:∀f∈d.fs,f.raw.length<=K)(h1:lastNum ss<=K)(h2:l.c.next<=K)(h3:b.length+25<=K)(hb:b.length<=1048576)(h9:l.c.next<900000000):
  Went (appendP d l b).1 l (appendP d l b).2.1 (appendP d l b).2.2.2 ss A (l.c.add b)/\((appendP d l b).2.2.2=0->(appendP d l b).2.2.1=l.c.next)/\((appendP d l b).2.2.2≠0->(appendP d l b).2.2.1=0):=by
 have hit:(It.put l.c.next b).fine:=⟨by omega,hb⟩
 have hg:GoodIts l.c.next [.put l.c.next b]:=⟨rfl,h9⟩
 have hca:l.c.item (.put l.c.next b)=l.c.add b:=if_pos rfl
 obtain⟨w1,w2⟩:=write_law h rfl hu hit hg hK hr h1 h2 (by rw[enc_len_put];exact h3)
 rw[hca]at w1 w2
 unfold appendP
 rw[if_neg (by omega)]
 generalize writeP d l (It.put l.c.next b).enc=r at*
 obtain⟨d',l',e⟩:=r
 dsimp only at*
 by_cases he:e=0
 ·rw[if_neg (by rw[he];simp)]
  obtain⟨⟨ss',k1,k2,k3,k4⟩,⟨l0,s,k5,k6⟩,k7⟩:=w1 he
  have hlg:l'.base=l.base:=by rw[k7]
  have hD:Disked d'.fs l.base ss' (l.c.add b) (fun _=>False) (setLast l'.segs (l.c.next+1)) false:=⟨k1,by rw[<- Ct.next_add (b:=b)];exact k3,fun _=>k2⟩
  obtain⟨ss2,m1,m2⟩:=tidy_law (first:=l.c.first) hD rfl
  refine⟨⟨hlg,fun _=>⟨by rw[k7],rfl,ss2, ?_,by omega⟩,fun h=>absurd rfl h⟩,fun _=>rfl,fun h=>absurd rfl h⟩
  show Disked _ l'.base ss2 (l.c.add b) _ _ l'.dirty
  rw[hlg,show l'.dirty=false by rw[k7]]
  exact m1
 ·rw[if_pos he]
  obtain⟨k1,k2,k3⟩:=w2 he
  refine⟨⟨by rw[k3],fun h=>absurd h he,fun _=>⟨k1,by rw[k3],by rw[k3], ?_⟩⟩,fun h=>absurd h he,fun _=>rfl⟩
  rw[k3]
  exact k2
theorem cut_whole(h:Live d l ss A)(hu:d.fs.length+l.segs.length<1048576){b:Nat}{K:Nat}(hK:K<=4611686018427387904)(hr:∀f∈d.fs,f.raw.length<=K)(h1:lastNum ss<=K)(_h2:l.c.next<=K)(h3:l.c.size<=K)(hrow:∀r∈l.c.rows,r.length<=1048576)(h9:l.c.next<900000000)(hb1:l.c.first<b)(hb2:b<=l.c.next):
  ((beginP d l true b b (encs (l.c.cut b).puts)).2.2=0->∃ss',Disked (beginP d l true b b (encs (l.c.cut b).puts)).1.fs l.base ss' (l.c.cut b) (fun _=>False) (beginP d l true b b (encs (l.c.cut b).puts)).2.1.segs false/\lastNum ss'<=lastNum ss+1/\
   (beginP d l true b b (encs (l.c.cut b).puts)).2.1={ l with segs:=(beginP d l true b b (encs (l.c.cut b).puts)).2.1.segs,failed:=false,dirty:=false })/\
  ((beginP d l true b b (encs (l.c.cut b).puts)).2.2≠0->((beginP d l true b b (encs (l.c.cut b).puts)).2.2=3\/(beginP d l true b b (encs (l.c.cut b).puts)).2.2=4)/\Disked (beginP d l true b b (encs (l.c.cut b).puts)).1.fs l.base ss l.c (fun x=>A x\/x=l.c.cut b) l.segs true/\
   (beginP d l true b b (encs (l.c.cut b).puts)).2.1={ l with failed:=true,dirty:=true }):=by
 have hce:l.c.cut b=⟨b,l.c.rows.drop (b-l.c.first)⟩:=by unfold Ct.cut;rw[if_pos hb1]
 have hfs:(l.c.cut b).first=b:=by rw[hce]
 have hnx:(l.c.cut b).next=l.c.next:=Ct.next_cut hb2
 have hsz:=Ct.size_cut l.c b
 obtain⟨hnum,hah⟩:=lastNum_of h.segs
 have hsm:=h.shape.small hr
 obtain⟨N,hN⟩:∃N:AS,N=⟨numOf l.segs,aheadOf l.segs,b,b,true,freeP (usedN d.fs l.base l.segs) l.base,(encs (l.c.cut b).puts).length,Enc.sum (encs (l.c.cut b).puts),(l.c.cut b).puts⟩:=⟨_,rfl⟩
 have hahK:aheadOf l.segs<=K:=by
  rcases nil_or_snoc ss with rfl | ⟨s0,a,rfl⟩
  ·have:=h.segs
   cases hl:l.segs with
   | nil=>exact Nat.zero_le _
   | cons s t=>rw[hl]at this;exact this.elim
  ·rw[hah s0 a rfl]
   exact hsm a (by simp)
 have hsl:=Enc.sum_lt (encs (l.c.cut b).puts)
 have hpu:(l.c.cut b).puts=putsOf b (l.c.cut b).rows:=by unfold Ct.puts;rw[hfs]
 have hszl:(encs (l.c.cut b).puts).length=(l.c.cut b).size:=rfl
 have hNf:N.fine:=by
  rw[hN]
  refine⟨fun n hn=> ?_,hsl,fun i hi=> ?_, ?_,Nat.le_refl _,fun _=>⟨Nat.le_refl _,by rw[List.take_length]⟩⟩
  ·simp only[AS.nums,List.mem_cons,List.not_mem_nil,or_false]at hn
   rcases hn with rfl | rfl | rfl | rfl | rfl | rfl<;>omega
  ·have hi:i∈(l.c.cut b).puts:=hi
   rw[hpu]at hi
   obtain⟨m,r,rfl,q1,q2,q3⟩:=puts_mem hi
   have:b+(l.c.cut b).rows.length=(l.c.cut b).next:=by unfold Ct.next;rw[hfs]
   refine⟨by omega,hrow r ?_⟩
   rw[hce]at q3
   exact List.mem_of_mem_drop q3
  ·dsimp only
   rw[hpu]
   refine puts_good _ _ ?_
   rw[<- hnx]at h9
   unfold Ct.next at h9
   rw[hfs]at h9
   omega
 have hNp:AS.play l.c N=l.c.cut b:=by
  unfold AS.play
  have:N.start l.c=⟨b, []⟩:=by rw[hN];unfold AS.start;rw[if_pos (.inl rfl)]
  rw[this,hN]
  dsimp only
  have:=puts_items (l.c.cut b).rows ⟨b, []⟩
  rw[show (⟨b, []⟩:Ct).next=b from rfl,<- hpu,List.nil_append]at this
  rw[this]
  show (⟨b,(l.c.cut b).rows⟩:Ct)=l.c.cut b
  rw[hce]
 have hNs:N.stop=l.c.next:=by
  have:=play_next (c:=l.c) hNf (.inl (by rw[hN]))
  rw[hNp,hnx]at this
  exact this.symm
 have hbg:=begin_law h hu rfl hN hNf (.inl rfl) fun h=>by cases h
 rw[hNp]at hbg
 generalize beginP d l true b b (encs (l.c.cut b).puts)=r at*
 obtain⟨d',l',e⟩:=r
 dsimp only at*
 refine⟨fun he=> ?_,fun he=> ?_⟩
 ·obtain⟨m1,m2,m3⟩:=hbg.1 he
  refine⟨_,⟨m1, ?_,fun _=>m2⟩, ?_,by rw[m3]⟩
  ·rw[m3,<- hNs]
   dsimp only
   rw[if_pos rfl]
   exact segsOf_whole (by rw[hN]) h.segs
  ·rw[lastNum_snoc,hN]
   dsimp only
   omega
 ·obtain⟨m1,m2,m3⟩:=hbg.2 he
  exact⟨m1,⟨m2,h.segs,fun e=>by cases e⟩,m3⟩
theorem setLast_same{l0:List Seg}{s:Seg}{n:Nat}(h:s.last=n):setLast (l0++ [s]) n=l0++ [s]:=by
 rw[setLast_snoc,<- h]
theorem cut_law(h:Live d l ss A)(hu:d.fs.length+l.segs.length<1048576){before:Int}{K:Nat}(hK:K<=4611686018427387904)(hr:∀f∈d.fs,f.raw.length<=K)(h1:lastNum ss<=K)(h2:l.c.next<=K)(h3:l.c.size+17<=K)(hrow:∀r∈l.c.rows,r.length<=1048576)(h9:l.c.next<900000000)(hlt:l.c.first<min before l.c.next):
  Went (cutP d l before).1 l (cutP d l before).2.1 (cutP d l before).2.2 ss A (l.c.cut (min before l.c.next).toNat):=by
 unfold cutP
 rw[if_neg (by omega)]
 obtain⟨b,hb⟩:∃b:Nat,b=(min before l.c.next).toNat:=⟨_,rfl⟩
 have hb1:l.c.first<b:=by omega
 have hb2:b<=l.c.next:=by omega
 rw[<- hb]
 have hW:((cutW d l b).2.2=0->∃ss',Disked (cutW d l b).1.fs l.base ss' (l.c.cut b) (fun _=>False) (cutW d l b).2.1.segs false/\lastNum ss'<=lastNum ss+1/\(cutW d l b).2.1={ l with segs:=(cutW d l b).2.1.segs,failed:=false,dirty:=false })/\
   ((cutW d l b).2.2≠0->((cutW d l b).2.2=3\/(cutW d l b).2.2=4)/\Disked (cutW d l b).1.fs l.base ss l.c (fun x=>A x\/x=l.c.cut b) l.segs true/\(cutW d l b).2.1={ l with failed:=true,dirty:=true }):=by
  unfold cutW
  by_cases hw:2*(encs (l.c.cut b).puts).length+4096<sizes l.segs
  ·rw[if_pos hw]
   exact cut_whole h hu hK hr h1 h2 (by omega) hrow h9 hb1 hb2
  ·rw[if_neg hw]
   have hit:(It.cut b).fine:=show b<18446744073709551616 by omega
   have hlen:(It.cut b).enc.length=17:=by simp only[It.enc,metaF_len,List.length_cons,List.length_nil]
   obtain⟨w1,w2⟩:=write_law h rfl hu hit (show GoodIts l.c.next [.cut b] from⟨hb2,Nat.le_of_lt h9⟩) hK hr h1 h2 (by rw[hlen];omega)
   have hca:l.c.item (.cut b)=l.c.cut b:=rfl
   rw[hca]at w1 w2
   refine⟨fun he=> ?_,w2⟩
   obtain⟨⟨ss',k1,k2,k3,k4⟩,⟨l0,s,k5,k6⟩,k7⟩:=w1 he
   rw[Ct.next_cut hb2,k5,setLast_same k6,<- k5]at k3
   exact⟨ss',⟨k1,k3,fun _=>k2⟩,k4,k7⟩
 generalize cutW d l b=r at*
 obtain⟨d',l',e⟩:=r
 dsimp only at*
 by_cases he:e=0
 ·rw[if_neg (by rw[he];simp)]
  obtain⟨ss',k1,k2,k3⟩:=hW.1 he
  have hlg:l'.base=l.base:=by rw[k3]
  have hfs:(l.c.cut b).first=b:=by unfold Ct.cut;rw[if_pos hb1]
  obtain⟨ss2,m1,m2⟩:=tidy_law (first:=b) k1 hfs
  refine⟨hlg,fun _=>⟨by rw[k3],rfl,ss2, ?_,by omega⟩,fun h=>absurd rfl h⟩
  show Disked _ l'.base ss2 (l.c.cut b) _ _ l'.dirty
  rw[hlg,show l'.dirty=false by rw[k3]]
  exact m1
 ·rw[if_pos he]
  obtain⟨k1,k2,k3⟩:=hW.2 he
  refine⟨by rw[k3],fun h=>absurd h he,fun _=>⟨k1,by rw[k3],by rw[k3], ?_⟩⟩
  rw[k3]
  exact k2
end
structure Use(d d':Dk)(k r m:Nat):Prop where
 files:d'.fs.length<=d.fs.length+k
 raws:∀R,(∀f∈d.fs,f.raw.length<=R)->∀f∈d'.fs,f.raw.length<=R+r
 lo:d.ops<=d'.ops
 hi:d'.ops<=d.ops+m
 len:d'.faults.length<=d.faults.length
 sub:∀f∈d'.faults,f∈d.faults
 stopped:d'.stopped=d.stopped
 stop:d'.stop=d.stop
structure Cause(d d':Dk)(e:Int):Prop where
 io:e=3->∃f∈d.faults,(d.ops:Int)<=f.1/\f.1<d'.ops
 dead:e=4->d.stopped=true/\d.stop<d'.ops
section
variable {d d' d'':Dk}{k r m k' r' m':Nat}
theorem Use.refl(d:Dk):Use d d 0 0 0:=⟨Nat.le_refl _,fun _ h=>h,Nat.le_refl _,Nat.le_refl _,Nat.le_refl _,fun _ h=>h,rfl,rfl⟩
theorem Use.trans(h:Use d d' k r m)(h':Use d' d'' k' r' m'):Use d d'' (k+k') (r+r') (m+m'):=
 ⟨by have:=h.files;have:=h'.files;omega,fun R hR f hf=>by have:=h'.raws (R+r) (h.raws R hR) f hf;omega,Nat.le_trans h.lo h'.lo,by have:=h.hi;have:=h'.hi;omega,Nat.le_trans h'.len h.len,fun f hf=>h.sub f (h'.sub f hf),h'.stopped.trans h.stopped,h'.stop.trans h.stop⟩
theorem Use.mono(h:Use d d' k r m)(h1:k<=k')(h2:r<=r')(h3:m<=m'):Use d d' k' r' m':=
 ⟨by have:=h.files;omega,fun R hR f hf=>by have:=h.raws R hR f hf;omega,h.lo,by have:=h.hi;omega,h.len,h.sub,h.stopped,h.stop⟩
theorem Cause.none(d d':Dk):Cause d d' 0:=⟨fun h=>absurd h (by decide),fun h=>absurd h (by decide)⟩
theorem Cause.late{e:Int}(h:Use d d' k r m)(hc:Cause d' d'' e):Cause d d'' e:=
 ⟨fun he=>by
  obtain⟨f,h1,h2,h3⟩:=hc.io he
  exact⟨f,h.sub f h1,by have:=h.lo;omega,h3⟩,fun he=>by
  obtain⟨h1,h2⟩:=hc.dead he
  exact⟨by rw[<- h.stopped];exact h1,by rw[<- h.stop];exact h2⟩⟩
theorem why_cause{n:Int}(h1:d.ops<d'.ops):Cause d d' (d.why n):=by
 refine⟨fun he=> ?_,fun he=> ?_⟩
 ·unfold Dk.why at he
  split at he
  ·cases he
  ·split at he
   ·rename_i hh
    cases hx:d.hit with
    | none=>rw[hx]at hh;cases hh
    | some f=>
     have hm:=List.mem_of_find?_eq_some hx
     have he:=List.find?_some hx
     have he:f.1=(d.ops:Int):=of_decide_eq_true he
     exact⟨f,hm,by omega,by omega⟩
   ·split at he<;>cases he
 ·unfold Dk.why at he
  split at he
  ·rename_i hd
   unfold Dk.dead at hd
   rw[Bool.and_eq_true]at hd
   exact⟨hd.1,by have:=of_decide_eq_true hd.2;omega⟩
  ·split at he
   ·cases he
   ·split at he<;>cases he
theorem use_next{fs:List Fl}(h1:fs.length<=d.fs.length+k)(h2:∀R,(∀f∈d.fs,f.raw.length<=R)->∀f∈fs,f.raw.length<=R+r):Use d { d.next with fs:=fs } k r 1:=
 ⟨h1,h2,Nat.le_succ _,Nat.le_refl _,List.length_filter_le _ _,fun _f hf=>(List.mem_filter.1 hf).1,rfl,rfl⟩
theorem ins_use(n:Int)(b:List UInt8){R:Nat}:∀{fs:List Fl},(∀f∈fs,f.raw.length<=R)->(∀f∈Fl.ins n b fs,f.raw.length<=R+b.length)/\(Fl.ins n b fs).length<=fs.length+1
 | [],_=>⟨by intro f hf;simp[Fl.ins]at hf;subst hf;simp,by simp[Fl.ins]⟩
 | x :: r,h=>by
  have ih:=ins_use n b (R:=R) (fs:=r) fun f hf=>h f (List.mem_cons_of_mem _ hf)
  have hx:=h x (by simp)
  unfold Fl.ins
  split
  ·refine⟨fun f hf=> ?_,by simp⟩
   rcases List.mem_cons.1 hf with rfl | hf
   ·show b.length<= _;omega
   ·have:=h f hf;omega
  ·split
   ·refine⟨fun f hf=> ?_,by simp⟩
    rcases List.mem_cons.1 hf with rfl | hf
    ·show (x.raw++b).length<= _;rw[List.length_append];omega
    ·have:=h f (List.mem_cons_of_mem _ hf);omega
   ·refine⟨fun f hf=> ?_,by simp only[List.length_cons];have:=ih.2;omega⟩
    rcases List.mem_cons.1 hf with rfl | hf
    ·omega
    ·exact ih.1 f hf
theorem append_use(d:Dk)(n:Int)(b:List UInt8)(hn:0<=n):Use d (d.append n b) 1 b.length 1:=by
 obtain⟨j,h1,_⟩:=append_fs d n b hn
 have h2:d.append n b={ d.next with fs:=Fl.add n (b.take j) d.fs }:=by
  rw[<- h1]
  unfold Dk.append
  split
  ·rfl
  ·split<;>rfl
 rw[h2]
 have hj:(b.take j).length<=b.length:=by rw[List.length_take];omega
 refine use_next ?_ fun R hR f hf=> ?_
 ·unfold Fl.add
  split
  ·omega
  ·exact(ins_use n (b.take j) (R:=0+d.fs.length+(d.fs.map fun f=>f.raw.length).sum) (fs:=d.fs) fun f hf=>by
    have:∀(l:List Fl),f∈l->f.raw.length<=(l.map fun f=>f.raw.length).sum:=by
     intro l
     induction l with
     | nil=>intro h;cases h
     | cons x l ih=>
      intro h
      rw[List.map_cons,List.sum_cons]
      rcases List.mem_cons.1 h with rfl | h
      ·omega
      ·have:=ih h;omega
    have:=this _ hf
    omega).2
 ·unfold Fl.add at hf
  split at hf
  ·have:=hR f hf;omega
  ·have:=(ins_use n (b.take j) hR).1 f hf;omega
theorem sync_use(d:Dk)(n:Int):Use d (d.sync n) 0 0 1:=by
 have h2:d.sync n={ d.next with fs:=(d.sync n).fs }:=by unfold Dk.sync;split<;>rfl
 rw[h2,sync_fs]
 refine use_next ?_ fun R hR f hf=> ?_
 ·split
  ·unfold Fl.sync;rw[List.length_map];omega
  ·omega
 ·split at hf
  ·obtain⟨x,hx,rfl⟩:=List.mem_map.1 hf
   have:=hR x hx
   split<;>exact this
  ·exact hR f hf
theorem delete_use(d:Dk)(n:Int):Use d (d.delete n) 0 0 1:=by
 have h2:d.delete n={ d.next with fs:=(d.delete n).fs }:=by unfold Dk.delete;split<;>rfl
 rw[h2,delete_fs]
 refine use_next ?_ fun R hR f hf=> ?_
 ·split
  ·exact List.length_filter_le _ _
  ·omega
 ·split at hf
  ·exact hR f (List.mem_filter.1 hf).1
  ·exact hR f hf
theorem append_ops(d:Dk)(n:Int)(b:List UInt8):(d.append n b).ops=d.ops+1:=by unfold Dk.append;split;rfl;split<;>rfl
theorem sync_ops(d:Dk)(n:Int):(d.sync n).ops=d.ops+1:=by unfold Dk.sync;split<;>rfl
theorem delete_ops(d:Dk)(n:Int):(d.delete n).ops=d.ops+1:=by unfold Dk.delete;split<;>rfl
theorem lay_use(d:Dk)(n:Int)(b:List UInt8)(hn:0<=n):Use d (layP d n b).1 1 b.length 2/\Cause d (layP d n b).1 (layP d n b).2:=by
 have h1:=append_use d n b hn
 unfold layP
 split
 ·have h2:=sync_use (d.append n b) n
  refine⟨(h1.trans h2).mono (Nat.le_refl _) (Nat.le_refl _) (Nat.le_refl _),Cause.late h1 (why_cause ?_)⟩
  rw[sync_ops];omega
 ·refine⟨h1.mono (Nat.le_refl _) (Nat.le_refl _) (by omega),why_cause ?_⟩
  rw[append_ops];omega
theorem del_use:∀(l:List Int) (d:Dk),Use d (delAll d l).1 0 0 l.length/\Cause d (delAll d l).1 (delAll d l).2
 | [],d=>⟨Use.refl d,Cause.none _ _⟩
 | n :: r,d=>by
  have h1:=delete_use d n
  unfold delAll
  split
  ·obtain⟨h2,h3⟩:=del_use r (d.delete n)
   exact⟨(h1.trans h2).mono (Nat.le_refl _) (Nat.le_refl _) (by rw[List.length_cons];omega),Cause.late h1 h3⟩
  ·exact⟨h1.mono (Nat.le_refl _) (Nat.le_refl _) (by rw[List.length_cons];omega),why_cause (by rw[delete_ops];omega)⟩
theorem tidy_use(first:Nat):∀(segs:List Seg) (d:Dk),Use d (tidyP first d segs).1 0 0 segs.length/\(tidyP first d segs).2.length<=segs.length
 | [],d=>⟨Use.refl d,Nat.le_refl _⟩
 | [s],d=>⟨(Use.refl d).mono (Nat.le_refl _) (Nat.le_refl _) (Nat.zero_le _),Nat.le_refl _⟩
 | s :: t :: r,d=>by
  have h1:=delete_use d (s.file:Int)
  unfold tidyP
  split
  ·split
   ·obtain⟨h2,h3⟩:=tidy_use first (t :: r) (d.delete s.file)
    exact⟨(h1.trans h2).mono (Nat.le_refl _) (Nat.le_refl _) (by simp only[List.length_cons];omega),by simp only[List.length_cons] at*;omega⟩
   ·exact⟨h1.mono (Nat.le_refl _) (Nat.le_refl _) (by simp only[List.length_cons];omega),Nat.le_refl _⟩
  ·exact⟨(Use.refl d).mono (Nat.le_refl _) (Nat.le_refl _) (Nat.zero_le _),Nat.le_refl _⟩
theorem strange_len(fs:List Fl)(base:Nat)(segs:List Seg):(strangeN fs base segs).length<=fs.length:=by
 unfold strangeN
 rw[List.length_map]
 exact List.length_filter_le _ _
variable {l:Lg}
theorem begin_use(d:Dk)(l:Lg)(whole:Bool)(first next:Nat)(frames:List UInt8):
  Use d (beginP d l whole first next frames).1 1 (frames.length+57) (d.fs.length+2)/\Cause d (beginP d l whole first next frames).1 (beginP d l whole first next frames).2.2/\(beginP d l whole first next frames).2.1.segs.length<=l.segs.length+1:=by
 obtain⟨h1,h2⟩:=del_use (strangeN d.fs l.base l.segs) d
 have hs:=strange_len d.fs l.base l.segs
 unfold beginP
 by_cases hd:(delAll d (strangeN d.fs l.base l.segs)).2=0
 ·rw[if_neg (by rw[hd];simp)]
  obtain⟨h3,h4⟩:=lay_use (delAll d (strangeN d.fs l.base l.segs)).1 (freeP (usedN d.fs l.base l.segs) l.base:Nat) (headB whole (numOf l.segs) (aheadOf l.segs) first next frames++frames) (by omega)
  have hlen:(headB whole (numOf l.segs) (aheadOf l.segs) first next frames++frames).length=frames.length+57:=by
   rw[List.length_append]
   unfold headB
   rw[metaF_len]
   simp only[List.length_cons,List.length_nil]
   omega
  rw[hlen]at h3
  have h5:=(h1.trans h3).mono (k':=1) (r':=frames.length+57) (m':=d.fs.length+2) (by omega) (by omega) (by omega)
  split
  ·exact⟨h5,Cause.late h1 h4,Nat.le_succ _⟩
  ·refine⟨h5,Cause.none _ _, ?_⟩
   dsimp only
   split<;>simp
 ·rw[if_pos hd]
  exact⟨h1.mono (by omega) (by omega) (by omega),h2,Nat.le_succ _⟩
theorem write_use(d:Dk)(l:Lg)(frames:List UInt8):
  Use d (writeP d l frames).1 1 (frames.length+57) (d.fs.length+2)/\Cause d (writeP d l frames).1 (writeP d l frames).2.2/\(writeP d l frames).2.1.segs.length<=l.segs.length+1:=by
 unfold writeP
 split
 ·rename_i s hs
  split
  ·obtain⟨h1,h2⟩:=lay_use d (s.file:Int) frames (by omega)
   split
   ·refine⟨h1.mono (Nat.le_refl _) (by omega) (by omega),Cause.none _ _, ?_⟩
    dsimp only
    unfold growLast
    rw[List.length_modify]
    omega
   ·exact⟨h1.mono (Nat.le_refl _) (by omega) (by omega),h2,Nat.le_succ _⟩
  ·exact begin_use d l false l.c.first l.c.next frames
 ·exact begin_use d l false l.c.first l.c.next frames
theorem append_useL(d:Dk)(l:Lg)(b:List UInt8):
  Use d (appendP d l b).1 1 (b.length+82) (d.fs.length+l.segs.length+3)/\Cause d (appendP d l b).1 (appendP d l b).2.2.2/\(appendP d l b).2.1.segs.length<=l.segs.length+1:=by
 obtain⟨h1,h2,h3⟩:=write_use d l (It.put l.c.next b).enc
 rw[enc_len_put]at h1
 unfold appendP
 split
 ·refine⟨(Use.refl d).mono (by omega) (by omega) (by omega),⟨fun h=>(by cases h),fun h=>(by cases h)⟩,Nat.le_succ _⟩
 ·split
  ·exact⟨h1.mono (Nat.le_refl _) (by omega) (by omega),h2,h3⟩
  ·obtain⟨h4,h5⟩:=tidy_use l.c.first (setLast (writeP d l (It.put l.c.next b).enc).2.1.segs (l.c.next+1)) (writeP d l (It.put l.c.next b).enc).1
   have h6:(setLast (writeP d l (It.put l.c.next b).enc).2.1.segs (l.c.next+1)).length=(writeP d l (It.put l.c.next b).enc).2.1.segs.length:=by unfold setLast;rw[List.length_modify]
   rw[h6]at h4 h5
   exact⟨(h1.trans h4).mono (Nat.le_refl _) (by omega) (by omega),Cause.none _ _,by dsimp only;omega⟩
theorem cutW_use(d:Dk)(l:Lg)(b:Nat):Use d (cutW d l b).1 1 (l.c.size+74) (d.fs.length+2)/\Cause d (cutW d l b).1 (cutW d l b).2.2/\(cutW d l b).2.1.segs.length<=l.segs.length+1:=by
 unfold cutW
 split
 ·obtain⟨h1,h2,h3⟩:=begin_use d l true b b (encs (l.c.cut b).puts)
  have h4:(encs (l.c.cut b).puts).length<=l.c.size:=Ct.size_cut l.c b
  exact⟨h1.mono (Nat.le_refl _) (by omega) (Nat.le_refl _),h2,h3⟩
 ·obtain⟨h1,h2,h3⟩:=write_use d l (It.cut b).enc
  have hlen:(It.cut b).enc.length=17:=by simp only[It.enc,metaF_len,List.length_cons,List.length_nil]
  exact⟨h1.mono (Nat.le_refl _) (by omega) (Nat.le_refl _),h2,h3⟩
end
structure PS where
 d:Dk
 l:Lg
 c:Ct
 maybe:List Ct
 cuts:List Nat
 struck:List Int
 stop:Int
def Al(p:PS)(x:Ct):Prop:=x∈p.maybe\/∃n∈p.cuts,x=p.c.cut n
def rowsOk(c:Ct):Prop:=∀r∈c.rows,r.length<=260000
structure PInv(p:PS)(i T:Nat):Prop where
 live:∃ss,Live p.d p.l ss (Al p)/\lastNum ss<=i
 c:p.l.c=p.c
 files:p.d.fs.length<=i
 segs:p.l.segs.length<=i
 raws:∀f∈p.d.fs,f.raw.length<=i*300000
 ops:p.d.ops<=i*3000
 flt:p.d.faults.length<=i
 next:p.c.next<=i
 size:p.c.size<=T
 rows:rowsOk p.c
 maybe:∀x∈p.maybe,x.next<=i/\x.size<=T/\rowsOk x/\x.first=p.c.first
 cuts:∀n∈p.cuts,p.c.first<n/\n<=p.c.next
 struck:∀f∈p.d.faults,f.1∈p.struck
 near:∀s∈p.struck,0<=s/\s<=p.d.ops+14
 stop:p.d.stopped=true->p.stop=p.d.stop/\0<=p.stop
 lens:p.maybe.length<=i/\p.cuts.length<=i/\p.struck.length<=i/\p.stop<=i*3000+14
theorem up_{x i k:Nat}(h:x<=i*k):x<=(i+1)*k:=Nat.le_trans h (Nat.mul_le_mul_right k (Nat.le_succ i))
def hindered(p:PS)(lo hi:Nat):Bool:=p.struck.any (fun s=>decide ((lo:Int)<=s) && decide (s<hi)) || (decide (0<=p.stop) && decide (p.stop<hi))
section
variable {p:PS}{i T:Nat}
theorem hindered_of{d':Dk}{e:Int}(hs:∀f∈p.d.faults,f.1∈p.struck)(hst:p.d.stopped=true->p.stop=p.d.stop/\0<=p.stop)(hc:Cause p.d d' e)(he:e=3\/e=4):hindered p p.d.ops d'.ops=true:=by
 unfold hindered
 rw[Bool.or_eq_true]
 rcases he with he | he
 ·left
  obtain⟨f,h1,h2,h3⟩:=hc.io he
  rw[List.any_eq_true]
  exact⟨f.1,hs f h1,by rw[Bool.and_eq_true];exact⟨decide_eq_true h2,decide_eq_true h3⟩⟩
 ·right
  obtain⟨h1,h2⟩:=hc.dead he
  obtain⟨h3,h4⟩:=hst h1
  rw[Bool.and_eq_true]
  exact⟨decide_eq_true h4,decide_eq_true (by rw[h3];exact h2)⟩
theorem rowsOk_add{c:Ct}{b:List UInt8}(h:rowsOk c)(hb:b.length<=260000):rowsOk (c.add b):=by
 intro r hr
 rcases List.mem_append.1 hr with hr | hr
 ·exact h r hr
 ·rw[List.mem_singleton]at hr;rw[hr];exact hb
theorem rowsOk_cut{c:Ct}{n:Nat}(h:rowsOk c):rowsOk (c.cut n):=by
 intro r hr
 unfold Ct.cut at hr
 split at hr
 ·exact h r (List.mem_of_mem_drop hr)
 ·exact h r hr
theorem PInv.append(h:PInv p i T)(hi:i<=900)(_hT:T<=300000000){b:List UInt8}(hb:b.length<=260000):
  ((appendP p.d p.l b).2.2.2=0->PInv { p with d:=(appendP p.d p.l b).1,l:=(appendP p.d p.l b).2.1,c:=p.c.add b,maybe:= [],cuts:= [] } (i+1) (T+b.length+25)/\(appendP p.d p.l b).2.1.failed=false/\(appendP p.d p.l b).2.2.1=p.c.next)/\
  ((appendP p.d p.l b).2.2.2≠0->PInv { p with d:=(appendP p.d p.l b).1,l:=(appendP p.d p.l b).2.1,maybe:=p.maybe++ [p.c.add b] } (i+1) (T+b.length+25)/\(appendP p.d p.l b).2.1.failed=true/\(appendP p.d p.l b).2.2.1=0/\
   ((appendP p.d p.l b).2.2.2=3\/(appendP p.d p.l b).2.2.2=4)/\hindered p p.d.ops (appendP p.d p.l b).1.ops=true)/\p.d.ops<=(appendP p.d p.l b).1.ops/\(appendP p.d p.l b).2.1.base=p.l.base:=by
 obtain⟨ss,hl,hnum⟩:=h.live
 have hc:=h.c
 have hn:=h.next
 obtain⟨k1,k2,k3⟩:=append_law hl (by have:=h.files;have:=h.segs;omega) (b:=b) (K:=1000000000) (by omega) (fun f hf=>by have:=h.raws f hf;omega) (by omega) (by rw[hc];omega) (by omega) (by omega) (by rw[hc];omega)
 obtain⟨u1,u2,u3⟩:=append_useL p.d p.l b
 have hfi:=h.files;have hsg:=h.segs;have hops:=h.ops;have hfl:=h.flt;have hlens:=h.lens
 have q1:=u1.files;have q2:=u1.raws _ h.raws;have q3:=u1.lo;have q4:=u1.hi;have q5:=u1.len
 have hstr:∀f∈(appendP p.d p.l b).1.faults,f.1∈p.struck:=fun f hf=>h.struck f (u1.sub f hf)
 have hstp:(appendP p.d p.l b).1.stopped=true->p.stop=(appendP p.d p.l b).1.stop/\0<=p.stop:=fun hs=>by rw[u1.stop];exact h.stop (by rw[<- u1.stopped];exact hs)
 have hnear:∀s∈p.struck,0<=s/\s<=(appendP p.d p.l b).1.ops+14:=fun s hs=>by have:=h.near s hs;omega
 have hsz:=Ct.size_add p.c b
 have hsz0:=h.size
 refine⟨fun he=> ?_,fun he=> ?_,q3,k1.base⟩
 ·obtain⟨g1,g2,ss',g3,g4⟩:=k1.good he
  rw[hc]at g2
  refine⟨⟨⟨ss', ?_,by omega⟩,g2,by dsimp only;omega,by dsimp only;omega,fun f hf=>by have:=q2 f hf;omega,by dsimp only;omega,by dsimp only;omega,by dsimp only;rw[Ct.next_add];omega,by dsimp only;omega,rowsOk_add h.rows hb,by simp,by simp,hstr,hnear,hstp,by dsimp only;simp only[List.length_nil];omega⟩,g1,by rw[k2 he,hc]⟩
  unfold Live at g3 ⊢
  exact⟨g3.shape.weak fun _ h=>h.elim,g3.segs,g3.clean⟩
 ·obtain⟨g1,g2,g3,g4⟩:=k1.bad he
  refine⟨⟨⟨ss, ?_,by omega⟩,by dsimp only;rw[g3,hc],by dsimp only;omega,by dsimp only;omega,fun f hf=>by have:=q2 f hf;omega,by dsimp only;omega,by dsimp only;omega,by dsimp only;omega,by dsimp only;omega,h.rows,fun x hx=> ?_,h.cuts,hstr,hnear,hstp,by dsimp only;rw[List.length_append,List.length_singleton];omega⟩,g2,k3 he,g1,hindered_of h.struck h.stop u2 g1⟩
  ·unfold Live at g4 ⊢
   refine⟨g4.shape.weak ?_,g4.segs,g4.clean⟩
   rintro x ((hx | hx) | hx)
   ·exact .inl (List.mem_append_left _ hx)
   ·exact .inr hx
   ·exact .inl (List.mem_append_right _ (by rw[hx,hc];simp))
  ·rcases List.mem_append.1 hx with hx | hx
   ·obtain⟨m1,m2,m3,m4⟩:=h.maybe x hx
    exact⟨by omega,by omega,m3,m4⟩
   ·rw[List.mem_singleton]at hx
    rw[hx,Ct.next_add]
    exact⟨by omega,by omega,rowsOk_add h.rows hb,rfl⟩
section
variable {l:Lg}
theorem cutW_use2(d:Dk)(l:Lg)(b:Nat):Use d (cutW d l b).1 1 ((l.c.cut b).size+74) (d.fs.length+2)/\Cause d (cutW d l b).1 (cutW d l b).2.2/\(cutW d l b).2.1.segs.length<=l.segs.length+1:=by
 unfold cutW
 split
 ·obtain⟨h1,h2,h3⟩:=begin_use d l true b b (encs (l.c.cut b).puts)
  have h4:(encs (l.c.cut b).puts).length=(l.c.cut b).size:=rfl
  exact⟨h1.mono (Nat.le_refl _) (by omega) (Nat.le_refl _),h2,h3⟩
 ·obtain⟨h1,h2,h3⟩:=write_use d l (It.cut b).enc
  have hlen:(It.cut b).enc.length=17:=by simp only[It.enc,metaF_len,List.length_cons,List.length_nil]
  exact⟨h1.mono (Nat.le_refl _) (by omega) (Nat.le_refl _),h2,h3⟩
theorem cut_use2(d:Dk)(l:Lg)(before:Int):
  Use d (cutP d l before).1 1 ((l.c.cut (min before l.c.next).toNat).size+74) (d.fs.length+l.segs.length+3)/\Cause d (cutP d l before).1 (cutP d l before).2.2/\(cutP d l before).2.1.segs.length<=l.segs.length+1:=by
 obtain⟨h1,h2,h3⟩:=cutW_use2 d l (min before l.c.next).toNat
 unfold cutP
 split
 ·exact⟨(Use.refl d).mono (by omega) (by omega) (by omega),Cause.none _ _,Nat.le_succ _⟩
 ·split
  ·exact⟨h1.mono (Nat.le_refl _) (by omega) (by omega),h2,h3⟩
  ·obtain⟨h4,h5⟩:=tidy_use (min before l.c.next).toNat (cutW d l (min before l.c.next).toNat).2.1.segs (cutW d l (min before l.c.next).toNat).1
   exact⟨(h1.trans h4).mono (Nat.le_refl _) (by omega) (by omega),Cause.none _ _,by dsimp only;omega⟩
end
theorem PInv.cut(h:PInv p i T)(hi:i<=900)(hT:T<=300000000){before:Int}(hcs:(p.c.cut (min before p.c.next).toNat).size<=299000):
  (min before p.c.next<=p.c.first->(cutP p.d p.l before).2.2=0/\(cutP p.d p.l before).1=p.d/\(cutP p.d p.l before).2.1={ p.l with failed:=false })/\
  (p.c.first<min before p.c.next->((cutP p.d p.l before).2.2=0->PInv { p with d:=(cutP p.d p.l before).1,l:=(cutP p.d p.l before).2.1,c:=p.c.cut (min before p.c.next).toNat,maybe:= [],cuts:= [] } (i+1) T/\(cutP p.d p.l before).2.1.failed=false)/\
   ((cutP p.d p.l before).2.2≠0->PInv { p with d:=(cutP p.d p.l before).1,l:=(cutP p.d p.l before).2.1,cuts:=p.cuts++ [(min before p.c.next).toNat] } (i+1) T/\(cutP p.d p.l before).2.1.failed=true/\
    ((cutP p.d p.l before).2.2=3\/(cutP p.d p.l before).2.2=4)/\hindered p p.d.ops (cutP p.d p.l before).1.ops=true)/\p.d.ops<=(cutP p.d p.l before).1.ops/\(cutP p.d p.l before).2.1.base=p.l.base):=by
 obtain⟨ss,hl,hnum⟩:=h.live
 have hc:=h.c
 refine⟨fun hle=> ?_,fun hlt=> ?_⟩
 ·unfold cutP
  rw[if_pos (by rw[hc];exact hle)]
  exact⟨rfl,rfl,rfl⟩
 ·have hn:=h.next
  have hsz0:=h.size
  have k1:=cut_law hl (by have:=h.files;have:=h.segs;omega) (before:=before) (K:=1000000000) (by omega) (fun f hf=>by have:=h.raws f hf;omega) (by omega) (by rw[hc];omega) (by rw[hc];omega) (by rw[hc];exact fun r hr=>by have:=h.rows r hr;omega) (by rw[hc];omega) (by rw[hc];exact hlt)
  obtain⟨u1,u2,u3⟩:=cut_use2 p.d p.l before
  have hfi:=h.files;have hsg:=h.segs;have hops:=h.ops;have hfl:=h.flt;have hlens:=h.lens
  rw[hc]at u1
  have q1:=u1.files;have q2:=u1.raws _ h.raws;have q3:=u1.lo;have q4:=u1.hi;have q5:=u1.len
  have hstr:∀f∈(cutP p.d p.l before).1.faults,f.1∈p.struck:=fun f hf=>h.struck f (u1.sub f hf)
  have hstp:(cutP p.d p.l before).1.stopped=true->p.stop=(cutP p.d p.l before).1.stop/\0<=p.stop:=fun hs=>by rw[u1.stop];exact h.stop (by rw[<- u1.stopped];exact hs)
  have hnear:∀s∈p.struck,0<=s/\s<=(cutP p.d p.l before).1.ops+14:=fun s hs=>by have:=h.near s hs;omega
  have hnc:(p.c.cut (min before p.c.next).toNat).next=p.c.next:=Ct.next_cut (by omega)
  have hszc:=Ct.size_cut p.c (min before p.c.next).toNat
  rw[hc]at k1
  refine⟨fun he=> ?_,fun he=> ?_,q3,k1.base⟩
  ·obtain⟨g1,g2,ss',g3,g4⟩:=k1.good he
   refine⟨⟨⟨ss', ?_,by omega⟩,g2,by dsimp only;omega,by dsimp only;omega,fun f hf=>by have:=q2 f hf;omega,by dsimp only;omega,by dsimp only;omega,by dsimp only;rw[hnc];omega,by dsimp only;omega,rowsOk_cut h.rows,by simp,by simp,hstr,hnear,hstp,by dsimp only;simp only[List.length_nil];omega⟩,g1⟩
   unfold Live at g3 ⊢
   exact⟨g3.shape.weak fun _ h=>h.elim,g3.segs,g3.clean⟩
  ·obtain⟨g1,g2,g3,g4⟩:=k1.bad he
   refine⟨⟨⟨ss, ?_,by omega⟩,by dsimp only;rw[g3,hc],by dsimp only;omega,by dsimp only;omega,fun f hf=>by have:=q2 f hf;omega,by dsimp only;omega,by dsimp only;omega,by dsimp only;omega,by dsimp only;omega,h.rows,fun x hx=> ?_,fun n hn=> ?_,hstr,hnear,hstp,by dsimp only;rw[List.length_append,List.length_singleton];omega⟩,g2,g1,hindered_of h.struck h.stop u2 g1⟩
   ·unfold Live at g4 ⊢
    refine⟨g4.shape.weak ?_,g4.segs,g4.clean⟩
    rintro x ((hx | ⟨n,hn,hx⟩) | hx)
    ·exact .inl hx
    ·exact .inr ⟨n,List.mem_append_left _ hn,hx⟩
    ·exact .inr ⟨_,List.mem_append_right _ (List.mem_singleton.2 rfl),hx⟩
   ·obtain⟨m1,m2,m3,m4⟩:=h.maybe x hx
    exact⟨by omega,by omega,m3,m4⟩
   ·rcases List.mem_append.1 hn with hn | hn
    ·exact h.cuts n hn
    ·rw[List.mem_singleton]at hn
     dsimp only
     omega
theorem PInv.idle(h:PInv p i T):PInv { p with l:={ p.l with failed:=false } } (i+1) T:=by
 obtain⟨ss,hl,hnum⟩:=h.live
 have hlens:=h.lens
 exact⟨⟨ss,hl,by omega⟩,h.c,Nat.le_succ_of_le h.files,Nat.le_succ_of_le h.segs,fun f hf=>up_ (h.raws f hf),up_ h.ops,Nat.le_succ_of_le h.flt,Nat.le_succ_of_le h.next,h.size,h.rows,fun x hx=>by
  obtain⟨m1,m2⟩:=h.maybe x hx
  exact⟨by omega,m2⟩,h.cuts,h.struck,h.near,h.stop,by dsimp only;omega⟩
theorem PInv.fail(h:PInv p i T)(hi:i<=900){n:Nat}{k:Int}(hn:n<15):PInv { p with d:=p.d.fail n k,struck:=p.struck++ [(p.d.ops:Int)+n] } (i+1) T:=by
 obtain⟨ss,hl,hnum⟩:=h.live
 have hlens:=h.lens
 have hops:=h.ops
 have hlat:p.d.later n=p.d.ops+n:=by
  unfold Dk.later
  rw[if_neg (by omega)]
  omega
 refine⟨⟨ss,hl,by omega⟩,h.c,Nat.le_succ_of_le h.files,Nat.le_succ_of_le h.segs,fun f hf=>up_ (h.raws f hf),up_ hops, ?_,Nat.le_succ_of_le h.next,h.size,h.rows,fun x hx=>by
  obtain⟨m1,m2⟩:=h.maybe x hx
  exact⟨by omega,m2⟩,h.cuts,fun f hf=> ?_,fun s hs=> ?_,h.stop,by dsimp only;rw[List.length_append,List.length_singleton];omega⟩
 ·show (p.d.faults++ [_]).length<= _
  have:=h.flt
  rw[List.length_append,List.length_singleton]
  omega
 ·rcases List.mem_append.1 hf with hf | hf
  ·exact List.mem_append_left _ (h.struck f hf)
  ·rw[List.mem_singleton]at hf
   rw[hf,hlat]
   exact List.mem_append_right _ (by simp)
 ·rcases List.mem_append.1 hs with hs | hs
  ·exact h.near s hs
  ·rw[List.mem_singleton]at hs
   show 0<=s/\s<=(p.d.ops:Int)+14
   omega
theorem PInv.halt(h:PInv p i T)(hi:i<=900){n:Nat}(hn:n<15):PInv { p with d:=p.d.halt n,stop:=(p.d.ops:Int)+n } (i+1) T:=by
 obtain⟨ss,hl,hnum⟩:=h.live
 have hlens:=h.lens
 have hops:=h.ops
 have hlat:p.d.later n=p.d.ops+n:=by
  unfold Dk.later
  rw[if_neg (by omega)]
  omega
 refine⟨⟨ss,hl,by omega⟩,h.c,Nat.le_succ_of_le h.files,Nat.le_succ_of_le h.segs,fun f hf=>up_ (h.raws f hf),up_ hops,Nat.le_succ_of_le h.flt,Nat.le_succ_of_le h.next,h.size,h.rows,fun x hx=>by
  obtain⟨m1,m2⟩:=h.maybe x hx
  exact⟨by omega,m2⟩,h.cuts,h.struck,h.near,fun _=>⟨hlat.symm,by dsimp only;omega⟩,by dsimp only;omega⟩
theorem loseB_len(f:Fl)(cut:Int):(f.lose cut).raw.length<=f.raw.length:=by
 show (if _ then (f.raw.take (f.kept+(f.ways cut+1) / 2)).set _ _ else f.raw.take (f.kept+(f.ways cut+1) / 2)).length<= _
 split
 ·rw[List.length_set,List.length_take];omega
 ·rw[List.length_take];omega
theorem crash_len{R:Nat}:∀{fs:List Fl} {cuts:List Int},(∀f∈fs,f.raw.length<=R)->(∀f∈Fl.crash fs cuts,f.raw.length<=R)/\(Fl.crash fs cuts).length<=fs.length
 | [],_,_=>⟨(by intro f hf;cases hf),Nat.le_refl _⟩
 | x :: r,cuts,h=>by
  have ih:=crash_len (fs:=r) (cuts:=cuts.tail) fun f hf=>h f (List.mem_cons_of_mem _ hf)
  unfold Fl.crash
  split
  ·exact⟨ih.1,by simp only[List.length_cons];have:=ih.2;omega⟩
  ·refine⟨fun f hf=> ?_,by simp only[List.length_cons];have:=ih.2;omega⟩
   rcases List.mem_cons.1 hf with rfl | hf
   ·exact Nat.le_trans (loseB_len x _) (h x (by simp))
   ·exact ih.1 f hf
theorem replay_len(fs:List Fl):∀(l:List Seg) (c:Ct),(replayAll fs c l).2.length=l.length
 | [],_=>rfl
 | s :: r,c=>by
  unfold replayAll
  rw[List.length_cons,replay_len fs r,List.length_cons]
theorem open_len(fs:List Fl)(base:Nat):(openP fs base).segs.length<=fs.length:=by
 show (replayAll fs ⟨0, []⟩ (sortS (found fs base))).2.length<= _
 rw[replay_len,show (sortS (found fs base)).length=(found fs base).length from(List.mergeSort_perm _ _).length_eq]
 exact Nat.le_trans (List.length_filterMap_le _ _) (List.length_filter_le _ _)
theorem PInv.crash(h:PInv p i T)(hi:i<=900)(cuts:List Int):
  PInv { d:=p.d.crash cuts,l:=openP (p.d.crash cuts).fs p.l.base,c:=(openP (p.d.crash cuts).fs p.l.base).c,maybe:= [],cuts:= [],struck:= [],stop:= -1 } (i+1) T/\((openP (p.d.crash cuts).fs p.l.base).c=p.c\/Al p (openP (p.d.crash cuts).fs p.l.base).c)/\(openP (p.d.crash cuts).fs p.l.base).failed=false:=by
 obtain⟨ss,hl,hnum⟩:=h.live
 have hc:=h.c
 unfold Live at hl
 obtain⟨ss',c',k1,k2,k3⟩:=crash_shape hl.shape (crash_cr cuts hl.shape.ok)
 have hln:=crash_len (cuts:=cuts) h.raws
 obtain⟨o1,o2,o3,_,o5⟩:=open_law k1 fun f hf=>by have:=hln.1 f hf;omega
 rw[hc]at k2
 have hol:=open_len (Fl.crash p.d.fs cuts) p.l.base
 have hfi:=h.files;have hops:=h.ops
 have hsz0:=h.size;have hn:=h.next
 have hcc:c'.next<=i/\c'.size<=T/\rowsOk c':=by
  rcases k2 with rfl | hx | ⟨n,hx,rfl⟩
  ·exact⟨hn,hsz0,h.rows⟩
  ·obtain⟨m1,m2,m3,_⟩:=h.maybe c' hx
   exact⟨m1,m2,m3⟩
  ·obtain⟨m1,m2⟩:=h.cuts n hx
   exact⟨by rw[Ct.next_cut m2];exact hn,Nat.le_trans (Ct.size_cut _ _) hsz0,rowsOk_cut h.rows⟩
 have e:(p.d.crash cuts).fs=Fl.crash p.d.fs cuts:=rfl
 rw[e,o2]
 refine⟨⟨⟨ss', ?_,by omega⟩,o2,by show (Fl.crash p.d.fs cuts).length<= _;omega,by dsimp only;omega,fun f hf=>up_ (hln.1 f hf),up_ hops,Nat.zero_le _,by dsimp only;omega,by dsimp only;omega,hcc.2.2,by simp,by simp,(by intro f hf;cases hf),(by intro s hs;cases hs),(fun hs=>by cases hs),by dsimp only;simp only[List.length_nil];omega⟩,k2,o3⟩
 unfold Live
 dsimp only
 rw[o1,o2]
 exact⟨o5.shape.weak fun _ h=>h.elim,o5.segs,o5.clean⟩
theorem PInv.reopen(h:PInv p i T)(hi:i<=900)(h1:p.maybe= [])(h2:p.cuts= []):
  PInv { p with l:=openP p.d.fs p.l.base,maybe:= [],cuts:= [] } (i+1) T/\(openP p.d.fs p.l.base).c=p.c/\(openP p.d.fs p.l.base).failed=false:=by
 obtain⟨ss,hl,hnum⟩:=h.live
 have hc:=h.c
 unfold Live at hl
 obtain⟨o1,o2,o3,_,o5⟩:=open_law hl.shape fun f hf=>by have:=h.raws f hf;omega
 have hol:=open_len p.d.fs p.l.base
 have hfi:=h.files;have hops:=h.ops;have hlens:=h.lens
 rw[hc]at o2
 refine⟨⟨⟨ss, ?_,by omega⟩,o2,Nat.le_succ_of_le h.files,by dsimp only;omega,fun f hf=>up_ (h.raws f hf),up_ hops,Nat.le_succ_of_le h.flt,Nat.le_succ_of_le h.next,h.size,h.rows,by simp,by simp,h.struck,h.near,h.stop,by dsimp only;simp only[List.length_nil];omega⟩,o2,o3⟩
 unfold Live
 dsimp only
 rw[o1,o2]
 have e:Al p=Al { p with l:=openP p.d.fs p.l.base,maybe:= [],cuts:= [] }:=by
  unfold Al
  rw[h1,h2]
 rw[hc]at o5
 rw[e]at o5
 exact o5
end
def Sane(raw:List UInt8):Prop:=∀p k,Enc.unframe raw=some (p,k)->p.length=49->(p.headD 0=104\/p.headD 0=119)->big6 p=false
def NiceB(raw:List UInt8)(counts:Nat):Nat->RS->Prop
 | 0,_=>True
 | n+1,s=>s.c.next<=900000000/\(∀p k,Enc.unframe (raw.drop s.size)=some (p,k)->s.size+k<=counts->p.length=9->stepB raw counts s≠none->num p 0<=900000000)/\∀s',stepB raw counts s=some s'->NiceB raw counts n s'
def NiceAll(fs:List Fl):Ct->List Seg->Prop
 | _, []=>True
 | c,s :: r=>(s.file<9223372036854775808/\s.first<=900000000/\s.next<=900000000)/\s.size<=(keptB fs s.file).length/\countsOf r<=4611686018427387904/\c.next<=900000000/\
  NiceB (keptB fs s.file) (countsOf r) ((keptB fs s.file).length+1) ⟨startS s c,s.last,s.size⟩/\NiceAll fs (replayP fs c s (countsOf r)).1 r
theorem num_one{k:UInt8}{n:Nat}(h:n<=900000000):num (metaP k [n]) 0<=900000000:=by rw[num_meta k [n] 0 n rfl (by omega)];exact h
theorem nice_items{T:List UInt8}{counts:Nat}:∀(l:List It) (pre:List UInt8) (c:Ct) (last fuel:Nat),(∀a∈l,a.fine)->GoodIts c.next l->last=c.next->(pre++encs l).length<=counts->(Dead T\/counts<(pre++encs l).length+8)->
  NiceB (pre++(encs l++T)) counts fuel ⟨c,last,pre.length⟩
 | _,_,_,_,0,_,_,_,_,_=>trivial
 | [],pre,c,last,f+1,_,hg,_,h1,h2=>by
  have h0:pre++(encs []++T)=pre++T:=by simp[encs]
  have h3:(pre++encs []).length=pre.length:=by simp[encs]
  rw[h3]at h1 h2
  rw[h0]
  have hn:stepB (pre++T) counts ⟨c,last,pre.length⟩=none:=by
   rcases h2 with h2 | h2
   ·exact dead_step h2 rfl
   ·exact full_step rfl h2
  exact⟨hg,fun p k _ _ _ hne=>absurd hn hne,fun s' hs=>by rw[hn]at hs;cases hs⟩
 | a :: l,pre,c,last,f+1,hfi,hg,hl,h1,h2=>by
  have e0:pre++(encs (a :: l)++T)=pre++(a.enc++(encs l++T)):=by rw[encs_cons,List.append_assoc]
  have e1:(pre++encs (a :: l)).length=((pre++a.enc)++encs l).length:=by rw[encs_cons,List.append_assoc]
  rw[e1]at h1 h2
  have ha:=hfi a (List.mem_cons_self ..)
  have hlen:pre.length+a.enc.length<=counts:=by simp only[List.length_append]at h1;omega
  have hle:=goodIts_le _ _ hg
  rw[e0]
  have hstep:GoodIts (c.item a).next l/\a.lastOf (c.item a).next last=(c.item a).next:=by
   cases a with
   | put i b=>
    have e:c.item (.put i b)=c.add b:=if_pos hg.1
    rw[e,Ct.next_add]
    exact⟨hg.2,rfl⟩
   | cut m=>
    have e:(c.item (.cut m)).next=c.next:=Ct.next_cut hg.1
    rw[e]
    exact⟨hg.2,hl⟩
  have ih:=nice_items l (pre++a.enc) (c.item a) _ f (fun b hb=>hfi b (List.mem_cons_of_mem _ hb)) hstep.1 hstep.2 h1 h2
  rw[List.append_assoc,List.length_append]at ih
  refine⟨by dsimp only;omega,fun p k hu _ _ _=> ?_,fun s' hs=> ?_⟩
  ·dsimp only at hu
   rw[List.drop_left' rfl]at hu
   cases a with
   | put i b=>
    have hi:i=c.next:=hg.1
    simp only[It.enc,metaF,List.append_assoc]at hu
    rw[Enc.unframe_of (by rw[metaP_len];simp)]at hu
    injection hu with hu
    injection hu with hu _
    rw[<- hu]
    exact num_one (by omega)
   | cut m=>
    have hi:m<=c.next:=hg.1
    simp only[It.enc,metaF]at hu
    rw[Enc.unframe_of (by rw[metaP_len];simp)]at hu
    injection hu with hu
    injection hu with hu _
    rw[<- hu]
    exact num_one (by omega)
  ·rw[item_step ha rfl hlen]at hs
   injection hs with hs
   rw[<- hs]
   exact ih
section
variable {fs:List Fl}{base:Nat}{ss:List AS}{c:Ct}{A:Ct->Prop}
theorem Shape.sane(h:Shape fs base ss c A){f:Fl}(hf:f∈fs)(hr:inR base f=true):Sane f.good:=by
 intro p k hu hl hh
 cases hb:big6 p with
 | false=>rfl
 | true=>
  have he:begunP f.good=some ⟨0,0,0,0,false,0⟩:=by
   unfold begunP
   rw[hu]
   dsimp only
   rw[if_neg (fun hn=>hn ⟨hl,hh⟩),if_pos hb]
  rcases h.seen hf hr with⟨h1,_⟩ | ⟨a,_,_,_,h1⟩
  ·rw[he]at h1;cases h1
  ·rw[he]at h1
   injection h1 with h1
   have h2:(0:Nat)=57:=congrArg Hd.size h1
   omega
theorem Shape.numbers(h:Shape fs base ss c A):((found fs base).map Seg.number).Nodup:=by
 refine(h.founds.map Seg.number).nodup_iff.2 ?_
 rw[List.map_map]
 refine List.pairwise_map.2 (h.chain.rise.imp fun {a b} hab=> ?_)
 show a.number≠b.number
 omega
theorem AS.fine.le_{a:AS}(h:a.fine):a.first<=a.next/\a.next<=a.stop/\a.stop<=900000000:=⟨h.le,goodIts_le _ _ h.good⟩
theorem nice_all:∀{ss:List AS} {c:Ct},Chain ss->(∀a∈ss,a.fine)->(∀a∈ss,a.bytes.length<=1099511627776)->(∀a∈ss,a.file<9223372036854775808)->(∀a∈ss,∃junk,keptB fs a.file=a.bytes++junk)->
  (∀ss0 a,ss=ss0++ [a]->∃junk,keptB fs a.file=a.bytes++junk/\Dead junk)->(∀a,ss.head? =some a->a.whole=true\/c.next<=a.next)->c.next<=900000000->
  NiceAll fs c (ss.map fun a=>a.hd.seg a.file)
 | [],_,_,_,_,_,_,_,_,_=>trivial
 | a :: r,c,hch,hfi,hsz,hfl,hk,hl,hc,hcn=>by
  have hst:startS (a.hd.seg a.file) c=a.start c:=rfl
  have hfa:=hfi a (List.mem_cons_self ..)
  have hca:=hc a rfl
  have hle:=hfa.le_
  have hsn:=start_next hfa.le hca
  have hsza:=hsz a (by simp)
  have hil:∃junk,keptB fs a.file=a.bytes++junk/\a.bytes.length<=countsOf (r.map fun a=>a.hd.seg a.file)/\countsOf (r.map fun a=>a.hd.seg a.file)<=1099511627776/\(Dead junk\/countsOf (r.map fun a=>a.hd.seg a.file)<a.bytes.length+8):=by
   cases r with
   | nil=>
    obtain⟨junk,h1,h2⟩:=hl [] a rfl
    exact⟨junk,h1,hsza,Nat.le_refl _, .inl h2⟩
   | cons b r=>
    obtain⟨junk,h1⟩:=hk a (by simp)
    have hcn:countsOf ((b :: r).map fun a=>a.hd.seg a.file)=a.bytes.length:=hch.1.ahead
    exact⟨junk,h1,by omega,by omega, .inr (by omega)⟩
  obtain⟨junk,h1,h2,h3,h4⟩:=hil
  have e:a.bytes++junk=a.head++(encs a.items++junk):=by unfold AS.bytes;rw[List.append_assoc]
  have hb:a.head++encs a.items=a.bytes:=rfl
  have hone:replayP fs c (a.hd.seg a.file) (countsOf (r.map fun a=>a.hd.seg a.file))=(AS.play c a,a.seg a.stop):=by
   unfold replayP
   rw[hst]
   have:playB (keptB fs ((a.hd.seg a.file).file:Nat)) (countsOf (r.map fun a=>a.hd.seg a.file)) ((keptB fs ((a.hd.seg a.file).file:Nat)).length+1) ⟨a.start c,(a.hd.seg a.file).last,(a.hd.seg a.file).size⟩=⟨AS.play c a,a.stop,a.bytes.length⟩:=by
    rw[show keptB fs ((a.hd.seg a.file).file:Nat)=a.bytes++junk from h1]
    exact replay_of hfa hca h2 h4
   rw[this]
   rfl
  have hpn:=play_next hfa hca
  have ih:=nice_all (ss:=r) (c:=AS.play c a) hch.tail (fun x hx=>hfi x (List.mem_cons_of_mem _ hx)) (fun x hx=>hsz x (List.mem_cons_of_mem _ hx)) (fun x hx=>hfl x (List.mem_cons_of_mem _ hx)) (fun x hx=>hk x (List.mem_cons_of_mem _ hx))
   (fun l x e=>hl (a :: l) x (by rw[e];rfl)) (fun x hx=>by
    cases r with
    | nil=>cases hx
    | cons b r=>
     injection hx with hx
     subst hx
     rcases hch.1.next with h1 | h1
     ·exact .inl h1
     ·exact .inr (by rw[hpn,h1];exact Nat.le_refl _)) (by omega)
  rw[List.map_cons]
  unfold NiceAll
  rw[hone,hst]
  refine⟨⟨hfl a (by simp),by show a.first<= _;omega,by show a.next<= _;omega⟩, ?_,by omega,hcn, ?_,ih⟩
  ·show 57<=(keptB fs a.file).length
   rw[h1,e,List.length_append,AS.head_len]
   omega
  ·show NiceB (keptB fs a.file) _ ((keptB fs a.file).length+1) ⟨a.start c,a.next,57⟩
   rw[h1,e]
   have:=nice_items (T:=junk) (counts:=countsOf (r.map fun a=>a.hd.seg a.file)) a.items a.head (a.start c) a.next ((a.head++(encs a.items++junk)).length+1) hfa.its (by rw[hsn];exact hfa.good) hsn.symm (by rw[hb];exact h2) (by rw[hb];exact h4)
   rw[AS.head_len]at this
   exact this
theorem Shape.nice(h:Shape fs base ss c A)(hb:base<=16777216)(hr:∀f∈fs,f.raw.length<=1099511627776):NiceAll fs ⟨0, []⟩ (sortS (found fs base)):=by
 have hs:sortS (found fs base)=ss.map fun a=>a.hd.seg a.file:=by
  refine sort_seg h.founds ?_
  rw[List.pairwise_map]
  exact h.chain.rise
 rw[hs]
 refine nice_all h.chain h.fine (h.small hr) (fun a ha=>by have:=h.range a ha;omega) (fun a ha=> ?_) (fun ss0 a e=> ?_) (fun a _=> .inr (Nat.zero_le _)) (Nat.zero_le _)
 ·obtain⟨f,junk,h1,h2⟩:=h.held a ha
  exact⟨junk,by rw[keptB_of h1];exact h2⟩
 ·obtain⟨f,_,h1,_⟩:=h.held a (by rw[e];simp)
  obtain⟨junk,h2,h3,_⟩:=h.tail ss0 a e f h1
  exact⟨junk,by rw[keptB_of h1];exact h2,h3⟩
end
end Go.Proofs.YtjehlgblkfofpaaGreat