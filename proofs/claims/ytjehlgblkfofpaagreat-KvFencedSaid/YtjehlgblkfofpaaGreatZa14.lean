/- The claims' texts, several in one: Ops, Log, Wrt, Put. Conditions stand with each theorem. -/
import Derived.Test.YtjehlgblkfofpaaGreatZa01
namespace Go.Proofs.YtjehlgblkfofpaaGreat
section
variable {fs:List Fl}
theorem Fl.at_cons(f:Fl)(r:List Fl)(n:Int):Fl.at_ (f :: r) n=if f.n=n then some f else Fl.at_ r n:=by
 unfold Fl.at_
 by_cases h:f.n=n
 ·rw[List.find?_cons_of_pos (by simpa using h),if_pos h]
 ·rw[List.find?_cons_of_neg (by simpa using h),if_neg h]
theorem Fl.mem_ins{n:Int}{b:List UInt8}{f:Fl}:∀{fs:List Fl},f∈Fl.ins n b fs->f.n=n\/f∈fs
 | [],h=>by simp[Fl.ins]at h;subst h;exact .inl rfl
 | g :: r,h=>by
  unfold Fl.ins at h
  split at h
  ·rcases List.mem_cons.1 h with rfl | h
   ·exact .inl rfl
   ·exact .inr h
  ·split at h
   ·rcases List.mem_cons.1 h with rfl | h
    ·exact .inl rfl
    ·exact .inr (List.mem_cons_of_mem _ h)
   ·rcases List.mem_cons.1 h with rfl | h
    ·exact .inr (List.mem_cons_self ..)
    ·rcases Fl.mem_ins h with h | h
     ·exact .inl h
     ·exact .inr (List.mem_cons_of_mem _ h)
theorem Fl.ins_ok{n:Int}{b:List UInt8}:∀{fs:List Fl},Fl.ok fs->Fl.ok (Fl.ins n b fs)
 | [],_=>⟨List.pairwise_singleton _ _,fun f hf=>by simp[Fl.ins]at hf;subst hf;exact Nat.zero_le _⟩
 | g :: r,h=>by
  obtain⟨hg,hr⟩:=List.pairwise_cons.1 h.rise
  have ih:=Fl.ins_ok (n:=n) (b:=b) (fs:=r) ⟨hr,fun x hx=>h.le x (List.mem_cons_of_mem _ hx)⟩
  unfold Fl.ins
  by_cases h1:n<g.n
  ·rw[if_pos h1]
   refine⟨List.pairwise_cons.2 ⟨fun x hx=> ?_,h.rise⟩,fun x hx=> ?_⟩
   ·rcases List.mem_cons.1 hx with rfl | hx
    ·exact h1
    ·have:=hg x hx;dsimp only;omega
   ·rcases List.mem_cons.1 hx with rfl | hx
    ·exact Nat.zero_le _
    ·exact h.le x hx
  ·rw[if_neg h1]
   by_cases h2:g.n=n
   ·rw[if_pos h2]
    refine⟨List.pairwise_cons.2 ⟨fun x hx=>by have:=hg x hx;dsimp only;omega,hr⟩,fun x hx=> ?_⟩
    rcases List.mem_cons.1 hx with rfl | hx
    ·have:=h.le g (List.mem_cons_self ..)
     dsimp only
     rw[List.length_append];omega
    ·exact h.le x (List.mem_cons_of_mem _ hx)
   ·rw[if_neg h2]
    refine⟨List.pairwise_cons.2 ⟨fun x hx=> ?_,ih.rise⟩,fun x hx=> ?_⟩
    ·rcases Fl.mem_ins hx with e | hx
     ·omega
     ·exact hg x hx
    ·rcases List.mem_cons.1 hx with rfl | hx
     ·exact h.le x (List.mem_cons_self ..)
     ·exact ih.le x hx
theorem Fl.at_ins{n:Int}{b:List UInt8}(m:Int):∀{fs:List Fl},Fl.ok fs->Fl.at_ (Fl.ins n b fs) m=if n=m then some (match Fl.at_ fs n with | some f=>⟨n,f.raw++b,f.kept⟩ | none=>⟨n,b,0⟩) else Fl.at_ fs m
 | [],_=>by
  show Fl.at_ [⟨n,b,0⟩] m= _
  rw[Fl.at_cons]
  rfl
 | g :: r,h=>by
  obtain⟨hg,hr⟩:=List.pairwise_cons.1 h.rise
  have ih:=Fl.at_ins (n:=n) (b:=b) m (fs:=r) ⟨hr,fun x hx=>h.le x (List.mem_cons_of_mem _ hx)⟩
  unfold Fl.ins
  by_cases h1:n<g.n
  ·have h0:Fl.at_ (g :: r) n=none:=Fl.find_none fun f hf=>by
    rcases List.mem_cons.1 hf with rfl | hf
    ·exact h1
    ·have:=hg f hf;omega
   rw[if_pos h1,Fl.at_cons,h0]
  ·rw[if_neg h1]
   by_cases h2:g.n=n
   ·rw[if_pos h2,Fl.at_cons,Fl.at_cons,if_pos h2,Fl.at_cons]
    dsimp only
    by_cases h3:n=m
    ·rw[if_pos h3,if_pos h3]
    ·rw[if_neg h3,if_neg h3,if_neg (by omega)]
   ·rw[if_neg h2,Fl.at_cons,ih,Fl.at_cons,Fl.at_cons,if_neg h2]
    by_cases h3:n=m
    ·rw[if_pos h3,if_neg (by omega),if_pos h3]
    ·rw[if_neg h3,if_neg h3]
theorem Fl.add_ok{n:Int}{b:List UInt8}(h:Fl.ok fs):Fl.ok (Fl.add n b fs):=by
 unfold Fl.add
 split
 ·exact h
 ·exact Fl.ins_ok h
theorem Fl.sync_ok{n:Int}(h:Fl.ok fs):Fl.ok (Fl.sync n fs):=by
 unfold Fl.sync
 refine⟨?_,fun f hf=> ?_⟩
 ·rw[List.pairwise_map]
  refine h.rise.imp fun {a b} hab=> ?_
  have ea:(if a.n=n then (⟨a.n,a.raw,a.raw.length⟩:Fl) else a).n=a.n:=by split<;>rfl
  have eb:(if b.n=n then (⟨b.n,b.raw,b.raw.length⟩:Fl) else b).n=b.n:=by split<;>rfl
  rw[ea,eb]
  exact hab
 ·obtain⟨g,hg,rfl⟩:=List.mem_map.1 hf
  split
  ·exact Nat.le_refl _
  ·exact h.le g hg
theorem Fl.at_sync{n:Int}(m:Int):∀fs:List Fl,Fl.at_ (Fl.sync n fs) m=(Fl.at_ fs m).map fun f=>if f.n=n then ⟨f.n,f.raw,f.raw.length⟩ else f
 | []=>rfl
 | g :: r=>by
  have ih:=Fl.at_sync (n:=n) m r
  have e:Fl.sync n (g :: r)=(if g.n=n then (⟨g.n,g.raw,g.raw.length⟩:Fl) else g) :: Fl.sync n r:=rfl
  have ea:(if g.n=n then (⟨g.n,g.raw,g.raw.length⟩:Fl) else g).n=g.n:=by split<;>rfl
  rw[e,Fl.at_cons,Fl.at_cons,ea,ih]
  by_cases h:g.n=m
  ·rw[if_pos h,if_pos h];rfl
  ·rw[if_neg h,if_neg h]
theorem Fl.gone_ok{n:Int}(h:Fl.ok fs):Fl.ok (fs.filter fun f=>decide (f.n≠n)):=
 ⟨h.rise.sublist List.filter_sublist,fun f hf=>h.le f (List.mem_filter.1 hf).1⟩
theorem Fl.at_gone{n:Int}(m:Int):∀fs:List Fl,Fl.at_ (fs.filter fun f=>decide (f.n≠n)) m=if n=m then none else Fl.at_ fs m
 | []=>by simp[Fl.at_]
 | g :: r=>by
  have ih:=Fl.at_gone (n:=n) m r
  by_cases h:g.n=n
  ·rw[List.filter_cons_of_neg (by simpa using h),ih,Fl.at_cons]
   by_cases h2:n=m
   ·rw[if_pos h2,if_pos h2]
   ·rw[if_neg h2,if_neg h2,if_neg (by omega)]
  ·rw[List.filter_cons_of_pos (by simpa using h),Fl.at_cons,ih,Fl.at_cons]
   by_cases h2:n=m
   ·rw[if_pos h2,if_pos h2,if_neg (by omega)]
   ·rw[if_neg h2,if_neg h2]
end
structure Alike(n:Int)(fs fs':List Fl):Prop where
 ok:Fl.ok fs'
 at_:∀m,m≠n->Fl.at_ fs' m=Fl.at_ fs m
theorem Alike.trans{n:Int}{a b c:List Fl}(h:Alike n a b)(k:Alike n b c):Alike n a c:=⟨k.ok,fun m hm=>(k.at_ m hm).trans (h.at_ m hm)⟩
theorem add_alike{n:Int}{b:List UInt8}{fs:List Fl}(h:Fl.ok fs):Alike n fs (Fl.add n b fs):=by
 refine⟨Fl.add_ok h,fun m hm=> ?_⟩
 unfold Fl.add
 split
 ·rfl
 ·rw[Fl.at_ins m h,if_neg (by omega)]
theorem sync_alike{n:Int}{fs:List Fl}(h:Fl.ok fs):Alike n fs (Fl.sync n fs):=by
 refine⟨Fl.sync_ok h,fun m hm=> ?_⟩
 rw[Fl.at_sync]
 cases hf:Fl.at_ fs m with
 | none=>rfl
 | some f=>
  have:=(Fl.at_mem hf).2
  rw[Option.map_some,if_neg (by omega)]
theorem gone_alike{n:Int}{fs:List Fl}(h:Fl.ok fs):Alike n fs (fs.filter fun f=>decide (f.n≠n)):=
 ⟨Fl.gone_ok h,fun m hm=>by rw[Fl.at_gone,if_neg (by omega)]⟩
theorem whyN_cases{d:Dk}{n:Int}(hn:0<=n):d.why n=0\/d.why n=3\/d.why n=4:=by
 unfold Dk.why
 split
 ·exact .inr (.inr rfl)
 ·split
  ·exact .inr (.inl rfl)
  ·exact .inl (if_neg (by omega))
theorem append_fs(d:Dk)(n:Int)(b:List UInt8)(_hn:0<=n):∃k,(d.append n b).fs=Fl.add n (b.take k) d.fs/\(d.why n=0->b.take k=b):=by
 unfold Dk.append
 by_cases h:d.why n=0
 ·rw[if_pos h]
  exact⟨b.length,by rw[List.take_length],fun _=>List.take_length⟩
 ·rw[if_neg h]
  by_cases h2:d.why n=3/\d.kind=2/\0<=n
  ·rw[if_pos h2]
   exact⟨b.length / 2,rfl,fun h'=>absurd h' h⟩
  ·rw[if_neg h2]
   exact⟨0,by simp[Fl.add];rfl,fun h'=>absurd h' h⟩
theorem sync_fs(d:Dk)(n:Int):(d.sync n).fs=if d.why n=0 then Fl.sync n d.fs else d.fs:=by unfold Dk.sync;split<;>rfl
theorem delete_fs(d:Dk)(n:Int):(d.delete n).fs=if d.why n=0 then d.fs.filter fun f=>decide (f.n≠n) else d.fs:=by unfold Dk.delete;split<;>rfl
def layP(d:Dk)(n:Int)(b:List UInt8):Dk×Int:=
 if d.why n=0 then ((d.append n b).sync n,(d.append n b).why n) else (d.append n b,d.why n)
theorem lay_alike{d:Dk}{n:Int}{b:List UInt8}(h:Fl.ok d.fs)(hn:0<=n):Alike n d.fs (layP d n b).1.fs:=by
 obtain⟨k,h1,_⟩:=append_fs d n b hn
 have h2:Alike n d.fs (d.append n b).fs:=by rw[h1];exact add_alike h
 unfold layP
 split
 ·dsimp only
  rw[sync_fs]
  split
  ·exact h2.trans (sync_alike h2.ok)
  ·exact h2
 ·exact h2
theorem lay_at{d:Dk}{n:Int}{b:List UInt8}(h:Fl.ok d.fs)(hn:0<=n)(hb:b≠ []){raw:List UInt8}{kept:Nat}(hat:Fl.at_ d.fs n=some ⟨n,raw,kept⟩\/(Fl.at_ d.fs n=none/\raw= []/\kept=0)):
  ((layP d n b).2=0->Fl.at_ (layP d n b).1.fs n=some ⟨n,raw++b,(raw++b).length⟩)/\
  ((layP d n b).2≠0->∃k,Fl.at_ (layP d n b).1.fs n=some ⟨n,raw++b.take k,kept⟩\/Fl.at_ (layP d n b).1.fs n=Fl.at_ d.fs n):=by
 obtain⟨k,h1,h0⟩:=append_fs d n b hn
 have hadd:∀x:List UInt8,x≠ []->Fl.at_ (Fl.add n x d.fs) n=some ⟨n,raw++x,kept⟩:=by
  intro x hx
  unfold Fl.add
  rw[if_neg hx,Fl.at_ins n h,if_pos rfl]
  rcases hat with hat | ⟨hat,rfl,rfl⟩
  ·rw[hat]
  ·rw[hat];rfl
 unfold layP
 by_cases hw:d.why n=0
 ·rw[if_pos hw]
  dsimp only
  have hf:Fl.at_ (d.append n b).fs n=some ⟨n,raw++b,kept⟩:=by rw[h1,h0 hw];exact hadd b hb
  refine⟨fun he=> ?_,fun he=>⟨b.length, .inl ?_⟩⟩
  ·rw[sync_fs,if_pos he,Fl.at_sync,hf,Option.map_some,if_pos rfl]
  ·rw[sync_fs,if_neg he,hf,List.take_length]
 ·rw[if_neg hw]
  dsimp only
  refine⟨fun he=>absurd he hw,fun _=>⟨k, ?_⟩⟩
  rw[h1]
  by_cases hx:b.take k= []
  ·right
   unfold Fl.add
   rw[if_pos hx]
  ·exact .inl (hadd _ hx)
theorem lay_why{d:Dk}{n:Int}{b:List UInt8}(hn:0<=n):(layP d n b).2=0\/(layP d n b).2=3\/(layP d n b).2=4:=by
 unfold layP
 split
 ·exact whyN_cases hn
 ·exact whyN_cases hn
/-! shapes under what is done to one file -/
section
variable {fs fs':List Fl}{base:Nat}{ss ss0:List AS}{a:AS}{c:Ct}{A B:Ct->Prop}
theorem file_ne{ss:List AS}(hn:(ss.map AS.file).Nodup){ss0:List AS}{a x:AS}(e:ss=ss0++ [a])(hx:x∈ss0):x.file≠a.file:=by
 subst e
 rw[List.map_append,List.nodup_append]at hn
 exact hn.2.2 _ (List.mem_map_of_mem hx) _ (by simp)
theorem Shape.on_last(h:Shape fs base (ss0++ [a]) c A)(hal:Alike a.file fs fs')(hab:∀x,A x->B x){f:Fl}(hf:Fl.at_ fs' a.file=some f)(ht:Tail a c B f):Shape fs' base (ss0++ [a]) c B:=by
 have h:=h.weak hab
 have hm:∀f∈fs',Strange base (ss0++ [a]) f->f∈fs:=fun f hf hs=>by
  have h1:=Fl.at_of hal.ok.rise hf
  rw[hal.at_ _ (fun e=>hs.2.2 a (by simp) e.symm)]at h1
  exact(Fl.at_mem h1).1
 refine⟨hal.ok,h.fine,h.chain,h.play,h.nodup,h.range,fun x hx=> ?_,fun l x e g hg=> ?_,fun f hf hs=>h.strange f (hm f hf hs) hs,fun f hf g hg hs hs'=>h.one f (hm f hf hs) g (hm g hg hs') hs hs'⟩
 ·rcases List.mem_append.1 hx with hx | hx
  ·rw[hal.at_ _ (by have:=file_ne h.nodup rfl hx;omega)]
   exact h.held x (List.mem_append_left _ hx)
  ·rw[List.mem_singleton]at hx
   subst hx
   obtain⟨junk,h1,_⟩:=ht
   exact⟨f,junk,hf,h1⟩
 ·obtain⟨_,e⟩:=List.append_inj' e rfl
  injection e with e
  subst e
  rw[hf]at hg
  injection hg with hg
  subst hg
  exact ht
structure Clean(fs:List Fl)(base:Nat)(ss:List AS):Prop where
 strange:∀f∈fs,Strange base ss f->f.raw.length=f.kept
 last:∀ss0 a,ss=ss0++ [a]->Fl.at_ fs a.file=some ⟨a.file,a.bytes,a.bytes.length⟩
theorem strange_more{f:Fl}{it:It}:Strange base (ss0++ [{ a with items:=a.items++ [it] }]) f↔Strange base (ss0++ [a]) f:=
 ⟨strange_iff (by simp) f,strange_iff (by simp) f⟩
theorem tail_all{a:AS}{f:Fl}(h1:f.raw=a.bytes)(h2:f.kept=a.bytes.length):Tail a c B f:=⟨[],by rw[h1,h2,List.take_length,List.append_nil],dead_nil, .inl (by rw[h1,h2])⟩
theorem Shape.more(h:Shape fs base (ss0++ [a]) c A)(hcl:Clean fs base (ss0++ [a])){it:It}(hi:it.fine)(hg:GoodIts a.stop [it])(hal:Alike a.file fs fs')(hf:Fl.at_ fs' a.file=some ⟨a.file,a.bytes++it.enc,(a.bytes++it.enc).length⟩):
  Shape fs' base (ss0++ [{ a with items:=a.items++ [it] }]) (c.item it) (fun _=>False)/\Clean fs' base (ss0++ [{ a with items:=a.items++ [it] }]):=by
 have hm:∀f∈fs',Strange base (ss0++ [a]) f->f∈fs:=fun f hf hs=>by
  have h1:=Fl.at_of hal.ok.rise hf
  rw[hal.at_ _ (fun e=>hs.2.2 a (by simp) e.symm)]at h1
  exact(Fl.at_mem h1).1
 have hch:=(chain_snoc a ss0).1 h.chain
 refine⟨⟨hal.ok,fun x hx=> ?_,(chain_snoc _ ss0).2 ⟨hch.1,fun l x hx=>link_more (hch.2 l x hx)⟩, ?_,by simpa using h.nodup,fun x hx=> ?_,fun x hx=> ?_,fun l x e g hg=> ?_,fun f hf hs=> ?_,fun f hf g hg hs hs' h1 _=> ?_⟩,⟨fun f hf hs=> ?_,fun l x e=> ?_⟩⟩
 ·rcases List.mem_append.1 hx with hx | hx
  ·exact h.fine x (List.mem_append_left _ hx)
  ·rw[List.mem_singleton]at hx
   rw[hx]
   exact fine_more (h.fine a (by simp)) hi hg
 ·rw[playAll_snoc,play_more,<- playAll_snoc,h.play]
 ·rcases List.mem_append.1 hx with hx | hx
  ·exact h.range x (List.mem_append_left _ hx)
  ·rw[List.mem_singleton]at hx;rw[hx];exact h.range a (by simp)
 ·rcases List.mem_append.1 hx with hx | hx
  ·rw[hal.at_ _ (by have:=file_ne h.nodup rfl hx;omega)]
   exact h.held x (List.mem_append_left _ hx)
  ·rw[List.mem_singleton]at hx
   subst hx
   exact⟨_, [],hf,by rw[bytes_more,List.take_length,List.append_nil]⟩
 ·obtain⟨_,e⟩:=List.append_inj' e rfl
  injection e with e
  subst e
  have hg:Fl.at_ fs' a.file=some g:=hg
  rw[hf]at hg
  injection hg with hg
  subst hg
  exact tail_all (by rw[bytes_more]) (by rw[bytes_more])
 ·rw[strange_more]at hs
  exact⟨(h.strange f (hm f hf hs) hs).1, .inl (hcl.strange f (hm f hf hs) hs)⟩
 ·rw[strange_more]at hs
  exact absurd (hcl.strange f (hm f hf hs) hs) h1
 ·rw[strange_more]at hs
  exact hcl.strange f (hm f hf hs) hs
 ·obtain⟨_,e⟩:=List.append_inj' e rfl
  injection e with e
  subst e
  rw[bytes_more]
  exact hf
theorem Shape.less(h:Shape fs base ss c A){n:Int}(hn:∀a∈ss,(a.file:Int)≠n)(hal:Alike n fs fs')(hf:Fl.at_ fs' n=none):Shape fs' base ss c A:=by
 have hm:∀f∈fs',f∈fs:=fun f hf'=>by
  have h1:=Fl.at_of hal.ok.rise hf'
  by_cases e:f.n=n
  ·rw[e,hf]at h1;cases h1
  ·rw[hal.at_ _ e]at h1
   exact(Fl.at_mem h1).1
 refine⟨hal.ok,h.fine,h.chain,h.play,h.nodup,h.range,fun x hx=> ?_,fun l x e g hg=> ?_,fun f hf hs=>h.strange f (hm f hf) hs,fun f hf g hg hs hs'=>h.one f (hm f hf) g (hm g hg) hs hs'⟩
 ·rw[hal.at_ _ (hn x hx)];exact h.held x hx
 ·rw[hal.at_ _ (hn x (by rw[e];simp))]at hg
  exact h.tail l x e g hg
theorem Shape.pend(h:Shape fs base ss c A)(hno:∀f∈fs,¬Strange base ss f)(hab:∀x,A x->B x){n:Int}(hn:∀a∈ss,(a.file:Int)≠n)(hal:Alike n fs fs')(hf:∀f,Fl.at_ fs' n=some f->f.kept=0/\Pend ss c B f):Shape fs' base ss c B:=by
 have h:=h.weak hab
 have hm:∀f∈fs',Strange base ss f->Fl.at_ fs' n=some f:=fun f hf' hs=>by
  have h1:=Fl.at_of hal.ok.rise hf'
  by_cases e:f.n=n
  ·rw[<- e];exact h1
  ·rw[hal.at_ _ e]at h1
   exact absurd hs (hno f (Fl.at_mem h1).1)
 refine⟨hal.ok,h.fine,h.chain,h.play,h.nodup,h.range,fun x hx=> ?_,fun l x e g hg=> ?_,fun f hf' hs=> ?_,fun f hf' g hg hs hs' _ _=> ?_⟩
 ·rw[hal.at_ _ (hn x hx)];exact h.held x hx
 ·rw[hal.at_ _ (hn x (by rw[e];simp))]at hg
  exact h.tail l x e g hg
 ·obtain⟨h1,h2⟩:=hf f (hm f hf' hs)
  refine⟨?_, .inr ⟨h1,h2⟩⟩
  rw[h1,List.take_zero]
  exact begun_none (Enc.unframe_short (by simp))
 ·have h1:=hm f hf' hs
  rw[hm g hg hs']at h1
  injection h1 with h1
  exact h1.symm
theorem Shape.new(h:Shape fs base ss c A)(hno:∀f∈fs,¬Strange base ss f){N:AS}(n1:N.fine)(n2:∀ss0 a,ss=ss0++ [a]->Link a N)(n3:∀a∈ss,a.file≠N.file)(n4:base<=N.file/\N.file<base+1048576)(hal:Alike N.file fs fs')
  (hf:Fl.at_ fs' N.file=some ⟨N.file,N.bytes,N.bytes.length⟩):Shape fs' base (ss++ [N]) (AS.play c N) (fun _=>False)/\Clean fs' base (ss++ [N]):=by
 have hm:∀f∈fs',¬Strange base (ss++ [N]) f:=fun f hf' hs=>by
  have h1:=Fl.at_of hal.ok.rise hf'
  rw[hal.at_ _ (fun e=>hs.2.2 N (by simp) e.symm)]at h1
  exact hno f (Fl.at_mem h1).1 ⟨hs.1,hs.2.1,fun x hx=>hs.2.2 x (List.mem_append_left _ hx)⟩
 refine⟨⟨hal.ok,fun x hx=> ?_,(chain_snoc N ss).2 ⟨h.chain,n2⟩,by rw[playAll_snoc,h.play], ?_,fun x hx=> ?_,fun x hx=> ?_,fun l x e g hg=> ?_,fun f hf hs=>absurd hs (hm f hf),fun f hf g hg hs=>absurd hs (hm f hf)⟩,⟨fun f hf hs=>absurd hs (hm f hf),fun l x e=> ?_⟩⟩
 ·rcases List.mem_append.1 hx with hx | hx
  ·exact h.fine x hx
  ·rw[List.mem_singleton]at hx;rw[hx];exact n1
 ·rw[List.map_append,List.nodup_append]
  refine⟨h.nodup,by simp,fun x hx y hy e=> ?_⟩
  simp only[List.map_cons,List.map_nil,List.mem_singleton]at hy
  obtain⟨z,hz,rfl⟩:=List.mem_map.1 hx
  exact n3 z hz (by rw[e,hy])
 ·rcases List.mem_append.1 hx with hx | hx
  ·exact h.range x hx
  ·rw[List.mem_singleton]at hx;rw[hx];exact n4
 ·rcases List.mem_append.1 hx with hx | hx
  ·rw[hal.at_ _ (by have:=n3 x hx;omega)]
   exact h.held x hx
  ·rw[List.mem_singleton]at hx
   rw[hx]
   exact⟨_, [],hf,by rw[List.take_length,List.append_nil]⟩
 ·obtain⟨_,e⟩:=List.append_inj' e rfl
  injection e with e
  subst e
  rw[hf]at hg
  injection hg with hg
  subst hg
  exact tail_all rfl rfl
 ·obtain⟨_,e⟩:=List.append_inj' e rfl
  injection e with e
  subst e
  exact hf
end
structure Seg where
 number:Nat
 ahead:Nat
 first:Nat
 next:Nat
 whole:Bool
 file:Nat
 size:Nat
 last:Nat
def Hd.seg(h:Hd)(file:Nat):Seg:=⟨h.number,h.ahead,h.first,h.next,h.whole,file,h.size,h.next⟩
def AS.seg(a:AS)(last:Nat):Seg:=⟨a.number,a.ahead,a.first,a.next,a.whole,a.file,a.bytes.length,last⟩
structure Lg where
 base:Nat
 segs:List Seg
 c:Ct
 failed:Bool
 dirty:Bool
def inR(base:Nat)(f:Fl):Bool:=decide ((base:Int)<=f.n) && decide (f.n<base+1048576)
theorem inR_iff{base:Nat}{f:Fl}:inR base f=true↔(base:Int)<=f.n/\f.n<base+1048576:=by simp[inR]
def Fl.good(f:Fl):List UInt8:=f.raw.take f.kept
def found(fs:List Fl)(base:Nat):List Seg:=(fs.filter (inR base)).filterMap fun f=>(begunP f.good).map fun h=>h.seg f.n.toNat
def lost(fs:List Fl)(base:Nat):Bool:=(fs.filter (inR base)).any fun f=>(begunP f.good).isNone
def keptB(fs:List Fl)(n:Int):List UInt8:=match Fl.at_ fs n with | some f=>f.good | none=> []
def rawB(fs:List Fl)(n:Int):List UInt8:=match Fl.at_ fs n with | some f=>f.raw | none=> []
def startS(s:Seg)(c:Ct):Ct:=if s.whole=true\/(c.cut s.first).next<s.next then ⟨s.next, []⟩ else c.cut s.first
def replayP(fs:List Fl)(c:Ct)(s:Seg)(counts:Nat):Ct×Seg:=
 ((playB (keptB fs s.file) counts ((keptB fs s.file).length+1) ⟨startS s c,s.last,s.size⟩).c,{ s with last:=(playB (keptB fs s.file) counts ((keptB fs s.file).length+1) ⟨startS s c,s.last,s.size⟩).last,size:=(playB (keptB fs s.file) counts ((keptB fs s.file).length+1) ⟨startS s c,s.last,s.size⟩).size })
def countsOf:List Seg->Nat
 | []=>1099511627776
 | t :: _=>t.ahead
def replayAll(fs:List Fl):Ct->List Seg->Ct×List Seg
 | c, []=>(c, [])
 | c,s :: r=>((replayAll fs (replayP fs c s (countsOf r)).1 r).1,(replayP fs c s (countsOf r)).2 :: (replayAll fs (replayP fs c s (countsOf r)).1 r).2)
def sortS(l:List Seg):List Seg:=l.mergeSort fun a b=>decide (a.number<=b.number)
def tooMany(fs:List Fl)(segs:List Seg):Bool:=match segs.getLast? with
 | some s=>decide (s.size≠(rawB fs s.file).length)
 | none=>false
def openP(fs:List Fl)(base:Nat):Lg:=
 ⟨base,(replayAll fs ⟨0, []⟩ (sortS (found fs base))).2,(replayAll fs ⟨0, []⟩ (sortS (found fs base))).1,false,lost fs base || tooMany fs (replayAll fs ⟨0, []⟩ (sortS (found fs base))).2⟩
theorem perm_of_mem{α:Type}:∀{l m:List α},l.Nodup->m.Nodup->(∀x,x∈l↔x∈m)->l.Perm m
 | [],m,_,_,h=>by
  cases m with
  | nil=>exact List.Perm.refl _
  | cons y m=>exact absurd ((h y).2 (List.mem_cons_self ..)) (by simp)
 | x :: l,m,hl,hm,h=>by
  obtain⟨m1,m2,rfl⟩:=List.append_of_mem ((h x).1 (List.mem_cons_self ..))
  have hx:=(List.nodup_cons.1 hl).1
  have hp:(m1++x :: m2).Perm (x :: (m1++m2)):=List.perm_middle
  have hm2:=hp.nodup_iff.1 hm
  refine List.Perm.trans (List.Perm.cons x (perm_of_mem (List.nodup_cons.1 hl).2 (List.nodup_cons.1 hm2).2 fun y=> ?_)) hp.symm
  have h1:=h y
  constructor
  ·intro hy
   have h2:=hp.mem_iff.1 (h1.1 (List.mem_cons_of_mem _ hy))
   rcases List.mem_cons.1 h2 with rfl | h2
   ·exact absurd hy hx
   ·exact h2
  ·intro hy
   have h2:=h1.2 (hp.mem_iff.2 (List.mem_cons_of_mem _ hy))
   rcases List.mem_cons.1 h2 with rfl | h2
   ·exact absurd hy (List.nodup_cons.1 hm2).1
   ·exact h2
theorem sort_seg{l m:List Seg}(h:l.Perm m)(hm:m.Pairwise fun a b=>a.number<b.number):sortS l=m:=by
 have hp:(sortS l).Perm m:=(List.mergeSort_perm _ _).trans h
 have tr:∀a b c:Seg,decide (a.number<=b.number)=true->decide (b.number<=c.number)=true->decide (a.number<=c.number)=true:=fun a b c h1 h2=>by
  simp only[decide_eq_true_eq] at*;omega
 have tot:∀a b:Seg,(decide (a.number<=b.number) || decide (b.number<=a.number))=true:=fun a b=>by
  simp only[Bool.or_eq_true,decide_eq_true_eq];omega
 have s1:(sortS l).Pairwise fun a b=>decide (a.number<=b.number)=true:=List.pairwise_mergeSort tr tot l
 have s2:m.Pairwise fun a b=>decide (a.number<=b.number)=true:=hm.imp fun h=>by simp;omega
 have inj:∀{m:List Seg},m.Pairwise (fun a b=>a.number<b.number)->∀a∈m,∀b∈m,a.number=b.number->a=b:=by
  intro m
  induction m with
  | nil=>intro _ a ha;cases ha
  | cons x m ih=>
   intro hp a ha b hb e
   obtain⟨h1,h2⟩:=List.pairwise_cons.1 hp
   rcases List.mem_cons.1 ha with e1 | ha2
   ·rcases List.mem_cons.1 hb with e2 | hb2
    ·rw[e1,e2]
    ·have:=h1 b hb2;rw[e1]at e;omega
   ·rcases List.mem_cons.1 hb with e2 | hb2
    ·have:=h1 a ha2;rw[e2]at e;omega
    ·exact ih h2 a ha2 b hb2 e
 refine List.Perm.eq_of_pairwise (le:=fun a b=>decide (a.number<=b.number)=true) (fun a b ha hb h1 h2=> ?_) s1 s2 hp
 simp only[decide_eq_true_eq]at h1 h2
 exact inj hm a (hp.mem_iff.1 ha) b hb (by omega)
section
variable {fs:List Fl}{base:Nat}{ss:List AS}{c:Ct}{A:Ct->Prop}
theorem Shape.seen(h:Shape fs base ss c A){f:Fl}(hf:f∈fs)(hr:inR base f=true):(begunP f.good=none/\Strange base ss f)\/∃a∈ss,(a.file:Int)=f.n/\Fl.at_ fs a.file=some f/\begunP f.good=some a.hd:=by
 by_cases hs:∃a∈ss,(a.file:Int)=f.n
 ·obtain⟨a,ha,e⟩:=hs
  obtain⟨g,junk,h1,h2⟩:=h.held a ha
  have hg:g=f:=by
   have h3:=Fl.at_of h.ok.rise hf
   rw[<- e,h1]at h3
   injection h3
  subst hg
  exact .inr ⟨a,ha,e,h1,by unfold Fl.good;rw[h2];exact begun_of (h.fine a ha) junk⟩
 ·have hst:Strange base ss f:=⟨(inR_iff.1 hr).1,(inR_iff.1 hr).2,fun a ha e=>hs ⟨a,ha,e⟩⟩
  exact .inl ⟨(h.strange f hf hst).1,hst⟩
theorem Shape.founds(h:Shape fs base ss c A):(found fs base).Perm (ss.map fun a=>a.hd.seg a.file):=by
 refine perm_of_mem ?_ ?_ fun s=> ?_
 ·have hp:(found fs base).Pairwise fun s t=>s.file≠t.file:=by
   unfold found
   rw[List.pairwise_filterMap]
   have h2:(fs.filter (inR base)).Pairwise fun a b=>(base:Int)<=a.n/\a.n<b.n:=by
    rw[List.pairwise_filter]
    exact h.ok.rise.imp fun {a b} hab ha _=>⟨(inR_iff.1 ha).1,hab⟩
   refine h2.imp fun {a b} hab s hs t ht=> ?_
   rw[Option.map_eq_some_iff]at hs ht
   obtain⟨x,_,rfl⟩:=hs
   obtain⟨y,_,rfl⟩:=ht
   show a.n.toNat≠b.n.toNat
   omega
  exact hp.imp fun hab e=>hab (by rw[e])
 ·have hn:=h.nodup
  unfold List.Nodup at hn ⊢
  rw[List.pairwise_map]at hn ⊢
  exact hn.imp fun hab e=>hab (congrArg Seg.file e)
 ·unfold found
  rw[List.mem_filterMap,List.mem_map]
  constructor
  ·rintro⟨f,hf,hs⟩
   obtain⟨hf,hr⟩:=List.mem_filter.1 hf
   rcases h.seen hf hr with⟨h1,_⟩ | ⟨a,ha,e,_,h1⟩
   ·rw[h1]at hs;cases hs
   ·rw[h1,Option.map_some]at hs
    injection hs with hs
    refine⟨a,ha, ?_⟩
    rw[<- hs,<- e]
    rfl
  ·rintro⟨a,ha,rfl⟩
   obtain⟨f,junk,h1,h2⟩:=h.held a ha
   obtain⟨hf,e⟩:=Fl.at_mem h1
   refine⟨f,List.mem_filter.2 ⟨hf,inR_iff.2 (by have:=h.range a ha;omega)⟩, ?_⟩
   unfold Fl.good
   rw[h2,begun_of (h.fine a ha),e]
   rfl
theorem replay_all:∀{ss:List AS} {c:Ct},Chain ss->(∀a∈ss,a.fine)->(∀a∈ss,a.bytes.length<=1099511627776)->(∀a∈ss,∃junk,keptB fs a.file=a.bytes++junk)->
  (∀ss0 a,ss=ss0++ [a]->∃junk,keptB fs a.file=a.bytes++junk/\Dead junk)->(∀a,ss.head? =some a->a.whole=true\/c.next<=a.next)->
  replayAll fs c (ss.map fun a=>a.hd.seg a.file)=(playAll c ss,ss.map fun a=>a.seg a.stop)
 | [],_,_,_,_,_,_,_=>rfl
 | a :: r,c,hch,hfi,hsz,hk,hl,hc=>by
  have hst:startS (a.hd.seg a.file) c=a.start c:=rfl
  have hfa:=hfi a (List.mem_cons_self ..)
  have hca:=hc a rfl
  have hone:replayP fs c (a.hd.seg a.file) (countsOf (r.map fun a=>a.hd.seg a.file))=(AS.play c a,a.seg a.stop):=by
   unfold replayP
   rw[hst]
   have e:∀{junk:List UInt8} {counts:Nat},keptB fs ((a.hd.seg a.file).file:Nat)=a.bytes++junk->a.bytes.length<=counts->(Dead junk\/counts<a.bytes.length+8)->
     playB (keptB fs ((a.hd.seg a.file).file:Nat)) counts ((keptB fs ((a.hd.seg a.file).file:Nat)).length+1) ⟨a.start c,(a.hd.seg a.file).last,(a.hd.seg a.file).size⟩=⟨AS.play c a,a.stop,a.bytes.length⟩:=by
    intro junk counts h1 h2 h3
    rw[h1]
    exact replay_of hfa hca h2 h3
   cases r with
   | nil=>
    obtain⟨junk,h1,h2⟩:=hl [] a rfl
    have hcn:countsOf (([]:List AS).map fun a=>a.hd.seg a.file)=1099511627776:=rfl
    rw[hcn,e h1 (hsz a (by simp)) (.inl h2)]
    rfl
   | cons b r=>
    obtain⟨junk,h1⟩:=hk a (by simp)
    have hcn:countsOf ((b :: r).map fun a=>a.hd.seg a.file)=a.bytes.length:=hch.1.ahead
    rw[hcn,e h1 (Nat.le_refl _) (.inr (by omega))]
    rfl
  have ih:=replay_all (ss:=r) (c:=AS.play c a) hch.tail (fun x hx=>hfi x (List.mem_cons_of_mem _ hx)) (fun x hx=>hsz x (List.mem_cons_of_mem _ hx)) (fun x hx=>hk x (List.mem_cons_of_mem _ hx))
   (fun l x e=>hl (a :: l) x (by rw[e];rfl)) (fun x hx=>by
    cases r with
    | nil=>cases hx
    | cons b r=>
     injection hx with hx
     subst hx
     rcases hch.1.next with h1 | h1
     ·exact .inl h1
     ·exact .inr (by rw[play_next hfa hca,h1];exact Nat.le_refl _))
  rw[List.map_cons]
  unfold replayAll
  rw[hone,ih]
  rfl
theorem keptB_of{n:Int}{f:Fl}(h:Fl.at_ fs n=some f):keptB fs n=f.raw.take f.kept:=by unfold keptB;rw[h];rfl
def SegsOf:List AS->List Seg->Prop
 | [], []=>True
 | a :: r,s :: t=>(∃n,s=a.seg n/\(n=a.stop\/∃b∈r,b.whole=true))/\SegsOf r t
 | _,_=>False
theorem segsOf_stop:∀ss:List AS,SegsOf ss (ss.map fun a=>a.seg a.stop)
 | []=>trivial
 | a :: r=>⟨⟨a.stop,rfl, .inl rfl⟩,segsOf_stop r⟩
structure Disked(fs:List Fl)(base:Nat)(ss:List AS)(c:Ct)(A:Ct->Prop)(segs:List Seg)(dirty:Bool):Prop where
 shape:Shape fs base ss c A
 segs:SegsOf ss segs
 clean:dirty=false->Clean fs base ss
theorem Shape.small(h:Shape fs base ss c A){K:Nat}(hr:∀f∈fs,f.raw.length<=K):∀a∈ss,a.bytes.length<=K:=by
 intro a ha
 obtain⟨f,junk,h1,h2⟩:=h.held a ha
 have h3:=hr f (Fl.at_mem h1).1
 have h4:=congrArg List.length h2
 rw[List.length_take,List.length_append]at h4
 omega
theorem open_law(h:Shape fs base ss c A)(hr:∀f∈fs,f.raw.length<=1099511627776):
  (openP fs base).base=base/\(openP fs base).c=c/\(openP fs base).failed=false/\(openP fs base).segs=(ss.map fun a=>a.seg a.stop)/\Disked fs base ss c A (openP fs base).segs (openP fs base).dirty:=by
 have hs:sortS (found fs base)=ss.map fun a=>a.hd.seg a.file:=by
  refine sort_seg h.founds ?_
  rw[List.pairwise_map]
  exact h.chain.rise
 have hk:∀a∈ss,∃junk,keptB fs a.file=a.bytes++junk:=fun a ha=>by
  obtain⟨f,junk,h1,h2⟩:=h.held a ha
  exact⟨junk,by rw[keptB_of h1];exact h2⟩
 have hl:∀ss0 a,ss=ss0++ [a]->∃junk,keptB fs a.file=a.bytes++junk/\Dead junk:=fun ss0 a e=>by
  obtain⟨f,_,h1,_⟩:=h.held a (by rw[e];simp)
  obtain⟨junk,h2,h3,_⟩:=h.tail ss0 a e f h1
  exact⟨junk,by rw[keptB_of h1];exact h2,h3⟩
 have hp:=replay_all (fs:=fs) h.chain h.fine (h.small hr) hk hl (c:=⟨0, []⟩) (fun a _=> .inr (Nat.zero_le _))
 unfold openP
 rw[hs,hp]
 refine⟨rfl,h.play,rfl,rfl,h,segsOf_stop ss,fun hd=> ?_⟩
 dsimp only at hd
 obtain⟨hd1,hd2⟩:=Bool.or_eq_false_iff.1 hd
 refine⟨fun f hf hst=> ?_,fun ss0 a e=> ?_⟩
 ·have h1:lost fs base=true:=by
   unfold lost
   rw[List.any_eq_true]
   exact⟨f,List.mem_filter.2 ⟨hf,inR_iff.2 ⟨hst.1,hst.2.1⟩⟩,by unfold Fl.good;rw[(h.strange f hf hst).1];rfl⟩
  rw[hd1]at h1
  cases h1
 ·obtain⟨f,junk,h1,h2⟩:=h.held a (by rw[e];simp)
  obtain⟨hf,hn⟩:=Fl.at_mem h1
  have hle:=h.ok.le f hf
  unfold tooMany at hd2
  rw[e,List.map_append,List.map_cons,List.map_nil,List.getLast?_append]at hd2
  simp only[List.getLast?_singleton,Option.some_or,decide_eq_false_iff_not,ne_eq,Decidable.not_not]at hd2
  have h3:rawB fs ((a.seg a.stop).file:Nat)=f.raw:=by unfold rawB;rw[show (((a.seg a.stop).file:Nat):Int)=(a.file:Int) from rfl,h1]
  rw[h3]at hd2
  have hd2:a.bytes.length=f.raw.length:=hd2
  have h4:=congrArg List.length h2
  rw[List.length_take,List.length_append]at h4
  have hj:junk= []:=List.eq_nil_of_length_eq_zero (by omega)
  have hkk:f.kept=f.raw.length:=by omega
  rw[hj,List.append_nil,hkk,List.take_length]at h2
  rw[h1]
  obtain⟨fn,fr,fk⟩:=f
  dsimp only at hn h2 hkk
  rw[hn,hkk,h2]
end
/-! free numbers -/
def freeN(used:List Int):Nat->Nat->Nat
 | 0,n=>n
 | k+1,n=>if (n:Int)∈used then freeN used k (n+1) else n
theorem pigeon:∀(k n:Nat) (used:List Int),(∀i,i<k->((n+i:Nat):Int)∈used)->k<=used.length
 | 0,_,_,_=>Nat.zero_le _
 | k+1,n,used,h=>by
  have h0:=h 0 (Nat.succ_pos k)
  rw[Nat.add_zero]at h0
  have:=pigeon k (n+1) (used.erase (n:Int)) fun i hi=>by
   have h1:=h (i+1) (by omega)
   rw[show n+(i+1)=n+1+i by omega]at h1
   exact(List.mem_erase_of_ne (by omega)).2 h1
  rw[List.length_erase_of_mem h0]at this
  have h2:0<used.length:=List.length_pos_of_mem h0
  omega
theorem freeN_spec(used:List Int):∀(k n:Nat),n<=freeN used k n/\freeN used k n<=n+k/\(∀i,n<=i->i<freeN used k n->(i:Int)∈used)/\(freeN used k n<n+k->((freeN used k n:Nat):Int) ∉ used)
 | 0,n=>⟨Nat.le_refl _,Nat.le_refl _,fun i h1 h2=>by unfold freeN at h2;omega,fun h=>by unfold freeN at h;omega⟩
 | k+1,n=>by
  unfold freeN
  split
  ·rename_i hm
   obtain⟨h1,h2,h3,h4⟩:=freeN_spec used k (n+1)
   refine⟨by omega,by omega,fun i hi hlt=> ?_,fun h=>h4 (by omega)⟩
   by_cases e:i=n
   ·rw[e];exact hm
   ·exact h3 i (by omega) hlt
  ·rename_i hm
   exact⟨Nat.le_refl _,by omega,fun i h1 h2=>by omega,fun _=>hm⟩
def freeP(used:List Int)(base:Nat):Nat:=freeN used (used.length+1) base
theorem freeP_spec(used:List Int)(base:Nat):base<=freeP used base/\freeP used base<=base+used.length/\(∀i,base<=i->i<freeP used base->(i:Int)∈used)/\((freeP used base:Nat):Int) ∉ used:=by
 obtain⟨h1,h2,h3,h4⟩:=freeN_spec used (used.length+1) base
 have h5:freeN used (used.length+1) base<base+(used.length+1):=by
  refine Nat.lt_of_le_of_ne h2 fun e=> ?_
  have:=pigeon (used.length+1) base used fun i hi=>h3 (base+i) (by omega) (by omega)
  omega
 exact⟨h1,by unfold freeP;omega,h3,h4 h5⟩
/-! what is taken away -/
def isSeg(segs:List Seg)(f:Fl):Bool:=segs.any fun s=>decide ((s.file:Int)=f.n)
def strangeN(fs:List Fl)(base:Nat)(segs:List Seg):List Int:=(fs.filter fun f=>inR base f && !isSeg segs f).map Fl.n
def usedN(fs:List Fl)(base:Nat)(segs:List Seg):List Int:=(segs.map fun s=>(s.file:Int))++(fs.filter (inR base)).map Fl.n
def delAll(d:Dk):List Int->Dk×Int
 | []=>(d,0)
 | n :: r=>if d.why n=0 then delAll (d.delete n) r else (d.delete n,d.why n)
section
variable {d:Dk}{fs:List Fl}{base:Nat}{ss:List AS}{c:Ct}{A:Ct->Prop}
theorem del_shape:∀(l:List Int) {d:Dk},Shape d.fs base ss c A->(∀n∈l,0<=n/\∀a∈ss,(a.file:Int)≠n)->
  Shape (delAll d l).1.fs base ss c A/\((delAll d l).2=0\/(delAll d l).2=3\/(delAll d l).2=4)/\(∀m,m ∉ l->Fl.at_ (delAll d l).1.fs m=Fl.at_ d.fs m)/\((delAll d l).2=0->∀n∈l,Fl.at_ (delAll d l).1.fs n=none)
 | [],d,h,_=>⟨h, .inl rfl,fun _ _=>rfl,fun _ n hn=>by cases hn⟩
 | n :: r,d,h,hl=>by
  obtain⟨h0,hn⟩:=hl n (List.mem_cons_self ..)
  have hd:=delete_fs d n
  unfold delAll
  by_cases hw:d.why n=0
  ·rw[if_pos hw]at hd ⊢
   have hal:Alike n d.fs (d.delete n).fs:=by rw[hd];exact gone_alike h.ok
   have hno:Fl.at_ (d.delete n).fs n=none:=by rw[hd,Fl.at_gone,if_pos rfl]
   obtain⟨k1,k2,k3,k4⟩:=del_shape r (h.less hn hal hno) fun m hm=>hl m (List.mem_cons_of_mem _ hm)
   refine⟨k1,k2,fun m hm=> ?_,fun he m hm=> ?_⟩
   ·rw[k3 m fun h=>hm (List.mem_cons_of_mem _ h),hal.at_ m fun e=>hm (by rw[e];exact List.mem_cons_self ..)]
   ·by_cases hmr:m∈r
    ·exact k4 he m hmr
    ·rcases List.mem_cons.1 hm with rfl | hm
     ·rw[k3 _ hmr];exact hno
     ·exact absurd hm hmr
  ·rw[if_neg hw]at hd ⊢
   dsimp only
   rw[hd]
   exact⟨h,(whyN_cases h0).elim (fun e=>absurd e hw) .inr,fun _ _=>rfl,fun e=>absurd e hw⟩
theorem segsOf_files:∀{ss:List AS} {segs:List Seg},SegsOf ss segs->segs.map Seg.file=ss.map AS.file
 | [], [],_=>rfl
 | a :: r,s :: t,h=>by
  obtain⟨⟨n,rfl,_⟩,h2⟩:=h
  rw[List.map_cons,List.map_cons,segsOf_files h2]
  rfl
 | [],_ :: _,h=>h.elim
 | _ :: _, [],h=>h.elim
theorem segsOf_snoc:∀{ss:List AS} {segs:List Seg} {a:AS},SegsOf (ss++ [a]) segs->∃s0,segs=s0++ [a.seg a.stop]/\s0.length=ss.length
 | [], [s],a,h=>by
  obtain⟨⟨n,rfl,h1⟩,_⟩:=h
  rcases h1 with rfl | ⟨b,hb,_⟩
  ·exact⟨[],rfl,rfl⟩
  ·cases hb
 | [], [],_,h=>h.elim
 | [],_ :: _ :: _,_,h=>h.2.elim
 | x :: r,s :: t,a,h=>by
  obtain⟨s0,rfl,hl⟩:=segsOf_snoc (ss:=r) h.2
  exact⟨s :: s0,rfl,by simp[hl]⟩
 | _ :: _, [],_,h=>h.elim
theorem segsOf_add{N:AS}:∀{ss:List AS} {segs:List Seg},SegsOf ss segs->SegsOf (ss++ [N]) (segs++ [N.seg N.stop])
 | [], [],_=>⟨⟨N.stop,rfl, .inl rfl⟩,trivial⟩
 | a :: r,s :: t,h=>by
  obtain⟨⟨n,e,h1⟩,h2⟩:=h
  refine⟨⟨n,e,h1.imp id ?_⟩,segsOf_add h2⟩
  rintro⟨b,hb,hw⟩
  exact⟨b,List.mem_append_left _ hb,hw⟩
 | [],_ :: _,h=>h.elim
 | _ :: _, [],h=>h.elim
theorem segsOf_whole{N:AS}{k:Nat}(hN:N.whole=true):∀{ss:List AS} {segs:List Seg},SegsOf ss segs->SegsOf (ss++ [N]) ((segs.map fun s=>{ s with last:=k })++ [N.seg N.stop])
 | [], [],_=>⟨⟨N.stop,rfl, .inl rfl⟩,trivial⟩
 | a :: r,s :: t,h=>by
  obtain⟨⟨n,e,_⟩,h2⟩:=h
  subst e
  exact⟨⟨k,rfl, .inr ⟨N,by simp,hN⟩⟩,segsOf_whole hN h2⟩
 | [],_ :: _,h=>h.elim
 | _ :: _, [],h=>h.elim
theorem segsOf_more{a:AS}{it:It}:∀{ss:List AS} {segs:List Seg},SegsOf (ss++ [a]) segs->∃s0,segs=s0++ [a.seg a.stop]/\SegsOf (ss++ [{ a with items:=a.items++ [it] }]) (s0++ [({ a with items:=a.items++ [it] }:AS).seg ({ a with items:=a.items++ [it] }:AS).stop])
 | [], [s],h=>by
  obtain⟨⟨n,rfl,h1⟩,_⟩:=h
  rcases h1 with rfl | ⟨b,hb,_⟩
  ·exact⟨[],rfl,⟨_,rfl, .inl rfl⟩,trivial⟩
  ·cases hb
 | [], [],h=>h.elim
 | [],_ :: _ :: _,h=>h.2.elim
 | x :: r,s :: t,h=>by
  obtain⟨⟨n,e,h1⟩,h2⟩:=h
  obtain⟨s0,rfl,hl⟩:=segsOf_more (ss:=r) (it:=it) h2
  refine⟨s :: s0,rfl,⟨n,e,h1.imp id ?_⟩,hl⟩
  rintro⟨b,hb,hw⟩
  rcases List.mem_append.1 hb with hb | hb
  ·exact⟨b,List.mem_append_left _ hb,hw⟩
  ·rw[List.mem_singleton]at hb
   subst hb
   exact⟨_,List.mem_append_right _ (List.mem_singleton.2 rfl),hw⟩
 | _ :: _, [],h=>h.elim
theorem isSeg_iff{ss:List AS}{segs:List Seg}(h:SegsOf ss segs)(f:Fl):isSeg segs f=true↔∃a∈ss,(a.file:Int)=f.n:=by
 have e:=segsOf_files h
 unfold isSeg
 rw[List.any_eq_true]
 constructor
 ·rintro⟨s,hs,h1⟩
  have:s.file∈ss.map AS.file:=by rw[<- e];exact List.mem_map_of_mem hs
  obtain⟨a,ha,h2⟩:=List.mem_map.1 this
  exact⟨a,ha,by rw[h2];exact of_decide_eq_true h1⟩
 ·rintro⟨a,ha,h1⟩
  have:a.file∈segs.map Seg.file:=by rw[e];exact List.mem_map_of_mem ha
  obtain⟨s,hs,h2⟩:=List.mem_map.1 this
  exact⟨s,hs,decide_eq_true (by rw[h2];exact h1)⟩
end
/-! a new segment -/
def numOf(segs:List Seg):Nat:=match segs.getLast? with | some s=>s.number+1 | none=>1
def aheadOf(segs:List Seg):Nat:=match segs.getLast? with | some s=>s.size | none=>0
def headB(whole:Bool)(number ahead first next:Nat)(frames:List UInt8):List UInt8:=metaF (if whole=true then 119 else 104) [number,ahead,first,next,frames.length,Enc.sum frames]
def beginP(d:Dk)(l:Lg)(whole:Bool)(first next:Nat)(frames:List UInt8):Dk×Lg×Int:=
 if (delAll d (strangeN d.fs l.base l.segs)).2≠0 then ((delAll d (strangeN d.fs l.base l.segs)).1,{ l with failed:=true,dirty:=true },(delAll d (strangeN d.fs l.base l.segs)).2)
 else if (layP (delAll d (strangeN d.fs l.base l.segs)).1 (freeP (usedN d.fs l.base l.segs) l.base) (headB whole (numOf l.segs) (aheadOf l.segs) first next frames++frames)).2≠0 then
  ((layP (delAll d (strangeN d.fs l.base l.segs)).1 (freeP (usedN d.fs l.base l.segs) l.base) (headB whole (numOf l.segs) (aheadOf l.segs) first next frames++frames)).1,{ l with failed:=true,dirty:=true },
   (layP (delAll d (strangeN d.fs l.base l.segs)).1 (freeP (usedN d.fs l.base l.segs) l.base) (headB whole (numOf l.segs) (aheadOf l.segs) first next frames++frames)).2)
 else ((layP (delAll d (strangeN d.fs l.base l.segs)).1 (freeP (usedN d.fs l.base l.segs) l.base) (headB whole (numOf l.segs) (aheadOf l.segs) first next frames++frames)).1,
  { l with segs:=(if whole=true then l.segs.map fun s=>{ s with last:=first } else l.segs)++ [⟨numOf l.segs,aheadOf l.segs,first,next,whole,freeP (usedN d.fs l.base l.segs) l.base,(headB whole (numOf l.segs) (aheadOf l.segs) first next frames++frames).length,l.c.next⟩],failed:=false,dirty:=false },0)
section
variable {d:Dk}{l:Lg}{ss:List AS}{c:Ct}{A:Ct->Prop}
theorem lastNum_of{segs:List Seg}(h:SegsOf ss segs):numOf segs=lastNum ss+1/\(∀ss0 a,ss=ss0++ [a]->aheadOf segs=a.bytes.length):=by
 rcases nil_or_snoc ss with rfl | ⟨l,a,rfl⟩
 ·cases segs with
  | nil=>exact⟨rfl,by simp⟩
  | cons s t=>exact h.elim
 ·obtain⟨s0,rfl,_⟩:=segsOf_snoc h
  refine⟨by simp[numOf,lastNum_snoc];rfl,fun ss0 b e=> ?_⟩
  obtain⟨_,e⟩:=List.append_inj' e rfl
  injection e with e
  subst e
  simp[aheadOf]
  rfl
theorem begin_law(h:Disked d.fs l.base ss c A l.segs l.dirty)(hu:d.fs.length+l.segs.length<1048576){whole:Bool}{first next:Nat}{its:List It}{n:Nat}(hn:n=freeP (usedN d.fs l.base l.segs) l.base)
  {N:AS} (hN:N=⟨numOf l.segs,aheadOf l.segs,first,next,whole,n,(encs its).length,Enc.sum (encs its),its⟩) (hf:N.fine) (hnx:whole=true\/c.next=next) (hst:whole=false->N.start c=c/\∃it,its= [it]):
  ((beginP d l whole first next (encs its)).2.2=0->Shape (beginP d l whole first next (encs its)).1.fs l.base (ss++ [N]) (AS.play c N) (fun _=>False)/\Clean (beginP d l whole first next (encs its)).1.fs l.base (ss++ [N])/\
   (beginP d l whole first next (encs its)).2.1={ l with segs:=(if whole=true then l.segs.map fun s=>{ s with last:=first } else l.segs)++ [N.seg l.c.next],failed:=false,dirty:=false })/\
  ((beginP d l whole first next (encs its)).2.2≠0->((beginP d l whole first next (encs its)).2.2=3\/(beginP d l whole first next (encs its)).2.2=4)/\Shape (beginP d l whole first next (encs its)).1.fs l.base ss c (fun x=>A x\/x=AS.play c N)/\
   (beginP d l whole first next (encs its)).2.1={ l with failed:=true,dirty:=true }):=by
 have hs:=h.shape
 obtain⟨hnum,hah⟩:=lastNum_of h.segs
 have hstr:∀n∈strangeN d.fs l.base l.segs,0<=n/\∀a∈ss,(a.file:Int)≠n:=by
  intro n hn
  unfold strangeN at hn
  obtain⟨f,hf,rfl⟩:=List.mem_map.1 hn
  obtain⟨hf,hb⟩:=List.mem_filter.1 hf
  rw[Bool.and_eq_true,Bool.not_eq_true']at hb
  have h1:=(inR_iff.1 hb.1).1
  refine⟨by omega,fun a ha e=> ?_⟩
  have:=(isSeg_iff h.segs f).2 ⟨a,ha,e⟩
  rw[hb.2]at this
  cases this
 obtain⟨k1,k2,k3,k4⟩:=del_shape (strangeN d.fs l.base l.segs) hs hstr
 obtain⟨u1,u2,_,u4⟩:=freeP_spec (usedN d.fs l.base l.segs) l.base
 have hul:(usedN d.fs l.base l.segs).length<=d.fs.length+l.segs.length:=by
  unfold usedN
  rw[List.length_append,List.length_map,List.length_map]
  have:=List.length_filter_le (inR l.base) d.fs
  omega
 rw[<- hn]at u1 u2 u4
 have hall:headB whole (numOf l.segs) (aheadOf l.segs) first next (encs its)++encs its=N.bytes:=by rw[hN];rfl
 unfold beginP
 rw[<- hn,hall]
 by_cases hd0:(delAll d (strangeN d.fs l.base l.segs)).2=0
 ·rw[if_neg (by rw[hd0];simp)]
  have hnf:∀a∈ss,a.file≠n:=fun a ha e=>by
   refine u4 ?_
   unfold usedN
   refine List.mem_append_left _ ?_
   have:a.file∈l.segs.map Seg.file:=by rw[segsOf_files h.segs];exact List.mem_map_of_mem ha
   obtain⟨s,hs,e2⟩:=List.mem_map.1 this
   exact List.mem_map.2 ⟨s,hs,by rw[e2,e]⟩
  have hfree:Fl.at_ d.fs n=none:=by
   cases hx:Fl.at_ d.fs n with
   | none=>rfl
   | some f=>
    obtain⟨hm,e⟩:=Fl.at_mem hx
    refine absurd ?_ u4
    unfold usedN
    refine List.mem_append_right _ (List.mem_map.2 ⟨f,List.mem_filter.2 ⟨hm,inR_iff.2 (by omega)⟩,e⟩)
  have hq:(n:Int) ∉ strangeN d.fs l.base l.segs:=fun hm=>by
   unfold strangeN at hm
   obtain⟨f,hf,e⟩:=List.mem_map.1 hm
   have:=Fl.at_of hs.ok.rise (List.mem_filter.1 hf).1
   rw[e,hfree]at this
   cases this
  have hfree2:Fl.at_ (delAll d (strangeN d.fs l.base l.segs)).1.fs n=none:=by rw[k3 _ hq,hfree]
  have hno:∀f∈(delAll d (strangeN d.fs l.base l.segs)).1.fs,¬Strange l.base ss f:=fun f hf hst=>by
   have h1:=Fl.at_of k1.ok.rise hf
   by_cases hm:f.n∈strangeN d.fs l.base l.segs
   ·rw[k4 hd0 _ hm]at h1;cases h1
   ·rw[k3 _ hm]at h1
    refine hm (List.mem_map.2 ⟨f,List.mem_filter.2 ⟨(Fl.at_mem h1).1, ?_⟩,rfl⟩)
    rw[Bool.and_eq_true,Bool.not_eq_true']
    refine⟨inR_iff.2 ⟨hst.1,hst.2.1⟩, ?_⟩
    cases hi:isSeg l.segs f with
    | false=>rfl
    | true=>
     obtain⟨a,ha,e⟩:=(isSeg_iff h.segs f).1 hi
     exact absurd e (hst.2.2 a ha)
  have hlink:∀ss0 a,ss=ss0++ [a]->Link a N:=fun ss0 a e=>by
   have h1:=hah ss0 a e
   have h2:lastNum ss=a.number:=by rw[e,lastNum_snoc]
   rw[hN]
   refine⟨by dsimp only;omega,h1,hnx.imp id fun h=> ?_⟩
   dsimp only
   rw[<- h,hs.next e]
  have hbne:N.bytes≠ []:=by
   intro e
   have:=congrArg List.length e
   simp only[AS.bytes,List.length_append,AS.head_len,List.length_nil]at this
   omega
  have hnN:N.file=n:=by rw[hN]
  have hal:=lay_alike (n:=n) (b:=N.bytes) k1.ok (by omega)
  obtain⟨l1,l2⟩:=lay_at (n:=n) (b:=N.bytes) (raw:= []) (kept:=0) k1.ok (by omega) hbne (.inr ⟨hfree2,rfl,rfl⟩)
  have hsg:(⟨numOf l.segs,aheadOf l.segs,first,next,whole,n,N.bytes.length,l.c.next⟩:Seg)=N.seg l.c.next:=by rw[hN];rfl
  by_cases he:(layP (delAll d (strangeN d.fs l.base l.segs)).1 n N.bytes).2=0
  ·rw[if_neg (by rw[he];simp)]
   refine⟨fun _=> ?_,fun h=>absurd rfl h⟩
   have h1:=l1 he
   rw[List.nil_append]at h1
   obtain⟨m1,m2⟩:=k1.new hno hf hlink (fun a ha=>by rw[hnN];exact hnf a ha) (by rw[hnN];omega) (by rw[hnN];exact hal) (by rw[hnN];exact h1)
   refine⟨m1,m2, ?_⟩
   rw[hsg]
  ·rw[if_pos he]
   refine⟨fun h=>absurd h he,fun _=>⟨(lay_why (by omega)).elim (fun e=>absurd e he) id, ?_,rfl⟩⟩
   refine k1.pend hno (fun _=> .inl) (n:=n) (fun a ha e=>hnf a ha (by omega)) hal fun f hf'=> ?_
   obtain⟨k,h1 | h1⟩:=l2 he
   ·rw[hf']at h1
    injection h1 with h1
    subst h1
    refine⟨rfl,N,hf,by rw[hN];exact hnum,hlink,by rw[hnN],List.take_prefix _ _, .inr rfl,fun _=>by rw[hN],fun hw=> ?_⟩
    have h2:=hst (by rw[hN]at hw;exact hw)
    exact⟨h2.1,by obtain⟨it,e⟩:=h2.2;exact⟨it,by rw[hN];exact e⟩⟩
   ·rw[hf',hfree2]at h1
    cases h1
 ·rw[if_pos hd0]
  exact⟨fun h=>absurd h hd0,fun _=>⟨k2.elim (fun e=>absurd e hd0) id,k1.weak fun _=> .inl,rfl⟩⟩
end
def growLast(segs:List Seg)(k:Nat):List Seg:=segs.modify (segs.length-1) fun s=>{ s with size:=s.size+k }
def setLast(segs:List Seg)(n:Nat):List Seg:=segs.modify (segs.length-1) fun s=>{ s with last:=n }
theorem modify_snoc{α:Type}(f:α->α)(a:α):∀l:List α,(l++ [a]).modify l.length f=l++ [f a]
 | []=>rfl
 | x :: l=>by rw[List.cons_append,List.length_cons,List.modify_succ_cons,modify_snoc f a l];rfl
theorem growLast_snoc(l:List Seg)(s:Seg)(k:Nat):growLast (l++ [s]) k=l++ [{ s with size:=s.size+k }]:=by
 unfold growLast
 rw[List.length_append,List.length_singleton,Nat.add_sub_cancel,modify_snoc]
theorem setLast_snoc(l:List Seg)(s:Seg)(k:Nat):setLast (l++ [s]) k=l++ [{ s with last:=k }]:=by
 unfold setLast
 rw[List.length_append,List.length_singleton,Nat.add_sub_cancel,modify_snoc]
def writeP(d:Dk)(l:Lg)(frames:List UInt8):Dk×Lg×Int:=
 match l.segs.getLast? with
 | some s=>
  if l.dirty=false then
   if (layP d s.file frames).2=0 then ((layP d s.file frames).1,{ l with segs:=growLast l.segs frames.length,failed:=false,dirty:=false },0)
   else ((layP d s.file frames).1,{ l with failed:=true,dirty:=true },(layP d s.file frames).2)
  else beginP d l false l.c.first l.c.next frames
 | none=>beginP d l false l.c.first l.c.next frames
section
variable {d:Dk}{l:Lg}{ss:List AS}{c:Ct}{A:Ct->Prop}
theorem item_next{it:It}(h:GoodIts c.next [it]):(c.item it).next=endOf c.next [it]:=items_next [it] c h
structure Wrote(d':Dk)(l l':Lg)(ss:List AS)(c c':Ct)(base:Nat):Prop where
 ex:∃ss',Shape d'.fs base ss' c' (fun _=>False)/\Clean d'.fs base ss'/\SegsOf ss' (setLast l'.segs c'.next)/\lastNum ss'<=lastNum ss+1
 last:∃l0 s,l'.segs=l0++ [s]/\s.last=c.next
 lg:l'={ l with segs:=l'.segs,failed:=false,dirty:=false }
theorem cut_self(c:Ct):c.cut c.first=c:=by unfold Ct.cut;rw[if_neg (Nat.lt_irrefl _)]
theorem begin_item(h:Disked d.fs l.base ss c A l.segs l.dirty)(hc:l.c=c)(hu:d.fs.length+l.segs.length<1048576){it:It}(hi:it.fine)(hg:GoodIts c.next [it]){K:Nat}(hK:K<=4611686018427387904)(hr:∀f∈d.fs,f.raw.length<=K)(h1:lastNum ss<=K)(h2:c.next<=K)(h3:it.enc.length<=K):
  ((beginP d l false l.c.first l.c.next it.enc).2.2=0->Wrote (beginP d l false l.c.first l.c.next it.enc).1 l (beginP d l false l.c.first l.c.next it.enc).2.1 ss c (c.item it) l.base)/\
  ((beginP d l false l.c.first l.c.next it.enc).2.2≠0->((beginP d l false l.c.first l.c.next it.enc).2.2=3\/(beginP d l false l.c.first l.c.next it.enc).2.2=4)/\Disked (beginP d l false l.c.first l.c.next it.enc).1.fs l.base ss c (fun x=>A x\/x=c.item it) l.segs true/\
   (beginP d l false l.c.first l.c.next it.enc).2.1={ l with failed:=true,dirty:=true }):=by
 subst hc
 obtain⟨hnum,hah⟩:=lastNum_of h.segs
 have hsm:=h.shape.small hr
 obtain⟨N,hN⟩:∃N:AS,N=⟨numOf l.segs,aheadOf l.segs,l.c.first,l.c.next,false,freeP (usedN d.fs l.base l.segs) l.base,(encs [it]).length,Enc.sum (encs [it]), [it]⟩:=⟨_,rfl⟩
 have hahK:aheadOf l.segs<=K:=by
  rcases nil_or_snoc ss with rfl | ⟨s0,a,rfl⟩
  ·have:=h.segs
   cases hl:l.segs with
   | nil=>exact Nat.zero_le _
   | cons s t=>rw[hl]at this;exact this.elim
  ·rw[hah s0 a rfl]
   exact hsm a (by simp)
 have hfi:l.c.first<=l.c.next:=Nat.le_add_right _ _
 have hsl:=Enc.sum_lt (encs [it])
 have hNf:N.fine:=by
  rw[hN]
  refine⟨fun n hn=> ?_,hsl,fun i hi'=> ?_,hg,hfi,fun hw=>by cases hw⟩
  ·simp only[AS.nums,List.mem_cons,List.not_mem_nil,or_false,encs_one]at hn hsl
   rcases hn with rfl | rfl | rfl | rfl | rfl | rfl<;>omega
  ·simp at hi';rw[hi'];exact hi
 have hNs:N.start l.c=l.c:=by
  rw[hN]
  unfold AS.start
  rw[cut_self,if_neg (by simp)]
 have hNp:AS.play l.c N=l.c.item it:=by
  unfold AS.play
  rw[hNs,hN]
  rfl
 have hb:=begin_law h hu rfl hN hNf (.inr rfl) fun _=>⟨hNs,it,rfl⟩
 rw[encs_one,hNp]at hb
 refine⟨fun he=> ?_,fun he=> ?_⟩
 ·obtain⟨m1,m2,m3⟩:=hb.1 he
  have hst:N.stop=(l.c.item it).next:=by
   rw[<- hNp]
   exact(play_next hNf (.inr (by rw[hN];exact Nat.le_refl _))).symm
  rw[if_neg (by simp)]at m3
  refine⟨⟨_,m1,m2, ?_, ?_⟩,⟨l.segs,N.seg l.c.next,by rw[m3],rfl⟩,by rw[m3]⟩
  ·rw[m3]
   dsimp only
   rw[setLast_snoc,<- hst]
   exact segsOf_add h.segs
  ·rw[lastNum_snoc,hN]
   dsimp only
   omega
 ·obtain⟨m1,m2,m3⟩:=hb.2 he
  exact⟨m1,⟨m2,h.segs,fun e=>by cases e⟩,m3⟩
theorem write_law(h:Disked d.fs l.base ss c A l.segs l.dirty)(hc:l.c=c)(hu:d.fs.length+l.segs.length<1048576){it:It}(hi:it.fine)(hg:GoodIts c.next [it]){K:Nat}(hK:K<=4611686018427387904)(hr:∀f∈d.fs,f.raw.length<=K)(h1:lastNum ss<=K)(h2:c.next<=K)(h3:it.enc.length<=K):
  ((writeP d l it.enc).2.2=0->Wrote (writeP d l it.enc).1 l (writeP d l it.enc).2.1 ss c (c.item it) l.base)/\
  ((writeP d l it.enc).2.2≠0->((writeP d l it.enc).2.2=3\/(writeP d l it.enc).2.2=4)/\Disked (writeP d l it.enc).1.fs l.base ss c (fun x=>A x\/x=c.item it) l.segs true/\
   (writeP d l it.enc).2.1={ l with failed:=true,dirty:=true }):=by
 have hb:=begin_item h hc hu hi hg hK hr h1 h2 h3
 rcases nil_or_snoc ss with rfl | ⟨s0,a,rfl⟩
 ·have hl:l.segs= []:=by
   have:=h.segs
   cases hl:l.segs with
   | nil=>rfl
   | cons s t=>rw[hl]at this;exact this.elim
  have e:writeP d l it.enc=beginP d l false l.c.first l.c.next it.enc:=by unfold writeP;rw[hl];rfl
  rw[e]
  exact hb
 ·obtain⟨t0,hs0,hmore⟩:=segsOf_more (it:=it) h.segs
  have hlast:l.segs.getLast? =some (a.seg a.stop):=by rw[hs0];simp
  by_cases hd:l.dirty=false
  ·have hcl:=h.clean hd
   have hat:=hcl.last s0 a rfl
   have hok:=h.shape.ok
   have hal:=lay_alike (n:=(a.file:Int)) (b:=it.enc) hok (by omega)
   have hne:it.enc≠ []:=by intro e;have:=it.enc_len;rw[e]at this;simp at this
   obtain⟨l1,l2⟩:=lay_at (n:=(a.file:Int)) (b:=it.enc) hok (by omega) hne (.inl hat)
   have hcs:=h.shape.next rfl
   have hg':GoodIts a.stop [it]:=by rw[<- hcs];exact hg
   unfold writeP
   rw[hlast]
   dsimp only
   rw[if_pos hd,show (((a.seg a.stop).file:Nat):Int)=(a.file:Int) from rfl]
   by_cases he:(layP d (a.file:Int) it.enc).2=0
   ·rw[if_pos he]
    refine⟨fun _=> ?_,fun h=>absurd rfl h⟩
    obtain⟨m1,m2⟩:=h.shape.more hcl hi hg' hal (l1 he)
    have hst:({ a with items:=a.items++ [it] }:AS).stop=(c.item it).next:=by
     rw[item_next hg,hcs]
     show endOf a.next (a.items++ [it])= _
     rw[endOf_append]
     rfl
    refine⟨⟨_,m1,m2, ?_,by simp only[lastNum_snoc];exact Nat.le_succ _⟩,⟨t0,{ a.seg a.stop with size:=(a.seg a.stop).size+it.enc.length }, ?_, ?_⟩,rfl⟩
    ·dsimp only
     rw[hs0,growLast_snoc,setLast_snoc,<- hst]
     have e:({ a with items:=a.items++ [it] }:AS).seg ({ a with items:=a.items++ [it] }:AS).stop={ a.seg a.stop with size:=(a.seg a.stop).size+it.enc.length,last:=({ a with items:=a.items++ [it] }:AS).stop }:=by
      unfold AS.seg
      rw[bytes_more,List.length_append]
     rw[e]at hmore
     exact hmore
    ·dsimp only
     rw[hs0,growLast_snoc]
    ·exact hcs.symm
   ·rw[if_neg he]
    refine⟨fun h=>absurd h he,fun _=>⟨(lay_why (by omega)).elim (fun e=>absurd e he) id,⟨?_,h.segs,fun e=>by cases e⟩,rfl⟩⟩
    obtain⟨k,hk | hk⟩:=l2 he
    ·refine h.shape.on_last hal (fun _=> .inl) hk ⟨[], ?_,dead_nil, .inr ⟨rfl,it,hi,hg', .inr rfl, ?_⟩⟩
     ·dsimp only
      rw[List.take_left' rfl,List.append_nil]
     ·dsimp only
      rw[List.drop_left' rfl]
      exact List.take_prefix _ _
    ·rw[hat]at hk
     exact h.shape.on_last hal (fun _=> .inl) hk (tail_all rfl rfl)
  ·have e:writeP d l it.enc=beginP d l false l.c.first l.c.next it.enc:=by unfold writeP;rw[hlast];dsimp only;rw[if_neg hd]
   rw[e]
   exact hb
/-! what goes behind it -/
theorem cut_cut(c:Ct)(m n:Nat):(c.cut m).cut n=(c.cut n).cut m:=by
 have key:∀(c:Ct) (m n:Nat),m<=n->(c.cut m).cut n=c.cut n/\(c.cut n).cut m=c.cut n:=by
  intro c m n h
  unfold Ct.cut
  by_cases h1:c.first<m
  ·have h2:c.first<n:=by omega
   rw[if_pos h1,if_pos h2]
   dsimp only
   rw[if_neg (show ¬n<m by omega)]
   refine⟨?_,rfl⟩
   by_cases h3:m<n
   ·rw[if_pos h3,List.drop_drop,show m-c.first+(n-m)=n-c.first by omega]
   ·rw[if_neg h3,show m=n by omega]
  ·rw[if_neg h1]
   refine⟨rfl, ?_⟩
   by_cases h2:c.first<n
   ·rw[if_pos h2]
    dsimp only
    rw[if_neg (by omega)]
   ·rw[if_neg h2,if_neg h1]
 rcases Nat.le_total m n with h | h
 ·rw[(key c m n h).1,(key c m n h).2]
 ·rw[(key c n m h).1,(key c n m h).2]
theorem cut_add{c:Ct}{m:Nat}(h:m<=c.next)(b:List UInt8):(c.add b).cut m=(c.cut m).add b:=by
 unfold Ct.cut Ct.add Ct.next at*
 by_cases h1:c.first<m
 ·rw[if_pos h1,if_pos h1]
  dsimp only
  rw[List.drop_append_of_le_length (by omega)]
 ·rw[if_neg h1,if_neg h1]
theorem items_cut:∀(l:List It) {c:Ct} {m:Nat},GoodIts c.next l->m<=c.next->(c.cut m).items l=(c.items l).cut m
 | [],_,_,_,_=>rfl
 | .put i b :: r,c,m,h,hm=>by
  have e1:c.item (.put i b)=c.add b:=if_pos h.1
  have e2:(c.cut m).item (.put i b)=(c.add b).cut m:=by
   rw[cut_add hm]
   exact if_pos (by rw[Ct.next_cut hm];exact h.1)
  show (((c.cut m).item (.put i b)).items r)=((c.item (.put i b)).items r).cut m
  rw[e1,e2]
  exact items_cut r (by rw[Ct.next_add];exact h.2) (by rw[Ct.next_add];omega)
 | .cut n :: r,c,m,h,hm=>by
  show (((c.cut m).cut n).items r)=((c.cut n).items r).cut m
  rw[cut_cut]
  exact items_cut r (by rw[Ct.next_cut h.1];exact h.2) (by rw[Ct.next_cut h.1];exact hm)
theorem play_whole:∀{ss:List AS},(∃x∈ss,x.whole=true)->∀c c',playAll c ss=playAll c' ss
 | a :: r,⟨x,hx,hw⟩,c,c'=>by
  show playAll (AS.play c a) r=playAll (AS.play c' a) r
  rcases List.mem_cons.1 hx with rfl | hx
  ·have:AS.play c x=AS.play c' x:=by
    unfold AS.play AS.start
    rw[if_pos (.inl hw),if_pos (.inl hw)]
   rw[this]
  ·exact play_whole ⟨x,hx,hw⟩ _ _
theorem play_cut:∀{ss:List AS} {c:Ct} {m:Nat},Chain ss->(∀a∈ss,a.fine/\a.whole=false)->(∀a,ss.head? =some a->c.next=a.next)->m<=c.next->playAll (c.cut m) ss=(playAll c ss).cut m
 | [],_,_,_,_,_,_=>rfl
 | a :: r,c,m,hch,hf,hn,hm=>by
  obtain⟨hfa,hwa⟩:=hf a (List.mem_cons_self ..)
  have hna:=hn a rfl
  have hst:∀x:Ct,x.next=a.next->a.start x=x.cut a.first:=fun x hx=>by
   unfold AS.start
   rw[hwa,if_neg]
   rintro(h | h)
   ·cases h
   ·have:=hfa.le
    rw[Ct.next_cut (by omega)]at h
    omega
  have e1:AS.play (c.cut m) a=(AS.play c a).cut m:=by
   unfold AS.play
   have:=hfa.le
   rw[hst _ (by rw[Ct.next_cut hm];exact hna),hst c hna,cut_cut]
   exact items_cut _ (by rw[Ct.next_cut (by omega),hna];exact hfa.good) (by rw[Ct.next_cut (by omega)];exact hm)
  have hpn:(AS.play c a).next=a.stop:=play_next hfa (.inr (by omega))
  show playAll (AS.play (c.cut m) a) r=(playAll (AS.play c a) r).cut m
  rw[e1]
  refine play_cut hch.tail (fun x hx=>hf x (List.mem_cons_of_mem _ hx)) (fun b hb=> ?_) ?_
  ·cases r with
   | nil=>cases hb
   | cons y r=>
    injection hb with hb
    subst hb
    rcases hch.1.next with h1 | h1
    ·have:=(hf y (by simp)).2
     rw[this]at h1;cases h1
    ·rw[hpn,h1]
  ·rw[hpn]
   have h1:c.next<=a.stop:=by
    rw[hna]
    have:∀(l:List It) (n:Nat),n<=endOf n l:=by
     intro l
     induction l with
     | nil=>intro n;exact Nat.le_refl _
     | cons x l ih=>
      intro n
      cases x<;>unfold endOf
      ·exact Nat.le_trans (Nat.le_succ n) (ih (n+1))
      ·exact ih n
    exact this _ _
   omega
theorem play_less{a b:AS}{r:List AS}(hch:Chain (a :: b :: r))(hf:∀x∈a :: b :: r,x.fine)(h:(∃x∈b :: r,x.whole=true)\/a.stop<=(playAll ⟨0, []⟩ (a :: b :: r)).first):playAll ⟨0, []⟩ (b :: r)=playAll ⟨0, []⟩ (a :: b :: r):=by
 by_cases hw:∃x∈b :: r,x.whole=true
 ·exact play_whole hw _ _
 ·have hle:=h.resolve_left hw
  have hall:∀x∈b :: r,x.fine/\x.whole=false:=fun x hx=>⟨hf x (List.mem_cons_of_mem _ hx),by
   cases hx2:x.whole with
   | false=>rfl
   | true=>exact absurd ⟨x,hx,hx2⟩ hw⟩
  have h1:(AS.play ⟨0, []⟩ a).next=a.stop:=play_next (hf a (by simp)) (.inr (Nat.zero_le _))
  have hbn:a.stop=b.next:=hch.1.next.resolve_left (by rw[(hall b (by simp)).2];simp)
  generalize hc1:AS.play ⟨0, []⟩ a=c1 at h1
  have e0:playAll ⟨0, []⟩ (a :: b :: r)=playAll c1 (b :: r):=by rw[<- hc1];rfl
  rw[e0]at hle ⊢
  have h2:=play_cut (c:=c1) (m:=b.next) hch.2 hall (fun x hx=>by injection hx with hx;rw[<- hx,h1,hbn]) (by omega)
  have h3:(playAll c1 (b :: r)).cut b.next=playAll c1 (b :: r):=by
   unfold Ct.cut
   rw[if_neg (by omega)]
  rw[h3]at h2
  rw[<- h2]
  have e1:c1.cut b.next=⟨b.next, []⟩:=by
   unfold Ct.cut
   unfold Ct.next at h1
   by_cases h4:c1.first<b.next
   ·rw[if_pos h4,List.drop_eq_nil_of_le (by omega)]
   ·rw[if_neg h4]
    obtain⟨f,rows⟩:=c1
    dsimp only at*
    have:rows= []:=List.eq_nil_of_length_eq_zero (by omega)
    rw[this,show f=b.next by omega]
  rw[e1]
  have hfb:=(hall b (by simp)).1
  have e2:b.start ⟨0, []⟩=b.start ⟨b.next, []⟩:=by
   have:=hfb.le
   unfold AS.start Ct.cut Ct.next
   dsimp only
   rw[(hall b (by simp)).2]
   rcases Nat.eq_zero_or_pos b.next with h0 | h0
   ·rw[h0]
   ·by_cases h5:0<b.first
    ·rw[if_pos h5,if_neg (show ¬b.next<b.first by omega)]
     dsimp only
     by_cases h6:b.first=b.next
     ·simp[h6]
     ·simp;omega
    ·rw[if_neg h5,if_neg (show ¬b.next<b.first by omega)]
     simp[h0]
  show playAll (AS.play ⟨0, []⟩ b) r=playAll (AS.play ⟨b.next, []⟩ b) r
  unfold AS.play
  rw[e2]
def tidyP(first:Nat):Dk->List Seg->Dk×List Seg
 | d, []=>(d, [])
 | d, [s]=>(d, [s])
 | d,s :: t :: r=>if s.last<=first then (if d.why s.file=0 then tidyP first (d.delete s.file) (t :: r) else (d.delete s.file,s :: t :: r)) else (d,s :: t :: r)
theorem Shape.drop{fs fs':List Fl}{base:Nat}{a b:AS}{r:List AS}(h:Shape fs base (a :: b :: r) c A)(hal:Alike a.file fs fs')(hno:Fl.at_ fs' a.file=none)(hp:playAll ⟨0, []⟩ (b :: r)=c):Shape fs' base (b :: r) c A:=by
 have hnd:=List.nodup_cons.1 (show (a.file :: (b :: r).map AS.file).Nodup from h.nodup)
 have hne:∀x∈b :: r,(x.file:Int)≠a.file:=fun x hx e=>hnd.1 (by rw[show a.file=x.file by omega];exact List.mem_map_of_mem hx)
 have hm:∀f∈fs',Strange base (b :: r) f->f∈fs/\Strange base (a :: b :: r) f:=fun f hf hs=>by
  have h1:=Fl.at_of hal.ok.rise hf
  have hfa:f.n≠a.file:=fun e=>by rw[e,hno]at h1;cases h1
  rw[hal.at_ _ hfa]at h1
  refine⟨(Fl.at_mem h1).1,hs.1,hs.2.1,fun x hx=> ?_⟩
  rcases List.mem_cons.1 hx with rfl | hx
  ·exact fun e=>hfa e.symm
  ·exact hs.2.2 x hx
 refine⟨hal.ok,fun x hx=>h.fine x (List.mem_cons_of_mem _ hx),h.chain.2,hp,hnd.2,fun x hx=>h.range x (List.mem_cons_of_mem _ hx),fun x hx=> ?_,fun l x e f hf=> ?_,fun f hf hs=> ?_,fun f hf g hg hs hs' h1 h2=> ?_⟩
 ·rw[hal.at_ _ (hne x hx)]
  exact h.held x (List.mem_cons_of_mem _ hx)
 ·rw[hal.at_ _ (hne x (by rw[e];simp))]at hf
  exact h.tail (a :: l) x (by rw[e];rfl) f hf
 ·obtain⟨h1,h2⟩:=hm f hf hs
  obtain⟨h3,h4⟩:=h.strange f h1 h2
  refine⟨h3,h4.imp id ?_⟩
  rintro⟨h5,N,n1,n0,n2,n3⟩
  exact⟨h5,N,n1,by rw[n0];simp[lastNum],fun l x e=>n2 (a :: l) x (by rw[e];rfl),n3⟩
 ·obtain⟨h3,h4⟩:=hm f hf hs
  obtain⟨h5,h6⟩:=hm g hg hs'
  exact h.one f h3 g h5 h4 h6 h1 h2
theorem tidy_law{first base:Nat}{dirty:Bool}:∀{segs:List Seg} {ss:List AS} {d:Dk},Disked d.fs base ss c A segs dirty->c.first=first->∃ss',Disked (tidyP first d segs).1.fs base ss' c A (tidyP first d segs).2 dirty/\lastNum ss'=lastNum ss
 | [],ss,d,h,_=>⟨ss,h,rfl⟩
 | [s],ss,d,h,_=>⟨ss,h,rfl⟩
 | s :: t :: r, [],d,h,_=>h.segs.elim
 | s :: t :: r, [a],d,h,_=>h.segs.2.elim
 | s :: t :: r,a :: b :: q,d,h,hc=>by
  unfold tidyP
  by_cases h1:s.last<=first
  ·rw[if_pos h1]
   have hd:=delete_fs d (s.file:Int)
   by_cases hw:d.why s.file=0
   ·rw[if_pos hw]at hd ⊢
    obtain⟨⟨n,e,hl⟩,hsg⟩:=h.segs
    subst e
    have hal:Alike a.file d.fs (d.delete (a.seg n).file).fs:=by rw[hd];exact gone_alike h.shape.ok
    have hno:Fl.at_ (d.delete (a.seg n).file).fs a.file=none:=by
     rw[hd,Fl.at_gone]
     exact if_pos rfl
    have hp:playAll ⟨0, []⟩ (b :: q)=c:=by
     rw[play_less h.shape.chain h.shape.fine,h.shape.play]
     rcases hl with hl | hl
     ·right
      rw[h.shape.play,hc,<- hl]
      exact h1
     ·exact .inl hl
    have hnd:=List.nodup_cons.1 (show (a.file :: (b :: q).map AS.file).Nodup from h.shape.nodup)
    have hD:Disked (d.delete (a.seg n).file).fs base (b :: q) c A (t :: r) dirty:=by
     refine⟨h.shape.drop hal hno hp,hsg,fun hdd=> ?_⟩
     obtain⟨k1,k2⟩:=h.clean hdd
     refine⟨fun f hf hs=> ?_,fun l x e=> ?_⟩
     ·have h2:=Fl.at_of hal.ok.rise hf
      have hfa:f.n≠a.file:=fun e=>by rw[e,hno]at h2;cases h2
      rw[hal.at_ _ hfa]at h2
      refine k1 f (Fl.at_mem h2).1 ⟨hs.1,hs.2.1,fun x hx=> ?_⟩
      rcases List.mem_cons.1 hx with rfl | hx
      ·exact fun e=>hfa e.symm
      ·exact hs.2.2 x hx
     ·rw[hal.at_ _ fun e2=>hnd.1 (by rw[show a.file=x.file by omega,e];exact List.mem_map_of_mem (by simp))]
      exact k2 (a :: l) x (by rw[e];rfl)
    obtain⟨ss',m1,m2⟩:=tidy_law hD hc
    exact⟨ss',m1,by rw[m2];simp[lastNum]⟩
   ·rw[if_neg hw]at hd ⊢
    refine⟨a :: b :: q, ?_,rfl⟩
    dsimp only
    rw[hd]
    exact h
  ·rw[if_neg h1]
   exact⟨a :: b :: q,h,rfl⟩
end
end Go.Proofs.YtjehlgblkfofpaaGreat