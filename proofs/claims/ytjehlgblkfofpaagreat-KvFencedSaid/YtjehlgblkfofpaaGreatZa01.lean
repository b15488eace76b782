/- The claims' texts, several in one: Base, Spec, Frs, Vrow, Par, Rspec, Shp, Cra. Conditions stand with each theorem. -/
import Derived.Test.YtjehlgblkfofpaaGreatRows
import Derived.WalkKit
import Derived.WalkSpells
import Derived.WalkLawsBesides
import Derived.Maps.AppendAt
import Derived.Lib.Hide
import Derived.Deep.AppendLies
import Derived.Deep.Draws
set_option maxRecDepth 100000
namespace Go.Proofs.YtjehlgblkfofpaaGreat
open Go.RowKit
theorem zh{p:Prop}(h:p):RowKit.Hid p:=h
structure Touch(S:Nat->Prop)(w w':World):Prop where
 os:w'.os=w.os
 tape:w'.tape=w.tape
 output:w'.output=w.output
 size:w.heap.size<=w'.heap.size
 block:∀k,k<w.heap.size->¬S k->w'.heap[k]? =w.heap[k]?
namespace Touch
variable {S S':Nat->Prop}{a w w':World}
theorem refl(S:Nat->Prop)(w:World):Touch S w w:=⟨rfl,rfl,rfl,Nat.le_refl _,fun _ _ _=>rfl⟩
theorem mono(h:Touch S w w')(hs:∀k,k<w.heap.size->S k->S' k):Touch S' w w':=
 ⟨h.os,h.tape,h.output,h.size,fun k hk hn=>h.block k hk (fun hS=>hn (hs k hk hS))⟩
theorem trans(h:Touch S a w)(k:Touch S' w w')(hs:∀i,i<a.heap.size->S' i->S i):Touch S a w':=
 ⟨k.os.trans h.os,k.tape.trans h.tape,k.output.trans h.output,Nat.le_trans h.size k.size,
  fun i hi hn=>(k.block i (Nat.lt_of_lt_of_le hi h.size) (fun hS=>hn (hs i hi hS))).trans (h.block i hi hn)⟩
theorem drew(h:Touch S a w):Touch S a w.drew:=⟨h.os,h.tape,h.output,h.size,h.block⟩
theorem drewN(h:Touch S a w)(n:Nat):Touch S a (w.drewN n):=⟨h.os,h.tape,h.output,h.size,h.block⟩
theorem alloc(h:Touch S a w)(o:Obj):Touch S a (w.alloc o):=
 ⟨h.os,h.tape,h.output,Nat.le_trans h.size (by simp),fun i hi hn=>(Below.heap_alloc w o i (Nat.lt_of_lt_of_le hi h.size)).trans (h.block i hi hn)⟩
theorem setCell(h:Touch S a w){p:Addr}(hp:a.heap.size<=p.block\/S p.block)(u:Value):Touch S a (w.setCell p u):=
 ⟨h.os,h.tape,h.output,by simpa [World.setCell] using h.size,fun i hi hn=>(Below.heap_setCell w p u i (by
  rintro rfl
  rcases hp with hp | hp
  ·omega
  ·exact hn hp)).trans (h.block i hi hn)⟩
theorem grown(h:Touch S a w){row:Option Nat}(hg:w.grownBy w' row)(hr:∀k,row=some k->a.heap.size<=k\/S k):Touch S a w':=
 ⟨hg.os.trans h.os,hg.tape.trans h.tape,hg.output.trans h.output,Nat.le_trans h.size hg.size,fun i hi hn=>
  (hg.block i (Nat.lt_of_lt_of_le hi h.size) (fun e=>by
   rcases hr i e.symm with hr | hr
   ·omega
   ·exact hn hr)).trans (h.block i hi hn)⟩
theorem heap(h:Touch S w w'){k:Nat}{o:Obj}(hk:w.heap[k]? =some o)(hn:¬S k):w'.heap[k]? =some o:=
 (h.block k (Array.getElem?_eq_some_iff.1 hk).1 hn).trans hk
theorem cell(h:Touch S w w'){p:Addr}{v:Value}(hc:w.cell? p=some v)(hn:¬S p.block):w'.cell? p=some v:=
 (World.cell?_of_block (h.block p.block (block_lt_of_cell hc) hn)).trans hc
theorem frozen(h:Touch S w w'){p:Addr}(hk:p.block<w.heap.size)(hn:¬S p.block):w'.frozen? p=w.frozen? p:=
 World.frozen?_of_block (h.block p.block hk hn)
theorem below(h:Touch S w w'){B:Nat}(hB:∀k,k<B->k<w.heap.size/\¬S k):Below B w w':=
 ⟨h.os,h.tape,h.output,h.size,fun k hk=>h.block k (hB k hk).1 (hB k hk).2⟩
theorem ofBelow(h:Below w.heap.size w w')(S:Nat->Prop):Touch S w w':=⟨h.os,h.tape,h.output,h.size,fun k hk _=>h.block k hk⟩
end Touch
abbrev Fresh(w w':World):Prop:=Touch (fun _=>False) w w'
theorem Fresh.bel{w w':World}(h:Fresh w w'):Below w.heap.size w w':=h.below fun _ hk=>⟨hk,id⟩
def Blk(w:World)(g:Nat)(t:TypeId)(cs:Array Value):Prop:=w.heap[g]? =some (.cells cs t (0,0))
section
variable {w w':World}{g:Nat}{t:TypeId}{cs:Array Value}
theorem Blk.lt(h:Blk w g t cs):g<w.heap.size:=(Array.getElem?_eq_some_iff.1 h).1
theorem Blk.cell(h:Blk w g t cs)(i:Nat):w.cell? ⟨g,i,none⟩=cs[i]? :=cell_of_row w g i cs t (0,0) h
theorem Blk.frozen(h:Blk w g t cs)(i:Nat):w.frozen? ⟨g,i,none⟩=false:=frozen_of_row w g i cs t h
theorem Blk.new(w:World)(t:TypeId)(cs:Array Value):Blk (w.alloc (.cells cs t)) w.heap.size t cs:=heap_alloc_new w _
theorem Blk.drew(h:Blk w g t cs):Blk w.drew g t cs:=h
theorem Blk.drewN(h:Blk w g t cs)(n:Nat):Blk (w.drewN n) g t cs:=h
theorem Blk.alloc(h:Blk w g t cs)(o:Obj):Blk (w.alloc o) g t cs:=(Below.heap_alloc w o g h.lt).trans h
theorem Blk.set_(h:Blk w g t cs)(i:Nat)(u:Value):Blk (w.setCell ⟨g,i,none⟩ u) g t (cs.setIfInBounds i u):=by
 unfold Blk at h ⊢
 simp[World.setCell,Array.getElem?_modify,h]
theorem Blk.far(h:Blk w g t cs){p:Addr}(hp:g≠p.block)(u:Value):Blk (w.setCell p u) g t cs:=(Below.heap_setCell w p u g hp).trans h
theorem Blk.touch{S:Nat->Prop}(h:Blk w g t cs)(hb:Touch S w w')(hg:¬S g):Blk w' g t cs:=hb.heap h hg
theorem Blk.grown{row:Option Nat}(h:Blk w g t cs)(hb:w.grownBy w' row)(hg:some g≠row):Blk w' g t cs:=(hb.block g h.lt hg).trans h
theorem Blk.ne_{g':Nat}{t':TypeId}{cs':Array Value}(h:Blk w g t cs)(h':Blk w g' t' cs')(hne:t≠t'):g≠g':=by
 rintro rfl
 unfold Blk at h h'
 rw[h]at h'
 injection h' with h'
 injection h' with _ ht
 exact hne ht
theorem own_blk_ne{base:Nat}{e:TypeId}{size n:Nat}{v:Value}{xs:List Value}(h:w.ownsRow base e size v n xs)(hg:Blk w g t cs)(hne:e≠t):v.ownBlock≠some g:=by
 rcases h.2 with⟨rfl,_⟩ | ⟨g',cap,cur,rfl,_,hh,_⟩
 ·simp[Value.ownBlock]
 ·intro he
  have:g'=g:=by simpa [Value.ownBlock] using he
  subst this
  exact Blk.ne_ (t:=e) hh hg hne rfl
end
def u8s(xs:List UInt8):List Value:=xs.map fun x=> .int .u8 (x.toNat:Int)
theorem u8s_length(xs:List UInt8):(u8s xs).length=xs.length:=by simp[u8s]
theorem u8s_append(xs ys:List UInt8):u8s (xs++ys)=u8s xs++u8s ys:=by simp[u8s]
theorem u8s_one(xs:List UInt8):∀u∈u8s xs,u.oneCell'=true:=by
 intro u hu
 obtain⟨x,_,rfl⟩:=List.mem_map.1 hu
 rfl
theorem u8s_get(xs:List UInt8)(j:Nat):(u8s xs)[j]? =(xs[j]?).map fun x=> .int .u8 (x.toNat:Int):=by simp[u8s]
def Row(w:World)(v:Value)(xs:List UInt8):Prop:=w.ownsRow 0 5 1 v xs.length (u8s xs)
section
variable {w w':World}{v:Value}{xs:List UInt8}
theorem Row.nil_(w:World):Row w (.slice none 0 0) []:=World.ownsRow_nil w _ _ _
theorem Row.alloc(h:Row w v xs)(o:Obj):Row (w.alloc o) v xs:=World.ownsRow.alloc h o
theorem Row.drew(h:Row w v xs):Row w.drew v xs:=h
theorem Row.lt(h:Row w v xs):∀k,v.ownBlock=some k->k<w.heap.size:=fun k hk=>(World.ownsRow.lt h k hk).2
theorem Row.far(h:Row w v xs){p:Addr}(hp:v.ownBlock≠some p.block)(u:Value):Row (w.setCell p u) v xs:=by
 refine World.ownsRow.kept (row:=some p.block) h ⟨rfl,rfl,rfl,by simp[World.setCell],fun k _ hk=> ?_⟩ (.inr hp)
 exact Below.heap_setCell w p u k (fun e=>hk (by rw[e]))
theorem Row.touch{S:Nat->Prop}(h:Row w v xs)(hb:Touch S w w')(hn:∀k,v.ownBlock=some k->¬S k):Row w' v xs:=by
 refine⟨h.1, ?_⟩
 rcases h.2 with hnil | ⟨g,cap,cur,rfl,hb',hg,rest⟩
 ·exact .inl hnil
 ·exact .inr ⟨g,cap,cur,rfl,hb',hb.heap hg (hn g rfl),rest⟩
theorem Row.form(h:Row w v xs):∃A cap,v= .slice A xs.length cap/\xs.length<=cap/\cap<=maxLen/\(xs≠ []->∃g,A=some ⟨g,0,none⟩):=by
 rcases h.2 with⟨rfl,hn⟩ | ⟨g,cap,cur,rfl,_,_,hnc,hm,_⟩
 ·refine⟨none,0,by rw[hn],by omega,by simp[maxLen],fun hx=> ?_⟩
  exact absurd (List.eq_nil_of_length_eq_zero hn) hx
 ·exact⟨_,cap,rfl,hnc,hm,fun _=>⟨g,rfl⟩⟩
theorem Row.ne_blk{g:Nat}{t:TypeId}{cs:Array Value}(h:Row w v xs)(hg:Blk w g t cs)(hne:5≠t):v.ownBlock≠some g:=own_blk_ne h hg hne
end
def Bs(w:World)(A:Option Addr)(n c:Nat)(xs:List UInt8):Prop:=
 xs.length=n/\n<=c/\c<=maxLen/\(0<n->∃b o,A=some ⟨b,o,none⟩/\∀j x,xs[j]? =some x->w.cell? ⟨b,o+j,none⟩=some (.int .u8 (x.toNat:Int)))
section
variable {w w':World}{A:Option Addr}{n c:Nat}{xs:List UInt8}
theorem Bs.keep(h:Bs w A n c xs)(hk:0<n->∀p v,w.cell? p=some v->(∃a,A=some a/\p.block=a.block)->w'.cell? p=some v):Bs w' A n c xs:=
 ⟨h.1,h.2.1,h.2.2.1,fun hn=>by
  obtain⟨b,o,e,hc⟩:=h.2.2.2 hn
  exact⟨b,o,e,fun j x hx=>hk hn _ _ (hc j x hx) ⟨_,e,rfl⟩⟩⟩
theorem Bs.touch{S:Nat->Prop}(h:Bs w A n c xs)(hb:Touch S w w')(hn:∀a,A=some a->0<n->¬S a.block):Bs w' A n c xs:=
 h.keep fun h0 p v hp ⟨a,ha,e⟩=>hb.cell hp (by rw[e];exact hn a ha h0)
theorem Bs.fresh(h:Bs w A n c xs)(hb:Fresh w w'):Bs w' A n c xs:=h.touch hb fun _ _ _=>id
theorem Bs.drew(h:Bs w A n c xs):Bs w.drew A n c xs:=h
theorem Bs.drewN(h:Bs w A n c xs)(k:Nat):Bs (w.drewN k) A n c xs:=h
theorem Bs.alloc(h:Bs w A n c xs)(o:Obj):Bs (w.alloc o) A n c xs:=h.fresh ((Touch.refl _ _).alloc o)
theorem Row.bs(h:Row w (.slice A n c) xs):Bs w A n c xs:=by
 rcases h.2 with⟨e,hn⟩ | ⟨g,cap,cur,e,_,hg,hnc,hm,_,htake⟩
 ·injection e with e1 e2 e3
  subst e1 e2 e3
  exact⟨hn,by omega,by simp[maxLen],fun h0=>by omega⟩
 ·injection e with e1 e2 e3
  subst e1 e2 e3
  refine⟨rfl,hnc,hm,fun _=>⟨g,0,rfl,fun j x hx=> ?_⟩⟩
  have hc:=World.ownsRow.cells (v:= .slice (some ⟨g,0,none⟩) xs.length c) h (g:=g) rfl j (.int .u8 (x.toNat:Int)) (by rw[u8s_get,hx];rfl)
  have hadd:(⟨g,0,none⟩:Addr).add j=⟨g,0+j,none⟩:=by unfold Addr.add;split<;>simp_all
  rw[hadd]at hc
  exact hc
theorem Bs.cellAt{b o:Nat}(h:Bs w (some ⟨b,o,none⟩) n c xs){j:Nat}(hj:j<n):w.cell? ⟨b,o+j,none⟩=some (.int .u8 ((xs.getD j 0).toNat:Int)):=by
 obtain⟨b',o',e,hc⟩:=h.2.2.2 (by omega)
 injection e with e
 injection e with e1 e2
 subst e1 e2
 have hl:j<xs.length:=by rw[h.1];exact hj
 exact hc j _ (by rw[List.getD_eq_getElem?_getD,List.getElem?_eq_getElem hl];rfl)
theorem Bs.at_(h:Bs w A n c xs)(hn:0<n):∃b o,A=some ⟨b,o,none⟩:=by
 obtain⟨b,o,e,_⟩:=h.2.2.2 hn
 exact⟨b,o,e⟩
theorem Bs.take(h:Bs w A n c xs){k:Nat}(hk:k<=n):Bs w A k c (xs.take k):=by
 refine⟨by rw[List.length_take,h.1];omega,by have:=h.2.1;omega,h.2.2.1,fun h0=> ?_⟩
 obtain⟨b,o,e,hc⟩:=h.2.2.2 (by omega)
 refine⟨b,o,e,fun j x hx=>hc j x ?_⟩
 rw[List.getElem?_take]at hx
 split at hx
 ·exact hx
 ·cases hx
end
end Go.Proofs.YtjehlgblkfofpaaGreat
namespace Go.Proofs.YtjehlgblkfofpaaGreat
structure Fl where
 n:Int
 raw:List UInt8
 kept:Nat
structure Dk where
 fs:List Fl
 ops:Nat
 faults:List (Int×Int)
 stopped:Bool
 stop:Int
namespace Dk
def new:Dk:=⟨[],0, [],false,0⟩
def later(d:Dk)(after:Int):Int:=if 9223372036854775807-(d.ops:Int)<max after 0 then-1 else d.ops+max after 0
def fail(d:Dk)(after kind:Int):Dk:={ d with faults:=d.faults++ [(d.later after,kind)] }
def halt(d:Dk)(after:Int):Dk:={ d with stopped:=decide (d.later after≠-1),stop:=d.later after }
def hit(d:Dk):Option (Int×Int):=d.faults.find? fun f=>decide (f.1=(d.ops:Int))
def next(d:Dk):Dk:={ d with ops:=d.ops+1,faults:=d.faults.filter fun f=>decide (f.1≠(d.ops:Int)) }
def dead(d:Dk):Bool:=d.stopped && decide (d.stop<=(d.ops:Int))
def why(d:Dk)(file:Int):Int:=if d.dead then 4 else if d.hit.isSome then 3 else if file<0 then 1 else 0
def kind(d:Dk):Int:=if d.dead then 0 else match d.hit with | some f=>f.2 | none=>0
end Dk
def Fl.at_(fs:List Fl)(n:Int):Option Fl:=fs.find? fun f=>decide (f.n=n)
def Fl.ins(n:Int)(b:List UInt8):List Fl->List Fl
 | []=> [⟨n,b,0⟩]
 | f :: r=>if n<f.n then ⟨n,b,0⟩ :: f :: r else if f.n=n then ⟨n,f.raw++b,f.kept⟩ :: r else f :: Fl.ins n b r
def Fl.add(n:Int)(b:List UInt8)(fs:List Fl):List Fl:=if b= [] then fs else Fl.ins n b fs
def Fl.ways(f:Fl)(cut:Int):Nat:=(cut % (2*((f.raw.length:Int)-f.kept)+1)).toNat
def Fl.lose(f:Fl)(cut:Int):Fl:=
 let k:=f.ways cut
 let m:=f.kept+(k+1) / 2
 ⟨f.n,if k % 2=0/\0<k then (f.raw.take m).set (m-1) (255-f.raw.getD (m-1) 0) else f.raw.take m,m⟩
def Fl.crash:List Fl->List Int->List Fl
 | [],_=> []
 | f :: r,cuts=>if (f.lose (cuts.headD 0)).kept=0 then Fl.crash r cuts.tail else f.lose (cuts.headD 0) :: Fl.crash r cuts.tail
def Fl.sync(n:Int)(fs:List Fl):List Fl:=fs.map fun f=>if f.n=n then ⟨f.n,f.raw,f.raw.length⟩ else f
namespace Dk
def append(d:Dk)(file:Int)(b:List UInt8):Dk:=
 if d.why file=0 then { d.next with fs:=Fl.add file b d.fs }
 else if d.why file=3/\d.kind=2/\0<=file then { d.next with fs:=Fl.add file (b.take (b.length / 2)) d.fs }
 else d.next
def sync(d:Dk)(file:Int):Dk:=if d.why file=0 then { d.next with fs:=Fl.sync file d.fs } else d.next
def delete(d:Dk)(file:Int):Dk:=if d.why file=0 then { d.next with fs:=d.fs.filter fun f=>decide (f.n≠file) } else d.next
def crash(d:Dk)(cuts:List Int):Dk:={ d with fs:=Fl.crash d.fs cuts,faults:= [],stopped:=false }
def read(d:Dk)(file:Int):List UInt8:=match Fl.at_ d.fs file with | some f=>f.raw | none=> []
def kept(d:Dk)(file:Int):Nat:=match Fl.at_ d.fs file with | some f=>f.kept | none=>0
end Dk
end Go.Proofs.YtjehlgblkfofpaaGreat
namespace Go.Proofs.YtjehlgblkfofpaaGreat.Enc
def crcBit(s:Nat):Nat:=s / 2 ^^^ (3988292384*(s % 2))
theorem crcBit_lt{s:Nat}(h:s<4294967296):crcBit s<4294967296:=by
 unfold crcBit
 have h1:s / 2<2 ^ 32:=by omega
 have h2:3988292384*(s % 2)<2 ^ 32:=by omega
 exact Nat.xor_lt_two_pow h1 h2
def crcBits:Nat->Nat->Nat
 | 0,s=>s
 | k+1,s=>crcBit (crcBits k s)
theorem crcBits_lt{s:Nat}(h:s<4294967296)(k:Nat):crcBits k s<4294967296:=by
 induction k with
 | zero=>exact h
 | succ k ih=>exact crcBit_lt ih
def crcStep(s:Nat)(b:UInt8):Nat:=crcBits 8 (s ^^^ b.toNat)
theorem crcXor_lt{s:Nat}(h:s<4294967296)(b:UInt8):s ^^^ b.toNat<4294967296:=by
 have:=b.toNat_lt
 exact Nat.xor_lt_two_pow (n:=32) h (by omega)
theorem crcStep_lt{s:Nat}(h:s<4294967296)(b:UInt8):crcStep s b<4294967296:=crcBits_lt (crcXor_lt h b) 8
def crcRun(xs:List UInt8):Nat:=xs.foldl crcStep 4294967295
theorem crcRun_snoc(xs:List UInt8)(b:UInt8):crcRun (xs++ [b])=crcStep (crcRun xs) b:=by simp[crcRun]
theorem crcFold_lt(xs:List UInt8):∀s,s<4294967296->xs.foldl crcStep s<4294967296:=by
 induction xs with
 | nil=>intro s h;exact h
 | cons b xs ih=>intro s h;exact ih _ (crcStep_lt h b)
theorem crcRun_lt(xs:List UInt8):crcRun xs<4294967296:=crcFold_lt xs _ (by omega)
theorem crcRun_take(xs:List UInt8)(i:Nat)(h:i<xs.length):crcRun (xs.take (i+1))=crcStep (crcRun (xs.take i)) xs[i]:=by
 rw[List.take_succ_eq_append_getElem h,crcRun_snoc]
def sum(xs:List UInt8):Nat:=4294967295 ^^^ crcRun xs
theorem xor_cancel{a b c:Nat}(h:c ^^^ a=c ^^^ b):a=b:=by
 have h1:=congrArg (c ^^^ ·) h
 simpa [<- Nat.xor_assoc,Nat.xor_self,Nat.zero_xor] using h1
theorem crcBit_top{s:Nat}(h:s<4294967296):(crcBit s).testBit 31=decide (s % 2=1):=by
 unfold crcBit
 rw[Nat.testBit_xor,Nat.testBit_lt_two_pow (show s / 2<2 ^ 31 by omega),Bool.false_xor]
 rcases Nat.mod_two_eq_zero_or_one s with e | e<;>rw[e]<;>decide
theorem crcBit_inj{s t:Nat}(hs:s<4294967296)(ht:t<4294967296)(h:crcBit s=crcBit t):s=t:=by
 have h1:=crcBit_top hs
 rw[h,crcBit_top ht]at h1
 have h2:s % 2=t % 2:=by
  rcases Nat.mod_two_eq_zero_or_one s with e | e<;>rcases Nat.mod_two_eq_zero_or_one t with e' | e'<;>rw[e,e']at h1 ⊢<;>simp at h1
 unfold crcBit at h
 rw[h2,Nat.xor_comm _ (3988292384*(t % 2)),Nat.xor_comm (t / 2) _]at h
 have h3:=xor_cancel h
 omega
theorem crcBits_inj{s t:Nat}(hs:s<4294967296)(ht:t<4294967296):∀k,crcBits k s=crcBits k t->s=t
 | 0,h=>h
 | k+1,h=>crcBits_inj hs ht k (crcBit_inj (crcBits_lt hs k) (crcBits_lt ht k) h)
theorem crcStep_inj{s t:Nat}(hs:s<4294967296)(ht:t<4294967296)(b:UInt8)(h:crcStep s b=crcStep t b):s=t:=by
 have h1:=crcBits_inj (crcXor_lt hs b) (crcXor_lt ht b) 8 h
 rw[Nat.xor_comm s,Nat.xor_comm t]at h1
 exact xor_cancel h1
theorem crcStep_byte{s:Nat}(hs:s<4294967296){a b:UInt8}(h:crcStep s a=crcStep s b):a=b:=
 UInt8.toNat_inj.1 (xor_cancel (crcBits_inj (crcXor_lt hs a) (crcXor_lt hs b) 8 h))
theorem crcFold_inj(xs:List UInt8):∀{s t:Nat},s<4294967296->t<4294967296->xs.foldl crcStep s=xs.foldl crcStep t->s=t:=by
 induction xs with
 | nil=>intro s t _ _ h;exact h
 | cons b xs ih=>intro s t hs ht h;exact crcStep_inj hs ht b (ih (crcStep_lt hs b) (crcStep_lt ht b) h)
theorem sum_inj{xs ys:List UInt8}(h:sum xs=sum ys):crcRun xs=crcRun ys:=xor_cancel h
theorem sum_lt(xs:List UInt8):sum xs<4294967296:=Nat.xor_lt_two_pow (n:=32) (by omega) (crcRun_lt xs)
theorem sum_flip{pre post:List UInt8}{a b:UInt8}(h:sum (pre++a :: post)=sum (pre++b :: post)):a=b:=by
 have h1:=sum_inj h
 unfold crcRun at h1
 rw[List.foldl_append,List.foldl_append,List.foldl_cons,List.foldl_cons]at h1
 have hp:=crcFold_lt pre 4294967295 (by omega)
 exact crcStep_byte hp (crcFold_inj post (crcStep_lt hp a) (crcStep_lt hp b) h1)
theorem sum_set{xs:List UInt8}{i:Nat}(hi:i<xs.length){b:UInt8}(h:sum (xs.set i b)=sum xs):b=xs[i]:=by
 have h1:xs=xs.take i++xs[i] :: xs.drop (i+1):=by rw[<- List.drop_eq_getElem_cons hi,List.take_append_drop]
 have h2:xs.set i b=xs.take i++b :: xs.drop (i+1):=by rw[List.set_eq_take_append_cons_drop,if_pos hi]
 rw[h2]at h
 exact sum_flip (h.trans (congrArg sum h1))
def four(n:Nat):List UInt8:= [UInt8.ofNat (n / 16777216),UInt8.ofNat (n / 65536),UInt8.ofNat (n / 256),UInt8.ofNat n]
theorem four_length(n:Nat):(four n).length=4:=rfl
def unfour(xs:List UInt8):Nat:=(xs.getD 0 0).toNat*16777216+(xs.getD 1 0).toNat*65536+(xs.getD 2 0).toNat*256+(xs.getD 3 0).toNat
theorem unfour_four(n:Nat)(h:n<4294967296)(post:List UInt8):unfour (four n++post)=n:=by
 simp[unfour,four]
 omega
theorem unfour_lt(xs:List UInt8):unfour xs<4294967296:=by
 unfold unfour
 have h0:=(xs.getD 0 0).toNat_lt
 have h1:=(xs.getD 1 0).toNat_lt
 have h2:=(xs.getD 2 0).toNat_lt
 have h3:=(xs.getD 3 0).toNat_lt
 omega
def frame(p:List UInt8):List UInt8:=four p.length++(four (sum p)++p)
def unframe(raw:List UInt8):Option (List UInt8×Nat):=
 if raw.length<8 then none
 else if 1048576<unfour raw\/raw.length-8<unfour raw then none
 else if sum ((raw.drop 8).take (unfour raw))=unfour (raw.drop 4) then some ((raw.drop 8).take (unfour raw),8+unfour raw) else none
theorem frame_len(p:List UInt8):(frame p).length=p.length+8:=by simp[frame,four_length];omega
theorem unframe_of{p post:List UInt8}(hp:p.length<=1048576):unframe (frame p++post)=some (p,8+p.length):=by
 have h4:(frame p++post)=four p.length++(four (sum p)++(p++post)):=by simp[frame]
 have hs:=sum_lt p
 have hu:unfour (frame p++post)=p.length:=by rw[h4];exact unfour_four _ (by omega) _
 have hd4:(frame p++post).drop 4=four (sum p)++(p++post):=by rw[h4];exact List.drop_left' (four_length _)
 have hd8:(frame p++post).drop 8=p++post:=by
  rw[show (8:Nat)=4+4 from rfl,<- List.drop_drop,hd4]
  exact List.drop_left' (four_length _)
 have hl:(frame p++post).length=p.length+8+post.length:=by rw[List.length_append,frame_len]
 unfold unframe
 rw[hu,hd8,hd4,unfour_four _ hs,hl,if_neg (by omega),if_neg (by omega),List.take_left,if_pos rfl]
theorem unframe_cut{p post:List UInt8}(hp:p.length<=1048576){k:Nat}(hk:k<p.length+8):unframe ((frame p++post).take k)=none:=by
 have hl:((frame p++post).take k).length=k:=by rw[List.length_take,List.length_append,frame_len];omega
 unfold unframe
 rw[hl]
 by_cases h8:k<8
 ·rw[if_pos h8]
 ·have h4:((frame p++post).take k)=four p.length++((four (sum p)++(p++post)).take (k-4)):=by
   rw[show (frame p++post)=four p.length++(four (sum p)++(p++post)) from by simp[frame],List.take_append,four_length,List.take_of_length_le (by rw[four_length];omega)]
  rw[if_neg h8,h4,unfour_four _ (by omega),if_pos (.inr (by omega))]
theorem unframe_short{raw:List UInt8}(h:raw.length<8):unframe raw=none:=by
 unfold unframe
 rw[if_pos h]
theorem unframe_le{raw p:List UInt8}{k:Nat}(h:unframe raw=some (p,k)):8<=k/\k<=raw.length:=by
 unfold unframe at h
 split at h
 ·cases h
 ·split at h
  ·cases h
  ·split at h
   ·injection h with h
    injection h with h1 h2
    omega
   ·cases h
theorem unfour_set{x0 x1 x2 x3 b:UInt8}{p:List UInt8}{j:Nat}(hj:j<4)(h:unfour (([x0,x1,x2,x3]++p).set j b)=unfour ([x0,x1,x2,x3]++p)): [x0,x1,x2,x3][j]? =some b:=by
 have h0:=x0.toNat_lt
 have h1:=x1.toNat_lt
 have h2:=x2.toNat_lt
 have h3:=x3.toNat_lt
 have hb:=b.toNat_lt
 have hj':j=0\/j=1\/j=2\/j=3:=by omega
 rcases hj' with rfl | rfl | rfl | rfl<;>
 ·simp[unfour]at h ⊢
  exact UInt8.toNat_inj.1 (by omega)
theorem unframe_flip'{p:List UInt8}(hp:p.length<=1048576){k:Nat}(h4:4<=k)(hk:k<p.length+8){b:UInt8}(hb:(frame p)[k]? ≠some b):unframe ((frame p).set k b)=none:=by
 have hs:(frame p).set k b=four p.length++(four (sum p)++p).set (k-4) b:=by
  unfold frame
  rw[List.set_append_right _ _ (by rw[four_length];exact h4),four_length]
 have hu:unfour ((frame p).set k b)=p.length:=by rw[hs];exact unfour_four _ (by omega) _
 have hd4:((frame p).set k b).drop 4=(four (sum p)++p).set (k-4) b:=by rw[hs];exact List.drop_left' (four_length _)
 have hg:(frame p)[k]? =(four (sum p)++p)[k-4]? :=by
  unfold frame
  rw[List.getElem?_append_right (by rw[four_length];exact h4),four_length]
 unfold unframe
 rw[List.length_set,frame_len,hu,if_neg (by omega),if_neg (by omega)]
 refine if_neg fun he=>hb ?_
 rw[hg]
 have hd8:((frame p).set k b).drop 8=((four (sum p)++p).set (k-4) b).drop 4:=by rw[<- hd4,List.drop_drop]
 rw[hd8,hd4]at he
 by_cases h8:k<8
 ·have e1:(four (sum p)++p).set (k-4) b=(four (sum p)).set (k-4) b++p:=List.set_append_left _ _ (by rw[four_length];omega)
  have e2:((four (sum p)++p).set (k-4) b).drop 4=p:=by rw[e1];exact List.drop_left' (by rw[List.length_set];exact four_length _)
  rw[e2,List.take_length]at he
  have e3:unfour (four (sum p)++p)=sum p:=unfour_four _ (sum_lt p) _
  rw[List.getElem?_append_left (by rw[four_length];omega)]
  exact unfour_set (p:=p) (by omega) (he.symm.trans e3.symm)
 ·have e1:(four (sum p)++p).set (k-4) b=four (sum p)++p.set (k-8) b:=by
   rw[List.set_append_right _ _ (by rw[four_length];omega),four_length,show k-4-4=k-8 by omega]
  have e2:(four (sum p)++p.set (k-8) b).drop 4=p.set (k-8) b:=List.drop_left' (four_length _)
  rw[e1,e2,unfour_four _ (sum_lt p),List.take_of_length_le (by rw[List.length_set];exact Nat.le_refl _)]at he
  rw[List.getElem?_append_right (by rw[four_length];omega),four_length,show k-4-4=k-8 by omega,List.getElem?_eq_getElem (by omega)]
  exact congrArg some (sum_set (by omega) he).symm
end Go.Proofs.YtjehlgblkfofpaaGreat.Enc
namespace Go.Proofs.YtjehlgblkfofpaaGreat
open Go.RowKit
def Vs(w:World)(sz:Nat)(A:Option Addr)(n c:Nat)(vs:List Value):Prop:=
 vs.length=n*sz/\n<=c/\c<=maxLen/\(0<n->∃b o,A=some ⟨b,o,none⟩/\∀j x,vs[j]? =some x->w.cell? ⟨b,o+j,none⟩=some x)
section
variable {w w':World}{sz:Nat}{A:Option Addr}{n c:Nat}{vs:List Value}
theorem Vs.touch{S:Nat->Prop}(h:Vs w sz A n c vs)(hb:Touch S w w')(hn:∀a,A=some a->0<n->¬S a.block):Vs w' sz A n c vs:=
 ⟨h.1,h.2.1,h.2.2.1,fun h0=>by
  obtain⟨b,o,e,hc⟩:=h.2.2.2 h0
  exact⟨b,o,e,fun j x hx=>hb.cell (hc j x hx) (hn ⟨b,o,none⟩ e h0)⟩⟩
theorem Vs.fresh(h:Vs w sz A n c vs)(hb:Fresh w w'):Vs w' sz A n c vs:=h.touch hb fun _ _ _=>id
theorem Vs.alloc(h:Vs w sz A n c vs)(o:Obj):Vs (w.alloc o) sz A n c vs:=h.fresh ((Touch.refl _ _).alloc o)
theorem Vs.at_(h:Vs w sz A n c vs)(hn:0<n):∃b o,A=some ⟨b,o,none⟩:=by
 obtain⟨b,o,e,_⟩:=h.2.2.2 hn
 exact⟨b,o,e⟩
theorem Vs.cellAt{b o:Nat}(h:Vs w sz (some ⟨b,o,none⟩) n c vs){j:Nat}{x:Value}(hx:vs[j]? =some x):w.cell? ⟨b,o+j,none⟩=some x:=by
 have h0:0<n:=by
  rcases Nat.eq_zero_or_pos n with e | e
  ·have hl:=h.1
   rw[e,Nat.zero_mul]at hl
   rw[List.eq_nil_of_length_eq_zero hl]at hx
   cases hx
  ·exact e
 obtain⟨b',o',e,hc⟩:=h.2.2.2 h0
 injection e with e
 injection e with e1 e2
 subst e1 e2
 exact hc j x hx
end
def VRow(w:World)(e:TypeId)(sz:Nat)(v:Value)(n:Nat)(vs:List Value):Prop:=w.ownsRow 0 e sz v n vs
section
variable {w w':World}{e:TypeId}{sz n:Nat}{v:Value}{vs:List Value}
theorem VRow.nil_(w:World)(e:TypeId)(sz:Nat):VRow w e sz (.slice none 0 0) 0 []:=World.ownsRow_nil w _ _ _
theorem VRow.alloc(h:VRow w e sz v n vs)(o:Obj):VRow (w.alloc o) e sz v n vs:=World.ownsRow.alloc h o
theorem VRow.touch{S:Nat->Prop}(h:VRow w e sz v n vs)(hb:Touch S w w')(hn:∀k,v.ownBlock=some k->¬S k):VRow w' e sz v n vs:=by
 refine⟨h.1, ?_⟩
 rcases h.2 with hnil | ⟨g,cap,cur,rfl,hb',hg,rest⟩
 ·exact .inl hnil
 ·exact .inr ⟨g,cap,cur,rfl,hb',hb.heap hg (hn g rfl),rest⟩
theorem VRow.form(h:VRow w e sz v n vs):∃A cap,v= .slice A n cap/\n<=cap/\cap<=maxLen:=by
 rcases h.2 with⟨rfl,hn⟩ | ⟨g,cap,cur,rfl,_,_,hnc,hm,_⟩
 ·exact⟨none,0,by rw[hn],by omega,by simp[maxLen]⟩
 ·exact⟨_,cap,rfl,hnc,hm⟩
theorem VRow.ne_blk{g:Nat}{t:TypeId}{cs:Array Value}(h:VRow w e sz v n vs)(hg:Blk w g t cs)(hne:e≠t):v.ownBlock≠some g:=own_blk_ne h hg hne
theorem VRow.rd{A:Option Addr}{c:Nat}(h:VRow w e sz (.slice A n c) n vs):Vs w sz A n c vs:=by
 rcases h.2 with⟨e,hn⟩ | ⟨g,cap,cur,e,_,hg,hnc,hm,_,htake⟩
 ·injection e with e1 e2 e3
  subst e1 e2 e3
  exact⟨h.1,by omega,by simp[maxLen],fun h0=>by omega⟩
 ·injection e with e1 e2 e3
  subst e1 e3
  refine⟨h.1,hnc,hm,fun _=>⟨g,0,rfl,fun j x hx=> ?_⟩⟩
  have hc:=World.ownsRow.cells (v:= .slice (some ⟨g,0,none⟩) n c) h (g:=g) rfl j x hx
  have hadd:(⟨g,0,none⟩:Addr).add j=⟨g,0+j,none⟩:=by unfold Addr.add;split<;>simp_all
  rw[hadd]at hc
  exact hc
end
theorem flat_at{α:Type}(f:α->List Value)(sz:Nat)(hf:∀a,(f a).length=sz):∀(l:List α) (i r:Nat) (a:α),l[i]? =some a->r<sz->(l.flatMap f)[i*sz+r]? =(f a)[r]?
 | [],i,r,a,h,_=>by cases h
 | x :: l,0,r,a,h,hr=>by
  simp only[List.getElem?_cons_zero,Option.some.injEq]at h
  subst h
  rw[List.flatMap_cons,Nat.zero_mul,Nat.zero_add,List.getElem?_append_left (by rw[hf];exact hr)]
 | x :: l,i+1,r,a,h,hr=>by
  simp only[List.getElem?_cons_succ]at h
  rw[List.flatMap_cons,List.getElem?_append_right (by rw[hf,Nat.succ_mul];omega),hf,show (i+1)*sz+r-sz=i*sz+r by rw[Nat.succ_mul];omega]
  exact flat_at f sz hf l i r a h hr
theorem flat_length{α:Type}(f:α->List Value)(sz:Nat)(hf:∀a,(f a).length=sz)(l:List α):(l.flatMap f).length=l.length*sz:=by
 induction l with
 | nil=>simp
 | cons x l ih=>rw[List.flatMap_cons,List.length_append,ih,hf,List.length_cons,Nat.succ_mul];omega
theorem new_cells(w:World)(e:TypeId)(cs:List Value):∀j x,cs[j]? =some x->(w.alloc (.cells cs.toArray e)).cell? ((⟨w.heap.size,0,none⟩:Addr).add j)=some x:=by
 intro j x hx
 have hadd:(⟨w.heap.size,0,none⟩:Addr).add j=⟨w.heap.size,j,none⟩:=by unfold Addr.add;split<;>simp_all
 rw[hadd,(Blk.new w e cs.toArray).cell j]
 simpa using hx
end Go.Proofs.YtjehlgblkfofpaaGreat
namespace Go.Proofs.YtjehlgblkfofpaaGreat
def be8(n:Nat):List UInt8:= [UInt8.ofNat (n / 72057594037927936),UInt8.ofNat (n / 281474976710656),UInt8.ofNat (n / 1099511627776),UInt8.ofNat (n / 4294967296),UInt8.ofNat (n / 16777216),UInt8.ofNat (n / 65536),UInt8.ofNat (n / 256),UInt8.ofNat n]
theorem be8_len(n:Nat):(be8 n).length=8:=rfl
def un8(b:List UInt8):Nat:=b.foldl (fun n c=>n*256+c.toNat) 0
theorem un8_be8{n:Nat}(h:n<18446744073709551616):un8 (be8 n)=n:=by
 simp only[un8,be8,List.foldl_cons,List.foldl_nil,UInt8.toNat_ofNat']
 omega
def num(p:List UInt8)(i:Nat):Nat:=un8 ((p.drop (1+8*i)).take 8)
def metaP(k:UInt8)(l:List Nat):List UInt8:=k :: l.flatMap be8
def metaF(k:UInt8)(l:List Nat):List UInt8:=Enc.frame (metaP k l)
theorem flat8_len(l:List Nat):(l.flatMap be8).length=8*l.length:=by
 induction l with
 | nil=>rfl
 | cons a l ih=>rw[List.flatMap_cons,List.length_append,ih,be8_len,List.length_cons];omega
theorem metaP_len(k:UInt8)(l:List Nat):(metaP k l).length=1+8*l.length:=by unfold metaP;rw[List.length_cons,flat8_len];omega
theorem metaF_len(k:UInt8)(l:List Nat):(metaF k l).length=9+8*l.length:=by unfold metaF;rw[Enc.frame_len,metaP_len];omega
theorem num_meta(k:UInt8):∀(l:List Nat) (i n:Nat),l[i]? =some n->n<18446744073709551616->num (metaP k l) i=n:=by
 intro l i n h hn
 have h1:∀(l:List Nat) (i:Nat),l[i]? =some n->((l.flatMap be8).drop (8*i)).take 8=be8 n:=by
  intro l
  induction l with
  | nil=>intro i h;cases h
  | cons a l ih=>
   intro i h
   cases i with
   | zero=>
    simp only[List.getElem?_cons_zero,Option.some.injEq]at h
    subst h
    rw[Nat.mul_zero,List.drop_zero,List.flatMap_cons]
    exact List.take_left' (be8_len _)
   | succ i=>
    rw[List.getElem?_cons_succ]at h
    rw[List.flatMap_cons,show 8*(i+1)=8+8*i by omega,<- List.drop_drop,List.drop_left' (be8_len _)]
    exact ih i h
 unfold num metaP
 rw[show 1+8*i=8*i+1 by omega,List.drop_succ_cons,h1 l i h,un8_be8 hn]
structure Ct where
 first:Nat
 rows:List (List UInt8)
namespace Ct
def next(c:Ct):Nat:=c.first+c.rows.length
def cut(c:Ct)(n:Nat):Ct:=if c.first<n then ⟨n,c.rows.drop (n-c.first)⟩ else c
def add(c:Ct)(b:List UInt8):Ct:=⟨c.first,c.rows++ [b]⟩
end Ct
inductive It where
 | put (i:Nat) (b:List UInt8)
 | cut (n:Nat)
def It.enc:It->List UInt8
 | .put i b=>metaF 114 [i]++Enc.frame b
 | .cut n=>metaF 99 [n]
def It.fine:It->Prop
 | .put i b=>i<18446744073709551616/\b.length<=1048576
 | .cut n=>n<18446744073709551616
def Ct.item(c:Ct):It->Ct
 | .put i b=>if i=c.next then c.add b else c
 | .cut n=>c.cut n
def encs(l:List It):List UInt8:=l.flatMap It.enc
theorem encs_append(l m:List It):encs (l++m)=encs l++encs m:=by simp[encs]
theorem encs_cons(a:It)(m:List It):encs (a :: m)=a.enc++encs m:=by simp[encs]
theorem encs_one(a:It):encs [a]=a.enc:=by simp[encs]
theorem It.enc_len(a:It):17<=a.enc.length:=by
 cases a with
 | put i b=>simp only[It.enc,List.length_append,metaF_len,List.length_cons,List.length_nil];omega
 | cut n=>simp only[It.enc,metaF_len,List.length_cons,List.length_nil];omega
structure RS where
 c:Ct
 last:Nat
 size:Nat
def stepB(raw:List UInt8)(counts:Nat)(s:RS):Option RS:=
 match Enc.unframe (raw.drop s.size) with
 | none=>none
 | some (p,k)=>
  if counts<s.size+k then none
  else if p.length=9/\p.headD 0=99 then some ⟨s.c.cut (num p 0),s.last,s.size+k⟩
  else if p.length=9/\p.headD 0=114 then
   match Enc.unframe (raw.drop (s.size+k)) with
   | none=>none
   | some (b,k2)=>
    if counts<s.size+k+k2 then none
    else some ⟨s.c.item (.put (num p 0) b),(s.c.item (.put (num p 0) b)).next,s.size+k+k2⟩
  else some ⟨s.c,s.last,s.size+k⟩
def playB(raw:List UInt8)(counts:Nat):Nat->RS->RS
 | 0,s=>s
 | n+1,s=>match stepB raw counts s with
  | none=>s
  | some s'=>playB raw counts n s'
def Dead(T:List UInt8):Prop:=Enc.unframe T=none\/∃i T',T=metaF 114 [i]++T'/\Enc.unframe T'=none
theorem dead_nil:Dead []:= .inl (Enc.unframe_short (by simp))
theorem dead_step{pre T:List UInt8}{counts:Nat}{s:RS}(h:Dead T)(hs:s.size=pre.length):stepB (pre++T) counts s=none:=by
 unfold stepB
 rw[hs,List.drop_left' rfl]
 rcases h with h | ⟨i,T',rfl,h⟩
 ·rw[h]
 ·rw[metaF,Enc.unframe_of (by rw[metaP_len];simp)]
  dsimp only
  split
  ·rfl
  ·rw[if_neg (by simp[metaP]),if_pos ⟨by rw[metaP_len];rfl,rfl⟩]
   rw[show (pre++(Enc.frame (metaP 114 [i])++T')).drop (pre.length+(8+(metaP 114 [i]).length))=T' by
    rw[<- List.append_assoc]
    exact List.drop_left' (by rw[List.length_append,Enc.frame_len];omega)]
   rw[h]
theorem full_step{pre T:List UInt8}{counts:Nat}{s:RS}(hs:s.size=pre.length)(hc:counts<pre.length+8):stepB (pre++T) counts s=none:=by
 unfold stepB
 rw[hs,List.drop_left' rfl]
 cases h:Enc.unframe T with
 | none=>rfl
 | some q=>
  obtain⟨p,k⟩:=q
  have:=Enc.unframe_le h
  dsimp only
  rw[if_pos (by omega)]
def It.lastOf(a:It)(n last:Nat):Nat:=match a with
 | .put _ _=>n
 | .cut _=>last
theorem item_step{pre T:List UInt8}{counts:Nat}{s:RS}{a:It}(ha:a.fine)(hs:s.size=pre.length)(hc:pre.length+a.enc.length<=counts):
  stepB (pre++(a.enc++T)) counts s=some ⟨s.c.item a,a.lastOf (s.c.item a).next s.last,s.size+a.enc.length⟩:=by
 unfold stepB
 rw[hs,List.drop_left' rfl]
 cases a with
 | cut n=>
  simp only[It.enc,metaF_len,List.length_cons,List.length_nil]at hc ⊢
  rw[metaF,Enc.unframe_of (by rw[metaP_len];simp)]
  have hl:(metaP 99 [n]).length=9:=by rw[metaP_len];rfl
  dsimp only
  rw[if_neg (by omega),if_pos ⟨hl,rfl⟩,hl,num_meta 99 [n] 0 n rfl ha]
  rfl
 | put i b=>
  obtain⟨h1,h2⟩:=ha
  simp only[It.enc,List.length_append,metaF_len,List.length_cons,List.length_nil,Enc.frame_len]at hc ⊢
  have hl:(metaP 114 [i]).length=9:=by rw[metaP_len];rfl
  rw[metaF,List.append_assoc,Enc.unframe_of (by rw[metaP_len];simp)]
  dsimp only
  rw[if_neg (by omega),if_neg (by simp[metaP]),if_pos ⟨hl,rfl⟩,hl]
  rw[show (pre++(Enc.frame (metaP 114 [i])++(Enc.frame b++T))).drop (pre.length+(8+9))=Enc.frame b++T by
   rw[<- List.append_assoc]
   exact List.drop_left' (by rw[List.length_append,Enc.frame_len,hl])]
  rw[Enc.unframe_of h2]
  dsimp only
  rw[if_neg (by omega),num_meta 114 [i] 0 i rfl h1]
  congr 2
  omega
def Ct.items(c:Ct)(l:List It):Ct:=l.foldl Ct.item c
def GoodIts:Nat->List It->Prop
 | n, []=>n<=900000000
 | n, .put i _ :: r=>i=n/\GoodIts (n+1) r
 | n, .cut m :: r=>m<=n/\GoodIts n r
theorem Ct.next_add(c:Ct)(b:List UInt8):(c.add b).next=c.next+1:=by simp[Ct.next,Ct.add];omega
theorem Ct.next_cut{c:Ct}{n:Nat}(h:n<=c.next):(c.cut n).next=c.next:=by
 unfold Ct.cut Ct.next at*
 split
 ·simp;omega
 ·rfl
def endOf:Nat->List It->Nat
 | n, []=>n
 | n, .put _ _ :: r=>endOf (n+1) r
 | n, .cut _ :: r=>endOf n r
theorem endOf_append(l m:List It):∀n,endOf n (l++m)=endOf (endOf n l) m:=by
 induction l with
 | nil=>intro n;rfl
 | cons a l ih=>intro n;cases a<;>exact ih _
theorem goodIts_le:∀(l:List It) (n:Nat),GoodIts n l->n<=endOf n l/\endOf n l<=900000000
 | [],_,h=>⟨Nat.le_refl _,h⟩
 | .put _ _ :: r,n,h=>by
  have:=goodIts_le r (n+1) h.2
  show n<=endOf (n+1) r/\endOf (n+1) r<= _
  omega
 | .cut _ :: r,n,h=>goodIts_le r n h.2
theorem goodIts_append(l m:List It):∀n,GoodIts n (l++m)↔GoodIts n l/\GoodIts (endOf n l) m:=by
 induction l with
 | nil=>intro n;exact⟨fun h=>⟨by have:=goodIts_le m n h;show n<=900000000;omega,h⟩,fun h=>h.2⟩
 | cons a l ih=>intro n;cases a<;>simp[GoodIts,endOf,ih,and_assoc]
theorem items_next:∀(l:List It) (c:Ct),GoodIts c.next l->(c.items l).next=endOf c.next l
 | [],_,_=>rfl
 | .put i b :: r,c,h=>by
  have e:c.item (.put i b)=c.add b:=if_pos h.1
  show ((c.item (.put i b)).items r).next=endOf (c.next+1) r
  rw[e,items_next r _ (by rw[Ct.next_add];exact h.2),Ct.next_add]
 | .cut m :: r,c,h=>by
  show ((c.cut m).items r).next=endOf c.next r
  rw[items_next r _ (by rw[Ct.next_cut h.1];exact h.2),Ct.next_cut h.1]
theorem play_items{T:List UInt8}{counts:Nat}:∀(l:List It) (pre:List UInt8) (c:Ct) (last fuel:Nat),(∀a∈l,a.fine)->GoodIts c.next l->last=c.next->(pre++encs l).length<=counts->(Dead T\/counts<(pre++encs l).length+8)->l.length<fuel->
  playB (pre++(encs l++T)) counts fuel ⟨c,last,pre.length⟩=⟨c.items l,(c.items l).next,(pre++encs l).length⟩
 | [],pre,c,last,fuel,_,_,hl,h1,h2,hf=>by
  obtain⟨f,rfl⟩:∃f,fuel=f+1:=⟨fuel-1,by simp at hf;omega⟩
  subst hl
  have h0:pre++(encs []++T)=pre++T:=by simp[encs]
  have h3:(pre++encs []).length=pre.length:=by simp[encs]
  rw[h3]at h1 h2 ⊢
  rw[h0]
  unfold playB
  rcases h2 with h2 | h2
  ·rw[dead_step h2 rfl];rfl
  ·rw[full_step rfl h2];rfl
 | a :: l,pre,c,last,fuel,hfi,hg,hl,h1,h2,hf=>by
  obtain⟨f,rfl⟩:∃f,fuel=f+1:=⟨fuel-1,by simp at hf;omega⟩
  have e0:pre++(encs (a :: l)++T)=pre++(a.enc++(encs l++T)):=by rw[encs_cons,List.append_assoc]
  have e1:(pre++encs (a :: l)).length=((pre++a.enc)++encs l).length:=by rw[encs_cons,List.append_assoc]
  rw[e1]at h1 h2 ⊢
  have ha:=hfi a (List.mem_cons_self ..)
  have hlen:pre.length+a.enc.length<=counts:=by simp only[List.length_append]at h1;omega
  rw[e0]
  unfold playB
  rw[item_step ha rfl hlen]
  dsimp only
  have hstep:GoodIts (c.item a).next l/\a.lastOf (c.item a).next last=(c.item a).next:=by
   cases a with
   | put i b=>
    have e:c.item (.put i b)=c.add b:=if_pos hg.1
    rw[e,Ct.next_add]
    exact⟨hg.2,rfl⟩
   | cut m=>
    have e:(c.item (.cut m)).next=c.next:=Ct.next_cut hg.1
    rw[e]
    exact⟨hg.2,hl⟩
  have ih:=play_items l (pre++a.enc) (c.item a) _ f (fun b hb=>hfi b (List.mem_cons_of_mem _ hb)) hstep.1 hstep.2 h1 h2 (by simp at hf;omega)
  rw[List.append_assoc,List.length_append]at ih
  exact ih
def Torn(U T:List UInt8):Prop:=∃j,j<=U.length/\(T=U.take j\/(0<j/\T=(U.take j).set (j-1) (255-U.getD (j-1) 0)))
theorem torn_nil{T:List UInt8}(h:Torn [] T):T= []:=by
 obtain⟨j,hj,h⟩:=h
 simp at hj
 subst hj
 rcases h with rfl | ⟨h,_⟩
 ·rfl
 ·omega
theorem torn_take{W T:List UInt8}{k:Nat}(h:Torn (W.take k) T):Torn W T:=by
 obtain⟨j,hj,h⟩:=h
 rw[List.length_take]at hj
 refine⟨j,by omega, ?_⟩
 have e:(W.take k).take j=W.take j:=by rw[List.take_take];congr 1;omega
 rw[e]at h
 rcases h with h | ⟨h0,h⟩
 ·exact .inl h
 ·refine .inr ⟨h0, ?_⟩
  rw[h,List.getD_eq_getElem?_getD,List.getD_eq_getElem?_getD,List.getElem?_take_of_lt (by omega)]
theorem torn_append{A B T:List UInt8}(h:Torn (A++B) T):Torn A T\/∃T',T=A++T'/\Torn B T':=by
 obtain⟨j,hj,h⟩:=h
 rw[List.length_append]at hj
 by_cases hA:j<=A.length
 ·left
  have e:(A++B).take j=A.take j:=List.take_append_of_le_length hA
  rw[e]at h
  refine⟨j,hA, ?_⟩
  rcases h with h | ⟨h0,h⟩
  ·exact .inl h
  ·refine .inr ⟨h0, ?_⟩
   rw[h,List.getD_eq_getElem?_getD,List.getD_eq_getElem?_getD,List.getElem?_append_left (by omega)]
 ·right
  have e:(A++B).take j=A++B.take (j-A.length):=by rw[List.take_append,List.take_of_length_le (by omega)]
  rw[e]at h
  rcases h with h | ⟨h0,h⟩
  ·exact⟨_,h,j-A.length,by omega, .inl rfl⟩
  ·refine⟨_, ?_,j-A.length,by omega, .inr ⟨by omega,rfl⟩⟩
   rw[h,List.set_append_right _ _ (by omega),show j-1-A.length=j-A.length-1 by omega,List.getD_eq_getElem?_getD,List.getD_eq_getElem?_getD,List.getElem?_append_right (by omega),show j-1-A.length=j-A.length-1 by omega]
theorem flip_ne(x:UInt8):(255:UInt8)-x≠x:=by
 intro h
 have:=congrArg UInt8.toNat h
 have hx:=x.toNat_lt
 rw[UInt8.toNat_sub]at this
 simp at this
 omega
theorem frame_torn{p T:List UInt8}(hp:p.length<=1048576)(h:Torn (Enc.frame p) T):T=Enc.frame p\/Enc.unframe T=none:=by
 obtain⟨j,hj,h⟩:=h
 have hl:=Enc.frame_len p
 by_cases hj8:j<8
 ·right
  refine Enc.unframe_short ?_
  rcases h with rfl | ⟨_,rfl⟩
  ·rw[List.length_take];omega
  ·rw[List.length_set,List.length_take];omega
 ·rcases h with rfl | ⟨h0,rfl⟩
  ·by_cases he:j=(Enc.frame p).length
   ·left;rw[he,List.take_length]
   ·right
    have:=Enc.unframe_cut (p:=p) (post:= []) hp (k:=j) (by omega)
    rwa [List.append_nil]at this
  ·right
   by_cases he:j=(Enc.frame p).length
   ·rw[he,List.take_length]
    refine Enc.unframe_flip' hp (by omega) (by omega) ?_
    rw[List.getD_eq_getElem?_getD]
    cases hg:(Enc.frame p)[(Enc.frame p).length-1]? with
    | none=>rw[List.getElem?_eq_none_iff]at hg;omega
    | some x=>
     intro h
     injection h with h
     exact flip_ne x h.symm
   ·have hd:((Enc.frame p).take j).set (j-1) (255-(Enc.frame p).getD (j-1) 0)=Enc.four p.length++((((Enc.four (Enc.sum p)++p).take (j-4)).set (j-5) (255-(Enc.frame p).getD (j-1) 0))):=by
     have e:(Enc.frame p).take j=Enc.four p.length++(Enc.four (Enc.sum p)++p).take (j-4):=by
      unfold Enc.frame
      rw[List.take_append,Enc.four_length,List.take_of_length_le (by rw[Enc.four_length];omega)]
     rw[e,List.set_append_right _ _ (by rw[Enc.four_length];omega),Enc.four_length,show j-1-4=j-5 by omega]
    have hll:(((Enc.frame p).take j).set (j-1) (255-(Enc.frame p).getD (j-1) 0)).length=j:=by rw[List.length_set,List.length_take];omega
    have hu:Enc.unfour (((Enc.frame p).take j).set (j-1) (255-(Enc.frame p).getD (j-1) 0))=p.length:=by rw[hd];exact Enc.unfour_four _ (by omega) _
    unfold Enc.unframe
    rw[hll,hu,if_neg (by omega),if_pos (.inr (by omega))]
theorem item_torn{a:It}{T:List UInt8}(ha:a.fine)(h:Torn a.enc T):T=a.enc\/Dead T:=by
 cases a with
 | cut n=>
  rcases frame_torn (by rw[metaP_len];simp) h with h | h
  ·exact .inl h
  ·exact .inr (.inl h)
 | put i b=>
  rcases torn_append h with h | ⟨T',rfl,h2⟩
  ·rcases frame_torn (p:=metaP 114 [i]) (by rw[metaP_len];simp) h with h | h
   ·refine .inr (.inr ⟨i, [],by rw[List.append_nil];exact h,Enc.unframe_short (by simp)⟩)
   ·exact .inr (.inl h)
  ·rcases frame_torn ha.2 h2 with h3 | h3
   ·exact .inl (by rw[h3];rfl)
   ·exact .inr (.inr ⟨i,T',rfl,h3⟩)
theorem lose_torn(f:Fl)(hk:f.kept<=f.raw.length)(cut:Int):∃T,Torn (f.raw.drop f.kept) T/\f.lose cut=⟨f.n,f.raw.take f.kept++T,f.kept+T.length⟩:=by
 have hw:f.ways cut<=2*(f.raw.length-f.kept):=by
  unfold Fl.ways
  have h1:=Int.emod_lt_of_pos cut (show (0:Int)<2*((f.raw.length:Int)-f.kept)+1 by omega)
  have h2:=Int.emod_nonneg cut (show (2*((f.raw.length:Int)-f.kept)+1)≠0 by omega)
  omega
 unfold Fl.lose
 generalize f.ways cut=k at*
 have hj:(k+1) / 2<=f.raw.length-f.kept:=by omega
 have e:f.raw.take (f.kept+(k+1) / 2)=f.raw.take f.kept++(f.raw.drop f.kept).take ((k+1) / 2):=List.take_add
 have hlk:(f.raw.take f.kept).length=f.kept:=by rw[List.length_take];omega
 dsimp only
 by_cases hc:k % 2=0/\0<k
 ·rw[if_pos hc]
  refine⟨((f.raw.drop f.kept).take ((k+1) / 2)).set ((k+1) / 2-1) (255-(f.raw.drop f.kept).getD ((k+1) / 2-1) 0),⟨(k+1) / 2,by rw[List.length_drop];exact hj, .inr ⟨by omega,rfl⟩⟩, ?_⟩
  rw[e,List.set_append_right _ _ (by omega),hlk,show f.kept+(k+1) / 2-1-f.kept=(k+1) / 2-1 by omega]
  rw[List.getD_eq_getElem?_getD,List.getD_eq_getElem?_getD,List.getElem?_drop,show f.kept+((k+1) / 2-1)=f.kept+(k+1) / 2-1 by omega]
  rw[List.length_set,List.length_take,List.length_drop,Nat.min_eq_left hj]
 ·rw[if_neg hc]
  refine⟨(f.raw.drop f.kept).take ((k+1) / 2),⟨(k+1) / 2,by rw[List.length_drop];exact hj, .inl rfl⟩, ?_⟩
  rw[e,List.length_take,List.length_drop,Nat.min_eq_left hj]
namespace Rk
end Rk
structure Fl.ok(fs:List Fl):Prop where
 rise:fs.Pairwise fun a b=>a.n<b.n
 le:∀f∈fs,f.kept<=f.raw.length
theorem Fl.filter_none{n:Int}{fs:List Fl}(h:∀f∈fs,n<f.n):fs.filter (fun f=>decide (f.n≠n))=fs:=
 List.filter_eq_self.2 fun f hf=>by have:=h f hf;simp;omega
theorem Fl.find_none{n:Int}{fs:List Fl}(h:∀f∈fs,n<f.n):Fl.at_ fs n=none:=
 List.find?_eq_none.2 fun f hf=>by have:=h f hf;simp;omega
structure AS where
 number:Nat
 ahead:Nat
 first:Nat
 next:Nat
 whole:Bool
 file:Nat
 flen:Nat
 fsum:Nat
 items:List It
namespace AS
def kind(a:AS):UInt8:=if a.whole=true then 119 else 104
def nums(a:AS):List Nat:= [a.number,a.ahead,a.first,a.next,a.flen,a.fsum]
def head(a:AS):List UInt8:=metaF a.kind a.nums
def bytes(a:AS):List UInt8:=a.head++encs a.items
def stop(a:AS):Nat:=endOf a.next a.items
def start(a:AS)(c:Ct):Ct:=if a.whole=true\/(c.cut a.first).next<a.next then ⟨a.next, []⟩ else c.cut a.first
def play(c:Ct)(a:AS):Ct:=(a.start c).items a.items
structure fine(a:AS):Prop where
 nums:∀n∈a.nums,n<9223372036854775808
 sum:a.fsum<4294967296
 its:∀i∈a.items,i.fine
 good:GoodIts a.next a.items
 le:a.first<=a.next
 front:a.whole=true->a.flen<=(encs a.items).length/\a.fsum=Enc.sum ((encs a.items).take a.flen)
theorem head_len(a:AS):a.head.length=57:=by unfold head;rw[metaF_len];rfl
end AS
structure Hd where
 number:Nat
 ahead:Nat
 first:Nat
 next:Nat
 whole:Bool
 size:Nat
def AS.hd(a:AS):Hd:=⟨a.number,a.ahead,a.first,a.next,a.whole,57⟩
def big6(p:List UInt8):Bool:=(List.range 6).any fun i=>decide (9223372036854775808<=num p i)
theorem big6_not{p:List UInt8}(h:big6 p=false):∀i,i<6->num p i<9223372036854775808:=fun i hi=>by
 have h1:=List.any_eq_false.1 h i (List.mem_range.2 hi)
 simp only[decide_eq_true_eq,Nat.not_le]at h1
 exact h1
def begunP(raw:List UInt8):Option Hd:=
 match Enc.unframe raw with
 | none=>none
 | some (p,k)=>
  if ¬(p.length=49/\(p.headD 0=104\/p.headD 0=119)) then none
  else if big6 p then some ⟨0,0,0,0,false,0⟩
  else if p.headD 0=119/\(raw.length-k<num p 4\/Enc.sum ((raw.drop k).take (num p 4))≠num p 5 % 4294967296) then none
  else some ⟨num p 0,num p 1,num p 2,num p 3,decide (p.headD 0=119),k⟩
theorem begun_none{raw:List UInt8}(h:Enc.unframe raw=none):begunP raw=none:=by unfold begunP;rw[h]
theorem begun_head{a:AS}(h:∀n∈a.nums,n<9223372036854775808)(hs:a.fsum<4294967296)(X:List UInt8):
  begunP (a.head++X)=if a.whole=true/\(X.length<a.flen\/Enc.sum (X.take a.flen)≠a.fsum) then none else some a.hd:=by
 have hl:(metaP a.kind a.nums).length=49:=by rw[metaP_len];rfl
 have h0:∀i n,a.nums[i]? =some n->num (metaP a.kind a.nums) i=n:=fun i n hi=>num_meta _ _ _ _ hi (by have:=h n (List.mem_of_getElem? hi);omega)
 have hh:(metaP a.kind a.nums).headD 0=a.kind:=rfl
 have hd:(Enc.frame (metaP a.kind a.nums)++X).drop 57=X:=List.drop_left' (by rw[Enc.frame_len,hl])
 have hln:(Enc.frame (metaP a.kind a.nums)++X).length-57=X.length:=by rw[List.length_append,Enc.frame_len,hl];omega
 have hb:big6 (metaP a.kind a.nums)=false:=List.any_eq_false.2 fun i hi=>by
  have hi:=List.mem_range.1 hi
  have hg:a.nums[i]? =some (a.nums[i]'(by show i<6;exact hi)):=List.getElem?_eq_getElem _
  have h2:=h _ (List.mem_of_getElem? hg)
  rw[h0 i _ hg]
  simp only[decide_eq_true_eq,Nat.not_le]
  exact h2
 unfold begunP AS.head metaF
 rw[Enc.unframe_of (by omega)]
 dsimp only
 rw[hb,hl,hh,h0 0 _ rfl,h0 1 _ rfl,h0 2 _ rfl,h0 3 _ rfl,h0 4 _ rfl,h0 5 _ rfl,hd,hln,Nat.mod_eq_of_lt hs]
 cases hw:a.whole with
 | true=>
  have hk:a.kind=119:=by simp[AS.kind,hw]
  rw[hk,if_neg (by simp),if_neg (by simp)]
  simp[AS.hd,hw]
 | false=>
  have hk:a.kind=104:=by simp[AS.kind,hw]
  rw[hk,if_neg (by simp),if_neg (by simp),if_neg (by simp),if_neg (by simp)]
  simp[AS.hd,hw]
theorem begun_of{a:AS}(h:a.fine)(X:List UInt8):begunP (a.bytes++X)=some a.hd:=by
 unfold AS.bytes
 rw[List.append_assoc,begun_head h.nums h.sum,if_neg]
 rintro⟨hw,hx⟩
 obtain⟨h1,h2⟩:=h.front hw
 rcases hx with hx | hx
 ·rw[List.length_append]at hx;omega
 ·exact hx (by rw[List.take_append_of_le_length h1,h2])
structure Link(a b:AS):Prop where
 number:a.number<b.number
 ahead:b.ahead=a.bytes.length
 next:b.whole=true\/a.stop=b.next
def Chain:List AS->Prop
 | []=>True
 | [_]=>True
 | a :: b :: r=>Link a b/\Chain (b :: r)
theorem chain_snoc(n:AS):∀ss:List AS,Chain (ss++ [n])↔Chain ss/\∀as0 a,ss=as0++ [a]->Link a n
 | []=>by simp[Chain]
 | [a]=>by
  show Link a n/\True↔True/\ _
  constructor
  ·rintro⟨h,_⟩
   refine⟨trivial,fun as0 b hb=> ?_⟩
   cases as0 with
   | nil=>injection hb with hb;rw[<- hb];exact h
   | cons x l=>simp at hb
  ·rintro⟨_,h⟩
   exact⟨h [] a rfl,trivial⟩
 | a :: b :: r=>by
  have ih:=chain_snoc n (b :: r)
  show Link a b/\Chain (b :: r++ [n])↔(Link a b/\Chain (b :: r))/\ _
  rw[ih]
  constructor
  ·rintro⟨h1,h2,h3⟩
   refine⟨⟨h1,h2⟩,fun as0 x hx=> ?_⟩
   cases as0 with
   | nil=>simp at hx
   | cons y l=>
    rw[List.cons_append]at hx
    injection hx with _ hx
    exact h3 l x hx
  ·rintro⟨⟨h1,h2⟩,h3⟩
   exact⟨h1,h2,fun as0 x hx=>h3 (a :: as0) x (by rw[hx];rfl)⟩
theorem Chain.tail{a:AS}:∀{r:List AS},Chain (a :: r)->Chain r
 | [],_=>trivial
 | _ :: _,h=>h.2
theorem Chain.rise:∀{ss:List AS},Chain ss->ss.Pairwise fun a b=>a.number<b.number
 | [],_=>List.Pairwise.nil
 | [a],_=>List.pairwise_singleton _ _
 | a :: b :: r,h=>by
  have ih:=Chain.rise h.2
  refine List.pairwise_cons.2 ⟨fun x hx=> ?_,ih⟩
  rcases List.mem_cons.1 hx with rfl | hx
  ·exact h.1.number
  ·exact Nat.lt_trans h.1.number ((List.pairwise_cons.1 ih).1 x hx)
def playAll(c:Ct)(ss:List AS):Ct:=ss.foldl AS.play c
theorem playAll_snoc(c:Ct)(ss:List AS)(a:AS):playAll c (ss++ [a])=AS.play (playAll c ss) a:=by simp[playAll]
theorem start_next{a:AS}{c:Ct}(hle:a.first<=a.next)(h:a.whole=true\/c.next<=a.next):(a.start c).next=a.next:=by
 unfold AS.start
 by_cases hc:a.whole=true\/(c.cut a.first).next<a.next
 ·rw[if_pos hc];simp[Ct.next]
 ·rw[if_neg hc]
  have h1:¬a.whole=true:=fun h=>hc (.inl h)
  have h2:¬(c.cut a.first).next<a.next:=fun h=>hc (.inr h)
  have h3:=h.resolve_left h1
  unfold Ct.cut Ct.next at*
  split at h2<;>rename_i h4
  ·rw[if_pos h4]
   simp only[List.length_drop]at h2 ⊢
   omega
  ·rw[if_neg h4]
   omega
theorem play_next{a:AS}{c:Ct}(hf:a.fine)(h:a.whole=true\/c.next<=a.next):(AS.play c a).next=a.stop:=by
 have h1:=start_next hf.le h
 unfold AS.play AS.stop
 rw[items_next _ _ (by rw[h1];exact hf.good),h1]
theorem playAll_next:∀{ss:List AS},Chain ss->(∀a∈ss,a.fine)->∀(c:Ct),(∀a,ss.head? =some a->a.whole=true\/c.next<=a.next)->∀as0 z,ss=as0++ [z]->(playAll c ss).next=z.stop
 | [],_,_,_,_,as0,z,h=>by simp at h
 | [a],_,hf,c,hc,as0,z,h=>by
  have:a=z:=by
   cases as0 with
   | nil=>injection h
   | cons x l=>simp at h
  subst this
  exact play_next (hf a (by simp)) (hc a rfl)
 | a :: b :: r,hch,hf,c,hc,as0,z,h=>by
  cases as0 with
  | nil=>simp at h
  | cons x l=>
   rw[List.cons_append]at h
   injection h with _ h
   refine playAll_next (ss:=b :: r) hch.2 (fun y hy=>hf y (List.mem_cons_of_mem _ hy)) (AS.play c a) (fun y hy=> ?_) l z h
   injection hy with hy
   subst hy
   rcases hch.1.next with h1 | h1
   ·exact .inl h1
   ·exact .inr (by rw[play_next (hf a (by simp)) (hc a rfl),h1];exact Nat.le_refl _)
theorem replay_of{a:AS}{c:Ct}{junk:List UInt8}{counts:Nat}(hf:a.fine)(h:a.whole=true\/c.next<=a.next)(h1:a.bytes.length<=counts)(h2:Dead junk\/counts<a.bytes.length+8):
  playB (a.bytes++junk) counts ((a.bytes++junk).length+1) ⟨a.start c,a.next,57⟩=⟨AS.play c a,a.stop,a.bytes.length⟩:=by
 have hn:=start_next hf.le h
 have hil:∀l:List It,l.length<=(encs l).length:=by
  intro l
  induction l with
  | nil=>simp
  | cons x l ih=>rw[encs_cons,List.length_append,List.length_cons];have:=x.enc_len;omega
 have:=play_items (T:=junk) (counts:=counts) a.items a.head (a.start c) a.next ((a.bytes++junk).length+1) hf.its (by rw[hn];exact hf.good) hn.symm h1 h2 (by
  have h3:=hil a.items
  have h4:a.bytes.length=a.head.length+(encs a.items).length:=by unfold AS.bytes;rw[List.length_append]
  rw[List.length_append];omega)
 rw[AS.head_len]at this
 have e:a.bytes++junk=a.head++(encs a.items++junk):=by unfold AS.bytes;rw[List.append_assoc]
 rw[<- e]at this
 have hp:=play_next hf h
 unfold AS.play at hp
 rw[hp]at this
 exact this
theorem Fl.at_mem{fs:List Fl}{n:Int}{f:Fl}(h:Fl.at_ fs n=some f):f∈fs/\f.n=n:=⟨List.mem_of_find?_eq_some h,by have:=List.find?_some h;simpa using this⟩
theorem Fl.at_of{fs:List Fl}(hr:fs.Pairwise fun a b=>a.n<b.n){f:Fl}(h:f∈fs):Fl.at_ fs f.n=some f:=by
 induction fs with
 | nil=>cases h
 | cons g r ih=>
  obtain⟨hg,hr⟩:=List.pairwise_cons.1 hr
  unfold Fl.at_
  rcases List.mem_cons.1 h with rfl | h
  ·rw[List.find?_cons_of_pos (by simp)]
  ·rw[List.find?_cons_of_neg (by have:=hg f h;simp;omega)]
   exact ih hr h
structure Cr(fs fs':List Fl):Prop where
 ok:Fl.ok fs'
 back:∀f'∈fs',∃f∈fs,f'.n=f.n
 on:∀f∈fs,∃T,Torn (f.raw.drop f.kept) T/\((f.kept+T.length=0/\Fl.at_ fs' f.n=none)\/(0<f.kept+T.length/\Fl.at_ fs' f.n=some ⟨f.n,f.raw.take f.kept++T,f.kept+T.length⟩))
theorem torn_len{U T:List UInt8}(h:Torn U T):T.length<=U.length:=by
 obtain⟨j,hj,rfl | ⟨_,rfl⟩⟩:=h
 ·rw[List.length_take];omega
 ·rw[List.length_set,List.length_take];omega
theorem crash_cr:∀{fs:List Fl} (cuts:List Int),Fl.ok fs->Cr fs (Fl.crash fs cuts)
 | [],_,_=>⟨⟨List.Pairwise.nil,by simp[Fl.crash]⟩,by simp[Fl.crash],by simp⟩
 | f :: r,cuts,h=>by
  obtain⟨hg,hr⟩:=List.pairwise_cons.1 h.rise
  have ih:=crash_cr cuts.tail (fs:=r) ⟨hr,fun x hx=>h.le x (List.mem_cons_of_mem _ hx)⟩
  have hk:=h.le f (List.mem_cons_self ..)
  obtain⟨T,hT,hl⟩:=lose_torn f hk (cuts.headD 0)
  have hgr:∀f'∈Fl.crash r cuts.tail,f.n<f'.n:=fun f' hf'=>by
   obtain⟨x,hx,e⟩:=ih.back f' hf'
   rw[e];exact hg x hx
  have hno:∀x∈r,x.n≠f.n:=fun x hx=>by have:=hg x hx;omega
  unfold Fl.crash
  rw[hl]
  dsimp only
  by_cases h0:f.kept+T.length=0
  ·rw[if_pos h0]
   refine⟨ih.ok,fun f' hf'=> ?_,fun x hx=> ?_⟩
   ·obtain⟨x,hx,e⟩:=ih.back f' hf'
    exact⟨x,List.mem_cons_of_mem _ hx,e⟩
   ·rcases List.mem_cons.1 hx with rfl | hx
    ·exact⟨T,hT, .inl ⟨h0,Fl.find_none hgr⟩⟩
    ·exact ih.on x hx
  ·rw[if_neg h0]
   refine⟨⟨List.pairwise_cons.2 ⟨hgr,ih.ok.rise⟩,fun x hx=> ?_⟩,fun f' hf'=> ?_,fun x hx=> ?_⟩
   ·rcases List.mem_cons.1 hx with rfl | hx
    ·dsimp only
     rw[List.length_append,List.length_take];omega
    ·exact ih.ok.le x hx
   ·rcases List.mem_cons.1 hf' with rfl | hf'
    ·exact⟨f,List.mem_cons_self ..,rfl⟩
    ·obtain⟨x,hx,e⟩:=ih.back f' hf'
     exact⟨x,List.mem_cons_of_mem _ hx,e⟩
   ·rcases List.mem_cons.1 hx with rfl | hx
    ·refine⟨T,hT, .inr ⟨by omega, ?_⟩⟩
     unfold Fl.at_
     rw[List.find?_cons_of_pos (by simp)]
    ·obtain⟨T',h1,h2⟩:=ih.on x hx
     refine⟨T',h1, ?_⟩
     have e:Fl.at_ (⟨f.n,f.raw.take f.kept++T,f.kept+T.length⟩ :: Fl.crash r cuts.tail) x.n=Fl.at_ (Fl.crash r cuts.tail) x.n:=by
      unfold Fl.at_
      rw[List.find?_cons_of_neg (by have:=hno x hx;simp;omega)]
     rw[e]
     exact h2
def Strange(base:Nat)(ss:List AS)(f:Fl):Prop:=(base:Int)<=f.n/\f.n<base+1048576/\∀a∈ss,(a.file:Int)≠f.n
def lastNum(ss:List AS):Nat:=match ss.getLast? with | some a=>a.number | none=>0
theorem lastNum_snoc(l:List AS)(a:AS):lastNum (l++ [a])=a.number:=by simp[lastNum]
def Pend(ss:List AS)(c:Ct)(A:Ct->Prop)(f:Fl):Prop:=
 ∃N:AS,N.fine/\N.number=lastNum ss+1/\(∀as0 a,ss=as0++ [a]->Link a N)/\(N.file:Int)=f.n/\f.raw <+: N.bytes/\A (AS.play c N)/\(N.whole=true->N.flen=(encs N.items).length)/\(N.whole=false->N.start c=c/\∃it,N.items= [it])
def Tail(a:AS)(c:Ct)(A:Ct->Prop)(f:Fl):Prop:=
 ∃junk,f.raw.take f.kept=a.bytes++junk/\Dead junk/\(f.raw.length=f.kept\/(junk= []/\∃it,it.fine/\GoodIts a.stop [it]/\A (c.item it)/\f.raw.drop f.kept <+: it.enc))
structure Shape(fs:List Fl)(base:Nat)(ss:List AS)(c:Ct)(A:Ct->Prop):Prop where
 ok:Fl.ok fs
 fine:∀a∈ss,a.fine
 chain:Chain ss
 play:playAll ⟨0, []⟩ ss=c
 nodup:(ss.map AS.file).Nodup
 range:∀a∈ss,base<=a.file/\a.file<base+1048576
 held:∀a∈ss,∃f junk,Fl.at_ fs a.file=some f/\f.raw.take f.kept=a.bytes++junk
 tail:∀as0 a,ss=as0++ [a]->∀f,Fl.at_ fs a.file=some f->Tail a c A f
 strange:∀f∈fs,Strange base ss f->begunP (f.raw.take f.kept)=none/\(f.raw.length=f.kept\/(f.kept=0/\Pend ss c A f))
 one:∀f∈fs,∀g∈fs,Strange base ss f->Strange base ss g->f.raw.length≠f.kept->g.raw.length≠g.kept->f=g
theorem Shape.next{fs:List Fl}{base:Nat}{ss:List AS}{c:Ct}{A:Ct->Prop}(h:Shape fs base ss c A){as0:List AS}{z:AS}(hz:ss=as0++ [z]):c.next=z.stop:=by
 rw[<- h.play]
 exact playAll_next h.chain h.fine ⟨0, []⟩ (fun a _=> .inr (Nat.zero_le _)) as0 z hz
theorem Shape.weak{fs:List Fl}{base:Nat}{ss:List AS}{c:Ct}{A B:Ct->Prop}(h:Shape fs base ss c A)(hab:∀x,A x->B x):Shape fs base ss c B:=
 ⟨h.ok,h.fine,h.chain,h.play,h.nodup,h.range,h.held,fun as0 a e f hf=>by
  obtain⟨junk,h1,h2,h3⟩:=h.tail as0 a e f hf
  refine⟨junk,h1,h2,h3.imp id ?_⟩
  rintro⟨h4,it,h5,h6,h7,h8⟩
  exact⟨h4,it,h5,h6,hab _ h7,h8⟩,fun f hf hs=>by
  obtain⟨h1,h2⟩:=h.strange f hf hs
  refine⟨h1,h2.imp id ?_⟩
  rintro⟨h3,N,n1,n0,n2,n3,n4,n5,n6⟩
  exact⟨h3,N,n1,n0,n2,n3,n4,hab _ n5,n6⟩,h.one⟩
theorem fine_more{a:AS}{it:It}(h:a.fine)(h1:it.fine)(h2:GoodIts a.stop [it]):({ a with items:=a.items++ [it] }:AS).fine:=by
 refine⟨h.nums,h.sum, ?_, ?_,h.le,fun hw=> ?_⟩
 ·intro i hi
  rcases List.mem_append.1 hi with hi | hi
  ·exact h.its i hi
  ·rw[List.mem_singleton]at hi;rw[hi];exact h1
 ·exact(goodIts_append _ _ _).2 ⟨h.good,h2⟩
 ·obtain⟨h3,h4⟩:=h.front hw
  dsimp only
  rw[encs_append,List.length_append]
  exact⟨by omega,by rw[List.take_append_of_le_length h3];exact h4⟩
theorem bytes_more(a:AS)(it:It):({ a with items:=a.items++ [it] }:AS).bytes=a.bytes++it.enc:=by
 show a.head++encs (a.items++ [it])= _
 rw[encs_append,encs_one,<- List.append_assoc]
 rfl
theorem play_more(c:Ct)(a:AS)(it:It):AS.play c { a with items:=a.items++ [it] }=(AS.play c a).item it:=by
 show (a.start c).items (a.items++ [it])= _
 unfold Ct.items
 rw[List.foldl_append]
 rfl
theorem link_more{x a:AS}{it:It}(h:Link x a):Link x { a with items:=a.items++ [it] }:=⟨h.number,h.ahead,h.next⟩
theorem nil_or_snoc{α:Type}(l:List α):l= []\/∃L b,l=L++ [b]:=by
 rcases List.eq_nil_or_concat l with h | ⟨L,b,h⟩
 ·exact .inl h
 ·exact .inr ⟨L,b,by rw[h,List.concat_eq_append]⟩
theorem take_all{l:List UInt8}{k:Nat}(h:l.length<=k):l.take k=l:=List.take_of_length_le h
section
variable {fs fs':List Fl}{base:Nat}{ss as0:List AS}{a:AS}{c:Ct}{A:Ct->Prop}
theorem Cr.all(h:Cr fs fs')(hok:Fl.ok fs):∀f'∈fs',f'.raw.length=f'.kept:=by
 intro f' hf'
 obtain⟨f,hf,e⟩:=h.back f' hf'
 have h1:=Fl.at_of h.ok.rise hf'
 rw[e]at h1
 obtain⟨T,_,⟨_,h2⟩ | ⟨_,h2⟩⟩:=h.on f hf
 ·rw[h2]at h1;cases h1
 ·rw[h2]at h1
  injection h1 with h1
  rw[<- h1]
  have:=hok.le f hf
  simp only[List.length_append,List.length_take]
  omega
theorem Cr.held(h:Cr fs fs')(hok:Fl.ok fs){f:Fl}{n:Int}{junk:List UInt8}(hf:Fl.at_ fs n=some f)(hb:f.raw.take f.kept=a.bytes++junk):
  ∃f' T,Fl.at_ fs' n=some f'/\Torn (f.raw.drop f.kept) T/\f'.raw.take f'.kept=a.bytes++(junk++T):=by
 obtain⟨hm,rfl⟩:=Fl.at_mem hf
 have hk:=hok.le f hm
 have hl:0<f.kept:=by
  have:=congrArg List.length hb
  simp only[List.length_take,List.length_append,AS.bytes,AS.head_len]at this
  omega
 obtain⟨T,hT,⟨h1,_⟩ | ⟨_,h2⟩⟩:=h.on f hm
 ·omega
 ·refine⟨_,T,h2,hT, ?_⟩
  dsimp only
  rw[take_all (by rw[List.length_append,List.length_take];omega),hb,List.append_assoc]
theorem file_mem{a:AS}{ss:List AS}(h:a∈ss):a.file∈ss.map AS.file:=List.mem_map_of_mem h
theorem strange_iff{ss ss':List AS}(h:ss.map AS.file=ss'.map AS.file)(f:Fl):Strange base ss f->Strange base ss' f:=by
 rintro⟨h1,h2,h3⟩
 refine⟨h1,h2,fun a ha=> ?_⟩
 have:=file_mem ha
 rw[<- h]at this
 obtain⟨b,hb,e⟩:=List.mem_map.1 this
 rw[<- e]
 exact h3 b hb
theorem Shape.last(h:Shape fs base (as0++ [a]) c A)(hc:Cr fs fs')(hst:∀f'∈fs',Strange base (as0++ [a]) f'->begunP (f'.raw.take f'.kept)=none){a':AS}(e1:a'.file=a.file)(e2:a'.fine)(e3:∀x,Link x a->Link x a')
  {f':Fl} {junk:List UInt8} (h1:Fl.at_ fs' a.file=some f') (h2:f'.raw.take f'.kept=a'.bytes++junk) (h3:Dead junk):Shape fs' base (as0++ [a']) (AS.play (playAll ⟨0, []⟩ as0) a') (fun _=>False):=by
 have hm:(as0++ [a']).map AS.file=(as0++ [a]).map AS.file:=by simp[e1]
 have hall:=hc.all h.ok
 have hch:=(chain_snoc a as0).1 h.chain
 refine⟨hc.ok,fun x hx=> ?_,(chain_snoc a' as0).2 ⟨hch.1,fun l x hx=>e3 x (hch.2 l x hx)⟩,playAll_snoc _ _ _,by rw[hm];exact h.nodup,fun x hx=> ?_,fun x hx=> ?_,fun l x hx f hf=> ?_,fun f hf hs=> ?_,fun f hf g hg _ _ h1 _=>absurd (hall f hf) h1⟩
 ·rcases List.mem_append.1 hx with hx | hx
  ·exact h.fine x (List.mem_append_left _ hx)
  ·rw[List.mem_singleton]at hx;rw[hx];exact e2
 ·rcases List.mem_append.1 hx with hx | hx
  ·exact h.range x (List.mem_append_left _ hx)
  ·rw[List.mem_singleton]at hx;rw[hx,e1];exact h.range a (by simp)
 ·rcases List.mem_append.1 hx with hx | hx
  ·obtain⟨f,jk,hf,hb⟩:=h.held x (List.mem_append_left _ hx)
   obtain⟨f',T,h1,_,h2⟩:=hc.held h.ok hf hb
   exact⟨f',_,h1,h2⟩
  ·rw[List.mem_singleton]at hx;rw[hx,e1];exact⟨f',junk,h1,h2⟩
 ·obtain⟨_,hx⟩:=List.append_inj' hx rfl
  injection hx with hx
  subst hx
  rw[e1,h1]at hf
  injection hf with hf
  subst hf
  exact⟨junk,h2,h3, .inl (hall f' (Fl.at_mem h1).1)⟩
 ·exact⟨hst f hf (strange_iff hm f hs), .inl (hall f hf)⟩
theorem crash_keep(h:Shape fs base ss c A)(hc:Cr fs fs')(hst:∀f'∈fs',Strange base ss f'->begunP (f'.raw.take f'.kept)=none):
  ∃ss' c',Shape fs' base ss' c' (fun _=>False)/\(c'=c\/A c')/\lastNum ss'<=lastNum ss+1:=by
 have hall:=hc.all h.ok
 rcases nil_or_snoc ss with rfl | ⟨as0,a,rfl⟩
 ·refine⟨[],c,⟨hc.ok,by simp,trivial,h.play,by simp,by simp,by simp,by simp,fun f hf hs=>⟨hst f hf hs, .inl (hall f hf)⟩,fun f hf g hg _ _ h1 _=>absurd (hall f hf) h1⟩, .inl rfl,Nat.le_succ _⟩
 ·obtain⟨f,jk,hf,_⟩:=h.held a (by simp)
  obtain⟨junk,hb,hd,ht⟩:=h.tail as0 a rfl f hf
  obtain⟨f',T,h1,hT,h2⟩:=hc.held h.ok hf hb
  have hpl:AS.play (playAll ⟨0, []⟩ as0) a=c:=by rw[<- h.play,playAll_snoc]
  have hfa:=h.fine a (by simp)
  rcases ht with ht | ⟨rfl,it,i1,i2,i3,i4⟩
  ·rw[List.drop_eq_nil_of_le (by omega)]at hT
   have:=torn_nil hT
   subst this
   rw[List.append_nil]at h2
   have:=h.last hc hst (a':=a) rfl hfa (fun _ h=>h) h1 h2 hd
   rw[hpl]at this
   exact⟨_,_,this, .inl rfl,by simp only[lastNum_snoc];exact Nat.le_succ _⟩
  ·have hT':Torn it.enc T:=by
    rw[List.prefix_iff_eq_take.1 i4]at hT
    exact torn_take hT
   rw[List.nil_append]at h2
   rcases item_torn i1 hT' with rfl | hD
   ·have h2':f'.raw.take f'.kept=({ a with items:=a.items++ [it] }:AS).bytes++ []:=by rw[bytes_more,List.append_nil,h2]
    have:=h.last hc hst (a':={ a with items:=a.items++ [it] }) rfl (fine_more hfa i1 i2) (fun _ h=>link_more h) h1 h2' dead_nil
    rw[play_more,hpl]at this
    exact⟨_,_,this, .inr i3,by simp only[lastNum_snoc];exact Nat.le_succ _⟩
   ·have:=h.last hc hst (a':=a) rfl hfa (fun _ h=>h) h1 h2 hD
    rw[hpl]at this
    exact⟨_,_,this, .inl rfl,by simp only[lastNum_snoc];exact Nat.le_succ _⟩
theorem crash_new(h:Shape fs base ss c A)(hc:Cr fs fs'){N:AS}{f0:Fl}{junk:List UInt8}(h0:Strange base ss f0)(n1:N.fine)(n2:∀as0 a,ss=as0++ [a]->Link a N)(n3:(N.file:Int)=f0.n)(n4:Fl.at_ fs' f0.n=some ⟨f0.n,N.bytes++junk,(N.bytes++junk).length⟩)(n5:Dead junk)
  (hst:∀f'∈fs',Strange base ss f'->f'.n≠f0.n->begunP (f'.raw.take f'.kept)=none):Shape fs' base (ss++ [N]) (AS.play c N) (fun _=>False):=by
 have hall:=hc.all h.ok
 refine⟨hc.ok,fun x hx=> ?_,(chain_snoc N ss).2 ⟨h.chain,n2⟩,by rw[playAll_snoc,h.play], ?_,fun x hx=> ?_,fun x hx=> ?_,fun l x hx f hf=> ?_,fun f hf hs=> ?_,fun f hf g hg _ _ h1 _=>absurd (hall f hf) h1⟩
 ·rcases List.mem_append.1 hx with hx | hx
  ·exact h.fine x hx
  ·rw[List.mem_singleton]at hx;rw[hx];exact n1
 ·rw[List.map_append,List.nodup_append]
  refine⟨h.nodup,by simp,fun x hx y hy e=> ?_⟩
  simp only[List.map_cons,List.map_nil,List.mem_singleton]at hy
  obtain⟨z,hz,rfl⟩:=List.mem_map.1 hx
  refine h0.2.2 z hz ?_
  rw[e,hy,n3]
 ·rcases List.mem_append.1 hx with hx | hx
  ·exact h.range x hx
  ·rw[List.mem_singleton]at hx
   rw[hx]
   have h1:=h0.1;have h2:=h0.2.1
   omega
 ·rcases List.mem_append.1 hx with hx | hx
  ·obtain⟨f,jk,hf,hb⟩:=h.held x hx
   obtain⟨f',T,h1,_,h2⟩:=hc.held h.ok hf hb
   exact⟨f',_,h1,h2⟩
  ·rw[List.mem_singleton]at hx
   rw[hx,n3]
   exact⟨_,junk,n4,List.take_length⟩
 ·obtain⟨_,hx⟩:=List.append_inj' hx rfl
  injection hx with hx
  subst hx
  rw[n3,n4]at hf
  injection hf with hf
  subst hf
  exact⟨junk,List.take_length,n5, .inl rfl⟩
 ·refine⟨hst f hf ⟨hs.1,hs.2.1,fun x hx=>hs.2.2 x (List.mem_append_left _ hx)⟩ fun e=> ?_, .inl (hall f hf)⟩
  exact hs.2.2 N (by simp) (by rw[n3,e])
theorem sum_torn{U T:List UInt8}(h:Torn U T)(hl:T.length=U.length)(hs:Enc.sum T=Enc.sum U):T=U:=by
 obtain⟨j,hj,rfl | ⟨h0,rfl⟩⟩:=h
 ·rw[List.length_take]at hl
  exact take_all (by omega)
 ·rw[List.length_set,List.length_take]at hl
  have he:j=U.length:=by omega
  subst he
  rw[List.take_length]at hs ⊢
  have h1:U.length-1<U.length:=by omega
  have h2:=Enc.sum_set h1 hs
  rw[List.getD_eq_getElem?_getD,List.getElem?_eq_getElem h1]at h2
  exact absurd h2 (flip_ne _)
theorem begun_short(raw:List UInt8)(h:raw.length<57)(N:AS):Torn N.head raw->begunP raw=none:=fun ht=>by
 rcases frame_torn (p:=metaP N.kind N.nums) (by rw[metaP_len];simp[AS.nums]) ht with e | e
 ·exfalso
  have:=N.head_len
  unfold AS.head metaF at this
  rw[e]at h
  omega
 ·exact begun_none e
theorem crash_shape(h:Shape fs base ss c A)(hc:Cr fs fs'):∃ss' c',Shape fs' base ss' c' (fun _=>False)/\(c'=c\/A c')/\lastNum ss'<=lastNum ss+1:=by
 have keep:∀f∈fs,Strange base ss f->f.raw.length=f.kept->∀f'∈fs',f'.n=f.n->begunP (f'.raw.take f'.kept)=none:=by
  intro f hf hs hk f' hf' e
  have h1:=Fl.at_of hc.ok.rise hf'
  rw[e]at h1
  obtain⟨T,hT,⟨_,h2⟩ | ⟨_,h2⟩⟩:=hc.on f hf
  ·rw[h2]at h1;cases h1
  ·rw[List.drop_eq_nil_of_le (by omega)]at hT
   have:=torn_nil hT
   subst this
   rw[h2]at h1
   injection h1 with h1
   rw[<- h1]
   dsimp only
   rw[List.append_nil,List.length_nil,Nat.add_zero,List.take_take,Nat.min_self]
   exact(h.strange f hf hs).1
 by_cases hx:∃f∈fs,Strange base ss f/\f.raw.length≠f.kept
 ·obtain⟨f0,hf0,hs0,hk0⟩:=hx
  have rest:∀f'∈fs',Strange base ss f'->f'.n≠f0.n->begunP (f'.raw.take f'.kept)=none:=by
   intro f' hf' hs' hne
   obtain⟨f,hf,e⟩:=hc.back f' hf'
   have hs:Strange base ss f:=⟨by rw[<- e];exact hs'.1,by rw[<- e];exact hs'.2.1,fun a ha=>by rw[<- e];exact hs'.2.2 a ha⟩
   refine keep f hf hs ?_ f' hf' e
   by_cases hk:f.raw.length=f.kept
   ·exact hk
   ·exact absurd (congrArg Fl.n (h.one f hf f0 hf0 hs hs0 hk hk0)) (by rw[<- e];exact hne)
  have none_case:(∀f'∈fs',f'.n=f0.n->begunP (f'.raw.take f'.kept)=none)->∃ss' c',Shape fs' base ss' c' (fun _=>False)/\(c'=c\/A c')/\lastNum ss'<=lastNum ss+1:=fun hn=>
   crash_keep h hc fun f' hf' hs'=>by
    by_cases e:f'.n=f0.n
    ·exact hn f' hf' e
    ·exact rest f' hf' hs' e
  obtain⟨_,hk | ⟨hk,N,n1,n0,n2,n3,n4,n5,n6,n7⟩⟩:=h.strange f0 hf0 hs0
  ·exact absurd hk hk0
  obtain⟨T,hT,⟨_,hat⟩ | ⟨_,hat⟩⟩:=hc.on f0 hf0
  ·refine none_case fun f' hf' e=> ?_
   have h1:=Fl.at_of hc.ok.rise hf'
   rw[e,hat]at h1
   cases h1
  ·rw[hk,List.take_zero,List.nil_append,Nat.zero_add]at hat
   rw[hk,List.drop_zero,List.prefix_iff_eq_take.1 n4]at hT
   have hT:=torn_take hT
   have none2:begunP T=none->∃ss' c',Shape fs' base ss' c' (fun _=>False)/\(c'=c\/A c')/\lastNum ss'<=lastNum ss+1:=fun hb=>by
    refine none_case fun f' hf' e=> ?_
    have h1:=Fl.at_of hc.ok.rise hf'
    rw[e,hat]at h1
    injection h1 with h1
    rw[<- h1,List.take_length]
    exact hb
   have tail:∀T',T=N.head++T'->Torn (encs N.items) T'->∃ss' c',Shape fs' base ss' c' (fun _=>False)/\(c'=c\/A c')/\lastNum ss'<=lastNum ss+1:=by
    intro T' e hT'
    have hbg:=begun_head n1.nums n1.sum T'
    rw[<- e]at hbg
    cases hw:N.whole with
    | true=>
     have hfl:=n6 hw
     have hfs:=(n1.front hw).2
     rw[hfl,List.take_length]at hfs
     by_cases hq:T'.length<N.flen\/Enc.sum (T'.take N.flen)≠N.fsum
     ·rw[if_pos ⟨hw,hq⟩]at hbg
      exact none2 hbg
     ·have hl:¬T'.length<N.flen:=fun h=>hq (.inl h)
      have hs:Enc.sum (T'.take N.flen)=N.fsum:=Classical.byContradiction fun h=>hq (.inr h)
      have hle:=torn_len hT'
      rw[take_all (by omega),hfs]at hs
      have hTT:=sum_torn hT' (by omega) hs
      have hat2:Fl.at_ fs' f0.n=some ⟨f0.n,N.bytes++ [],(N.bytes++ []).length⟩:=by
       rw[hat,List.append_nil,e,hTT]
       rfl
      exact⟨_,_,crash_new h hc hs0 n1 n2 n3 hat2 dead_nil rest, .inr n5,by rw[lastNum_snoc];exact Nat.le_of_eq n0⟩
    | false=>
     obtain⟨hst,it,hit⟩:=n7 hw
     have hif:it.fine:=n1.its it (by rw[hit];simp)
     rw[hit,encs_one]at hT'
     rcases item_torn hif hT' with hT' | hT'
     ·have hat2:Fl.at_ fs' f0.n=some ⟨f0.n,N.bytes++ [],(N.bytes++ []).length⟩:=by
       rw[hat,List.append_nil,e,hT',<- encs_one,<- hit]
       rfl
      exact⟨_,_,crash_new h hc hs0 n1 n2 n3 hat2 dead_nil rest, .inr n5,by rw[lastNum_snoc];exact Nat.le_of_eq n0⟩
     ·have n1':({ N with items:= [] }:AS).fine:=⟨n1.nums,n1.sum,by simp,(by have:=goodIts_le _ _ n1.good;show N.next<=900000000;omega),n1.le,fun h=>absurd (hw.symm.trans h) (by decide)⟩
      have hat2:Fl.at_ fs' f0.n=some ⟨f0.n,({ N with items:= [] }:AS).bytes++T',(({ N with items:= [] }:AS).bytes++T').length⟩:=by
       rw[hat,e]
       have:({ N with items:= [] }:AS).bytes=N.head:=by
        show N.head++encs []=N.head
        simp[encs]
       rw[this]
      refine⟨_,_,crash_new (N:={ N with items:= [] }) h hc hs0 n1' (fun as0 a e=>⟨(n2 as0 a e).number,(n2 as0 a e).ahead,(n2 as0 a e).next⟩) n3 hat2 hT' rest, .inl ?_,by rw[lastNum_snoc];exact Nat.le_of_eq n0⟩
      exact hst
   rcases torn_append hT with hh | ⟨T',e,hT'⟩
   ·by_cases hl:T.length<57
    ·exact none2 (begun_short T hl N hh)
    ·rcases frame_torn (p:=metaP N.kind N.nums) (by rw[metaP_len];simp[AS.nums]) hh with e | e
     ·exact tail [] (by rw[List.append_nil];exact e) ⟨0,by omega, .inl (by simp)⟩
     ·exact none2 (begun_none e)
   ·exact tail T' e hT'
 ·refine crash_keep h hc fun f' hf' hs'=> ?_
  obtain⟨f,hf,e⟩:=hc.back f' hf'
  have hs:Strange base ss f:=⟨by rw[<- e];exact hs'.1,by rw[<- e];exact hs'.2.1,fun a ha=>by rw[<- e];exact hs'.2.2 a ha⟩
  exact keep f hf hs (Classical.byContradiction fun hk=>hx ⟨f,hf,hs,hk⟩) f' hf' e
end
end Go.Proofs.YtjehlgblkfofpaaGreat