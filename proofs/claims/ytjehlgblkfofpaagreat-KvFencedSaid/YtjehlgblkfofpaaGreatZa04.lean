/- The claims' texts, several in one: Lose, Add, Append, Crash. Conditions stand with each theorem. -/
import Derived.Test.YtjehlgblkfofpaaGreatZa03
import Derived.BigRegion
import Derived.Deep.RegionLaw
set_option maxHeartbeats 4000000
set_option maxRecDepth 20000
namespace Go.Proofs.YtjehlgblkfofpaaGreat
open Go.RowKit
structure Ready(W:World)(bd bm:Nat)(n:Int)(g:Nat)(v:Value)(raw:List UInt8)(kept:Nat):Prop where
 disk:∃cs,Blk W bd 88 cs/\cs[0]? =some (.map (some bm))
 map:∃es,IMap W bm es/\entV es n= .pointer (some ⟨g,0,none⟩)
 file:Blk W g 151 #[v, .int .i64 kept]
 row:Raw W v raw
theorem Ready.facts{W:World}{bd bm:Nat}{n:Int}{g:Nat}{v:Value}{raw:List UInt8}{kept:Nat}(h:Ready W bd bm n g v raw kept)(hn:(Lit.int .i64 n).wf=true):
  (Instr.lookup 85 (.map (some bm)) (.int .i64 n) false).run Tryz.prog W= .ok (.pointer (some ⟨g,0,none⟩)) W/\W.cell? ⟨bd,0,none⟩=some (.map (some bm))/\W.cell? ⟨g,0,none⟩=some v/\W.frozen? ⟨g,0,none⟩=false:=by
 obtain⟨cs,h1,h2⟩:=h.disk
 obtain⟨es,h3,h4⟩:=h.map
 have:=h3.look hn
 rw[h4]at this
 exact⟨this,(h1.cell 0).trans h2,h.file.cell 0,h.file.frozen 0⟩
theorem Ready.after{W W1:World}{bd bm:Nat}{n:Int}{g:Nat}{v:Value}{raw:List UInt8}{kept:Nat}(h:Ready W bd bm n g v raw kept)(hn:(Lit.int .i64 n).wf=true)(hg:W.grownBy W1 v.ownBlock):
  (Instr.lookup 85 (.map (some bm)) (.int .i64 n) false).run Tryz.prog W1= .ok (.pointer (some ⟨g,0,none⟩)) W1/\W1.cell? ⟨bd,0,none⟩=some (.map (some bm))/\W1.cell? ⟨g,0,none⟩=some v/\W1.frozen? ⟨g,0,none⟩=false:=by
 obtain⟨cs,h1,h2⟩:=h.disk
 obtain⟨es,h3,h4⟩:=h.map
 have hm1:=(h3.heap (hg.block _ h3.lt (fun e=>h3.ne_own h.row e.symm))).look hn
 rw[h4]at hm1
 have hd1:=h1.grown hg (fun e=>Own.ne_blk h.row h1 (by decide) e.symm)
 have hf1:=h.file.grown hg (fun e=>Own.ne_blk h.row h.file (by decide) e.symm)
 exact⟨hm1,(hd1.cell 0).trans h2,hf1.cell 0,hf1.frozen 0⟩
def Added(W:World)(g:Nat)(v:Value)(raw xs:List UInt8)(kept:Nat)(W':World):Prop:=
 Touch (fun k=>k=g\/v.ownBlock=some k) W W'/\∃v',Blk W' g 151 #[v', .int .i64 kept]/\Raw W' v' (raw++xs)/\(v'.ownBlock=v.ownBlock\/v'.ownBlock=some W.heap.size)
theorem Ready.added{W W1:World}{bd bm:Nat}{n:Int}{g:Nat}{v:Value}{raw xs:List UInt8}{kept:Nat}(h:Ready W bd bm n g v raw kept){B:Option Addr}{m c:Nat}(hm:xs.length=m)(ho:Own W1 5 1 (.slice B (raw.length+m) c) (raw.length+m) (u8s raw++u8s xs))(hg:W.drew.grownBy W1 v.ownBlock)
  (hb:(Value.slice B (raw.length+m) c).ownBlock=v.ownBlock\/(Value.slice B (raw.length+m) c).ownBlock=some W.drew.heap.size):Added W g v raw xs kept (W1.setCell ⟨g,0,none⟩ (.slice B (raw.length+m) c)):=by
 subst hm
 have hf1:=h.file.drew.grown hg (fun e=>Own.ne_blk h.row h.file (by decide) e.symm)
 refine⟨((Touch.refl _ W).drew.grown hg fun k hk=> .inr (.inr hk)).setCell (p:=⟨g,0,none⟩) (.inr (.inl rfl)) _,_,hf1.set_ 0 _, ?_,hb⟩
 unfold Raw
 rw[List.length_append,u8s_append]
 exact ho.far (p:=⟨g,0,none⟩) (ho.ne_blk hf1 (by decide)) _
theorem add_old(w:World)(bd bm:Nat)(n:Int)(g:Nat)(v:Value)(raw:List UInt8)(kept:Nat)(A:Option Addr)(m c:Nat)(xs:List UInt8)(h:Ready w bd bm n g v raw kept)(hn:(Lit.int .i64 n).wf=true)(hx:Bs w A m c xs)(hx0:xs≠ [])(hb:raw.length+xs.length<=140737488355000):
  Calls Tryz.prog 161 #[.pointer (some ⟨bd,0,none⟩), .int .i64 n, .slice A m c] w fun e w'=>e= .returned (.tuple #[])/\Added w g v raw xs kept w':=by
 have hml:xs.length=m:=hx.1
 have hm0:0<m:=by have:=List.length_pos_iff.2 hx0;omega
 obtain⟨hlk,hc,hfc,hff⟩:=h.facts hn
 have hlkd:=((show Ready w.drew bd bm n g v raw kept from⟨h.disk,h.map,h.file,h.row⟩).facts hn).1
 have hm0':((m:Int) == 0)=false:=by simp;omega
 obtain⟨b,cc,rfl,hl1,hl2,_⟩:=Own.form h.row
 have HAFTER:=zh (fun w1=>(show Ready w.drew bd bm n g _ raw kept from⟨h.disk,h.map,h.file,h.row⟩).after (W1:=w1) hn)
 have H:=zh h;have HX:=zh hx;have HML:=zh hml
 unfold maxLen at hl2
 clear h hx hml
 go_enter Tryz.func161,Tryz.ntmps161
 go_wp2_with fail
 go_region_law ((refine step_own_src _ rfl _ _ 29 29 rfl 5 (.int .u8 0) 1 1 Tryz.info5 Tryz.underlying29 rfl (.slice b raw.length cc) raw.length (u8s raw) rfl (by exact Own.drew H.out.row) (u8s_one _) (.slice A m c) m (u8s xs) rfl (Bs.src (by exact HX.out.drew) Tryz.underlying29) (by unfold maxLen;have:=HML.out;omega) (by have:=HML.out;omega) ?_;intro B1 c1 w1 o1 g1 b1;obtain⟨r1,r2,r3,r4⟩:=HAFTER.out w1 g1))
 all_goals
  clear r1 r2 r3 r4
  have O1:=zh (H.out.added HML.out o1 g1 b1)
  clear o1 g1 b1
  go_wp2_with fail
  go_end0
  exact⟨rfl,O1.out⟩
theorem add_new(w:World)(bd bm:Nat)(n:Int)(es:List (Int×Nat))(cs:Array Value)(A:Option Addr)(m c:Nat)(xs:List UInt8)(h1:Blk w bd 88 cs)(h2:cs[0]? =some (.map (some bm)))(h3:IMap w bm es)(h4:entV es n= .pointer none)(hes:es.length<maxLen)
  (hn:(Lit.int .i64 n).wf=true) (hx:Bs w A m c xs) (hxb:∀a,A=some a->a.block≠bm/\a.block<w.heap.size) (hx0:xs≠ []) (hb:xs.length<=140737488355000):
  Calls Tryz.prog 161 #[.pointer (some ⟨bd,0,none⟩), .int .i64 n, .slice A m c] w fun e w'=>e= .returned (.tuple #[])/\∃w2,IMap w2 bm (insE n w.heap.size (es.filter fun p=>decide (p.1≠n)))/\(w.alloc (.cells #[.slice none 0 0, .int .i64 0] 151)).grownBy w2 (some bm)/\Added w2 w.heap.size (.slice none 0 0) [] xs 0 w':=by
 have hml:xs.length=m:=hx.1
 have hm0:0<m:=by have:=List.length_pos_iff.2 hx0;omega
 have hlk:=h3.look hn
 rw[h4]at hlk
 have hc:w.cell? ⟨bd,0,none⟩=some (.map (some bm)):=(h1.cell 0).trans h2
 have hca:∀o,(w.alloc o).cell? ⟨bd,0,none⟩=some (.map (some bm)):=fun o=>((h1.alloc o).cell 0).trans h2
 have hm0':((m:Int) == 0)=false:=by simp;omega
 obtain⟨w2,hput,him,hg⟩:=((h3.heap (w':=w.alloc (.cells #[.slice none 0 0, .int .i64 0] 151)) (Below.heap_alloc _ _ _ h3.lt))).put hn w.heap.size hes
 have hne:bd≠bm:=fun e=>h3.ne_blk h1 e.symm
 have hR:Ready w2 bd bm n w.heap.size (.slice none 0 0) [] 0:=by
  refine⟨⟨cs,(h1.alloc _).grown hg (fun e=>hne (by injection e)),h2⟩,⟨_,him, ?_⟩,(Blk.new w _ _).grown hg (fun e=>by injection e with e;have:=h3.lt;omega),Own.nil_ _ _ _⟩
  have hf:(es.filter fun p=>decide (p.1≠n)).find? (fun p=>decide (p.1=n))=none:=by
   rw[List.find?_eq_none]
   intro p hp
   have:=(List.mem_filter.1 hp).2
   simpa using this
  unfold entV
  have:∀l:List (Int×Nat),l.find? (fun p=>decide (p.1=n))=none->(insE n w.heap.size l).find? (fun p=>decide (p.1=n))=some (n,w.heap.size):=by
   intro l
   induction l with
   | nil=>intro _;simp[insE]
   | cons a r ih=>
    intro hl
    rw[List.find?_cons]at hl
    by_cases ha:a.1=n
    ·simp[ha]at hl
    ·unfold insE
     by_cases hlt:n<a.1
     ·rw[if_pos hlt];simp
     ·rw[if_neg hlt,List.find?_cons]
      simp only[ha,decide_false]at hl ⊢
      exact ih hl
  rw[this _ hf]
 obtain⟨hlk2,hc2,hfc2,hff2⟩:=hR.facts hn
 have hlkd2:=((show Ready w2.drew bd bm n w.heap.size _ [] 0 from⟨hR.disk,hR.map,hR.file,hR.row⟩).facts hn).1
 have hx2:Bs w2 A m c xs:=(hx.alloc (.cells #[.slice none 0 0, .int .i64 0] 151)).keep fun _ p v hp ⟨a,ha,e⟩=>hg.cell hp (fun e'=>by injection e' with e';exact(hxb a ha).1 (by rw[<- e,e']))
 have HAFTER:=zh (fun w1=>(show Ready w2.drew bd bm n w.heap.size _ [] 0 from⟨hR.disk,hR.map,hR.file,hR.row⟩).after (W1:=w1) hn)
 have H:=zh hR;have HX:=zh hx2;have HML:=zh hml;have HIM:=zh him;have HG:=zh hg
 clear h1 h2 h3 h4 hx hml hx2 hR him hg hne hxb
 go_enter Tryz.func161,Tryz.ntmps161
 go_wp2_with fail
 go_region_law ((refine step_own_src _ rfl _ _ 29 29 rfl 5 (.int .u8 0) 1 1 Tryz.info5 Tryz.underlying29 rfl (.slice none 0 0) 0 [] rfl (by exact Own.nil_ _ _ _) (u8s_one []) (.slice A m c) m (u8s xs) rfl (Bs.src (by exact HX.out.drew) Tryz.underlying29) (by unfold maxLen;have:=HML.out;omega) (by have:=HML.out;omega) ?_;intro B1 c1 w1 o1 g1 b1;obtain⟨r1,r2,r3,r4⟩:=HAFTER.out w1 g1))
 all_goals
  clear r1 r2 r3 r4
  have o2:=H.out.added HML.out o1 g1 b1
  simp only[List.length_nil,Nat.zero_add]at o2
  have O1:=zh o2
  clear o1 g1 b1 o2
  go_wp2_with fail
  go_end0
  exact⟨rfl,w2,HIM.out,HG.out,O1.out⟩
theorem uniq{fs:List FR}(h:fs.Pairwise fun a b=>a.n<b.n/\a.g≠b.g/\a.v.ownBlock≠b.v.ownBlock):∀a∈fs,∀b∈fs,a.n=b.n->a=b:=by
 induction fs with
 | nil=>intro a ha;cases ha
 | cons x r ih=>
  obtain⟨h1,h2⟩:=List.pairwise_cons.1 h
  intro a ha b hb e
  rcases List.mem_cons.1 ha with rfl | ha'<;>rcases List.mem_cons.1 hb with rfl | hb'
  ·rfl
  ·have:=(h1 b hb').1;omega
  ·have:=(h1 a ha').1;omega
  ·exact ih h2 a ha' b hb' e
theorem apart_ne{fs:List FR}(h:fs.Pairwise fun a b=>a.n<b.n/\a.g≠b.g/\a.v.ownBlock≠b.v.ownBlock):∀a∈fs,∀b∈fs,a.n≠b.n->a.g≠b.g/\a.v.ownBlock≠b.v.ownBlock:=by
 induction fs with
 | nil=>intro a ha;cases ha
 | cons x r ih=>
  obtain⟨h1,h2⟩:=List.pairwise_cons.1 h
  intro a ha b hb e
  rcases List.mem_cons.1 ha with rfl | ha'<;>rcases List.mem_cons.1 hb with rfl | hb'
  ·exact absurd rfl e
  ·exact(h1 b hb').2
  ·exact⟨fun e=>(h1 a ha').2.1 e.symm,fun e=>(h1 a ha').2.2 e.symm⟩
  ·exact ih h2 a ha' b hb' e
def updR(n:Int)(F:FR->FR)(fs:List FR):List FR:=fs.map fun f=>if f.n=n then F f else f
def insR(r:FR):List FR->List FR
 | []=> [r]
 | f :: l=>if r.n<f.n then r :: f :: l else f :: insR r l
theorem mem_insR{r x:FR}{l:List FR}:x∈insR r l↔x=r\/x∈l:=by
 induction l with
 | nil=>simp[insR]
 | cons f l ih=>
  unfold insR
  split
  ·simp
  ·rw[List.mem_cons,ih,List.mem_cons]
   constructor
   ·rintro(h | h | h)<;>simp[h]
   ·rintro(h | h | h)<;>simp[h]
theorem ins_old{n:Int}{b:List UInt8}{v:Value}{fs:List FR}(h:fs.Pairwise fun a b=>a.n<b.n/\a.g≠b.g/\a.v.ownBlock≠b.v.ownBlock)(hn:∃f∈fs,f.n=n):
  Fl.ins n b (fs.map FR.fl)=(updR n (fun f=>⟨f.n,f.raw++b,f.kept,f.g,v⟩) fs).map FR.fl:=by
 induction fs with
 | nil=>obtain⟨f,hf,_⟩:=hn;cases hf
 | cons x r ih=>
  obtain⟨h1,h2⟩:=List.pairwise_cons.1 h
  show (if n<x.n then _ else if x.n=n then _ else _)=FR.fl (if x.n=n then _ else x) :: (updR n _ r).map FR.fl
  by_cases e:x.n=n
  ·rw[if_neg (by omega),if_pos e,if_pos e]
   have:updR n (fun f=>⟨f.n,f.raw++b,f.kept,f.g,v⟩) r=r:=by
    unfold updR
    conv=>rhs;rw[<- List.map_id r]
    refine List.map_congr_left fun f hf=> ?_
    rw[if_neg (by have:=(h1 f hf).1;omega)]
    rfl
   rw[this]
   show (⟨n,x.raw++b,x.kept⟩:Fl) :: _=⟨x.n,_,_⟩ :: _
   rw[e]
  ·have hr:∃f∈r,f.n=n:=by
    obtain⟨f,hf,hfn⟩:=hn
    rcases List.mem_cons.1 hf with rfl | hf
    ·exact absurd hfn e
    ·exact⟨f,hf,hfn⟩
   obtain⟨f,hf,hfn⟩:=hr
   rw[if_neg (by have:=(h1 f hf).1;omega),if_neg e,if_neg e,ih h2 ⟨f,hf,hfn⟩]
theorem ins_new{n:Int}{b:List UInt8}{g:Nat}{v:Value}{fs:List FR}(hn:∀f∈fs,f.n≠n):Fl.ins n b (fs.map FR.fl)=(insR ⟨n,b,0,g,v⟩ fs).map FR.fl:=by
 induction fs with
 | nil=>rfl
 | cons x r ih=>
  show (if n<x.n then _ else if x.n=n then _ else _)=List.map FR.fl (if n<x.n then _ else _)
  by_cases e:n<x.n
  ·rw[if_pos e,if_pos e]
   rfl
  ·rw[if_neg e,if_neg (hn x (by simp)),if_neg e,ih fun f hf=>hn f (by simp[hf])]
   rfl
theorem insE_insR{n:Int}{b:List UInt8}{g:Nat}{v:Value}{fs:List FR}:insE n g (fs.map fun f=>(f.n,f.g))=(insR ⟨n,b,0,g,v⟩ fs).map fun f=>(f.n,f.g):=by
 induction fs with
 | nil=>rfl
 | cons x r ih=>
  show (if n<x.n then _ else _)=List.map _ (if n<x.n then _ else _)
  by_cases e:n<x.n
  ·rw[if_pos e,if_pos e]
   rfl
  ·rw[if_neg e,if_neg e]
   show _ :: insE n g _= _ :: _
   rw[ih]
theorem pairwise_insR{r:FR}{fs:List FR}(h:fs.Pairwise fun a b=>a.n<b.n/\a.g≠b.g/\a.v.ownBlock≠b.v.ownBlock)(hn:∀f∈fs,f.n≠r.n/\f.g≠r.g/\f.v.ownBlock≠r.v.ownBlock):(insR r fs).Pairwise fun a b=>a.n<b.n/\a.g≠b.g/\a.v.ownBlock≠b.v.ownBlock:=by
 induction fs with
 | nil=>exact List.pairwise_singleton _ _
 | cons x l ih=>
  obtain⟨h1,h2⟩:=List.pairwise_cons.1 h
  obtain⟨n1,n2,n3⟩:=hn x (by simp)
  unfold insR
  by_cases e:r.n<x.n
  ·rw[if_pos e]
   refine List.pairwise_cons.2 ⟨fun f hf=> ?_,h⟩
   have:=hn f hf
   refine⟨?_,fun e=>this.2.1 e.symm,fun e=>this.2.2 e.symm⟩
   rcases List.mem_cons.1 hf with rfl | hf
   ·exact e
   ·have:=(h1 f hf).1;omega
  ·rw[if_neg e]
   refine List.pairwise_cons.2 ⟨fun f hf=> ?_,ih h2 fun f hf=>hn f (by simp[hf])⟩
   rcases mem_insR.1 hf with rfl | hf
   ·exact⟨by omega,n2,n3⟩
   ·exact h1 f hf
theorem DK.ready{w:World}{bd bm:Nat}{fv:Value}{fs:List FR}{d:Dk}(h:DK w bd bm fv fs d){n:Int}{f:FR}(hf:fs.find? (fun f=>decide (f.n=n))=some f):Ready w bd bm n f.g f.v f.raw f.kept:=
 ⟨⟨_,h.blk,rfl⟩,⟨_,h.map,entV_some hf⟩,(h.file f (find_mem hf).1).blk,(h.file f (find_mem hf).1).row⟩
def AddEnd(w:World)(bd bm:Nat)(fv:Value)(fs:List FR)(d:Dk)(n:Int)(xs:List UInt8)(e:Ending)(w':World):Prop:=
 e= .returned (.tuple #[])/\Touch (fun k=>k=bm\/∃f∈fs,k=f.g\/f.v.ownBlock=some k) w w'/\∃fs',DK w' bd bm fv fs' { d with fs:=Fl.add n xs d.fs }/\∀k,foot bd bm fv fs' k->foot bd bm fv fs k\/w.heap.size<=k
theorem add_any(w:World)(bd bm:Nat)(fv:Value)(fs:List FR)(d:Dk)(n:Int)(A:Option Addr)(m c:Nat)(xs:List UInt8)(h:DK w bd bm fv fs d)(hn:(Lit.int .i64 n).wf=true)(hx:Bs w A m c xs)(hxb:∀a,A=some a->0<m->¬foot bd bm fv fs a.block/\a.block<w.heap.size)
  (hb:∀f∈fs,f.raw.length+xs.length<=140737488355000) (hb0:xs.length<=140737488355000) (hfl:fs.length<maxLen):
  Calls Tryz.prog 161 #[.pointer (some ⟨bd,0,none⟩), .int .i64 n, .slice A m c] w (AddEnd w bd bm fv fs d n xs):=by
 by_cases h0:xs= []
 ·have hm:m=0:=by have:=hx.1;rw[h0]at this;exact this.symm
  subst hm
  have H:=zh h;have H0:=zh h0
  clear h h0 hx hxb hb hb0
  go_enter Tryz.func161,Tryz.ntmps161
  go_wp2_with fail
  go_end0
  refine⟨rfl,Touch.refl _ _,fs, ?_,fun _ h=> .inl h⟩
  rw[H0.out,show Fl.add n [] d.fs=d.fs from if_pos rfl]
  exact H.out
 ·have hadd:Fl.add n xs d.fs=Fl.ins n xs (fs.map FR.fl):=by rw[<- h.fls];exact if_neg h0
  cases hf:fs.find? (fun f=>decide (f.n=n)) with
  | some f=>
   obtain⟨hfm,hfn⟩:=find_mem hf
   refine(add_old w bd bm n f.g f.v f.raw f.kept A m c xs (h.ready hf) hn hx h0 (hb f hfm)).mono fun e w' ⟨he,ht,v',hblk,hrow,hv'⟩=> ?_
   have htS:Touch (fun k=>k=bm\/∃f∈fs,k=f.g\/f.v.ownBlock=some k) w w':=ht.mono fun k _ hk=> .inr ⟨f,hfm,hk⟩
   have hne:∀f'∈fs,f'.n≠n->f'.g≠f.g/\f'.v.ownBlock≠f.v.ownBlock:=fun f' hf' hn'=>apart_ne h.apart f' hf' f hfm (by rw[hfn];exact hn')
   refine⟨he,htS,updR n (fun f=>⟨f.n,f.raw++xs,f.kept,f.g,v'⟩) fs,⟨hadd.trans (ins_old h.apart ⟨f,hfm,hfn⟩), ?_, ?_, ?_, ?_, ?_⟩, ?_⟩
   ·exact h.blk.touch ht (by
     rintro(e | e)
     ·exact h.blk.ne_ (h.file f hfm).blk (by decide) e
     ·exact Own.ne_blk (h.file f hfm).row h.blk (by decide) e)
   ·have:(updR n (fun f=>⟨f.n,f.raw++xs,f.kept,f.g,v'⟩) fs).map (fun f=>(f.n,f.g))=fs.map fun f=>(f.n,f.g):=by
     unfold updR
     rw[List.map_map]
     refine List.map_congr_left fun f' _=> ?_
     simp only[Function.comp]
     split<;>rfl
    rw[this]
    refine h.map.heap (ht.block _ h.map.lt ?_)
    rintro(e | e)
    ·exact h.map.ne_blk (h.file f hfm).blk e
    ·exact h.map.ne_own (h.file f hfm).row e
   ·exact h.flt.touch ht (by
     rintro k hk (e | e)
     ·exact h.flt.ne_blk (h.file f hfm).blk (by decide) (by rw[hk,e])
     ·exact Own.ne_own h.flt (h.file f hfm).row (by decide) k hk e)
   ·intro f' hf'
    obtain⟨f0,hf0,rfl⟩:=List.mem_map.1 hf'
    by_cases e0:f0.n=n
    ·rw[if_pos e0]
     have:f0=f:=uniq h.apart f0 hf0 f hfm (by rw[e0,hfn])
     subst this
     exact⟨hblk,hrow,by have:=(h.file f0 hfm).le;show f0.kept<=(f0.raw++xs).length;rw[List.length_append];omega,by show f0.raw++xs≠ [];simp[h0],(h.file f0 hfm).key⟩
    ·rw[if_neg e0]
     obtain⟨n1,n2⟩:=hne f0 hf0 e0
     refine(h.file f0 hf0).heap (ht.block _ (h.file f0 hf0).blk.lt ?_) fun k hk=>ht.block _ (Own.lt (h.file f0 hf0).row k hk) ?_
     ·rintro(e | e)
      ·exact n1 e
      ·exact Own.ne_blk (h.file f hfm).row (h.file f0 hf0).blk (by decide) e
     ·rintro(e | e)
      ·exact Own.ne_blk (h.file f0 hf0).row (h.file f hfm).blk (by decide) (by rw[hk,e])
      ·exact n2 (hk.trans e.symm)
   ·refine List.pairwise_map.2 (h.apart.imp_of_mem fun {a b} ha hb' ⟨q1,q2,q3⟩=> ?_)
    have hlt:∀x∈fs,x.v.ownBlock≠some w.heap.size:=fun x hx e=>Nat.lt_irrefl _ (Own.lt (h.file x hx).row _ e)
    by_cases ea:a.n=n
    ·have:a=f:=uniq h.apart a ha f hfm (by rw[ea,hfn])
     subst this
     rw[if_pos ea,if_neg (by omega)]
     refine⟨q1,q2, ?_⟩
     rcases hv' with e | e
     ·show v'.ownBlock≠ _;rw[e];exact q3
     ·show v'.ownBlock≠ _;rw[e];exact fun e=>hlt b hb' e.symm
    ·rw[if_neg ea]
     by_cases eb:b.n=n
     ·have:b=f:=uniq h.apart b hb' f hfm (by rw[eb,hfn])
      subst this
      rw[if_pos eb]
      refine⟨q1,q2, ?_⟩
      rcases hv' with e | e
      ·show _≠v'.ownBlock;rw[e];exact q3
      ·show _≠v'.ownBlock;rw[e];exact hlt a ha
     ·rw[if_neg eb]
      exact⟨q1,q2,q3⟩
   ·rintro k (e | e | e | ⟨f',hf',e⟩)
    ·exact .inl (.inl e)
    ·exact .inl (.inr (.inl e))
    ·exact .inl (.inr (.inr (.inl e)))
    ·obtain⟨f0,hf0,rfl⟩:=List.mem_map.1 hf'
     by_cases e0:f0.n=n
     ·rw[if_pos e0]at e
      have:f0=f:=uniq h.apart f0 hf0 f hfm (by rw[e0,hfn])
      subst this
      rcases e with e | e
      ·exact .inl (.inr (.inr (.inr ⟨f0,hf0, .inl e⟩)))
      ·have e:v'.ownBlock=some k:=e
       rcases hv' with e2 | e2
       ·exact .inl (.inr (.inr (.inr ⟨f0,hf0, .inr (e2.symm.trans e)⟩)))
       ·rw[e]at e2
        injection e2 with e2
        exact .inr (Nat.le_of_eq e2.symm)
     ·rw[if_neg e0]at e
      exact .inl (.inr (.inr (.inr ⟨f0,hf0,e⟩)))
  | none=>
   have hno:∀f∈fs,f.n≠n:=fun f hf'=>by have:=List.find?_eq_none.1 hf f hf';simpa using this
   have hfil:(fs.map fun f=>(f.n,f.g)).filter (fun p=>decide (p.1≠n))=fs.map fun f=>(f.n,f.g):=by
    refine List.filter_eq_self.2 fun p hp=> ?_
    obtain⟨f,hf',rfl⟩:=List.mem_map.1 hp
    simpa using hno f hf'
   refine(add_new w bd bm n _ _ A m c xs h.blk rfl h.map (entV_none hf) (by rw[List.length_map];exact hfl) hn hx (fun a ha=>by
    have hm0:0<m:=by have:=hx.1;have:=List.length_pos_iff.2 h0;omega
    exact⟨fun e=>(hxb a ha hm0).1 (.inr (.inl e)),(hxb a ha hm0).2⟩) h0 hb0).mono fun e w' ⟨he,w2,him,hg,ht,v',hblk,hrow,hv'⟩=> ?_
   rw[hfil]at him
   have hT2:Touch (fun k=>k=bm) w w2:=((Touch.refl _ w).alloc _).grown hg fun k hk=> .inr (by injection hk with hk;exact hk.symm)
   have hs2:w.heap.size<w2.heap.size:=by have:=hg.size;rw[alloc_size]at this;omega
   have hT:Touch (fun k=>k=bm) w w':=hT2.trans ht (by
    rintro k hk (e | e)
    ·omega
    ·cases e)
   have hvlt:∀k,v'.ownBlock=some k->w.heap.size<k:=fun k hk=>by
    rcases hv' with e | e
    ·rw[hk]at e;cases e
    ·rw[hk]at e;injection e with e;omega
   rw[List.nil_append]at hrow
   have hbm:∀f∈fs,FileAt w' f:=fun f hf'=>(h.file f hf').heap (hT.block _ (h.file f hf').blk.lt fun e=>h.map.ne_blk (h.file f hf').blk e.symm) fun k hk=>hT.block _ (Own.lt (h.file f hf').row k hk) fun e=>h.map.ne_own (h.file f hf').row (by rw[hk,e])
   refine⟨he,hT.mono fun k _ hk=> .inl hk,insR ⟨n,xs,0,w.heap.size,v'⟩ fs,⟨hadd.trans (ins_new hno), ?_, ?_, ?_, ?_, ?_⟩, ?_⟩
   ·exact h.blk.touch hT fun e=>h.map.ne_blk h.blk e.symm
   ·rw[<- insE_insR]
    exact him.heap (ht.block _ him.lt (by
     rintro(e | e)
     ·have:=h.map.lt;omega
     ·cases e))
   ·exact h.flt.touch hT fun k hk e=>h.map.ne_own h.flt (by rw[hk,e])
   ·intro f hf'
    rcases mem_insR.1 hf' with rfl | hf'
    ·exact⟨hblk,hrow,Nat.zero_le _,h0,hn⟩
    ·exact hbm f hf'
   ·refine pairwise_insR h.apart fun f hf'=>⟨hno f hf',fun e=> ?_,fun e=> ?_⟩
    ·have:=(h.file f hf').blk.lt
     have e:f.g=w.heap.size:=e
     omega
    ·have e:f.v.ownBlock=v'.ownBlock:=e
     obtain⟨b,c',hv,_⟩:=(h.file f hf').addr
     have hk:f.v.ownBlock=some b:=by rw[hv];rfl
     have h1:=Own.lt (h.file f hf').row b hk
     have h2:=hvlt b (e.symm.trans hk)
     omega
   ·rintro k (e | e | e | ⟨f',hf',e⟩)
    ·exact .inl (.inl e)
    ·exact .inl (.inr (.inl e))
    ·exact .inl (.inr (.inr (.inl e)))
    ·rcases mem_insR.1 hf' with rfl | hf'
     ·rcases e with e | e
      ·exact .inr (Nat.le_of_eq e.symm)
      ·have:=hvlt k e
       exact .inr (by omega)
     ·exact .inl (.inr (.inr (.inr ⟨f',hf',e⟩)))
theorem DK.upd{w w':World}{bd bm:Nat}{fv:Value}{fs:List FR}{d:Dk}(h:DK w bd bm fv fs d){n:Int}{f:FR}(hf:f∈fs)(hfn:f.n=n)(F:FR->FR)(ht:Touch (fun k=>k=f.g\/f.v.ownBlock=some k) w w')(hF:FileAt w' (F f))(h1:(F f).n=n)(h2:(F f).g=f.g)(h3:(F f).v.ownBlock=f.v.ownBlock):
  DK w' bd bm fv (updR n F fs) { d with fs:=(updR n F fs).map FR.fl }/\∀k,foot bd bm fv (updR n F fs) k->foot bd bm fv fs k:=by
 have hne:∀f'∈fs,f'.n≠n->f'.g≠f.g/\f'.v.ownBlock≠f.v.ownBlock:=fun f' hf' hn'=>apart_ne h.apart f' hf' f hf (by rw[hfn];exact hn')
 have hu:∀f'∈fs,f'.n=n->f'=f:=fun f' hf' e=>uniq h.apart f' hf' f hf (by rw[e,hfn])
 refine⟨⟨rfl, ?_, ?_, ?_, ?_, ?_⟩, ?_⟩
 ·exact h.blk.touch ht (by
   rintro(e | e)
   ·exact h.blk.ne_ (h.file f hf).blk (by decide) e
   ·exact Own.ne_blk (h.file f hf).row h.blk (by decide) e)
 ·have:(updR n F fs).map (fun f=>(f.n,f.g))=fs.map fun f=>(f.n,f.g):=by
   unfold updR
   rw[List.map_map]
   refine List.map_congr_left fun f' hf'=> ?_
   simp only[Function.comp]
   by_cases e:f'.n=n
   ·have:=hu f' hf' e
    subst this
    rw[if_pos e,h1,h2,hfn]
   ·rw[if_neg e]
  rw[this]
  refine h.map.heap (ht.block _ h.map.lt ?_)
  rintro(e | e)
  ·exact h.map.ne_blk (h.file f hf).blk e
  ·exact h.map.ne_own (h.file f hf).row e
 ·exact h.flt.touch ht (by
   rintro k hk (e | e)
   ·exact h.flt.ne_blk (h.file f hf).blk (by decide) (by rw[hk,e])
   ·exact Own.ne_own h.flt (h.file f hf).row (by decide) k hk e)
 ·intro f' hf'
  obtain⟨f0,hf0,rfl⟩:=List.mem_map.1 hf'
  by_cases e0:f0.n=n
  ·rw[if_pos e0,hu f0 hf0 e0]
   exact hF
  ·rw[if_neg e0]
   obtain⟨n1,n2⟩:=hne f0 hf0 e0
   refine(h.file f0 hf0).heap (ht.block _ (h.file f0 hf0).blk.lt ?_) fun k hk=>ht.block _ (Own.lt (h.file f0 hf0).row k hk) ?_
   ·rintro(e | e)
    ·exact n1 e
    ·exact Own.ne_blk (h.file f hf).row (h.file f0 hf0).blk (by decide) e
   ·rintro(e | e)
    ·exact Own.ne_blk (h.file f0 hf0).row (h.file f hf).blk (by decide) (by rw[hk,e])
    ·exact n2 (hk.trans e.symm)
 ·refine List.pairwise_map.2 (h.apart.imp_of_mem fun {a b} ha hb' ⟨q1,q2,q3⟩=> ?_)
  by_cases ea:a.n=n
  ·have:=hu a ha ea
   subst this
   rw[if_pos ea,if_neg (by omega),h1,h2,h3]
   exact⟨by omega,q2,q3⟩
  ·rw[if_neg ea]
   by_cases eb:b.n=n
   ·have:=hu b hb' eb
    subst this
    rw[if_pos eb,h1,h2,h3]
    exact⟨by omega,q2,q3⟩
   ·rw[if_neg eb]
    exact⟨q1,q2,q3⟩
 ·rintro k (e | e | e | ⟨f',hf',e⟩)
  ·exact .inl e
  ·exact .inr (.inl e)
  ·exact .inr (.inr (.inl e))
  ·obtain⟨f0,hf0,rfl⟩:=List.mem_map.1 hf'
   by_cases e0:f0.n=n
   ·rw[if_pos e0,hu f0 hf0 e0,h2,h3]at e
    exact .inr (.inr (.inr ⟨f,hf,e⟩))
   ·rw[if_neg e0]at e
    exact .inr (.inr (.inr ⟨f0,hf0,e⟩))
def StepEnd(w:World)(bd bm:Nat)(fv:Value)(fs:List FR)(d':Dk)(r:Ending)(e:Ending)(w':World):Prop:=
 e=r/\Touch (foot bd bm fv fs) w w'/\∃fv' fs',DK w' bd bm fv' fs' d'/\∀k,foot bd bm fv' fs' k->foot bd bm fv fs k\/w.heap.size<=k
theorem StepEnd.next{w w1 w2:World}{bd bm:Nat}{fv fv1:Value}{fs fs1:List FR}{d2:Dk}{r e:Ending}(ht:Touch (foot bd bm fv fs) w w1)(hs:∀k,foot bd bm fv1 fs1 k->foot bd bm fv fs k\/w.heap.size<=k)(h:StepEnd w1 bd bm fv1 fs1 d2 r e w2):StepEnd w bd bm fv fs d2 r e w2:=by
 obtain⟨he,h1,fv2,fs2,h2,h3⟩:=h
 refine⟨he,ht.trans h1 fun k hk hf=>(hs k hf).resolve_right (by omega),fv2,fs2,h2,fun k hk=> ?_⟩
 rcases h3 k hk with e | e
 ·exact hs k e
 ·exact .inr (Nat.le_trans ht.size e)
theorem why_cases(d:Dk)(n:Int):d.why n=0\/d.why n=1\/d.why n=3\/d.why n=4:=by
 unfold Dk.why
 cases d.dead<;>cases d.hit<;>by_cases h:n<0<;>simp[h]
theorem foot_begin{bd bm:Nat}{fv fv':Value}{fs:List FR}(h:fv'.ownBlock=fv.ownBlock):∀k,foot bd bm fv' fs k->foot bd bm fv fs k:=by
 intro k hk
 unfold foot at hk ⊢
 rwa [h]at hk
theorem append_any(w:World)(bd bm:Nat)(fv:Value)(fs:List FR)(d:Dk)(n:Int)(A:Option Addr)(m c:Nat)(xs:List UInt8)(h:DK w bd bm fv fs d)(hn:(Lit.int .i64 n).wf=true)(hx:Bs w A m c xs)(hxb:∀a,A=some a->0<m->¬foot bd bm fv fs a.block/\a.block<w.heap.size)
  (hb:∀f∈fs,f.raw.length+xs.length<=140737488355000) (hb0:xs.length<=140737488355000) (hfl:fs.length<maxLen) (ho:d.ops<=4611686018427387904) (hl:d.faults.length<=4611686018427387904):
  Calls Tryz.prog 140 #[.pointer (some ⟨bd,0,none⟩), .int .i64 n, .slice A m c] w (StepEnd w bd bm fv fs (d.append n xs) (.returned (.int .i64 (d.why n)))):=by
 have hmc:=hx.2.1
 have hcm:=hx.2.2.1
 unfold maxLen at hcm
 have hml:=hx.1
 have HB:=zh (begin_any w bd bm fv fs d n h ho hl)
 have HADD:=zh (fun w1 fv1 d1 k=>add_any w1 bd bm fv1 fs d1 n A k c (xs.take k))
 have HX:=zh hx;have HXB:=zh hxb;have HML:=zh hml;have HBB:=zh hb;have HFL:=zh hfl
 clear h hx hxb hml hb hfl
 have hd:d.append n xs=if d.why n=0 then { d.next with fs:=Fl.add n xs d.fs } else if d.why n=3/\d.kind=2/\0<=n then { d.next with fs:=Fl.add n (xs.take (xs.length / 2)) d.fs } else d.next:=rfl
 have HD:=zh hd
 clear hd
 go_enter Tryz.func140,Tryz.ntmps140
 go_wp2_with fail
 refine HB.out.mono ?_
 rintro e w1 ⟨he,ht1,fv1,hdk1,hown1⟩
 have hty:Touch (foot bd bm fv fs) w w1:=ht1.mono fun k _ hk=>hk.elim .inl fun e=> .inr (.inr (.inl e))
 have hx1:Bs w1 A m c xs:=HX.out.touch hty fun a ha h0 hf=>(HXB.out a ha h0).1 hf
 have hfoot:=foot_begin (bd:=bd) (bm:=bm) (fs:=fs) hown1
 have HDK:=zh hdk1;have HT1:=zh hty;have HX1:=zh hx1;have HF:=zh hfoot
 have hfin:∀(y:Int) (w2:World),y=d.why n->(∃fs',DK w2 bd bm fv1 fs' (d.append n xs)/\(∀k,foot bd bm fv1 fs' k->foot bd bm fv1 fs k\/w1.heap.size<=k)/\Touch (foot bd bm fv1 fs) w1 w2)->StepEnd w bd bm fv fs (d.append n xs) (.returned (.int .i64 (d.why n))) (.returned (.int .i64 y)) w2:=by
  rintro y w2 rfl ⟨fs',h1,h2,h3⟩
  exact StepEnd.next HT1.out (fun k hk=> .inl (HF.out k hk)) ⟨rfl,h3,fv1,fs',h1,h2⟩
 have FIN:=zh hfin
 clear ht1 hdk1 hown1 hty hx1 hfoot hfin HB
 have hsame:d.append n xs=d.next->∃fs',DK w1 bd bm fv1 fs' (d.append n xs)/\(∀k,foot bd bm fv1 fs' k->foot bd bm fv1 fs k\/w1.heap.size<=k)/\Touch (foot bd bm fv1 fs) w1 w1:=fun e=>⟨fs,by rw[e];exact HDK.out,fun _ h=> .inl h,Touch.refl _ _⟩
 have HS:=zh hsame
 clear hsame
 rcases why_cases d n with hw | hw | hw | hw
 ·rw[hw]at he
  subst he
  have HW:=zh hw
  clear hw
  go_wp2_with fail
  have hc:=HADD.out w1 fv1 d.next m HDK.out hn
  rw[List.take_of_length_le (by rw[HML.out];exact Nat.le_refl _)]at hc
  refine(hc HX1.out (fun a ha h0=>⟨fun hf=>(HXB.out a ha h0).1 (HF.out _ hf),Nat.lt_of_lt_of_le (HXB.out a ha h0).2 HT1.out.size⟩) HBB.out hb0 HFL.out).mono ?_
  rintro e w2 ⟨rfl,ht2,fs2,hdk2,hf2⟩
  have R:=zh (FIN.out 0 w2 HW.out.symm ⟨fs2,by rw[HD.out,if_pos HW.out];exact hdk2,hf2,ht2.mono fun k _ hk=>by
   rcases hk with e | e
   ·exact .inr (.inl e)
   ·exact .inr (.inr (.inr e))⟩)
  clear hc ht2 hdk2 hf2
  go_wp2_with fail
  go_ret
  exact R.out
 ·rw[hw]at he
  subst he
  have R:=zh (FIN.out 1 w1 hw.symm (HS.out (by rw[HD.out,hw];rfl)))
  clear hw
  go_wp2_with fail
  go_ret
  exact R.out
 ·rw[hw]at he
  by_cases hk:d.kind=2
  ·by_cases h0:0<=n
   ·rw[hk]at he
    subst he
    have HW:=zh (show d.why n=3/\d.kind=2/\0<=n from⟨hw,hk,h0⟩)
    clear hw hk
    go_wp2_with fail
    have hlt:(xs.take (m / 2)).length<=xs.length:=by rw[List.length_take];omega
    refine(HADD.out w1 fv1 d.next (m / 2) HDK.out hn (HX1.out.take (by omega)) (fun a ha h0=>⟨fun hf=>(HXB.out a ha (by omega)).1 (HF.out _ hf),Nat.lt_of_lt_of_le (HXB.out a ha (by omega)).2 HT1.out.size⟩) (fun f hf=>by have:=HBB.out f hf;omega) (by omega) HFL.out).mono ?_
    rintro e w2 ⟨rfl,ht2,fs2,hdk2,hf2⟩
    have R:=zh (FIN.out 3 w2 HW.out.1.symm ⟨fs2,by rw[HD.out,if_neg (by rw[HW.out.1];decide),if_pos HW.out,HML.out];exact hdk2,hf2,ht2.mono fun k _ hk=>by
     rcases hk with e | e
     ·exact .inr (.inl e)
     ·exact .inr (.inr (.inr e))⟩)
    clear ht2 hdk2 hf2 hlt
    go_wp2_with fail
    go_ret
    exact R.out
   ·rw[hk]at he
    subst he
    have hdn:decide (0<=n)=false:=by simpa using h0
    have R:=zh (FIN.out 3 w1 hw.symm (HS.out (by rw[HD.out,if_neg (by rw[hw];decide),if_neg (fun h=>h0 h.2.2)])))
    clear hw hk h0
    go_wp2_with fail
    go_ret
    exact R.out
  ·have R:=zh (FIN.out 3 w1 hw.symm (HS.out (by rw[HD.out,if_neg (by rw[hw];decide),if_neg (fun h=>hk h.2.1)])))
   have hkb:(d.kind == 2)=false:=by simpa using hk
   subst he
   clear hw hk
   go_wp2_with fail
   go_ret
   exact R.out
 ·rw[hw]at he
  subst he
  have R:=zh (FIN.out 4 w1 hw.symm (HS.out (by rw[HD.out,hw];rfl)))
  clear hw
  go_wp2_with fail
  go_ret
  exact R.out
theorem sync_any(w:World)(bd bm:Nat)(fv:Value)(fs:List FR)(d:Dk)(n:Int)(h:DK w bd bm fv fs d)(hn:(Lit.int .i64 n).wf=true)(ho:d.ops<=4611686018427387904)(hl:d.faults.length<=4611686018427387904):
  Calls Tryz.prog 141 #[.pointer (some ⟨bd,0,none⟩), .int .i64 n] w (StepEnd w bd bm fv fs (d.sync n) (.returned (.int .i64 (d.why n)))):=by
 have HB:=zh (begin_any w bd bm fv fs d n h ho hl)
 have hfls:=h.fls
 have HFLS:=zh hfls
 clear h hfls
 have hd:d.sync n=if d.why n=0 then { d.next with fs:=Fl.sync n d.fs } else d.next:=rfl
 have HD:=zh hd
 clear hd
 go_enter Tryz.func141,Tryz.ntmps141
 go_wp2_with fail
 refine HB.out.mono ?_
 rintro e w1 ⟨he,ht1,fv1,hdk1,hown1⟩
 have hty:Touch (foot bd bm fv fs) w w1:=ht1.mono fun k _ hk=>hk.elim .inl fun e=> .inr (.inr (.inl e))
 have hfoot:=foot_begin (bd:=bd) (bm:=bm) (fs:=fs) hown1
 have hc0:w1.cell? ⟨bd,0,none⟩=some (.map (some bm)):=hdk1.blk.cell 0
 have hlk:=hdk1.map.look hn
 have HDK:=zh hdk1;have HT1:=zh hty;have HF:=zh hfoot
 have hfin:∀(y:Int) (w2:World),y=d.why n->(∃fs',DK w2 bd bm fv1 fs' (d.sync n)/\(∀k,foot bd bm fv1 fs' k->foot bd bm fv1 fs k\/w1.heap.size<=k)/\Touch (foot bd bm fv1 fs) w1 w2)->StepEnd w bd bm fv fs (d.sync n) (.returned (.int .i64 (d.why n))) (.returned (.int .i64 y)) w2:=by
  rintro y w2 rfl ⟨fs',h1,h2,h3⟩
  exact StepEnd.next HT1.out (fun k hk=> .inl (HF.out k hk)) ⟨rfl,h3,fv1,fs',h1,h2⟩
 have FIN:=zh hfin
 have hsame:d.sync n=d.next->∃fs',DK w1 bd bm fv1 fs' (d.sync n)/\(∀k,foot bd bm fv1 fs' k->foot bd bm fv1 fs k\/w1.heap.size<=k)/\Touch (foot bd bm fv1 fs) w1 w1:=fun e=>⟨fs,by rw[e];exact HDK.out,fun _ h=> .inl h,Touch.refl _ _⟩
 have HS:=zh hsame
 clear ht1 hdk1 hown1 hty hfoot hfin HB hsame
 by_cases hw:d.why n=0
 ·cases hf:fs.find? (fun f=>decide (f.n=n)) with
  | none=>
   rw[entV_none hf]at hlk
   have hno:Fl.sync n d.fs=d.fs:=by
    rw[HFLS.out]
    unfold Fl.sync
    conv=>rhs;rw[<- List.map_id (fs.map FR.fl)]
    refine List.map_congr_left fun f hf'=> ?_
    obtain⟨f0,h0,rfl⟩:=List.mem_map.1 hf'
    have:=List.find?_eq_none.1 hf f0 h0
    rw[if_neg (show ¬(FR.fl f0).n=n from fun e=>by have e:f0.n=n:=e;simp[e]at this)]
    rfl
   rw[hw]at he
   subst he
   have R:=zh (FIN.out 0 w1 hw.symm (HS.out (by rw[HD.out,if_pos hw,hno];rfl)))
   clear hw hf hno
   go_wp2_with fail
   go_ret
   exact R.out
  | some f=>
   rw[entV_some hf]at hlk
   obtain⟨hfm,hfn⟩:=find_mem hf
   have hFA:=HDK.out.file f hfm
   obtain⟨b,cc,hv,hl1,hl2⟩:=hFA.addr
   have hc1:w1.cell? ⟨f.g,0,none⟩=some f.v:=hFA.blk.cell 0
   rw[hv]at hc1
   have hc2:w1.cell? ⟨f.g,1,none⟩=some (.int .i64 f.kept):=hFA.blk.cell 1
   have hq2:w1.frozen? ⟨f.g,1,none⟩=false:=hFA.blk.frozen 1
   have ht:Touch (fun k=>k=f.g\/f.v.ownBlock=some k) w1 (w1.setCell ⟨f.g,1,none⟩ (.int .i64 f.raw.length)):=(Touch.refl _ w1).setCell (p:=⟨f.g,1,none⟩) (.inr (.inl rfl)) _
   have hne:f.v.ownBlock≠some f.g:=Own.ne_blk hFA.row hFA.blk (by decide)
   obtain⟨q1,q2⟩:=HDK.out.upd hfm hfn (fun f=>⟨f.n,f.raw,f.raw.length,f.g,f.v⟩) ht ⟨hFA.blk.set_ 1 _,Own.far hFA.row (p:=⟨f.g,1,none⟩) hne _,Nat.le_refl _,hFA.some_,hFA.key⟩ hfn rfl rfl
   have hd2:d.sync n={ d.next with fs:=(updR n (fun f=>(⟨f.n,f.raw,f.raw.length,f.g,f.v⟩:FR)) fs).map FR.fl }:=by
    rw[HD.out,if_pos hw,HFLS.out]
    have:Fl.sync n (fs.map FR.fl)=(updR n (fun f=>(⟨f.n,f.raw,f.raw.length,f.g,f.v⟩:FR)) fs).map FR.fl:=by
     unfold Fl.sync updR
     rw[List.map_map,List.map_map]
     refine List.map_congr_left fun f0 _=> ?_
     simp only[Function.comp]
     by_cases e:f0.n=n
     ·rw[if_pos e,if_pos (show (FR.fl f0).n=n from e)]
      rfl
     ·rw[if_neg e,if_neg (show ¬(FR.fl f0).n=n from e)]
    rw[this]
   have R:=zh (FIN.out 0 (w1.setCell ⟨f.g,1,none⟩ (.int .i64 f.raw.length)) hw.symm ⟨_,by rw[hd2];exact q1,fun k hk=> .inl (q2 k hk),ht.mono fun k _ hk=> .inr (.inr (.inr ⟨f,hfm,hk⟩))⟩)
   rw[hw]at he
   subst he
   clear hw hf hfm hfn hFA hv ht hne q1 q2 hd2
   go_wp2_with fail
   go_ret
   exact R.out
 ·have R:=zh (FIN.out (d.why n) w1 rfl (HS.out (by rw[HD.out,if_neg hw])))
  have hwb:(d.why n == 0)=false:=by simpa using hw
  subst he
  clear hw
  go_wp2_with fail
  go_ret
  exact R.out
def LoseEnd(w:World)(f:FR)(cut:Int)(e:Ending)(w':World):Prop:=
 e= .returned (.int .i64 (f.fl.lose cut).kept)/\Touch (fun k=>k=f.g\/f.v.ownBlock=some k) w w'/\∃v',Blk w' f.g 151 #[v', .int .i64 (f.fl.lose cut).kept]/\Raw w' v' (f.fl.lose cut).raw/\v'.ownBlock=f.v.ownBlock
theorem lose_fin(w:World)(f:FR)(cut:Int)(h:FileAt w f)(nq:Nat)(b c:Nat)(hv:f.v= .slice (some ⟨b,0,none⟩) f.raw.length c)(k M:Nat)(hk:k=f.fl.ways cut)(hM:M=f.kept+(k+1) / 2)(hML:M<=f.raw.length)(hc:f.raw.length<=c)
  (w':World) (hw:w'=(((w.drewN nq).setCell ⟨f.g,1,none⟩ (.int .i64 M)).setCell ⟨f.g,0,none⟩ (.slice (some ⟨b,0,none⟩) M M)).drew):
  ((¬(k % 2=0/\0<k))->LoseEnd w f cut (.returned (.int .i64 M)) w')/\
  ((k % 2=0/\0<k)->∀nr,LoseEnd w f cut (.returned (.int .i64 M)) ((w'.setCell ⟨b,M-1,none⟩ (.int .u8 ((255-f.raw.getD (M-1) 0).toNat:Int))).drewN nr)):=by
 have hkept:(f.fl.lose cut).kept=M:=by rw[hM,hk];rfl
 have hraw:(f.fl.lose cut).raw=if k % 2=0/\0<k then (f.raw.take M).set (M-1) (255-f.raw.getD (M-1) 0) else f.raw.take M:=by rw[hM,hk];rfl
 have hbg:b≠f.g:=fun e=>Own.ne_blk h.row h.blk (by decide) (by rw[hv,e];rfl)
 have hrow:=h.row
 unfold Raw at hrow
 rw[hv]at hrow
 have hO:Own w' 5 1 (.slice (some ⟨b,0,none⟩) M M) M ((u8s f.raw).take (M*1)):=by
  rw[hw]
  exact Own.far (Own.far (hrow.cut hML (Nat.le_refl M) (by omega)) (p:=⟨f.g,1,none⟩) (fun e=>hbg (by injection e)) _) (p:=⟨f.g,0,none⟩) (fun e=>hbg (by injection e)) _
 have hB:Blk w' f.g 151 #[.slice (some ⟨b,0,none⟩) M M, .int .i64 M]:=by
  rw[hw]
  exact(((h.blk.drewN nq).set_ 1 _).set_ 0 _).drew
 have hT:Touch (fun k=>k=f.g\/f.v.ownBlock=some k) w w':=by
  rw[hw]
  exact((((Touch.refl (fun k=>k=f.g\/f.v.ownBlock=some k) w).drewN nq).setCell (p:=⟨f.g,1,none⟩) (.inr (.inl rfl)) _).setCell (p:=⟨f.g,0,none⟩) (.inr (.inl rfl)) _).drew
 have htl:(f.raw.take M).length=M:=by rw[List.length_take];omega
 have hu8:(u8s f.raw).take (M*1)=u8s (f.raw.take M):=by rw[Nat.mul_one];exact(List.map_take).symm
 rw[hu8]at hO
 refine⟨fun hn=>⟨by rw[hkept],hT,_,by rw[hkept];exact hB, ?_,by rw[hv];rfl⟩,fun hy nr=>⟨by rw[hkept],(hT.setCell (p:=⟨b,M-1,none⟩) (.inr (.inr (by rw[hv];rfl))) _).drewN nr,_,by rw[hkept];exact(hB.far (p:=⟨b,M-1,none⟩) (fun e=>hbg e.symm) _).drewN nr, ?_,by rw[hv];rfl⟩⟩
 ·rw[hraw,if_neg hn]
  unfold Raw
  rw[htl]
  exact hO
 ·rw[hraw,if_pos hy]
  unfold Raw
  rw[List.length_set,htl,show u8s ((f.raw.take M).set (M-1) (255-f.raw.getD (M-1) 0))=(u8s (f.raw.take M)).set (M-1) (.int .u8 ((255-f.raw.getD (M-1) 0).toNat:Int)) from List.map_set]
  exact(hO.stored (M-1) _).drewN nr
theorem lose_any(w:World)(f:FR)(cut:Int)(h:FileAt w f)(hb:f.raw.length<=140737488355328)(_hc1: -9223372036854775808<=cut)(_hc2:cut<=9223372036854775807):
  Calls Tryz.prog 49 #[.pointer (some ⟨f.g,0,none⟩), .int .i64 cut] w (LoseEnd w f cut):=by
 obtain⟨b,c,hv,hl1,hl2⟩:=h.addr
 have hrow:=h.row
 unfold Raw at hrow
 rw[hv]at hrow
 have HROW:=zh hrow
 have hle:=h.le
 have hwy:((f.fl.ways cut:Nat):Int)=cut % (2*((f.raw.length:Int)-f.kept)+1):=by
  unfold Fl.ways
  exact Int.toNat_of_nonneg (Int.emod_nonneg _ (by show 2*((f.raw.length:Int)-f.kept)+1≠0;omega))
 have hlt:cut % (2*((f.raw.length:Int)-f.kept)+1)<2*((f.raw.length:Int)-f.kept)+1:=Int.emod_lt_of_pos _ (by omega)
 obtain⟨k,hk⟩:∃k,k=f.fl.ways cut:=⟨_,rfl⟩
 obtain⟨M,hM⟩:∃M,M=f.kept+(k+1) / 2:=⟨_,rfl⟩
 rw[<- hk]at hwy
 have hML:M<=f.raw.length:=by omega
 have HFIN:=zh (fun nq=>lose_fin w f cut h nq b c hv k M hk hM hML hl1)
 have k0:w.cell? ⟨f.g,0,none⟩=some f.v:=h.blk.cell 0
 have k1:w.cell? ⟨f.g,1,none⟩=some (.int .i64 f.kept):=h.blk.cell 1
 have q0:=h.blk.frozen 0
 have q1:=h.blk.frozen 1
 have hbg:b≠f.g:=fun e=>Own.ne_blk h.row h.blk (by decide) (by rw[hv,e];rfl)
 rw[hv]at k0
 unfold maxLen at hl2
 have hMI:(f.kept:Int)+((k:Int)+1) / 2=(M:Int):=by omega
 have hkL:(k:Int)<=2*140737488355328:=by omega
 have htm:cut.tmod (2*((f.raw.length:Int)-f.kept)+1)=if 0<=cut\/cut % (2*((f.raw.length:Int)-f.kept)+1)=0 then (k:Int) else (k:Int)-(2*((f.raw.length:Int)-f.kept)+1):=by
  rw[Int.tmod_eq_emod]
  by_cases h0:0<=cut\/cut % (2*((f.raw.length:Int)-f.kept)+1)=0
  ·rw[if_pos h0,if_pos (h0.imp id Int.dvd_of_emod_eq_zero)]
   omega
  ·rw[if_neg h0,if_neg (fun h=>h0 (h.imp id Int.emod_eq_zero_of_dvd))]
   omega
 have HBLK:=zh h.blk
 have HV:=zh hv;have HM:=zh hM;have HWY:=zh hwy
 clear h hk hM hv hrow hwy
 by_cases h0:0<=cut\/cut % (2*((f.raw.length:Int)-f.kept)+1)=0
 ·rw[if_pos h0]at htm
  clear h0 hlt
  go_enter Tryz.func49,Tryz.ntmps49
  go_wp2_with fail
  go_quiet (fail)
  go_wp2_with fail
  go_region
  obtain⟨W1,hW1⟩:∃W1,W1=(((w.drewN nq).setCell ⟨f.g,1,none⟩ (.int .i64 M)).setCell ⟨f.g,0,none⟩ (.slice (some ⟨b,0,none⟩) M M)).drew:=⟨_,rfl⟩
  rw[<- hW1]
  have hfin:=HFIN.out nq W1 hW1
  have HF:=zh hfin
  have z0:W1.cell? ⟨f.g,0,none⟩=some (.slice (some ⟨b,0,none⟩) M M):=by rw[hW1];exact((HBLK.out.drewN nq).set_ 1 _ |>.set_ 0 _ |>.drew).cell 0
  have z1:W1.cell? ⟨f.g,1,none⟩=some (.int .i64 M):=by rw[hW1];exact((HBLK.out.drewN nq).set_ 1 _ |>.set_ 0 _ |>.drew).cell 1
  have hO1:Own W1 5 1 (.slice (some ⟨b,0,none⟩) M M) M ((u8s f.raw).take (M*1)):=by
   rw[hW1]
   exact Own.far (Own.far (HROW.out.cut hML (Nat.le_refl M) (by omega)) (p:=⟨f.g,1,none⟩) (fun e=>hbg (by injection e)) _) (p:=⟨f.g,0,none⟩) (fun e=>hbg (by injection e)) _
  have HO1:=zh hO1
  have Z1:=zh (fun (v:Value) (j:Nat)=>(show Blk ((W1.setCell ⟨b,j,none⟩ v).drew) f.g 151 #[.slice (some ⟨b,0,none⟩) M M, .int .i64 M] from(by rw[hW1];exact((HBLK.out.drewN nq).set_ 1 _ |>.set_ 0 _ |>.drew |>.far (p:=⟨b,j,none⟩) (fun e=>hbg e.symm) v).drew)).cell 1)
  clear hfin hW1 k0 k1 htm HFIN q0 q1 hO1
  by_cases hp:k % 2=0
  ·have hp1:((k:Int) % 2 == 0)=true:=by simp;omega
   by_cases hz:0<k
   ·obtain⟨M1,hM1⟩:∃M1,M=M1+1:=⟨M-1,by have:=HM.out;omega⟩
    subst hM1
    have hx:=HO1.out.cell (j:=M1) (by omega)
    have hxf:=HO1.out.frozen M1
    rw[List.getElem?_take,if_pos (by omega),u8s_get,List.getElem?_eq_getElem (by omega)]at hx
    simp only[Option.map_some]at hx
    obtain⟨x,hxx⟩:∃x,x=f.raw[M1]'(by omega):=⟨_,rfl⟩
    rw[<- hxx]at hx
    have hxd:f.raw.getD M1 0=x:=by rw[hxx];simp[List.getD_eq_getElem?_getD,List.getElem?_eq_getElem (show M1<f.raw.length by omega)]
    have hx8:=x.toNat_lt
    have hsb:((255-x:UInt8).toNat:Int)=255-(x.toNat:Int):=by
     rw[UInt8.toNat_sub_of_le _ _ (by rw[UInt8.le_iff_toNat_le];show x.toNat<=255;omega)]
     show ((255-x.toNat:Nat):Int)= _
     omega
    have HXD:=zh hxd;have HSB:=zh hsb
    clear hxx hxd hsb
    have hzI:(0:Int)<(k:Int):=by omega
    go_wp2_with fail
    go_region
    have z1d:(W1.setCell ⟨b,M1,none⟩ (.int .u8 (255-(x.toNat:Int)))).drew.cell? ⟨f.g,1,none⟩=some (.int .i64 ((M1+1:Nat):Int)):=Z1.out (.int .u8 (255-(x.toNat:Int))) M1
    clear z0 z1 hx hxf
    go_wp2_with fail
    go_ret
    have:=HF.out.2 ⟨hp,hz⟩ 1
    rw[show M1+1-1=M1 from rfl,HXD.out,HSB.out]at this
    exact this
   ·have hz1:decide ((0:Int)<k)=false:=by simp;omega
    go_wp2_with fail
    go_ret
    exact HF.out.1 (by omega)
  ·have hp1:((k:Int) % 2 == 0)=false:=by simp;omega
   go_wp2_with fail
   go_ret
   exact HF.out.1 (by omega)
 ·rw[if_neg h0]at htm
  have hkw:(k:Int)<2*((f.raw.length:Int)-f.kept)+1:=by rw[HWY.out];exact hlt
  clear h0 hlt
  go_enter Tryz.func49,Tryz.ntmps49
  go_wp2_with fail
  go_quiet (fail)
  go_wp2_with fail
  go_region
  obtain⟨W1,hW1⟩:∃W1,W1=(((w.drewN nq).setCell ⟨f.g,1,none⟩ (.int .i64 M)).setCell ⟨f.g,0,none⟩ (.slice (some ⟨b,0,none⟩) M M)).drew:=⟨_,rfl⟩
  rw[<- hW1]
  have hfin:=HFIN.out nq W1 hW1
  have HF:=zh hfin
  have z0:W1.cell? ⟨f.g,0,none⟩=some (.slice (some ⟨b,0,none⟩) M M):=by rw[hW1];exact((HBLK.out.drewN nq).set_ 1 _ |>.set_ 0 _ |>.drew).cell 0
  have z1:W1.cell? ⟨f.g,1,none⟩=some (.int .i64 M):=by rw[hW1];exact((HBLK.out.drewN nq).set_ 1 _ |>.set_ 0 _ |>.drew).cell 1
  have hO1:Own W1 5 1 (.slice (some ⟨b,0,none⟩) M M) M ((u8s f.raw).take (M*1)):=by
   rw[hW1]
   exact Own.far (Own.far (HROW.out.cut hML (Nat.le_refl M) (by omega)) (p:=⟨f.g,1,none⟩) (fun e=>hbg (by injection e)) _) (p:=⟨f.g,0,none⟩) (fun e=>hbg (by injection e)) _
  have HO1:=zh hO1
  have Z1:=zh (fun (v:Value) (j:Nat)=>(show Blk ((W1.setCell ⟨b,j,none⟩ v).drew) f.g 151 #[.slice (some ⟨b,0,none⟩) M M, .int .i64 M] from(by rw[hW1];exact((HBLK.out.drewN nq).set_ 1 _ |>.set_ 0 _ |>.drew |>.far (p:=⟨b,j,none⟩) (fun e=>hbg e.symm) v).drew)).cell 1)
  clear hfin hW1 k0 k1 htm HFIN q0 q1 hO1
  by_cases hp:k % 2=0
  ·have hp1:((k:Int) % 2 == 0)=true:=by simp;omega
   by_cases hz:0<k
   ·obtain⟨M1,hM1⟩:∃M1,M=M1+1:=⟨M-1,by have:=HM.out;omega⟩
    subst hM1
    have hx:=HO1.out.cell (j:=M1) (by omega)
    have hxf:=HO1.out.frozen M1
    rw[List.getElem?_take,if_pos (by omega),u8s_get,List.getElem?_eq_getElem (by omega)]at hx
    simp only[Option.map_some]at hx
    obtain⟨x,hxx⟩:∃x,x=f.raw[M1]'(by omega):=⟨_,rfl⟩
    rw[<- hxx]at hx
    have hxd:f.raw.getD M1 0=x:=by rw[hxx];simp[List.getD_eq_getElem?_getD,List.getElem?_eq_getElem (show M1<f.raw.length by omega)]
    have hx8:=x.toNat_lt
    have hsb:((255-x:UInt8).toNat:Int)=255-(x.toNat:Int):=by
     rw[UInt8.toNat_sub_of_le _ _ (by rw[UInt8.le_iff_toNat_le];show x.toNat<=255;omega)]
     show ((255-x.toNat:Nat):Int)= _
     omega
    have HXD:=zh hxd;have HSB:=zh hsb
    clear hxx hxd hsb
    have hzI:(0:Int)<(k:Int):=by omega
    go_wp2_with fail
    go_region
    have z1d:(W1.setCell ⟨b,M1,none⟩ (.int .u8 (255-(x.toNat:Int)))).drew.cell? ⟨f.g,1,none⟩=some (.int .i64 ((M1+1:Nat):Int)):=Z1.out (.int .u8 (255-(x.toNat:Int))) M1
    clear z0 z1 hx hxf
    go_wp2_with fail
    go_ret
    have:=HF.out.2 ⟨hp,hz⟩ 1
    rw[show M1+1-1=M1 from rfl,HXD.out,HSB.out]at this
    exact this
   ·have hz1:decide ((0:Int)<k)=false:=by simp;omega
    go_wp2_with fail
    go_ret
    exact HF.out.1 (by omega)
  ·have hp1:((k:Int) % 2 == 0)=false:=by simp;omega
   go_wp2_with fail
   go_ret
   exact HF.out.1 (by omega)
end Go.Proofs.YtjehlgblkfofpaaGreat