/- The claims' texts, several in one: Files, Crash2, Calls, Dsk. Conditions stand with each theorem. -/
import Derived.Test.YtjehlgblkfofpaaGreatZa04
import Derived.Test.YtjehlgblkfofpaaGreatZa05
import Derived.WalkMore
import Derived.ScopeJumps
import Derived.Lib.SlBytesConst
import Derived.Deep.RegionWith
set_option maxHeartbeats 8000000
set_option maxRecDepth 100000
namespace Go.Proofs.YtjehlgblkfofpaaGreat
open Go.RowKit Go.Maps Go.Sort Go.Shelf
theorem Tryz.sortsA(m:Nat):AnyZI.SortsIn Tryz.prog Tryz.sortedA_ren Fence.wide m:=
 ⟨fun blk off cap ss W hH hblk hsz=>callsIn_wide.2 (AnyM.slices_Sort_int Tryz.sortA blk off cap ss W hH hblk hsz),
 fun p cap W=>callsIn_wide.2 (AnyM.slices_Sort_int_none Tryz.sortA p cap W)⟩
theorem intKeys_ents(es:List (Int×Nat)):intKeys (DataW.map (ents es))=es.map (·.1):=by
 show (ents es).map (fun p=>Go.intOf p.1)= _
 unfold ents
 rw[List.map_map]
 rfl
theorem size_ents(es:List (Int×Nat)):Maps.size (DataW.map (ents es))=es.length:=by
 unfold ents
 rw[Maps.size_eq,List.length_map]
theorem sort_rising{ss l:List Int}(h:ss.Perm l)(hl:l.Pairwise (·<·)):ss.mergeSort (fun x y=>decide (x<=y))=l:=by
 have tr:∀a b c:Int,leI a b=true->leI b c=true->leI a c=true:=fun a b c h1 h2=>by simp only[leI,decide_eq_true_eq] at*;exact Int.le_trans h1 h2
 have to:∀a b:Int,(leI a b || leI b a)=true:=fun a b=>by simp only[leI,Bool.or_eq_true,decide_eq_true_eq];exact Int.le_total a b
 refine List.Perm.eq_of_pairwise (le:=fun a b=>leI a b=true) (fun a b _ _ h1 h2=> ?_) (List.pairwise_mergeSort tr to ss) (hl.imp fun {a b} h=>by simp only[leI,decide_eq_true_eq];exact Int.le_of_lt h) ((List.mergeSort_perm ss leI).trans h)
 simp only[leI,decide_eq_true_eq]at h1 h2
 exact Int.le_antisymm h1 h2
theorem files_any(w:World)(bd bm:Nat)(fv:Value)(fs:List FR)(d:Dk)(h:DK w bd bm fv fs d)(hn:fs.length<=1000000000000):
  Calls Tryz.prog 48 #[.pointer (some ⟨bd,0,none⟩)] w fun e w'=>∃v,e= .returned v/\w'.ownsRow w.heap.size 3 1 v fs.length ((fs.map FR.n).map (Value.int .i64))/\Fresh w w':=by
 refine(callsIn_wide (n:=6)).1 ?_
 have hown:=h.map
 have hbl:=hown.lt
 have hsz:Maps.size (DataW.map (ents (fs.map fun f=>(f.n,f.g))):DataW Unit)=fs.length:=by rw[size_ents,List.length_map]
 have hky:intKeys (DataW.map (ents (fs.map fun f=>(f.n,f.g))):DataW Unit)=fs.map FR.n:=by rw[intKeys_ents,List.map_map];rfl
 have hseq:SeqGives Fence.wide 2 Tryz.prog 119 #[.pointer (some ⟨w.heap.size,0,none⟩)] encZ (fun ss=>ss.Perm (intKeys (DataW.map (ents (fs.map fun f=>(f.n,f.g))):DataW Unit))) (Maps.size (DataW.map (ents (fs.map fun f=>(f.n,f.g))):DataW Unit)) (w.alloc (.cells #[.map (some bm)] 85)):=
  AnyZI.keys_gives (ρ:=Tryz.keysA_ren) { Tryz.keysA with } Fence.wide _ trivial rfl (by omega) w.heap.size bm _ _ _ (by simp) (by simp) (by
   obtain⟨es,clock,hb,Ft,hs,hD⟩:=hown
   exact⟨es,clock,(Below.heap_alloc _ _ bm hbl).trans hb,Ft,hs,hD⟩)
 rw[hky,hsz]at hseq
 have cK:∀mb W,CallsIn Fence.wide 5 Tryz.prog 82 #[.map mb] W fun e w'=>e= .returned (.func (.func 119) #[] #[.pointer (some ⟨W.heap.size,0,none⟩)])/\w'=W.alloc (.cells #[.map mb] 85):=fun mb W=>AnyZI.keys_in Tryz.keysA Fence.wide 5 trivial rfl mb W
 have cS:=AnyZI.sorted_in Tryz.sortedA Fence.wide 5 trivial trivial trivial trivial rfl (by omega) (Tryz.sortsA _) (enters_of Tryz.func118 (by kernel_rfl) rfl) 119 #[.pointer (some ⟨w.heap.size,0,none⟩)] trivial (enters_of Tryz.func119 (by kernel_rfl) rfl) _ _ (by unfold maxLen;omega) (by omega) _ hseq
 change CallsIn _ _ Tryz.prog 81 _ _ _ at cS
 have hfK:Fence.wide.fn 82:=trivial
 have hfS:Fence.wide.fn 81:=trivial
 have hc:w.cell? ⟨bd,0,none⟩=some (.map (some bm)):=h.blk.cell 0
 have HAP:=zh (show (fs.map FR.n).Pairwise (·<·) from List.pairwise_map.2 (h.apart.imp fun h=>h.1))
 clear h hown
 refine callsIn_of_wp Tryz.func48 rfl trivial ?_ rfl
 simp only[Tryz.ntmps48,List.size_toArray,List.length_cons,List.length_nil,Nat.reduceAdd,Nat.reduceSub,Array.replicate_succ,Array.replicate_zero,List.push_toArray,List.append_toArray,List.nil_append,List.cons_append]
 gi_wp2_with (first
  | (gi_at_call 82;refine(cK _ _).mono ?_;rintro e w' ⟨rfl,rfl⟩)
  | (gi_at_call 81;refine cS.mono ?_;rintro e w' ⟨v,ss,rfl,hS,hrow,hnil,hb⟩))
 go_ret
 have hlen:ss.length=fs.length:=by rw[hS.length_eq,List.length_map]
 rw[sort_rising hS HAP.out,hlen]at hrow
 exact⟨v,rfl,ownsRow_base_a hrow (by simp),Touch.ofBelow (((Below.refl _ w).alloc (Nat.le_refl _) _).trans (hb.mono (by simp))) _⟩
end Go.Proofs.YtjehlgblkfofpaaGreat
namespace Go.Proofs.YtjehlgblkfofpaaGreat
open Go.RowKit Go.MapKept Go.ChangeMaps
def IsInts(w:World)(A:Option Addr)(n c:Nat)(xs:List Int):Prop:=
 xs.length=n/\n<=c/\c<=maxLen/\(0<n->∃b o,A=some ⟨b,o,none⟩/\∀j x,xs[j]? =some x->w.cell? ⟨b,o+j,none⟩=some (.int .i64 x))
theorem IsInts.touch{w w':World}{A:Option Addr}{n c:Nat}{xs:List Int}{S:Nat->Prop}(h:IsInts w A n c xs)(ht:Touch S w w')(hn:∀a,A=some a->0<n->¬S a.block):IsInts w' A n c xs:=
 ⟨h.1,h.2.1,h.2.2.1,fun h0=>by
  obtain⟨b,o,e,hc⟩:=h.2.2.2 h0
  exact⟨b,o,e,fun j x hx=>ht.cell (hc j x hx) (hn ⟨b,o,none⟩ e h0)⟩⟩
theorem IsInts.nil_{w:World}(A:Option Addr):IsInts w A 0 0 []:=⟨rfl,Nat.le_refl _,by simp[maxLen],fun h=>by omega⟩
theorem IsInts.cons{w:World}{A:Option Addr}{n c:Nat}{x:Int}{xs:List Int}(h:IsInts w A n c (x :: xs)):∃b o,A=some ⟨b,o,none⟩/\w.cell? ⟨b,o,none⟩=some (.int .i64 x)/\n=xs.length+1/\IsInts w (some ⟨b,o+1,none⟩) xs.length (c-1) xs:=by
 have hl:=h.1
 simp only[List.length_cons]at hl
 obtain⟨b,o,e,hc⟩:=h.2.2.2 (by omega)
 refine⟨b,o,e,hc 0 x rfl,hl.symm,rfl,by have:=h.2.1;omega,by have:=h.2.2.1;omega,fun _=>⟨b,o+1,rfl,fun j y hy=> ?_⟩⟩
 have:=hc (j+1) y (by simpa using hy)
 rwa [show o+(j+1)=o+1+j by omega]at this
theorem wp_scope_head{P:Program}{Q:Exit->Act->World->Prop}{a:Act}{w:World}{c0 R:Code}(l:Nat)(J:Act->World->Prop)(μ:Act->World->Nat)(hc:findLabel c0 l=none)(first:c0.wp P (Exit.then J (Exit.jump l J Q)) a w)
  (pass:∀a w,J a w->R.wp P (Exit.jump l (fun a' w'=>J a' w'/\μ a' w'<μ a w) Q) a w):(Code.scope (c0.seq ((Code.label l).seq R))).wp P Q a w:=by
 refine wp_scope_jumps l J μ (rest:=Code.skip.seq R) (by simp[findLabel,hc]) (wp_seq (Code.wp_mono (fun e a' w' q=> ?_) first)) (fun a w h=>wp_seq (wp_skip (pass a w h)))
 cases e with
 | normal=>
  refine wp_seq (wp_label (Code.wp_mono (fun e a2 w2 q2=> ?_) (pass a' w' q)))
  cases e with
  | goto l'=>exact⟨q2.1,q2.2.1⟩
  | _=>exact q2
 | _=>exact q
theorem mapTurned_touch{w w':World}{b:Nat}(h:w.mapTurned w' b):Touch (fun k=>k=b) w w':=by
 obtain⟨es,clock,es',clock',hb,rfl⟩:=h
 exact⟨rfl,rfl,rfl,by simp[setBlock],fun i _ hi=>heap_setBlock_other hb _ hi⟩
theorem IMap.del_all{w:World}{b:Nat}{es:List (Int×Nat)}(h:IMap w b es){n:Int}(hn:(Lit.int .i64 n).wf=true):
  ∃w',(∀ty,(Builtin.delete_ #[85,3] ty #[.map (some b), .int .i64 n]).run Tryz.prog w= .ok (.tuple #[]) w')/\IMap w' b (es.filter fun p=>decide (p.1≠n))/\Touch (fun k=>k=b) w w':=by
 obtain⟨w',hrun,h1,h2⟩:=h.del hn 0
 exact⟨w',fun ty=>hrun,h1,mapTurned_touch h2⟩
theorem updR_mid{done r:List FR}{f:FR}(F:FR->FR)(h:(done++f :: r).Pairwise fun a b=>a.n<b.n/\a.g≠b.g/\a.v.ownBlock≠b.v.ownBlock):updR f.n F (done++f :: r)=done++F f :: r:=by
 obtain⟨h1,h2,h3⟩:=List.pairwise_append.1 h
 obtain⟨h4,h5⟩:=List.pairwise_cons.1 h2
 unfold updR
 rw[List.map_append,List.map_cons,if_pos rfl]
 congr 1
 ·conv=>rhs;rw[<- List.map_id done]
  refine List.map_congr_left fun x hx=> ?_
  rw[if_neg (by have:=(h3 x hx f (by simp)).1;omega)]
  rfl
 ·congr 1
  conv=>rhs;rw[<- List.map_id r]
  refine List.map_congr_left fun x hx=> ?_
  rw[if_neg (by have:=(h4 x hx).1;omega)]
  rfl
theorem DK.lost{w w':World}{bd bm:Nat}{fv:Value}{done r:List FR}{f:FR}{d:Dk}{cut:Int}{e:Ending}(h:DK w bd bm fv (done++f :: r) d)(he:LoseEnd w f cut e w')(hk:(f.fl.lose cut).kept≠0):
  ∃f':FR,f'.fl=f.fl.lose cut/\DK w' bd bm fv (done++f' :: r) { d with fs:=(done++f' :: r).map FR.fl }/\∀k,foot bd bm fv (done++f' :: r) k->foot bd bm fv (done++f :: r) k:=by
 obtain⟨_,ht,v',hb,hr,hv⟩:=he
 have hf:f∈done++f :: r:=by simp
 have hle:(f.fl.lose cut).kept<=f.raw.length:=by
  show f.kept+(f.fl.ways cut+1) / 2<= _
  have hle:=(h.file f hf).le
  have:((f.fl.ways cut:Nat):Int)=cut % (2*((f.raw.length:Int)-f.kept)+1):=by
   unfold Fl.ways
   exact Int.toNat_of_nonneg (Int.emod_nonneg _ (by show 2*((f.raw.length:Int)-f.kept)+1≠0;omega))
  have hlt:cut % (2*((f.raw.length:Int)-f.kept)+1)<2*((f.raw.length:Int)-f.kept)+1:=Int.emod_lt_of_pos _ (by omega)
  omega
 have hrl:(f.fl.lose cut).raw.length=(f.fl.lose cut).kept:=by
  have htl:(f.raw.take (f.kept+(f.fl.ways cut+1) / 2)).length=f.kept+(f.fl.ways cut+1) / 2:=by
   rw[List.length_take]
   have:f.kept+(f.fl.ways cut+1) / 2<=f.raw.length:=hle
   omega
  show (if _ then (f.raw.take (f.kept+(f.fl.ways cut+1) / 2)).set _ _ else f.raw.take (f.kept+(f.fl.ways cut+1) / 2)).length=f.kept+(f.fl.ways cut+1) / 2
  split
  ·rw[List.length_set,htl]
  ·exact htl
 obtain⟨q1,q2⟩:=h.upd (n:=f.n) hf rfl (fun _=>⟨f.n,(f.fl.lose cut).raw,(f.fl.lose cut).kept,f.g,v'⟩) ht ⟨hb,hr,Nat.le_of_eq hrl.symm,fun e=>hk (by rw[<- hrl];exact congrArg List.length e),(h.file f hf).key⟩ rfl rfl hv
 rw[updR_mid _ h.apart]at q1 q2
 exact⟨⟨f.n,(f.fl.lose cut).raw,(f.fl.lose cut).kept,f.g,v'⟩,rfl,q1,q2⟩
theorem DK.gone{w w' w2:World}{bd bm:Nat}{fv:Value}{done r:List FR}{f:FR}{d:Dk}(h:DK w bd bm fv (done++f :: r) d)(ht:Touch (fun k=>k=f.g\/f.v.ownBlock=some k) w w')(hm:IMap w2 bm (((done++f :: r).map fun f=>(f.n,f.g)).filter fun p=>decide (p.1≠f.n)))(ht2:Touch (fun k=>k=bm) w' w2):
  DK w2 bd bm fv (done++r) { d with fs:=(done++r).map FR.fl }/\∀k,foot bd bm fv (done++r) k->foot bd bm fv (done++f :: r) k:=by
 obtain⟨h1,h2,h3⟩:=List.pairwise_append.1 h.apart
 obtain⟨h4,h5⟩:=List.pairwise_cons.1 h2
 have hf:f∈done++f :: r:=by simp
 have hsub:∀x∈done++r,x∈done++f :: r/\x.n≠f.n:=by
  intro x hx
  rcases List.mem_append.1 hx with hx | hx
  ·exact⟨by simp[hx],by have:=(h3 x hx f (by simp)).1;omega⟩
  ·exact⟨by simp[hx],by have:=(h4 x hx).1;omega⟩
 have hT:Touch (fun k=>k=bm\/k=f.g\/f.v.ownBlock=some k) w w2:=(ht.mono fun _ _ h=> .inr h).trans ht2 fun _ _ h=> .inl h
 have hfil:(((done++f :: r).map fun f=>(f.n,f.g)).filter fun p=>decide (p.1≠f.n))=(done++r).map fun f=>(f.n,f.g):=by
  rw[List.map_append,List.map_cons,List.filter_append,List.filter_cons_of_neg (by simp),List.map_append]
  congr 1
  ·refine List.filter_eq_self.2 fun p hp=> ?_
   obtain⟨x,hx,rfl⟩:=List.mem_map.1 hp
   simpa using (hsub x (by simp[hx])).2
  ·refine List.filter_eq_self.2 fun p hp=> ?_
   obtain⟨x,hx,rfl⟩:=List.mem_map.1 hp
   simpa using (hsub x (by simp[hx])).2
 rw[hfil]at hm
 refine⟨⟨rfl, ?_,hm, ?_, ?_, ?_⟩, ?_⟩
 ·exact h.blk.touch hT (by
   rintro(e | e | e)
   ·exact h.map.ne_blk h.blk e.symm
   ·exact h.blk.ne_ (h.file f hf).blk (by decide) e
   ·exact Own.ne_blk (h.file f hf).row h.blk (by decide) e)
 ·exact h.flt.touch hT (by
   rintro k hk (e | e | e)
   ·exact h.map.ne_own h.flt (by rw[hk,e])
   ·exact h.flt.ne_blk (h.file f hf).blk (by decide) (by rw[hk,e])
   ·exact Own.ne_own h.flt (h.file f hf).row (by decide) k hk e)
 ·intro x hx
  obtain⟨hx1,hx2⟩:=hsub x hx
  obtain⟨n1,n2⟩:=apart_ne h.apart x hx1 f hf hx2
  refine(h.file x hx1).heap (hT.block _ (h.file x hx1).blk.lt ?_) fun k hk=>hT.block _ (Own.lt (h.file x hx1).row k hk) ?_
  ·rintro(e | e | e)
   ·exact h.map.ne_blk (h.file x hx1).blk e.symm
   ·exact n1 e
   ·exact Own.ne_blk (h.file f hf).row (h.file x hx1).blk (by decide) e
  ·rintro(e | e | e)
   ·exact h.map.ne_own (h.file x hx1).row (by rw[hk,e])
   ·exact Own.ne_blk (h.file x hx1).row (h.file f hf).blk (by decide) (by rw[hk,e])
   ·exact n2 (hk.trans e.symm)
 ·exact List.pairwise_append.2 ⟨h1,h5,fun a ha b hb=>h3 a ha b (by simp[hb])⟩
 ·rintro k (e | e | e | ⟨x,hx,e⟩)
  ·exact .inl e
  ·exact .inr (.inl e)
  ·exact .inr (.inr (.inl e))
  ·exact .inr (.inr (.inr ⟨x,(hsub x hx).1,e⟩))
theorem IsInts.tail{w:World}{A:Option Addr}{n c:Nat}{x:Int}{xs:List Int}(h:IsInts w A n c (x :: xs)):∃A2 c2,(∀W,(Instr.slice 22 (.slice A n c) (some (.int .i64 1)) none none).run Tryz.prog W= .ok (.slice A2 xs.length c2) W)/\IsInts w A2 xs.length c2 xs/\∀a,A2=some a->∃a0,A=some a0/\a.block=a0.block:=by
 obtain⟨b,o,rfl,_,hn,h2⟩:=h.cons
 have hnc:=h.2.1
 have ht:Tryz.prog.underlying 22=some (.slice 3):=Tryz.underlying22
 have ht':Tryz.prog.underlying 22=some (.slice (Tryz.prog.elem 22)):=by simp[Program.elem,ht]
 have he:Tryz.prog.elem 22=3:=by simp[Program.elem,ht]
 have hz:∀W,(Go.sizeOf 3).run Tryz.prog W= .ok 1 W:=fun W=>by kernel_rfl
 have hrun:∀W,(Instr.slice 22 (.slice (some ⟨b,o,none⟩) n c) (some (.int .i64 1)) none none).run Tryz.prog W= .ok (.slice (some (if c=1 then ⟨b,o,none⟩ else ⟨b,o+1,none⟩)) xs.length (c-1)) W:=by
  intro W
  rw[run_slice_l W 22 _ _ _ ht' .i64 _ (by omega) (by omega),he,hz]
  subst hn
  by_cases h1:c=1
  ·simp[Result.andThen,sliced,h1]
  ·simp[Result.andThen,sliced,h1,add_flat]
 refine⟨_,_,hrun, ?_, ?_⟩
 ·by_cases h1:c=1
  ·have hx:xs= []:=List.eq_nil_of_length_eq_zero (by omega)
   subst hx
   rw[h1]
   exact IsInts.nil_ _
  ·rw[if_neg h1]
   exact h2
 ·intro a ha
  injection ha with ha
  refine⟨_,rfl, ?_⟩
  rw[<- ha]
  split<;>rfl
theorem find_mid{done r:List FR}{f:FR}(h:(done++f :: r).Pairwise fun a b=>a.n<b.n/\a.g≠b.g/\a.v.ownBlock≠b.v.ownBlock):(done++f :: r).find? (fun x=>decide (x.n=f.n))=some f:=by
 obtain⟨h1,h2,h3⟩:=List.pairwise_append.1 h
 rw[List.find?_eq_some_iff_append]
 exact⟨by simp,done,r,rfl,fun x hx=>by have:=(h3 x hx f (by simp)).1;simp;omega⟩
def CrashJ(w:World)(bd bm:Nat)(fv:Value)(fs:List FR)(d:Dk)(cuts:List Int)(L A:Option Addr)(nl cl m c:Nat)(wr:World):Prop:=
 ∃done rest cs,IsInts wr L nl cl (rest.map FR.n)/\IsInts wr A m c cs/\(∀a,L=some a->¬foot bd bm fv fs a.block)/\(∀a,A=some a->0<m->¬foot bd bm fv fs a.block)/\(∀x∈cs,-9223372036854775808<=x/\x<=9223372036854775807)/\
  Fl.crash d.fs cuts=done.map FR.fl++Fl.crash (rest.map FR.fl) cs/\DK wr bd bm fv (done++rest) { d with fs:=(done++rest).map FR.fl }/\Touch (foot bd bm fv fs) w wr/\(∀k,foot bd bm fv (done++rest) k->foot bd bm fv fs k)/\(∀f∈done++rest,f.raw.length<=140737488355328)
theorem lose_len(f:FR)(cut:Int):(f.fl.lose cut).raw.length<=f.raw.length:=by
 show (if _ then (f.raw.take (f.kept+(f.fl.ways cut+1) / 2)).set _ _ else f.raw.take (f.kept+(f.fl.ways cut+1) / 2)).length<= _
 split
 ·rw[List.length_set];simp[List.length_take];omega
 ·simp[List.length_take];omega
theorem CrashJ.keep{w wr w2:World}{bd bm:Nat}{fv:Value}{fs done r:List FR}{f:FR}{d:Dk}{cuts cs:List Int}{L2 A2:Option Addr}{cl2 m2 c2 nq:Nat}{e:Ending}(hL2:IsInts wr L2 r.length cl2 (r.map FR.n))(hA2:IsInts wr A2 m2 c2 cs.tail)
  (hLf:∀a,L2=some a->¬foot bd bm fv fs a.block) (hAf:∀a,A2=some a->0<m2->¬foot bd bm fv fs a.block) (hcw:∀x∈cs,-9223372036854775808<=x/\x<=9223372036854775807)
  (hcr:Fl.crash d.fs cuts=done.map FR.fl++Fl.crash ((f :: r).map FR.fl) cs) (hdk:DK wr bd bm fv (done++f :: r) { d with fs:=(done++f :: r).map FR.fl }) (ht:Touch (foot bd bm fv fs) w wr) (hsub:∀k,foot bd bm fv (done++f :: r) k->foot bd bm fv fs k)
  (hlen:∀f'∈done++f :: r,f'.raw.length<=140737488355328) (he:LoseEnd (wr.drewN nq) f (cs.headD 0) e w2) (hk:(f.fl.lose (cs.headD 0)).kept≠0):CrashJ w bd bm fv fs d cuts L2 A2 r.length cl2 m2 c2 w2:=by
 have hfm:f∈done++f :: r:=by simp
 have hT:Touch (fun k=>k=f.g\/f.v.ownBlock=some k) wr w2:=((Touch.refl _ wr).drewN nq).trans he.2.1 fun _ _ h=>h
 have hF:∀k,(k=f.g\/f.v.ownBlock=some k)->foot bd bm fv fs k:=fun k hk=>hsub k (.inr (.inr (.inr ⟨f,hfm,hk⟩)))
 obtain⟨f',h1,h2,h3⟩:=(show DK (wr.drewN nq) bd bm fv (done++f :: r) _ from hdk.touch ((Touch.refl (fun _=>False) wr).drewN nq) fun _ _=>id).lost he hk
 refine⟨done++ [f'],r,cs.tail,hL2.touch hT (fun a ha _ hs=>hLf a ha (hF _ hs)),hA2.touch hT (fun a ha h0 hs=>hAf a ha h0 (hF _ hs)),hLf,hAf,fun x hx=>hcw x (List.mem_of_mem_tail hx), ?_, ?_,ht.trans hT fun k _ hs=>hF k hs, ?_, ?_⟩
 ·rw[hcr]
  show _++(if (f.fl.lose (cs.headD 0)).kept=0 then _ else f.fl.lose (cs.headD 0) :: Fl.crash (r.map FR.fl) cs.tail)= _
  rw[if_neg hk,List.map_append,List.append_assoc,<- h1]
  rfl
 ·rw[List.append_assoc]
  exact h2
 ·intro k hk'
  rw[List.append_assoc]at hk'
  exact hsub k (h3 k hk')
 ·intro x hx
  rw[List.append_assoc]at hx
  rcases List.mem_append.1 hx with hx | hx
  ·exact hlen x (List.mem_append.2 (.inl hx))
  ·rcases List.mem_cons.1 hx with rfl | hx
   ·have h4:x.raw=(f.fl.lose (cs.headD 0)).raw:=congrArg Fl.raw h1
    rw[h4]
    exact Nat.le_trans (lose_len f _) (hlen f hfm)
   ·exact hlen x (List.mem_append.2 (.inr (List.mem_cons_of_mem _ hx)))
theorem CrashJ.drop{w wr w2 w3:World}{bd bm:Nat}{fv:Value}{fs done r:List FR}{f:FR}{d:Dk}{cuts cs:List Int}{L2 A2:Option Addr}{cl2 m2 c2 nq:Nat}{e:Ending}(hL2:IsInts wr L2 r.length cl2 (r.map FR.n))(hA2:IsInts wr A2 m2 c2 cs.tail)
  (hLf:∀a,L2=some a->¬foot bd bm fv fs a.block) (hAf:∀a,A2=some a->0<m2->¬foot bd bm fv fs a.block) (hcw:∀x∈cs,-9223372036854775808<=x/\x<=9223372036854775807)
  (hcr:Fl.crash d.fs cuts=done.map FR.fl++Fl.crash ((f :: r).map FR.fl) cs) (hdk:DK wr bd bm fv (done++f :: r) { d with fs:=(done++f :: r).map FR.fl }) (ht:Touch (foot bd bm fv fs) w wr) (hsub:∀k,foot bd bm fv (done++f :: r) k->foot bd bm fv fs k)
  (hlen:∀f'∈done++f :: r,f'.raw.length<=140737488355328) (he:LoseEnd (wr.drewN nq) f (cs.headD 0) e w2) (hk:(f.fl.lose (cs.headD 0)).kept=0)
  (hm:IMap w3 bm (((done++f :: r).map fun f=>(f.n,f.g)).filter fun p=>decide (p.1≠f.n))) (ht3:Touch (fun k=>k=bm) w2 w3):CrashJ w bd bm fv fs d cuts L2 A2 r.length cl2 m2 c2 w3:=by
 have hfm:f∈done++f :: r:=by simp
 have hT:Touch (fun k=>k=f.g\/f.v.ownBlock=some k) wr w2:=((Touch.refl _ wr).drewN nq).trans he.2.1 fun _ _ h=>h
 have hF:∀k,(k=bm\/k=f.g\/f.v.ownBlock=some k)->foot bd bm fv fs k:=fun k hk=>hsub k (hk.elim (fun e=> .inr (.inl e)) fun hk=> .inr (.inr (.inr ⟨f,hfm,hk⟩)))
 have hT3:Touch (fun k=>k=bm\/k=f.g\/f.v.ownBlock=some k) wr w3:=(hT.mono fun _ _ h=> .inr h).trans ht3 fun _ _ h=> .inl h
 obtain⟨h2,h3⟩:=hdk.gone hT hm ht3
 refine⟨done,r,cs.tail,hL2.touch hT3 (fun a ha _ hs=>hLf a ha (hF _ hs)),hA2.touch hT3 (fun a ha h0 hs=>hAf a ha h0 (hF _ hs)),hLf,hAf,fun x hx=>hcw x (List.mem_of_mem_tail hx), ?_,h2,ht.trans hT3 fun k _ hs=>hF k hs,fun k hk'=>hsub k (h3 k hk'), ?_⟩
 ·rw[hcr]
  show _++(if (f.fl.lose (cs.headD 0)).kept=0 then _ else f.fl.lose (cs.headD 0) :: Fl.crash (r.map FR.fl) cs.tail)= _
  rw[if_pos hk]
 ·intro x hx
  rcases List.mem_append.1 hx with hx | hx
  ·exact hlen x (List.mem_append.2 (.inl hx))
  ·exact hlen x (List.mem_append.2 (.inr (List.mem_cons_of_mem _ hx)))
def leftLen(a:Act):Nat:=match a.tmps.getD 4 undef with | .slice _ n _=>n | _=>0
theorem crash_any(w:World)(bd bm:Nat)(fv:Value)(fs:List FR)(d:Dk)(A:Option Addr)(m c:Nat)(cuts:List Int)(h:DK w bd bm fv fs d)(hfl:fs.length<=1000000000000)(hb:∀f∈fs,f.raw.length<=140737488355328)(hx:IsInts w A m c cuts)(hxw:∀x∈cuts,-9223372036854775808<=x/\x<=9223372036854775807)(hxb:∀a,A=some a->0<m->¬foot bd bm fv fs a.block):
  Calls Tryz.prog 16 #[.pointer (some ⟨bd,0,none⟩), .slice A m c] w (StepEnd w bd bm fv fs (d.crash cuts) (.returned (.tuple #[]))):=by
 have HFI:=zh (files_any w bd bm fv fs d h hfl)
 have H:=zh h;have HX:=zh hx;have HXW:=zh hxw;have HXB:=zh hxb;have HBB:=zh hb
 clear h hx hxw hxb hb
 go_enter Tryz.func16,Tryz.ntmps16
 go_wp2_with fail
 refine wp_scope_head 0 (fun a' wr=>∃(L A':Option Addr) (nl cl m' c':Nat) (u2 u3 u5 u6 u7 u8 u9 u10 u11 u12 u13 u14 u15 u16 u17 u18 u19 u20 u21 u22 u23 u24 u25 u26 u27 u28 u29 u30 u31 u32 u33 u34 u35 u36 u37 u38 u39 u40 u41 u42 u43 u44 u45 u46:Value),a'={ tmps:= #[.pointer (some ⟨bd,0,none⟩), .slice A' m' c',u2,u3, .slice L nl cl,u5,u6,u7,u8,u9,u10,u11,u12,u13,u14,u15,u16,u17,u18,u19,u20,u21,u22,u23,u24,u25,u26,u27,u28,u29,u30,u31,u32,u33,u34,u35,u36,u37,u38,u39,u40,u41,u42,u43,u44,u45,u46],defers:= [] }/\CrashJ w bd bm fv fs d cuts L A' nl cl m' c' wr) (fun a' _=>leftLen a') rfl ?_ ?_
 ·go_wp2_with fail
  refine HFI.out.mono ?_
  rintro e w1 ⟨v,rfl,hrow,hf1⟩
  have hI:∃L c0,v= .slice L fs.length c0/\IsInts w1 L fs.length c0 (fs.map FR.n)/\∀a,L=some a->w.heap.size<=a.block:=by
   have hO:=Own.ofRow hrow
   obtain⟨L,c0,rfl,e1,e2,e3⟩:=hO.form
   refine⟨L,c0,rfl,⟨List.length_map _,e1,e2,fun h0=> ?_⟩, ?_⟩
   ·rcases e3 with⟨_,e4,_⟩ | ⟨g,rfl⟩
    ·omega
    ·refine⟨g,0,rfl,fun j x hx=> ?_⟩
     have hj:j<fs.length:=by have:=(List.getElem?_eq_some_iff.1 hx).1;rwa [List.length_map]at this
     rw[Nat.zero_add,hO.cell (by omega),List.getElem?_map,hx]
     rfl
   ·rintro a rfl
    have:=hrow.lt a.block rfl
    exact this.1
  obtain⟨L,c0,rfl,hI1,hI2⟩:=hI
  have hJ:CrashJ w bd bm fv fs d cuts L A fs.length c0 m c w1:=by
   refine⟨[],fs,cuts,hI1,HX.out.touch hf1 (fun _ _ _=>id),fun a ha hk=> ?_,HXB.out,HXW.out,by rw[H.out.fls];rfl, ?_,hf1.mono fun _ _ h=>h.elim,fun _ h=>h,HBB.out⟩
   ·have:=H.out.lt _ hk
    have:=hI2 a ha
    omega
   ·have:=H.out.fresh hf1
    exact⟨rfl,this.blk,this.map,this.flt,this.file,this.apart⟩
  have HJ:=zh hJ
  clear hI1 hI2 hrow hf1 hJ HFI
  go_wp2_with fail
  exact⟨L,A,fs.length,c0,m,c,_,_,_,_,_,_,_,_,_,_,_,_,_,_,_,_,_,_,_,_,_,_,_,_,_,_,_,_,_,_,_,_,_,_,_,_,_,_,_,_,_,_,_,_,rfl,HJ.out⟩
 ·rintro a1 wr ⟨L,A',nl,cl,m',c',u2,u3,u5,u6,u7,u8,u9,u10,u11,u12,u13,u14,u15,u16,u17,u18,u19,u20,u21,u22,u23,u24,u25,u26,u27,u28,u29,u30,u31,u32,u33,u34,u35,u36,u37,u38,u39,u40,u41,u42,u43,u44,u45,u46,rfl,done,rest,cs,hL,hA,hLf,hAf,hcw,hcr,hdk,ht,hsub,hlen⟩
  have HL:=zh hL;have HA:=zh hA;have HLF:=zh hLf;have HAF:=zh hAf;have HCW:=zh hcw;have HCR:=zh hcr;have HDK:=zh hdk;have HT:=zh ht;have HSUB:=zh hsub;have HLEN:=zh hlen
  clear hLf hAf hcw hcr ht hsub hlen HFI
  cases rest with
  | nil=>
   obtain rfl:nl=0:=hL.1.symm
   have k2:wr.cell? ⟨bd,2,none⟩=some fv:=hdk.blk.cell 2
   have q2:=hdk.blk.frozen 2
   have q3:=hdk.blk.frozen 3
   have k3:(wr.setCell ⟨bd,2,none⟩ (.slice none 0 0)).cell? ⟨bd,3,none⟩=some (.bool d.stopped):=(hdk.blk.set_ 2 _).cell 3
   clear hL hA hdk
   go_wp2_with fail
   simp only[Exit.jump]
   go_end0
   obtain⟨W1,hW1⟩:∃W1,W1=(wr.setCell ⟨bd,2,none⟩ (.slice none 0 0)).setCell ⟨bd,3,none⟩ (.bool false):=⟨_,rfl⟩
   rw[<- hW1]
   have hT1:Touch (fun k=>k=bd\/fv.ownBlock=some k) wr W1:=by
    rw[hW1]
    exact((Touch.refl (fun k=>k=bd\/fv.ownBlock=some k) wr).setCell (p:=⟨bd,2,none⟩) (.inr (.inl rfl)) _).setCell (p:=⟨bd,3,none⟩) (.inr (.inl rfl)) _
   obtain⟨r1,r2⟩:=HDK.out.rest hT1
   refine⟨rfl,HT.out.trans hT1 (fun k _ hk=>hk.elim .inl fun e=> .inr (.inr (.inl e))), .slice none 0 0,done++ [],⟨?_, ?_,r1,Own.nil_ _ _ _,r2,HDK.out.apart⟩, ?_⟩
   ·show Fl.crash d.fs cuts= _
    rw[HCR.out,List.map_append]
    rfl
   ·rw[hW1]
    exact(HDK.out.blk.set_ 2 _).set_ 3 _
   ·rintro k (e | e | e | e)
    ·exact .inl (.inl e)
    ·exact .inl (.inr (.inl e))
    ·cases e
    ·exact .inl (HSUB.out k (.inr (.inr (.inr e))))
  | cons f r=>
   obtain⟨lb,lo,hLe,hl0,hnl,_⟩:=(show IsInts wr L nl cl (f.n :: r.map FR.n) from hL).cons
   obtain⟨L2,cl2,hsl,hL2,hLb⟩:=(show IsInts wr L nl cl (f.n :: r.map FR.n) from hL).tail
   rw[List.length_map]at hnl hsl hL2
   subst hLe
   subst hnl
   have hlb:=hL.2.1
   have hlm:=hL.2.2.1
   unfold maxLen at hlm
   have hfm:f∈done++f :: r:=by simp
   have hfind:=find_mid hdk.apart
   have hkey:=(hdk.file f hfm).key
   have hlk:=hdk.map.look hkey
   rw[entV_some hfind]at hlk
   have hlkj:∀j,(Instr.lookup 85 (.map (some bm)) (.int .i64 f.n) false).run Tryz.prog (wr.drewN j)= .ok (.pointer (some ⟨f.g,0,none⟩)) (wr.drewN j):=fun j=>by
    have:=(show IMap (wr.drewN j) bm _ from hdk.map).look hkey
    rwa [entV_some hfind]at this
   have k0:wr.cell? ⟨bd,0,none⟩=some (.map (some bm)):=hdk.blk.cell 0
   have hF:∀j,FileAt (wr.drewN j) f:=fun j=>(hdk.file f hfm).heap rfl fun _ _=>rfl
   have hrb:=HLEN.out f hfm
   have HF:=zh hF;have HL2:=zh hL2;have HLB:=zh hLb;have HKEY:=zh hkey
   have hpos:(0:Int)<((r.length+1:Nat):Int):=by omega
   clear hL hdk hL2 hLb hF hfind hkey
   cases cs with
   | nil=>
    obtain rfl:m'=0:=hA.1.symm
    clear hA
    go_wp2_with fail
    go_quiet (fail)
    go_wp2_with fail
    refine(lose_any (wr.drewN nq) f 0 (HF.out nq) hrb (by have:=hpos;omega) (by have:=hpos;omega)).mono ?_
    intro e w2 he
    obtain rfl:=he.1
    have hT2:Touch (fun k=>k=f.g\/f.v.ownBlock=some k) wr w2:=((Touch.refl _ wr).drewN _).trans he.2.1 fun _ _ h=>h
    have HE:=zh he
    by_cases hk:(f.fl.lose 0).kept=0
    ·have k0':w2.cell? ⟨bd,0,none⟩=some (.map (some bm)):=(HDK.out.blk.touch hT2 (by
      rintro(e | e)
      ·exact HDK.out.blk.ne_ (HDK.out.file f hfm).blk (by decide) e
      ·exact Own.ne_blk (HDK.out.file f hfm).row HDK.out.blk (by decide) e)).cell 0
     have hl0':w2.cell? ⟨lb,lo,none⟩=some (.int .i64 f.n):=hT2.cell hl0 fun hs=>HLF.out _ rfl (HSUB.out _ (.inr (.inr (.inr ⟨f,hfm,hs⟩))))
     have him:IMap w2.drew bm ((done++f :: r).map fun f=>(f.n,f.g)):=HDK.out.map.heap (hT2.block _ HDK.out.map.lt (by
      rintro(e | e)
      ·exact HDK.out.map.ne_blk (HDK.out.file f hfm).blk e
      ·exact HDK.out.map.ne_own (HDK.out.file f hfm).row e))
     obtain⟨w3,hdel,him3,ht3⟩:=him.del_all HKEY.out
     have hJ:=zh (CrashJ.drop (cuts:=cuts) (cs:= []) HL2.out HA.out (fun a ha=>by obtain⟨a0,h0,h1⟩:=HLB.out a ha;rw[h1];exact HLF.out a0 h0) HAF.out HCW.out HCR.out HDK.out HT.out HSUB.out HLEN.out HE.out hk him3 (show Touch (fun k=>k=bm) w2 w3 from((Touch.refl _ w2).drew).trans ht3 fun _ _ h=>h))
     rw[hk]
     clear hk hT2 him him3 ht3 he k0 hl0 hlk hlkj
     go_wp2_with fail
     go_region
     go_wp2_with fail
     go_step3
     exact⟨rfl,⟨L2,A',r.length,cl2,0,c',_,_,_,_,_,_,_,_,_,_,_,_,_,_,_,_,_,_,_,_,_,_,_,_,_,_,_,_,_,_,_,_,_,_,_,_,_,_,_,_,_,_,_,_,rfl,hJ.out⟩,by show r.length<r.length+1;omega⟩
    ·have hJ:=zh (CrashJ.keep (cuts:=cuts) (cs:= []) HL2.out HA.out (fun a ha=>by obtain⟨a0,h0,h1⟩:=HLB.out a ha;rw[h1];exact HLF.out a0 h0) HAF.out HCW.out HCR.out HDK.out HT.out HSUB.out HLEN.out HE.out hk)
     have hkb:(((f.fl.lose 0).kept:Int) == 0)=false:=by simpa using hk
     clear hk hT2 he k0 hl0 hlk hlkj
     go_wp2_with fail
     go_step3
     exact⟨rfl,⟨L2,A',r.length,cl2,0,c',_,_,_,_,_,_,_,_,_,_,_,_,_,_,_,_,_,_,_,_,_,_,_,_,_,_,_,_,_,_,_,_,_,_,_,_,_,_,_,_,_,_,_,_,rfl,hJ.out⟩,by show r.length<r.length+1;omega⟩
   | cons x xs=>
    obtain⟨cb,co,hCe,hc0,hmn,_⟩:=hA.cons
    obtain⟨A2,c2,hslA,hA2,hAb⟩:=hA.tail
    subst hCe
    subst hmn
    have hcb:=hA.2.1
    have hcm:=hA.2.2.1
    unfold maxLen at hcm
    have hxr:=HCW.out x (by simp)
    have hposc:(0:Int)<((xs.length+1:Nat):Int):=by omega
    have HA2:=zh hA2;have HAB:=zh hAb
    clear hA hA2 hAb
    go_wp2_with fail
    go_quiet (fail)
    go_wp2_with fail
    go_quiet (fail)
    go_wp2_with fail
    refine(lose_any (wr.drewN _) f x (HF.out _) hrb (by omega) (by omega)).mono ?_
    intro e w2 he
    obtain rfl:=he.1
    have hT2:Touch (fun k=>k=f.g\/f.v.ownBlock=some k) wr w2:=((Touch.refl _ wr).drewN _).trans he.2.1 fun _ _ h=>h
    have HE:=zh he
    by_cases hk:(f.fl.lose x).kept=0
    ·have k0':w2.cell? ⟨bd,0,none⟩=some (.map (some bm)):=(HDK.out.blk.touch hT2 (by
      rintro(e | e)
      ·exact HDK.out.blk.ne_ (HDK.out.file f hfm).blk (by decide) e
      ·exact Own.ne_blk (HDK.out.file f hfm).row HDK.out.blk (by decide) e)).cell 0
     have hl0':w2.cell? ⟨lb,lo,none⟩=some (.int .i64 f.n):=hT2.cell hl0 fun hs=>HLF.out _ rfl (HSUB.out _ (.inr (.inr (.inr ⟨f,hfm,hs⟩))))
     have him:IMap w2.drew bm ((done++f :: r).map fun f=>(f.n,f.g)):=HDK.out.map.heap (hT2.block _ HDK.out.map.lt (by
      rintro(e | e)
      ·exact HDK.out.map.ne_blk (HDK.out.file f hfm).blk e
      ·exact HDK.out.map.ne_own (HDK.out.file f hfm).row e))
     obtain⟨w3,hdel,him3,ht3⟩:=him.del_all HKEY.out
     have hJ:=zh (CrashJ.drop (cuts:=cuts) (cs:=x :: xs) HL2.out HA2.out (fun a ha=>by obtain⟨a0,h0,h1⟩:=HLB.out a ha;rw[h1];exact HLF.out a0 h0) (fun a ha h0=>by obtain⟨a0,h0',h1⟩:=HAB.out a ha;rw[h1];exact HAF.out a0 h0' (by omega)) HCW.out HCR.out HDK.out HT.out HSUB.out HLEN.out HE.out hk him3 (show Touch (fun k=>k=bm) w2 w3 from((Touch.refl _ w2).drew).trans ht3 fun _ _ h=>h))
     rw[hk]
     clear hk hT2 him him3 ht3 he k0 hl0 hlk hlkj hc0
     go_wp2_with fail
     go_region
     go_wp2_with fail
     go_step3
     exact⟨rfl,⟨L2,A2,r.length,cl2,xs.length,c2,_,_,_,_,_,_,_,_,_,_,_,_,_,_,_,_,_,_,_,_,_,_,_,_,_,_,_,_,_,_,_,_,_,_,_,_,_,_,_,_,_,_,_,_,rfl,hJ.out⟩,by show r.length<r.length+1;omega⟩
    ·have hJ:=zh (CrashJ.keep (cuts:=cuts) (cs:=x :: xs) HL2.out HA2.out (fun a ha=>by obtain⟨a0,h0,h1⟩:=HLB.out a ha;rw[h1];exact HLF.out a0 h0) (fun a ha h0=>by obtain⟨a0,h0',h1⟩:=HAB.out a ha;rw[h1];exact HAF.out a0 h0' (by omega)) HCW.out HCR.out HDK.out HT.out HSUB.out HLEN.out HE.out hk)
     have hkb:(((f.fl.lose x).kept:Int) == 0)=false:=by simpa using hk
     clear hk hT2 he k0 hl0 hlk hlkj hc0
     go_wp2_with fail
     go_step3
     exact⟨rfl,⟨L2,A2,r.length,cl2,xs.length,c2,_,_,_,_,_,_,_,_,_,_,_,_,_,_,_,_,_,_,_,_,_,_,_,_,_,_,_,_,_,_,_,_,_,_,_,_,_,_,_,_,_,_,_,_,rfl,hJ.out⟩,by show r.length<r.length+1;omega⟩
end Go.Proofs.YtjehlgblkfofpaaGreat
namespace Go.Proofs.YtjehlgblkfofpaaGreat
open Go.RowKit
structure Dk.small(d:Dk)(K:Nat):Prop where
 raw:∀f∈d.fs,f.raw.length<=K
 many:d.fs.length<=K
 faults:d.faults.length<=K
 ops:d.ops<=K
theorem Dk.small.mono{d:Dk}{K L:Nat}(h:d.small K)(hl:K<=L):d.small L:=⟨fun f hf=>Nat.le_trans (h.raw f hf) hl,Nat.le_trans h.many hl,Nat.le_trans h.faults hl,Nat.le_trans h.ops hl⟩
theorem next_small{d:Dk}{K:Nat}(h:d.small K):d.next.small (K+1):=
 ⟨fun f hf=>Nat.le_succ_of_le (h.raw f hf),Nat.le_succ_of_le h.many,Nat.le_trans (List.length_filter_le _ _) (Nat.le_succ_of_le h.faults),Nat.succ_le_succ h.ops⟩
theorem ins_small{n:Int}{b:List UInt8}{K:Nat}:∀{fs:List Fl},(∀f∈fs,f.raw.length<=K)->(∀f∈Fl.ins n b fs,f.raw.length<=K+b.length)/\(Fl.ins n b fs).length<=fs.length+1
 | [],_=>⟨by intro f hf;simp[Fl.ins]at hf;subst hf;simp,by simp[Fl.ins]⟩
 | x :: r,h=>by
  have ih:=ins_small (n:=n) (b:=b) (K:=K) (fs:=r) fun f hf=>h f (List.mem_cons_of_mem _ hf)
  have hx:=h x (by simp)
  unfold Fl.ins
  split
  ·refine⟨fun f hf=> ?_,by simp⟩
   rcases List.mem_cons.1 hf with rfl | hf
   ·show b.length<= _;omega
   ·have:=h f hf;omega
  ·split
   ·refine⟨fun f hf=> ?_,by simp⟩
    rcases List.mem_cons.1 hf with rfl | hf
    ·show (x.raw++b).length<= _;rw[List.length_append];omega
    ·have:=h f (List.mem_cons_of_mem _ hf);omega
   ·refine⟨fun f hf=> ?_,by simp only[List.length_cons];have:=ih.2;omega⟩
    rcases List.mem_cons.1 hf with rfl | hf
    ·omega
    ·exact ih.1 f hf
theorem add_small{n:Int}{b:List UInt8}{d:Dk}{K:Nat}(h:d.small K):Dk.small { d with fs:=Fl.add n b d.fs } (K+b.length+1):=by
 unfold Fl.add
 split
 ·exact h.mono (by omega)
 ·have:=ins_small (n:=n) (b:=b) h.raw
  exact⟨fun f hf=>by have:=this.1 f hf;omega,by have h1:=this.2;have h2:=h.many;show (Fl.ins n b d.fs).length<= _;omega,by have:=h.faults;show d.faults.length<= _;omega,by have:=h.ops;show d.ops<= _;omega⟩
theorem append_small{n:Int}{b:List UInt8}{d:Dk}{K:Nat}(h:d.small K):(d.append n b).small (K+b.length+2):=by
 unfold Dk.append
 split
 ·exact(add_small (next_small h)).mono (by omega)
 ·split
  ·exact(add_small (next_small h)).mono (by rw[List.length_take];omega)
  ·exact(next_small h).mono (by omega)
theorem DK.raws{w:World}{bd bm:Nat}{fv:Value}{fs:List FR}{d:Dk}(h:DK w bd bm fv fs d){K:Nat}(hs:d.small K):(∀f∈fs,f.raw.length<=K)/\fs.length<=K:=
 ⟨fun f hf=>hs.raw f.fl (by rw[h.fls];exact List.mem_map_of_mem hf),by have:=hs.many;rwa [h.fls,List.length_map]at this⟩
theorem StepEnd.disk{w w':World}{S:Nat->Prop}{bd bm:Nat}{fv:Value}{fs:List FR}{d':Dk}{r e:Ending}(h:StepEnd w bd bm fv fs d' r e w')(h1:∀k,foot bd bm fv fs k->S k)(h2:∀k,S k->k<w.heap.size):e=r/\Touch S w w'/\Disk w' (more S w w') bd d':=by
 obtain⟨he,ht,fv',fs',hd,hf⟩:=h
 exact⟨he,ht.mono fun k _ hk=>h1 k hk,hd.disk (fun k hk=>(hf k hk).imp (h1 k) id) h2 ht.size⟩
theorem disk_append{w:World}{S:Nat->Prop}{bd:Nat}{d:Dk}{K:Nat}(h:Disk w S bd d)(hs:d.small K)(hK:K<=1000000000){n:Int}(hn:(Lit.int .i64 n).wf=true){A:Option Addr}{m c:Nat}{xs:List UInt8}(hx:Bs w A m c xs)(hxb:∀a,A=some a->0<m->¬S a.block/\a.block<w.heap.size)(hm:xs.length<=1000000000):
  Calls Tryz.prog 140 #[.pointer (some ⟨bd,0,none⟩), .int .i64 n, .slice A m c] w fun e w'=>e= .returned (.int .i64 (d.why n))/\Touch S w w'/\Disk w' (more S w w') bd (d.append n xs):=by
 obtain⟨bm,fv,fs,hd,h1,h2⟩:=h
 obtain⟨r1,r2⟩:=hd.raws hs
 exact(append_any w bd bm fv fs d n A m c xs hd hn hx (fun a ha h0=>⟨fun hk=>(hxb a ha h0).1 (h1 _ hk),(hxb a ha h0).2⟩) (fun f hf=>by have:=r1 f hf;omega) (by omega) (by unfold maxLen;omega) (by have:=hs.ops;omega) (by have:=hs.faults;omega)).mono fun e w' q=>q.disk h1 h2
theorem disk_sync{w:World}{S:Nat->Prop}{bd:Nat}{d:Dk}{K:Nat}(h:Disk w S bd d)(hs:d.small K)(hK:K<=1000000000){n:Int}(hn:(Lit.int .i64 n).wf=true):
  Calls Tryz.prog 141 #[.pointer (some ⟨bd,0,none⟩), .int .i64 n] w fun e w'=>e= .returned (.int .i64 (d.why n))/\Touch S w w'/\Disk w' (more S w w') bd (d.sync n):=by
 obtain⟨bm,fv,fs,hd,h1,h2⟩:=h
 exact(sync_any w bd bm fv fs d n hd hn (by have:=hs.ops;omega) (by have:=hs.faults;omega)).mono fun e w' q=>q.disk h1 h2
theorem disk_crash{w:World}{S:Nat->Prop}{bd:Nat}{d:Dk}{K:Nat}(h:Disk w S bd d)(hs:d.small K)(hK:K<=1000000000){A:Option Addr}{m c:Nat}{cuts:List Int}(hx:IsInts w A m c cuts)(hxw:∀x∈cuts,-9223372036854775808<=x/\x<=9223372036854775807)(hxb:∀a,A=some a->0<m->¬S a.block):
  Calls Tryz.prog 16 #[.pointer (some ⟨bd,0,none⟩), .slice A m c] w fun e w'=>e= .returned (.tuple #[])/\Touch S w w'/\Disk w' (more S w w') bd (d.crash cuts):=by
 obtain⟨bm,fv,fs,hd,h1,h2⟩:=h
 obtain⟨r1,r2⟩:=hd.raws hs
 exact(crash_any w bd bm fv fs d A m c cuts hd (by omega) (fun f hf=>by have:=r1 f hf;omega) hx hxw (fun a ha h0 hk=>hxb a ha h0 (h1 _ hk))).mono fun e w' q=>q.disk h1 h2
theorem disk_read{w:World}{S:Nat->Prop}{bd:Nat}{d:Dk}{K:Nat}(h:Disk w S bd d)(hs:d.small K)(hK:K<=1000000000){n:Int}(hn:(Lit.int .i64 n).wf=true):
  Calls Tryz.prog 88 #[.pointer (some ⟨bd,0,none⟩), .int .i64 n] w fun e w'=>Fresh w w'/\∃B c,e= .returned (.slice B (d.read n).length c)/\Row w' (.slice B (d.read n).length c) (d.read n)/\∀a,B=some a->w.heap.size<=a.block:=by
 obtain⟨bm,fv,fs,hd,h1,h2⟩:=h
 obtain⟨r1,r2⟩:=hd.raws hs
 exact read_any w bd bm fv fs d n hd hn fun f hf=>by have:=r1 f hf;omega
theorem disk_kept{w:World}{S:Nat->Prop}{bd:Nat}{d:Dk}(h:Disk w S bd d){n:Int}(hn:(Lit.int .i64 n).wf=true):
  Calls Tryz.prog 148 #[.pointer (some ⟨bd,0,none⟩), .int .i64 n] w fun e w'=>w=w'/\e= .returned (.int .i64 (d.kept n)):=by
 obtain⟨bm,fv,fs,hd,h1,h2⟩:=h
 exact kept_any w bd bm fv fs d n hd hn
theorem disk_ops{w:World}{S:Nat->Prop}{bd:Nat}{d:Dk}(h:Disk w S bd d):Calls Tryz.prog 59 #[.pointer (some ⟨bd,0,none⟩)] w fun e w'=>w=w'/\e= .returned (.int .i64 d.ops):=by
 obtain⟨bm,fv,fs,hd,h1,h2⟩:=h
 exact ops_any w bd bm fv fs d hd
structure Mine(w0 w:World)(bd:Nat)(d:Dk)(S:Nat->Prop):Prop where
 disk:Disk w S bd d
 new:∀k,S k->w0.heap.size<=k
 fresh:Fresh w0 w
theorem newDisk_mine(w:World):Calls Tryz.prog 37 #[] w fun e w'=>∃bd S,e= .returned (.pointer (some ⟨bd,0,none⟩))/\Mine w w' bd Dk.new S:=
 (newDisk_any w).mono fun _ _ ⟨hf,bd,he,hd⟩=>⟨bd,_,he,hd,fun _ hk=>hk.1,hf⟩
theorem emod_tmod(i m:Int)(h0:0<m):i % m=if i.tmod m<0 then i.tmod m+m else i.tmod m:=by
 have h1:=Int.tmod_eq_emod (a:=i) (b:=m)
 have h2:=Int.emod_nonneg i (show m≠0 by omega)
 have h3:=Int.emod_lt_of_pos i h0
 by_cases h:0<=i\/m ∣ i
 ·rw[if_pos h]at h1
  rw[if_neg (by omega)]
  omega
 ·rw[if_neg h]at h1
  rw[if_pos (by omega)]
  omega
theorem within_any(i m:Int)(w:World)(h0:0<m)(h1:m<=1000000):
  Calls Tryz.prog 12 #[.int .i64 i, .int .i64 m] w fun e w'=>w=w'/\e= .returned (.int .i64 (i % m)):=by
 have hz:m≠0:=by omega
 have hlt:i.tmod m<m:=Int.tmod_lt_of_pos i h0
 have hgt: -m<i.tmod m:=by
  have:=Int.tmod_lt_of_pos (-i) h0
  rw[Int.neg_tmod]at this
  omega
 have hwr:IntKind.i64.wrap (i.tmod m)=i.tmod m:=IntWalk.i64_in _ (by omega)
 have hem:=emod_tmod i m h0
 have HEM:=zh hem
 clear hem
 by_cases hn:i.tmod m<0
 ·have hwa:IntKind.i64.wrap (i.tmod m+m)=i.tmod m+m:=IntWalk.i64_in _ (by omega)
  go_enter Tryz.func12,Tryz.ntmps12
  go_wp2_with fail
  go_ret
  have h2:=HEM.out
  rw[if_pos hn]at h2
  rw[h2]
  exact⟨rfl,rfl⟩
 ·go_enter Tryz.func12,Tryz.ntmps12
  go_wp2_with fail
  go_ret
  have h2:=HEM.out
  rw[if_neg (by omega)]at h2
  rw[h2]
  exact⟨rfl,rfl⟩
theorem stop_any(w:World)(bd bm:Nat)(fv:Value)(fs:List FR)(d:Dk)(after:Int)(h:DK w bd bm fv fs d)(ho:d.ops<=4611686018427387904)(ha:after<=9223372036854775807):
  Calls Tryz.prog 13 #[.pointer (some ⟨bd,0,none⟩), .int .i64 after] w (StepEnd w bd bm fv fs (d.halt after) (.returned (.tuple #[]))):=by
 have HL:=zh (later_any w bd bm fv fs d after h (by omega) ha)
 have hd:d.halt after={ d with stopped:=decide (d.later after≠-1),stop:=d.later after }:=rfl
 have HD:=zh hd
 have k3:w.cell? ⟨bd,3,none⟩=some (.bool d.stopped):=h.blk.cell 3
 have q3:=h.blk.frozen 3
 have q4:=h.blk.frozen 4
 have k4:∀v,(w.setCell ⟨bd,3,none⟩ v).cell? ⟨bd,4,none⟩=some (.int .i64 d.stop):=fun v=>(h.blk.set_ 3 v).cell 4
 have H:=zh h
 clear h hd
 go_enter Tryz.func13,Tryz.ntmps13
 go_wp2_with fail
 refine HL.out.mono ?_
 rintro e w1 ⟨rfl,rfl⟩
 clear HL
 have hfin:∀b:Bool,b=decide (d.later after≠-1)->StepEnd w bd bm fv fs (d.halt after) (.returned (.tuple #[])) (.returned (.tuple #[])) ((w.setCell ⟨bd,3,none⟩ (.bool b)).setCell ⟨bd,4,none⟩ (.int .i64 (d.later after))):=by
  rintro b rfl
  have hT:Touch (fun k=>k=bd\/fv.ownBlock=some k) w ((w.setCell ⟨bd,3,none⟩ (.bool (decide (d.later after≠-1)))).setCell ⟨bd,4,none⟩ (.int .i64 (d.later after))):=
   ((Touch.refl (fun k=>k=bd\/fv.ownBlock=some k) w).setCell (p:=⟨bd,3,none⟩) (.inr (.inl rfl)) _).setCell (p:=⟨bd,4,none⟩) (.inr (.inl rfl)) _
  obtain⟨r1,r2⟩:=H.out.rest hT
  have hne:fv.ownBlock≠some bd:=H.out.flt.ne_blk H.out.blk (by decide)
  exact⟨rfl,hT.mono fun k _ hk=>hk.elim .inl fun e=> .inr (.inr (.inl e)),fv,fs,⟨H.out.fls,(H.out.blk.set_ 3 _).set_ 4 _,r1,(H.out.flt.far (p:=⟨bd,3,none⟩) hne _).far (p:=⟨bd,4,none⟩) hne _,r2,H.out.apart⟩,fun k hk=> .inl hk⟩
 have FIN:=zh hfin
 clear hfin
 generalize hl:d.later after=l at*
 by_cases hm:l= -1
 ·have hb:(l != -1)=false:=by simp[hm]
  have hm':=zh hm
  clear hm hl
  go_wp2_with fail
  go_end0
  exact FIN.out false (by simp[hm'.out])
 ·have hb:(l != -1)=true:=by simpa using hm
  have hm':=zh hm
  clear hm hl
  go_wp2_with fail
  go_end0
  exact FIN.out true (by simpa using hm'.out)
theorem disk_stop{w:World}{S:Nat->Prop}{bd:Nat}{d:Dk}{K:Nat}(h:Disk w S bd d)(hs:d.small K)(hK:K<=1000000000){after:Int}(ha:after<=9223372036854775807):
  Calls Tryz.prog 13 #[.pointer (some ⟨bd,0,none⟩), .int .i64 after] w fun e w'=>e= .returned (.tuple #[])/\Touch S w w'/\Disk w' (more S w w') bd (d.halt after):=by
 obtain⟨bm,fv,fs,hd,h1,h2⟩:=h
 exact(stop_any w bd bm fv fs d after hd (by have:=hs.ops;omega) ha).mono fun e w' q=>q.disk h1 h2
theorem Tryz.info90:(Tryz.prog.info? 90).map (fun i=>(i.zero,i.size,i.bytes))=some (some (.agg #[.int .i64 0, .int .i64 0]),2,16):=by kernel_rfl
theorem fltCells_snoc(l:List (Int×Int))(f:Int×Int):fltCells (l++ [f])=fltCells l++ [.int .i64 f.1, .int .i64 f.2]:=by simp[fltCells]
theorem flt_new(w:World)(a k:Int):Src Tryz.prog 2 86 (.slice (some ⟨w.heap.size,0,none⟩) 1 1) 1 [.int .i64 a, .int .i64 k] (w.drew.alloc (.cells #[.int .i64 a, .int .i64 k] 90)):=by
 refine Src.ofSlice _ Tryz.underlying86 _ _ _ _ rfl (fun j u hu=> ?_) (by intro u hu;simp at hu;rcases hu with rfl | rfl<;>rfl)
 have hb:=Blk.new w.drew 90 #[.int .i64 a, .int .i64 k]
 rw[add_flat,Nat.zero_add]
 have:=hb.cell j
 rw[show w.drew.heap.size=w.heap.size from rfl]at this
 rw[this,<- hu]
 simp
theorem fail_any(w:World)(bd bm:Nat)(fv:Value)(fs:List FR)(d:Dk)(after kind:Int)(h:DK w bd bm fv fs d)(ho:d.ops<=4611686018427387904)(ha:after<=9223372036854775807)(hl:d.faults.length<=1000000000):
  Calls Tryz.prog 14 #[.pointer (some ⟨bd,0,none⟩), .int .i64 after, .int .i64 kind] w (StepEnd w bd bm fv fs (d.fail after kind) (.returned (.tuple #[]))):=by
 have HL:=zh (later_any w.drew bd bm fv fs d after (h.touch ((Touch.refl (fun _=>False) w).drew) fun _ _=>id) (by omega) ha)
 obtain⟨A,c,rfl,hle,hcm,hA⟩:=h.flt.form
 have k2:w.cell? ⟨bd,2,none⟩=some (.slice A d.faults.length c):=h.blk.cell 2
 have k2a:∀o,(w.alloc o).cell? ⟨bd,2,none⟩=some (.slice A d.faults.length c):=fun o=>(h.blk.alloc o).cell 2
 have H:=zh h
 unfold maxLen at hcm
 have hafter:∀w1:World,((w.drew).alloc (.cells #[.int .i64 (d.later after), .int .i64 kind] 90)).grownBy w1 (Value.slice A d.faults.length c).ownBlock->w1.cell? ⟨bd,2,none⟩=some (.slice A d.faults.length c)/\w1.frozen? ⟨bd,2,none⟩=false:=fun w1 hg=>by
  have hd1:=(h.blk.drew.alloc (.cells #[.int .i64 (d.later after), .int .i64 kind] 90)).grown hg (fun e=>h.flt.ne_blk h.blk (by decide) e.symm)
  exact⟨hd1.cell 2,hd1.frozen 2⟩
 have HAFTER:=zh hafter
 clear h hafter
 go_enter Tryz.func14,Tryz.ntmps14
 go_wp2_with fail
 go_region_law ((first
  | (refine step_own_src _ rfl _ _ 86 86 rfl 90 (.agg #[.int .i64 0, .int .i64 0]) 2 16 Tryz.info90 Tryz.underlying86 rfl (.slice A d.faults.length c) d.faults.length (fltCells d.faults) rfl (by exact(H.out.flt.drew).alloc _) (fltCells_one _) (.slice (some ⟨w.heap.size,0,none⟩) 1 1) 1 [.int .i64 (d.later after), .int .i64 kind] rfl (by exact flt_new w (d.later after) kind) (by unfold maxLen;omega) (by omega) ?_;intro B1 c1 w1 o1 g1 b1;obtain⟨r1,r2⟩:=HAFTER.out w1 g1)
  | (go_simp;go_at_call 38;refine HL.out.mono ?_;rintro e w' ⟨rfl,rfl⟩)))
 all_goals
  clear r1 r2
  have hne:(Value.slice A d.faults.length c).ownBlock≠some bd:=H.out.flt.ne_blk H.out.blk (by decide)
  have hT1:Touch (fun k=>k=bd\/(Value.slice A d.faults.length c).ownBlock=some k) w w1:=(((Touch.refl _ w).drew).alloc _).grown g1 fun k hk=> .inr (.inr hk)
  have hB1:=(H.out.blk.drew.alloc (.cells #[.int .i64 (d.later after), .int .i64 kind] 90)).grown g1 fun e=>hne e.symm
  have hT2:=hT1.setCell (p:=⟨bd,2,none⟩) (.inr (.inl rfl)) (.slice B1 (d.faults.length+1) c1)
  obtain⟨r1,r2⟩:=H.out.rest hT2
  have hfl:(d.fail after kind).faults.length=d.faults.length+1:=by show (d.faults++ [_]).length= _;rw[List.length_append];rfl
  have hfc:fltCells (d.fail after kind).faults=fltCells d.faults++ [.int .i64 (d.later after), .int .i64 kind]:=fltCells_snoc _ _
  have hR:StepEnd w bd bm (.slice A d.faults.length c) fs (d.fail after kind) (.returned (.tuple #[])) (.returned (.tuple #[])) (w1.setCell ⟨bd,2,none⟩ (.slice B1 (d.faults.length+1) c1)):=by
   refine⟨rfl,hT2.mono fun k _ hk=>hk.elim .inl fun e=> .inr (.inr (.inl e)), .slice B1 (d.faults.length+1) c1,fs,⟨H.out.fls,hB1.set_ 2 _,r1, ?_,r2,H.out.apart⟩, ?_⟩
   ·rw[hfl,hfc]
    exact o1.far (p:=⟨bd,2,none⟩) (o1.ne_blk hB1 (by decide)) _
   ·rintro k (e | e | e | e)
    ·exact .inl (.inl e)
    ·exact .inl (.inr (.inl e))
    ·rcases b1 with h | h
     ·exact .inl (.inr (.inr (.inl (h.symm.trans e))))
     ·rw[e]at h
      injection h with h
      refine .inr ?_
      rw[h]
      show w.heap.size<=(w.alloc (.cells #[.int .i64 (d.later after), .int .i64 kind] 90)).heap.size
      rw[alloc_size]
      exact Nat.le_succ _
    ·exact .inl (.inr (.inr (.inr e)))
  have R:=zh hR
  clear hT1 hB1 hT2 r1 r2 hfl hfc hR o1 g1 b1 hne
  go_wp2_with fail
  go_end0
  exact R.out
theorem disk_fail{w:World}{S:Nat->Prop}{bd:Nat}{d:Dk}{K:Nat}(h:Disk w S bd d)(hs:d.small K)(hK:K<=1000000000){after:Int}(kind:Int)(ha:after<=9223372036854775807):
  Calls Tryz.prog 14 #[.pointer (some ⟨bd,0,none⟩), .int .i64 after, .int .i64 kind] w fun e w'=>e= .returned (.tuple #[])/\Touch S w w'/\Disk w' (more S w w') bd (d.fail after kind):=by
 obtain⟨bm,fv,fs,hd,h1,h2⟩:=h
 exact(fail_any w bd bm fv fs d after kind hd (by have:=hs.ops;omega) ha (by have:=hs.faults;omega)).mono fun e w' q=>q.disk h1 h2
theorem Tryz.info3:(Tryz.prog.info? 3).map (fun i=>(i.zero,i.size,i.bytes))=some (some (.int .i64 0),1,8):=by kernel_rfl
def intsV(l:List Int):List Value:=l.map fun x=> .int .i64 x
theorem intsV_one(l:List Int):∀u∈intsV l,u.oneCell'=true:=by
 intro u hu
 obtain⟨x,_,rfl⟩:=List.mem_map.1 hu
 rfl
theorem intsV_length(l:List Int):(intsV l).length=l.length:=by simp[intsV]
theorem intsV_get(l:List Int)(j:Nat):(intsV l)[j]? =(l[j]?).map fun x=> .int .i64 x:=by simp[intsV]
theorem int_new(w:World)(a:Int):Src Tryz.prog 1 22 (.slice (some ⟨w.heap.size,0,none⟩) 1 1) 1 [.int .i64 a] (w.alloc (.cells #[.int .i64 a] 3)):=by
 refine Src.ofSlice _ Tryz.underlying22 _ _ _ _ rfl (fun j u hu=> ?_) (by intro u hu;simp at hu;subst hu;rfl)
 have hb:=Blk.new w 3 #[.int .i64 a]
 rw[add_flat,Nat.zero_add,hb.cell j,<- hu]
 simp
theorem Own.ints{w:World}{A:Option Addr}{n c:Nat}{l:List Int}(h:Own w 3 1 (.slice A n c) n (intsV l)):IsInts w A n c l:=by
 obtain⟨A',c',hv,hle,hm,hA⟩:=h.form
 injection hv with e1 _ e3
 subst e1 e3
 have hl:l.length=n:=by have:=h.1;rw[intsV_length]at this;omega
 refine⟨hl,hle,hm,fun h0=> ?_⟩
 rcases hA with⟨_,h2,_⟩ | ⟨g,rfl⟩
 ·omega
 ·refine⟨g,0,rfl,fun j x hx=> ?_⟩
  have hj:j<n:=by have:=(List.getElem?_eq_some_iff.1 hx).1;omega
  have:=h.cell (j:=j) (by omega)
  rw[Nat.zero_add,this,intsV_get,hx]
  rfl
theorem fl_filter(fs:List FR)(n:Int):(fs.map FR.fl).filter (fun f=>decide (f.n≠n))=(fs.filter fun f=>decide (f.n≠n)).map FR.fl:=by
 rw[List.filter_map]
 rfl
theorem ent_filter(fs:List FR)(n:Int):(fs.map fun f=>(f.n,f.g)).filter (fun p=>decide (p.1≠n))=(fs.filter fun f=>decide (f.n≠n)).map fun f=>(f.n,f.g):=by
 rw[List.filter_map]
 rfl
theorem del_fin{w w1 w3:World}{bd bm:Nat}{fv fv1:Value}{fs:List FR}{d:Dk}{n:Int}(hd:DK w1 bd bm fv1 fs d.next)(ht:Touch (foot bd bm fv fs) w w1)(hf:∀k,foot bd bm fv1 fs k->foot bd bm fv fs k)(hw:d.why n=0)(him:IMap w3 bm ((fs.map fun f=>(f.n,f.g)).filter fun p=>decide (p.1≠n)))(ht3:Touch (fun k=>k=bm) w1 w3)(res:Ending):
  StepEnd w bd bm fv fs (d.delete n) res res w3:=by
 have hsub:∀f∈fs.filter (fun f=>decide (f.n≠n)),f∈fs:=fun f hf=>(List.mem_filter.1 hf).1
 have hdd:d.delete n={ d.next with fs:=d.fs.filter fun f=>decide (f.n≠n) }:=by unfold Dk.delete;rw[if_pos hw]
 have hT:Touch (foot bd bm fv fs) w w3:=ht.trans ht3 fun k _ e=>by subst e;exact .inr (.inl rfl)
 have hne:∀f∈fs,f.g≠bm/\f.v.ownBlock≠some bm:=fun f hf=>⟨fun e=>hd.map.ne_blk (hd.file f hf).blk e.symm,fun e=>hd.map.ne_own (hd.file f hf).row e⟩
 refine⟨rfl,hT,fv1,fs.filter fun f=>decide (f.n≠n),⟨?_, ?_, ?_, ?_, ?_, ?_⟩, ?_⟩
 ·rw[hdd]
  show d.fs.filter _= _
  rw[show d.fs=fs.map FR.fl from hd.fls]
  exact fl_filter fs n
 ·rw[hdd]
  exact hd.blk.touch ht3 fun e=>hd.map.ne_blk hd.blk e.symm
 ·rw[<- ent_filter]
  exact him
 ·rw[hdd]
  exact hd.flt.touch ht3 fun k hk e=>hd.map.ne_own hd.flt (by rw[hk,e])
 ·intro f hf'
  have hm:=hsub f hf'
  exact(hd.file f hm).heap (ht3.block _ (hd.file f hm).blk.lt (hne f hm).1) fun k hk=>ht3.block _ (Own.lt (hd.file f hm).row k hk) fun e=>(hne f hm).2 (by rw[hk,e])
 ·exact hd.apart.filter _
 ·rintro k (e | e | e | ⟨f,hf',e⟩)
  ·exact .inl (.inl e)
  ·exact .inl (.inr (.inl e))
  ·exact .inl (hf k (.inr (.inr (.inl e))))
  ·exact .inl (.inr (.inr (.inr ⟨f,hsub f hf',e⟩)))
theorem delete_any(w:World)(bd bm:Nat)(fv:Value)(fs:List FR)(d:Dk)(n:Int)(h:DK w bd bm fv fs d)(hn:(Lit.int .i64 n).wf=true)(ho:d.ops<=4611686018427387904)(hl:d.faults.length<=4611686018427387904):
  Calls Tryz.prog 116 #[.pointer (some ⟨bd,0,none⟩), .int .i64 n] w (StepEnd w bd bm fv fs (d.delete n) (.returned (.int .i64 (d.why n)))):=by
 have HB:=zh (begin_any w bd bm fv fs d n h ho hl)
 clear h
 go_enter Tryz.func116,Tryz.ntmps116
 go_wp2_with fail
 refine HB.out.mono ?_
 rintro e w1 ⟨he,ht1,fv1,hdk1,hown1⟩
 have hty:Touch (foot bd bm fv fs) w w1:=ht1.mono fun k _ hk=>hk.elim .inl fun e=> .inr (.inr (.inl e))
 have hfoot:=foot_begin (bd:=bd) (bm:=bm) (fs:=fs) hown1
 have hc0:w1.cell? ⟨bd,0,none⟩=some (.map (some bm)):=hdk1.blk.cell 0
 subst he
 by_cases hw:d.why n=0
 ·obtain⟨w3,hdel,him3,ht3⟩:=hdk1.map.del_all hn
  have HF:=zh (del_fin hdk1 hty (fun k hk=>hfoot k hk) hw him3 ht3 (.returned (.int .i64 0)))
  have HW:=zh hw
  rw[hw]
  clear hdk1 hty hfoot ht1 hown1 HB hw him3 ht3
  go_wp2_with fail
  go_ret
  rw[HW.out]
  exact HF.out
 ·have HF:=zh (show StepEnd w bd bm fv fs (d.delete n) (.returned (.int .i64 (d.why n))) (.returned (.int .i64 (d.why n))) w1 from⟨rfl,hty,fv1,fs,by unfold Dk.delete;rw[if_neg hw];exact hdk1,fun k hk=> .inl (hfoot k hk)⟩)
  generalize d.why n=y at*
  have hy:(y == 0)=false:=by simpa using hw
  clear hdk1 hty hfoot ht1 hown1 HB
  go_wp2_with fail
  go_ret
  exact HF.out
theorem disk_delete{w:World}{S:Nat->Prop}{bd:Nat}{d:Dk}{K:Nat}(h:Disk w S bd d)(hs:d.small K)(hK:K<=1000000000){n:Int}(hn:(Lit.int .i64 n).wf=true):
  Calls Tryz.prog 116 #[.pointer (some ⟨bd,0,none⟩), .int .i64 n] w fun e w'=>e= .returned (.int .i64 (d.why n))/\Touch S w w'/\Disk w' (more S w w') bd (d.delete n):=by
 obtain⟨bm,fv,fs,hd,h1,h2⟩:=h
 exact(delete_any w bd bm fv fs d n hd hn (by have:=hs.ops;omega) (by have:=hs.faults;omega)).mono fun e w' q=>q.disk h1 h2
theorem disk_files{w:World}{S:Nat->Prop}{bd:Nat}{d:Dk}{K:Nat}(h:Disk w S bd d)(hs:d.small K)(hK:K<=1000000000):
  Calls Tryz.prog 48 #[.pointer (some ⟨bd,0,none⟩)] w fun e w'=>Fresh w w'/\∃B c,e= .returned (.slice B d.fs.length c)/\Own w' 3 1 (.slice B d.fs.length c) d.fs.length (intsV (d.fs.map Fl.n))/\∀k,(Value.slice B d.fs.length c).ownBlock=some k->w.heap.size<=k:=by
 obtain⟨bm,fv,fs,hd,h1,h2⟩:=h
 obtain⟨r1,r2⟩:=hd.raws hs
 have hl:d.fs.length=fs.length:=by rw[hd.fls,List.length_map]
 have hm:d.fs.map Fl.n=fs.map FR.n:=by rw[hd.fls,List.map_map];rfl
 refine(files_any w bd bm fv fs d hd (by omega)).mono ?_
 rintro e w' ⟨v,rfl,hv,hf⟩
 rw[hl,hm]
 have ho:=Own.ofRow hv
 obtain⟨B,c,rfl,_,_,_⟩:=ho.form
 exact⟨hf,B,c,rfl,ho,fun k hk=>(World.ownsRow.lt hv k hk).1⟩
theorem delete_small{n:Int}{d:Dk}{K:Nat}(h:d.small K):(d.delete n).small (K+1):=by
 unfold Dk.delete
 split
 ·have h1:=next_small h
  exact⟨fun f hf=>h1.raw f (List.mem_filter.1 hf).1,Nat.le_trans (List.length_filter_le _ _) h1.many,h1.faults,h1.ops⟩
 ·exact next_small h
end Go.Proofs.YtjehlgblkfofpaaGreat