/- The claims' texts, several in one: Mem, Rs, Rb, Bna, Kv. Conditions stand with each theorem. -/
import Derived.Test.YtjehlgblkfofpaaGreatZa09
import Derived.Test.YtjehlgblkfofpaaGreatZa15
import Derived.Test.YtjehlgblkfofpaaGreatZa01
import Derived.Test.YtjehlgblkfofpaaGreatZa08
set_option maxHeartbeats 1000000
set_option maxRecDepth 20000
namespace Go.Proofs.YtjehlgblkfofpaaGreat
open Go.RowKit
theorem Tryz.info145:(Tryz.prog.info? 145).map (fun i=>(i.zero,i.size,i.bytes))=some (some (.agg #[.int .i64 0, .int .i64 0, .int .i64 0, .int .i64 0, .bool false, .int .i64 0, .int .i64 0, .int .i64 0]),8,64):=by kernel_rfl
theorem Tryz.info29:(Tryz.prog.info? 29).map (fun i=>(i.zero,i.size,i.bytes))=some (some (.slice none 0 0),1,24):=by kernel_rfl
def segC(s:Seg):List Value:= [.int .i64 (s.number:Int), .int .i64 (s.ahead:Int), .int .i64 (s.first:Int), .int .i64 (s.next:Int), .bool s.whole, .int .i64 (s.file:Int), .int .i64 (s.size:Int), .int .i64 (s.last:Int)]
theorem segC_len(s:Seg):(segC s).length=8:=rfl
def segsC(l:List Seg):List Value:=l.flatMap segC
theorem segsC_one(l:List Seg):∀u∈segsC l,u.oneCell'=true:=by
 intro u hu
 obtain⟨s,_,hs⟩:=List.mem_flatMap.1 hu
 simp only[segC,List.mem_cons,List.not_mem_nil,or_false]at hs
 rcases hs with rfl | rfl | rfl | rfl | rfl | rfl | rfl | rfl<;>rfl
theorem segsC_append(a b:List Seg):segsC (a++b)=segsC a++segsC b:=by simp[segsC]
theorem segsC_drop:∀(l:List Seg) (k:Nat),(segsC l).drop (k*8)=segsC (l.drop k)
 | _,0=>by simp[segsC]
 | [],k+1=>by simp[segsC]
 | a :: l,k+1=>by
  have ih:=segsC_drop l k
  unfold segsC at*
  rw[List.drop_succ_cons,List.flatMap_cons,show (k+1)*8=8+k*8 by omega,<- List.drop_drop,List.drop_left' (segC_len a),ih]
structure RecsOf(w:World)(R:Nat->Prop)(vs:List Value)(rows:List (List UInt8)):Prop where
 len:vs.length=rows.length
 at_:∀(i:Nat) (b:List UInt8),rows[i]? =some b->∃A c,vs[i]? =some (Value.slice A b.length c)/\Bs w A b.length c b/\∀a,A=some a->0<b.length->R a.block/\a.block<w.heap.size
 one:∀u∈vs,u.oneCell'=true
theorem RecsOf.touch{w w':World}{R S:Nat->Prop}{vs:List Value}{rows:List (List UInt8)}(h:RecsOf w R vs rows)(ht:Touch S w w')(hn:∀k,R k->¬S k):RecsOf w' R vs rows:=
 ⟨h.len,fun i b hb=>by
  obtain⟨A,c,h1,h2,h3⟩:=h.at_ i b hb
  exact⟨A,c,h1,h2.touch ht fun a ha h0=>hn _ (h3 a ha h0).1,fun a ha h0=>⟨(h3 a ha h0).1,Nat.lt_of_lt_of_le (h3 a ha h0).2 ht.size⟩⟩,h.one⟩
theorem nat_wf{n:Nat}(h:n<9223372036854775808):(Lit.int .i64 (n:Int)).wf=true:=by
 simp only[Lit.wf,Bool.and_eq_true,decide_eq_true_eq]
 have h1:IntKind.i64.min= -9223372036854775808:=rfl
 have h2:IntKind.i64.max=9223372036854775807:=rfl
 omega
theorem more_more{S:Nat->Prop}{w w1 w2:World}(h1:w.heap.size<=w1.heap.size)(h2:w1.heap.size<=w2.heap.size):more (more S w w1) w1 w2=more S w w2:=by
 funext k
 refine propext ⟨?_, ?_⟩
 ·rintro((h | h) | h)
  ·exact .inl h
  ·exact .inr ⟨h.1,by omega⟩
  ·exact .inr ⟨by omega,h.2⟩
 ·rintro(h | h)
  ·exact .inl (.inl h)
  ·by_cases hk:k<w1.heap.size
   ·exact .inl (.inr ⟨h.1,hk⟩)
   ·exact .inr ⟨by omega,h.2⟩
theorem Touch.then_{S:Nat->Prop}{w w1 w2:World}(h1:Touch S w w1)(h2:Touch (more S w w1) w1 w2):Touch S w w2:=
 h1.trans h2 fun k hk hm=>by
  rcases hm with hm | hm
  ·exact hm
  ·omega
def lfoot(bl:Nat)(sv rv:Value)(k:Nat):Prop:=k=bl\/sv.ownBlock=some k\/rv.ownBlock=some k
structure LM(w:World)(bl bd:Nat)(R:Nat->Prop)(l:Lg)(sv rv:Value)(vs:List Value):Prop where
 blk:Blk w bl 138 #[.pointer (some ⟨bd,0,none⟩), .int .i64 (l.base:Int),sv, .int .i64 (l.c.first:Int),rv, .bool l.failed, .bool l.dirty]
 segs:Ow w 145 8 sv l.segs.length (segsC l.segs)
 rows:Ow w 29 1 rv l.c.rows.length vs
 recs:RecsOf w R vs l.c.rows
section
variable {w w':World}{bl bd:Nat}{R:Nat->Prop}{l:Lg}{sv rv:Value}{vs:List Value}
theorem LM.touch{S:Nat->Prop}(h:LM w bl bd R l sv rv vs)(ht:Touch S w w')(hn:∀k,lfoot bl sv rv k\/R k->¬S k):LM w' bl bd R l sv rv vs:=
 ⟨h.blk.touch ht (hn bl (.inl (.inl rfl))),h.segs.touch ht fun k hk=>hn k (.inl (.inr (.inl hk))),h.rows.touch ht fun k hk=>hn k (.inl (.inr (.inr hk))),h.recs.touch ht fun k hk=>hn k (.inr hk)⟩
theorem LM.fresh(h:LM w bl bd R l sv rv vs)(ht:Fresh w w'):LM w' bl bd R l sv rv vs:=h.touch ht fun _ _=>id
theorem LM.lt(h:LM w bl bd R l sv rv vs):∀k,lfoot bl sv rv k->k<w.heap.size:=by
 rintro k (rfl | hk | hk)
 ·exact h.blk.lt
 ·exact h.segs.lt k hk
 ·exact h.rows.lt k hk
theorem first_any(h:LM w bl bd R l sv rv vs):Calls Tryz.prog 105 #[.pointer (some ⟨bl,0,none⟩)] w fun e w'=>e= .returned (.int .i64 (l.c.first:Int))/\w'=w:=by
 have c3:w.cell? ⟨bl,3,none⟩=some (.int .i64 (l.c.first:Int)):=h.blk.cell 3
 clear h
 go_enter Tryz.func105,Tryz.ntmps105
 go_wp2_with fail
 go_ret
 exact⟨rfl,rfl⟩
theorem next_any(h:LM w bl bd R l sv rv vs)(hb:l.c.next<=1000000000):Calls Tryz.prog 76 #[.pointer (some ⟨bl,0,none⟩)] w fun e w'=>e= .returned (.int .i64 (l.c.next:Int))/\∃q,w'=w.drewN q:=by
 have c3:∀q,(w.drewN q).cell? ⟨bl,3,none⟩=some (.int .i64 (l.c.first:Int)):=fun _=>h.blk.cell 3
 obtain⟨A,c,rfl,_⟩:=h.rows.form
 have c4:∀q,(w.drewN q).cell? ⟨bl,4,none⟩=some (.slice A l.c.rows.length c):=fun _=>h.blk.cell 4
 have HE:=zh (show (l.c.next:Int)=(l.c.first:Int)+(l.c.rows.length:Int) by unfold Ct.next;omega)
 have hwr:IntKind.i64.wrap ((l.c.first:Int)+(l.c.rows.length:Int))=(l.c.first:Int)+(l.c.rows.length:Int):=IntWalk.i64_in _ (by unfold Ct.next at hb;omega)
 clear h hb
 go_enter Tryz.func76,Tryz.ntmps76
 go_wp2_with fail
 go_quiet (fail)
 go_wp2_with fail
 go_ret
 exact⟨by rw[HE.out];rfl,_,rfl⟩
theorem lay_any{S:Nat->Prop}{d:Dk}{K:Nat}(h:LM w bl bd R l sv rv vs)(hD:Disk w S bd d)(hs:d.small K)(hK:K<=400000000)(hdis:∀k,lfoot bl sv rv k\/R k->¬S k){n:Nat}(hn:n<9223372036854775808){A:Option Addr}{m c:Nat}{xs:List UInt8}(hx:Bs w A m c xs)(hxb:∀a,A=some a->0<m->¬S a.block/\a.block<w.heap.size)(hm:xs.length<=400000000):
  Calls Tryz.prog 111 #[.pointer (some ⟨bl,0,none⟩), .int .i64 (n:Int), .slice A m c] w fun e w'=>e= .returned (.int .i64 (layP d n xs).2)/\Touch S w w'/\Disk w' (more S w w') bd (layP d n xs).1:=by
 have hnw:=nat_wf hn
 have c0:w.cell? ⟨bl,0,none⟩=some (.pointer (some ⟨bd,0,none⟩)):=h.blk.cell 0
 have KA:=zh (disk_append hD hs (by omega) hnw hx hxb (by omega))
 have HB:=zh h.blk
 have HS:=zh hs
 have HN:=zh (hdis bl (.inl (.inl rfl)))
 clear h hD hs hx hxb hdis
 have hwc:=whyN_cases (d:=d) (n:=(n:Int)) (by omega)
 unfold layP
 by_cases hw:d.why n=0
 ·rw[if_pos hw]
  rw[hw]at KA
  have KS:=zh (fun (w1:World) (h:Disk w1 (more S w w1) bd (d.append n xs))=>disk_sync h (append_small HS.out) (by omega) hnw)
  go_enter Tryz.func111,Tryz.ntmps111
  go_wp2_with fail
  refine KA.out.mono ?_
  rintro e w1 ⟨rfl,ht1,hd1⟩
  have c1:w1.cell? ⟨bl,0,none⟩=some (.pointer (some ⟨bd,0,none⟩)):=(HB.out.touch ht1 HN.out).cell 0
  have HT:=zh ht1
  have KS1:=zh (KS.out w1 hd1)
  clear ht1 hd1 KA KS c0
  go_wp2_with fail
  refine KS1.out.mono ?_
  rintro e w2 ⟨rfl,ht2,hd2⟩
  have HT2:=zh (HT.out.then_ ht2)
  rw[more_more HT.out.size ht2.size]at hd2
  have HD2:=zh hd2
  clear ht2 hd2 KS1
  go_wp2_with fail
  go_ret
  exact⟨rfl,HT2.out,HD2.out⟩
 ·rw[if_neg hw]
  generalize d.why n=y at*
  go_enter Tryz.func111,Tryz.ntmps111
  go_wp2_with fail
  refine KA.out.mono ?_
  rintro e w1 ⟨rfl,ht1,hd1⟩
  have HT:=zh ht1;have HD:=zh hd1
  clear ht1 hd1 KA c0
  go_wp2_with fail
  go_ret
  exact⟨rfl,HT.out,HD.out⟩
end
end Go.Proofs.YtjehlgblkfofpaaGreat
namespace Go.Proofs.YtjehlgblkfofpaaGreat
structure KS where
 fence:Int
 has:KL
 shot:Option KL
inductive KR where
 | ops (l:List Dec.Op)
 | fence (n:Int)
 | start
 | part (l:List Dec.Op)
 | fin (n:Int)
def KR.Is(b:List UInt8):KR->Prop
 | .ops l=>∃ys,Enc.ops l=some ys/\b=111 :: ys
 | .fence n=>∃ys,Enc.plain n=some ys/\b=102 :: ys
 | .start=>b= [98]
 | .part l=>∃ys,Enc.ops l=some ys/\b=112 :: ys
 | .fin n=>∃ys,Enc.plain n=some ys/\b=101 :: ys
def KS.new:KS:=⟨0, [],none⟩
def KS.step(s:KS):KR->KS
 | .ops l=>{ s with has:=kdo s.has l }
 | .fence n=>{ s with fence:=n }
 | .start=>{ s with shot:=some [] }
 | .part l=>{ s with shot:=s.shot.map fun x=>kdo x l }
 | .fin n=>⟨n,s.shot.getD [],some []⟩
def KR.ok(s:KS):KR->Prop
 | .part _=>s.shot≠none
 | .fin _=>s.shot≠none
 | _=>True
def Runs:KS->List (List UInt8)->KS->Prop
 | s, [],s'=>s'=s
 | s,b :: r,s'=>∃k:KR,k.Is b/\k.ok s/\Runs (s.step k) r s'
theorem Runs.append:∀{a b:List (List UInt8)} {s t u:KS},Runs s a t->Runs t b u->Runs s (a++b) u
 | [],_,_,_,_,h,h'=>by
  have e: _= _:=h
  subst e
  exact h'
 | _ :: _,_,_,_,_,⟨k,h1,h2,h3⟩,h'=>⟨k,h1,h2,h3.append h'⟩
theorem Runs.one{s:KS}{b:List UInt8}(k:KR)(h:k.Is b)(ho:k.ok s):Runs s [b] (s.step k):=⟨k,h,ho,rfl⟩
def opsOf(l:KL):List Dec.Op:=l.map fun x=>⟨x.1,x.2,false⟩
theorem kput_end{o:Dec.Op}(hg:o.g=false):∀{l:KL},(∀y∈l,y.1<o.k)->kput o l=l++ [(o.k,o.v)]
 | [],_=>by simp[kput,hg]
 | x :: r,h=>by
  have hx:=h x (List.mem_cons_self ..)
  unfold kput
  rw[if_neg (slt_ne hx),if_neg (slt_asymm hx),kput_end hg fun y hy=>h y (List.mem_cons_of_mem _ hy)]
  rfl
theorem kdo_opsOf:∀(l pre:KL),KSort (pre++l)->kdo pre (opsOf l)=pre++l
 | [],pre,_=>by simp[kdo,opsOf]
 | x :: r,pre,h=>by
  have h2:∀y∈pre,y.1<x.1:=fun y hy=>(List.pairwise_append.1 h).2.2 y hy x (List.mem_cons_self ..)
  have h3:=kdo_opsOf r (pre++ [x]) (by rw[List.append_assoc];exact h)
  rw[List.append_assoc]at h3
  have e:kdo pre (opsOf (x :: r))=kdo (kput ⟨x.1,x.2,false⟩ pre) (opsOf r):=rfl
  rw[e,kput_end rfl h2]
  exact h3
theorem Runs.snap{b1 b2 b3:List UInt8}{n:Int}{l:KL}(hs:KSort l)(h1:KR.Is b1 .start)(h2:KR.Is b2 (.part (opsOf l)))(h3:KR.Is b3 (.fin n))(s:KS):Runs s [b1,b2,b3] ⟨n,l,some []⟩:=by
 refine⟨_,h1,trivial,_,h2, ?_,_,h3, ?_, ?_⟩
 ·exact fun h=>by cases h
 ·exact fun h=>by cases h
 ·have e:=kdo_opsOf l [] (by simpa using hs)
  show (⟨n,l,some []⟩:KS)=⟨n,((some (kdo [] (opsOf l))).getD []),some []⟩
  rw[e]
  rfl
theorem cat_inv{a b:Enc.Enc}{ys:List UInt8}(h:Enc.cat a b=some ys):∃x y,a=some x/\b=some y/\ys=x++y:=by
 cases a with
 | none=>cases h
 | some x=>
  cases b with
  | none=>cases h
  | some y=>exact⟨x,y,rfl,rfl,by simpa [Enc.cat] using h.symm⟩
theorem number_some{n hi:Int}(h0:0<=n)(h:n<=hi)(hh:hi<=4503599627370496):∃b,Enc.number n 0 hi=some b/\b.length<=8:=by
 have e:Enc.number n 0 hi=some (Enc.numB n.toNat):=by unfold Enc.number;rw[if_neg (by omega)]
 exact⟨_,e,Enc.number_size hh e⟩
theorem number_len{n lo hi:Int}{b:List UInt8}(h:Enc.number n lo hi=some b):1<=b.length:=by
 unfold Enc.number at h
 split at h
 ·cases h
 ·injection h with h
  rw[<- h,Enc.numB_length]
  omega
theorem text_len{s ys:List UInt8}(h:Enc.text s=some ys):s.length+1<=ys.length:=by
 unfold Enc.text at h
 obtain⟨x,y,h1,h2,rfl⟩:=cat_inv h
 injection h2 with h2
 subst h2
 have:=number_len h1
 rw[List.length_append]
 omega
theorem text_some{s:List UInt8}(h:s.length<=1048576):∃ys,Enc.text s=some ys/\ys.length<=s.length+8:=by
 obtain⟨b,h1,h2⟩:=number_some (n:=(s.length:Int)) (hi:=1048576) (by omega) (by omega) (by omega)
 refine⟨b++s, ?_,by rw[List.length_append];omega⟩
 unfold Enc.text
 rw[h1,Enc.cat_some]
 rfl
theorem op_len{o:Dec.Op}{ys:List UInt8}(h:Enc.op o=some ys):o.k.length+o.v.length+1<=ys.length:=by
 unfold Enc.op at h
 obtain⟨x,y,h1,h2,rfl⟩:=cat_inv h
 obtain⟨x1,x2,h3,h4,rfl⟩:=cat_inv h1
 have h5:=text_len h3
 have h6:o.v.length<=y.length:=by
  split at h2
  ·split at h2
   ·rename_i e;rw[e];exact Nat.zero_le _
   ·cases h2
  ·have:=text_len h2;omega
 simp only[List.length_append]
 omega
theorem op_some{o:Dec.Op}(hk:o.k.length<=1048576)(hv:o.v.length<=1048576)(hg:o.g=true->o.v= []):∃ys,Enc.op o=some ys/\ys.length<=o.k.length+o.v.length+32:=by
 obtain⟨a,h1,h2⟩:=text_some hk
 obtain⟨b,h3,h4⟩:=text_some hv
 unfold Enc.op
 rw[h1]
 unfold Enc.flag
 cases hgg:o.g with
 | true=>
  rw[if_pos rfl,if_pos rfl,if_pos (hg hgg)]
  exact⟨_,rfl,by simp only[List.length_append,List.length_singleton,List.length_nil];omega⟩
 | false=>
  rw[if_neg (by simp),if_neg (by simp),h3]
  exact⟨_,rfl,by simp only[List.length_append,List.length_singleton];omega⟩
def opwt(l:List Dec.Op):Nat:=opsum l+32*l.length
theorem opwt_cons(o:Dec.Op)(l:List Dec.Op):opwt (o :: l)=o.k.length+o.v.length+32+opwt l:=by
 unfold opwt opsum
 rw[List.map_cons,List.sum_cons,List.length_cons]
 omega
theorem ops_len:∀{l:List Dec.Op} {ys:List UInt8},Enc.catAll (l.map Enc.op)=some ys->opsum l+l.length<=ys.length/\∀x∈l,x.k.length<=ys.length/\x.v.length<=ys.length
 | [],ys,h=>by
  injection h with h
  subst h
  exact⟨Nat.le_refl _,by simp⟩
 | o :: r,ys,h=>by
  obtain⟨x,y,h1,h2,rfl⟩:=cat_inv h
  have h3:=op_len h1
  obtain⟨h4,h5⟩:=ops_len h2
  have e:opsum (o :: r)=o.k.length+o.v.length+opsum r:=by simp[opsum]
  rw[e,List.length_cons,List.length_append]
  refine⟨by omega,fun z hz=> ?_⟩
  rcases List.mem_cons.1 hz with rfl | hz
  ·omega
  ·have:=h5 z hz
   omega
theorem ops_some:∀{l:List Dec.Op},(∀x∈l,x.k.length<=1048576/\x.v.length<=1048576/\(x.g=true->x.v= []))->∃ys,Enc.catAll (l.map Enc.op)=some ys/\ys.length<=opwt l
 | [],_=>⟨[],rfl,Nat.zero_le _⟩
 | o :: r,h=>by
  obtain⟨h1,h2,h3⟩:=h o (List.mem_cons_self ..)
  obtain⟨a,h4,h5⟩:=op_some h1 h2 h3
  obtain⟨b,h6,h7⟩:=ops_some fun x hx=>h x (List.mem_cons_of_mem _ hx)
  refine⟨a++b, ?_,by rw[opwt_cons,List.length_append];omega⟩
  rw[List.map_cons]
  show Enc.cat (Enc.op o) (Enc.catAll (r.map Enc.op))= _
  rw[h4,h6,Enc.cat_some]
  rfl
theorem encops_some{l:List Dec.Op}(hl:l.length<=1000000)(h:∀x∈l,x.k.length<=1048576/\x.v.length<=1048576/\(x.g=true->x.v= [])):∃ys,Enc.ops l=some ys/\ys.length<=opwt l+8:=by
 obtain⟨a,h1,h2⟩:=number_some (n:=(l.length:Int)) (hi:=4503599627370496) (by omega) (by omega) (by omega)
 obtain⟨b,h3,h4⟩:=ops_some h
 refine⟨a++b, ?_,by rw[List.length_append];omega⟩
 unfold Enc.ops Enc.plain
 rw[h1,h3,Enc.cat_some]
 rfl
theorem encops_len{l:List Dec.Op}{ys:List UInt8}(h:Enc.ops l=some ys):opsum l+l.length<=ys.length/\∀x∈l,x.k.length<=ys.length/\x.v.length<=ys.length:=by
 unfold Enc.ops at h
 obtain⟨x,y,h1,h2,rfl⟩:=cat_inv h
 obtain⟨h3,h4⟩:=ops_len h2
 rw[List.length_append]
 exact⟨by omega,fun z hz=>by have:=h4 z hz;omega⟩
theorem encops_pos{l:List Dec.Op}{ys:List UInt8}(h:Enc.ops l=some ys):ys≠ []:=by
 unfold Enc.ops at h
 obtain⟨x,y,h1,h2,rfl⟩:=cat_inv h
 have:=number_len h1
 intro e
 rw[List.append_eq_nil_iff]at e
 rw[e.1]at this
 simp at this
theorem encplain_pos{n:Int}{ys:List UInt8}(h:Enc.plain n=some ys):ys≠ []:=by
 intro e
 rw[e]at h
 have:=number_len h
 simp at this
theorem wgt_eq:∀l:KL,wgt l=ksize l+32*l.length
 | []=>rfl
 | x :: r=>by
  have:=wgt_eq r
  have e:wgt (x :: r)=x.1.length+x.2.length+32+wgt r:=by simp[wgt]
  rw[e,ksize_cons,List.length_cons]
  omega
theorem wt_kdo{l:KL}(ops:List Dec.Op)(hs:KSort l):wgt (kdo l ops)<=wgt l+opwt ops:=by
 obtain⟨h1,h2⟩:=ksize_kdo ops hs
 rw[wgt_eq,wgt_eq]
 unfold opwt
 omega
theorem opwt_opsOf:∀l:KL,opwt (opsOf l)=wgt l
 | []=>rfl
 | x :: r=>by
  have:=opwt_opsOf r
  have e:wgt (x :: r)=x.1.length+x.2.length+32+wgt r:=by simp[wgt]
  have e2:opsOf (x :: r)=⟨x.1,x.2,false⟩ :: opsOf r:=rfl
  rw[e2,opwt_cons,e,this]
theorem wt_mem{l:KL}{x:List UInt8×List UInt8}(h:x∈l):x.1.length+x.2.length+32<=wgt l:=by
 induction l with
 | nil=>cases h
 | cons y r ih=>
  have e:wgt (y :: r)=y.1.length+y.2.length+32+wgt r:=by simp[wgt]
  rw[e]
  rcases List.mem_cons.1 h with rfl | h
  ·omega
  ·have:=ih h;omega
theorem encsnap_some{l:KL}(h:wgt l<=1000000):∃ys,Enc.ops (opsOf l)=some ys/\ys.length<=wgt l+8:=by
 have hl:(opsOf l).length<=1000000:=by
  have:=wgt_eq l
  simp only[opsOf,List.length_map]
  omega
 obtain⟨ys,h1,h2⟩:=encops_some hl (l:=opsOf l) fun x hx=>by
  obtain⟨y,hy,rfl⟩:=List.mem_map.1 hx
  have:=wt_mem hy
  exact⟨by dsimp only;omega,by dsimp only;omega,fun e=>by cases e⟩
 rw[opwt_opsOf]at h2
 exact⟨ys,h1,h2⟩
def tot(r:List (List UInt8)):Nat:=(r.map List.length).sum
theorem tot_cons(b:List UInt8)(r:List (List UInt8)):tot (b :: r)=b.length+tot r:=by simp[tot]
theorem tot_append(a b:List (List UInt8)):tot (a++b)=tot a+tot b:=by simp[tot]
theorem tot_take{r:List (List UInt8)}{j:Nat}{b:List UInt8}(h:r[j]? =some b):tot (r.take j)+b.length<=tot r:=by
 have h1:=(List.getElem?_eq_some_iff.1 h)
 have h2:=List.take_append_drop j r
 obtain⟨hlt,he⟩:=h1
 rw[List.drop_eq_getElem_cons hlt,he]at h2
 have h3:tot r=tot (r.take j)+(b.length+tot (r.drop (j+1))):=by
  conv=>lhs;rw[<- h2]
  rw[tot_append,tot_cons]
 omega
theorem tot_size(c:Ct):tot c.rows<=c.size:=by
 rw[Ct.size_eq]
 generalize c.rows=r
 induction r with
 | nil=>exact Nat.le_refl _
 | cons b r ih=>rw[tot_cons,List.map_cons,List.sum_cons];omega
def Held_(B:Nat)(s:KS):Prop:=(s.has.length<=B/\ksize s.has<=B)/\∀x,s.shot=some x->x.length<=B/\ksize x<=B
theorem KR.Is.len{b:List UInt8}{l:List Dec.Op}(h:KR.Is b (.ops l)\/KR.Is b (.part l)):opsum l+l.length<=b.length/\∀x∈l,x.k.length<=b.length/\x.v.length<=b.length:=by
 rcases h with⟨ys,h1,rfl⟩ | ⟨ys,h1,rfl⟩
 all_goals
  obtain⟨h2,h3⟩:=encops_len h1
  rw[List.length_cons]
  exact⟨by omega,fun x hx=>by have:=h3 x hx;omega⟩
theorem Runs.held:∀{r:List (List UInt8)} {s s':KS} {B:Nat},Runs s r s'->KSort s.has->(∀x,s.shot=some x->KSort x)->Held_ B s->Held_ (B+tot r) s'
 | [],s,s',B,h,_,_,hh=>by
  have e:s'=s:=h
  rw[e];exact hh
 | b :: r,s,s',B,⟨k,hb,hok,h⟩,h1,h2,hh=>by
  obtain⟨⟨g1,g2⟩,g3⟩:=hh
  have key:KSort (s.step k).has/\(∀x,(s.step k).shot=some x->KSort x)/\Held_ (B+b.length) (s.step k):=by
   cases k with
   | ops l=>
    obtain⟨q1,_⟩:=KR.Is.len (.inl hb)
    obtain⟨q2,q3⟩:=ksize_kdo l h1
    refine⟨kdo_sort l h1,h2,⟨?_, ?_⟩,fun x hx=> ?_⟩
    ·show (kdo s.has l).length<= _;omega
    ·show ksize (kdo s.has l)<= _;omega
    ·have:=g3 x hx;omega
   | fence n=>exact⟨h1,h2,⟨show s.has.length<= _ by omega,show ksize s.has<= _ by omega⟩,fun x hx=>by have:=g3 x hx;omega⟩
   | start=>exact⟨h1,fun x hx=>by cases hx;exact List.Pairwise.nil,⟨show s.has.length<= _ by omega,show ksize s.has<= _ by omega⟩,fun x hx=>by cases hx;exact⟨Nat.zero_le _,Nat.zero_le _⟩⟩
   | part l=>
    obtain⟨q1,_⟩:=KR.Is.len (.inr hb)
    refine⟨h1,fun x hx=> ?_,⟨show s.has.length<= _ by omega,show ksize s.has<= _ by omega⟩,fun x hx=> ?_⟩
    ·have hx:s.shot.map (fun x=>kdo x l)=some x:=hx
     obtain⟨y,hy,rfl⟩:=Option.map_eq_some_iff.1 hx
     exact kdo_sort l (h2 y hy)
    ·have hx:s.shot.map (fun x=>kdo x l)=some x:=hx
     obtain⟨y,hy,rfl⟩:=Option.map_eq_some_iff.1 hx
     obtain⟨q2,q3⟩:=ksize_kdo l (h2 y hy)
     have:=g3 y hy
     omega
   | fin n=>
    have hs:KSort (s.shot.getD [])/\(s.shot.getD []).length<=B/\ksize (s.shot.getD [])<=B:=by
     cases hh:s.shot with
     | none=>exact⟨List.Pairwise.nil,Nat.zero_le _,Nat.zero_le _⟩
     | some x=>exact⟨h2 x hh,g3 x hh⟩
    exact⟨hs.1,fun x hx=>by cases hx;exact List.Pairwise.nil,⟨show (s.shot.getD []).length<= _ by omega,show ksize (s.shot.getD [])<= _ by omega⟩,fun x hx=>by cases hx;exact⟨Nat.zero_le _,Nat.zero_le _⟩⟩
  have:=h.held key.1 key.2.1 key.2.2
  rw[tot_cons,<- Nat.add_assoc]
  exact this
theorem Runs.lim{rows:List (List UInt8)}{j:Nat}{s:KS}{b:List UInt8}{l:List Dec.Op}(h:Runs KS.new (rows.take j) s)(hb:rows[j]? =some b)(ht:tot rows<=300000000)(hbl:b.length<=1000000):
  (KR.Is b (.ops l)->(∀x∈l,x.k.length<=1000000/\x.v.length<=1000000)/\s.has.length+l.length<=400000000/\ksize s.has+opsum l<=1000000000)/\
  (KR.Is b (.part l)->∀sh,s.shot=some sh->(∀x∈l,x.k.length<=1000000/\x.v.length<=1000000)/\sh.length+l.length<=400000000/\ksize sh+opsum l<=1000000000):=by
 have h1:=h.held (B:=0) (s:=KS.new) (by simp[KS.new,KSort]) (fun x hx=>by cases hx) ⟨⟨Nat.le_refl _,Nat.le_refl _⟩,fun x hx=>by cases hx⟩
 have h2:=tot_take hb
 obtain⟨⟨g1,g2⟩,g3⟩:=h1
 refine⟨fun hi=> ?_,fun hi sh hsh=> ?_⟩
 ·obtain⟨q1,q2⟩:=KR.Is.len (.inl hi)
  exact⟨fun x hx=>by have:=q2 x hx;omega,by omega,by omega⟩
 ·obtain⟨q1,q2⟩:=KR.Is.len (.inr hi)
  have:=g3 sh hsh
  exact⟨fun x hx=>by have:=q2 x hx;omega,by omega,by omega⟩
section
variable {p:PS}{i T:Nat}
theorem hindered_mono{lo hi lo' hi':Nat}(h:hindered p lo hi=true)(h1:lo'<=lo)(h2:hi<=hi'):hindered p lo' hi'=true:=by
 unfold hindered at h ⊢
 rw[Bool.or_eq_true,Bool.and_eq_true,List.any_eq_true]at h ⊢
 rcases h with⟨s,hs,hq⟩ | ⟨hq1,hq2⟩
 ·rw[Bool.and_eq_true]at hq
  have q1:=of_decide_eq_true hq.1
  have q2:=of_decide_eq_true hq.2
  exact .inl ⟨s,hs,by rw[Bool.and_eq_true];exact⟨decide_eq_true (by omega),decide_eq_true (by omega)⟩⟩
 ·have q1:=of_decide_eq_true hq1
  have q2:=of_decide_eq_true hq2
  exact .inr ⟨decide_eq_true q1,decide_eq_true (by omega)⟩
def PS.app(p:PS)(b:List UInt8):PS:=
 if (appendP p.d p.l b).2.2.2=0 then { p with d:=(appendP p.d p.l b).1,l:=(appendP p.d p.l b).2.1,c:=p.c.add b,maybe:= [],cuts:= [] }
 else { p with d:=(appendP p.d p.l b).1,l:=(appendP p.d p.l b).2.1,maybe:=p.maybe++ [p.c.add b] }
theorem PInv.app(h:PInv p i T)(hi:i<=900)(hT:T<=300000000){b:List UInt8}(hb:b.length<=260000):
  PInv (p.app b) (i+1) (T+b.length+25)/\((appendP p.d p.l b).2.2.2≠0->((appendP p.d p.l b).2.2.2=3\/(appendP p.d p.l b).2.2.2=4)/\hindered p p.d.ops (p.app b).d.ops=true)/\
   p.d.ops<=(p.app b).d.ops/\(p.app b).l.base=p.l.base/\(p.app b).d=(appendP p.d p.l b).1/\(p.app b).l=(appendP p.d p.l b).2.1/\(p.app b).struck=p.struck/\(p.app b).stop=p.stop:=by
 obtain⟨h1,h2,h3,h4⟩:=h.append (by omega) hT hb
 unfold PS.app
 by_cases he:(appendP p.d p.l b).2.2.2=0
 ·rw[if_pos he]
  exact⟨(h1 he).1,fun hn=>absurd he hn,h3,h4,rfl,rfl,rfl,rfl⟩
 ·obtain⟨q1,_,_,q4,q5⟩:=h2 he
  rw[if_neg he]
  exact⟨q1,fun _=>⟨q4,q5⟩,h3,h4,rfl,rfl,rfl,rfl⟩
def PS.cutS(p:PS)(n:Nat):PS:=
 if (cutP p.d p.l n).2.2=0 then { p with d:=(cutP p.d p.l n).1,l:=(cutP p.d p.l n).2.1,c:=p.c.cut n,maybe:= [],cuts:= [] }
 else { p with d:=(cutP p.d p.l n).1,l:=(cutP p.d p.l n).2.1,cuts:=p.cuts++ [n] }
theorem PInv.cutS(h:PInv p i T)(hi:i<=900)(hT:T<=300000000){n:Nat}(hn:p.c.first<n)(hn2:n<=p.c.next)(hcs:(p.c.cut n).size<=299000):
  PInv (p.cutS n) (i+1) T/\((cutP p.d p.l n).2.2≠0->((cutP p.d p.l n).2.2=3\/(cutP p.d p.l n).2.2=4)/\hindered p p.d.ops (p.cutS n).d.ops=true)/\
   p.d.ops<=(p.cutS n).d.ops/\(p.cutS n).l.base=p.l.base/\(p.cutS n).d=(cutP p.d p.l n).1/\(p.cutS n).l=(cutP p.d p.l n).2.1/\(p.cutS n).struck=p.struck/\(p.cutS n).stop=p.stop:=by
 have e:(min (n:Int) p.c.next).toNat=n:=by omega
 obtain⟨_,h2⟩:=h.cut hi hT (before:=(n:Int)) (by rw[e];exact hcs)
 obtain⟨g1,g2,g3,g4⟩:=h2 (by omega)
 rw[e]at g1 g2
 unfold PS.cutS
 by_cases he:(cutP p.d p.l n).2.2=0
 ·rw[if_pos he]
  exact⟨(g1 he).1,fun hx=>absurd he hx,g3,g4,rfl,rfl,rfl,rfl⟩
 ·obtain⟨q1,_,q3,q4⟩:=g2 he
  rw[if_neg he]
  exact⟨q1,fun _=>⟨q3,q4⟩,g3,g4,rfl,rfl,rfl,rfl⟩
def PS.crashS(p:PS)(cuts:List Int):PS:={ d:=p.d.crash cuts,l:=openP (p.d.crash cuts).fs p.l.base,c:=(openP (p.d.crash cuts).fs p.l.base).c,maybe:= [],cuts:= [],struck:= [],stop:= -1 }
def PS.openS(p:PS):PS:={ p with l:=openP p.d.fs p.l.base,c:=(openP p.d.fs p.l.base).c,maybe:= [],cuts:= [] }
theorem PInv.openS(h:PInv p i T)(hi:i<=900)(h1:p.maybe= [])(h2:p.cuts= []):PInv p.openS (i+1) T/\(openP p.d.fs p.l.base).c=p.c:=by
 obtain⟨q1,q2,_⟩:=h.reopen (by omega) h1 h2
 unfold PS.openS
 rw[q2]
 exact⟨q1,rfl⟩
end
theorem PInv.up{p:PS}{i T i' T':Nat}(h:PInv p i T)(hi:i<=i')(hT:T<=T'):PInv p i' T':=by
 obtain⟨ss,h1,h2⟩:=h.live
 have hl:=h.lens
 refine⟨⟨ss,h1,by omega⟩,h.c,Nat.le_trans h.files hi,Nat.le_trans h.segs hi,fun f hf=> ?_, ?_,Nat.le_trans h.flt hi,Nat.le_trans h.next hi,Nat.le_trans h.size hT,h.rows,fun x hx=> ?_,h.cuts,h.struck,h.near,h.stop,by omega⟩
 ·exact Nat.le_trans (h.raws f hf) (Nat.mul_le_mul_right _ hi)
 ·exact Nat.le_trans h.ops (Nat.mul_le_mul_right _ hi)
 ·obtain⟨a1,a2,a3,a4⟩:=h.maybe x hx
  exact⟨Nat.le_trans a1 hi,Nat.le_trans a2 hT,a3,a4⟩
theorem hindered_congr{p p':PS}{lo hi:Nat}(h1:p'.struck=p.struck)(h2:p'.stop=p.stop):hindered p' lo hi=hindered p lo hi:=by
 unfold hindered
 rw[h1,h2]
structure KP where
 p:PS
 f:Int
 has:KL
 maybe:List (Int×KL)
 broken:Bool
 cm:Nat
def Fok(f:Int):Prop:=0<=f/\f<=4503599627370496
def KP.May(q:KP)(s:KS):Prop:=(s.fence=q.f/\s.has=q.has)\/(s.fence,s.has)∈q.maybe
structure KInv(q:KP)(i n T:Nat)(P:KS->Prop):Prop where
 pv:PInv q.p i T
 base:q.p.l.base=0
 sort:KSort q.has
 f0:Fok q.f
 wt:wgt q.has<=n*4256
 run:∃s,Runs KS.new q.p.c.rows s/\s.fence=q.f/\s.has=q.has/\P s
 may:∀x,Al q.p x->∃s,Runs KS.new x.rows s/\q.May s
 mays:∀y∈q.maybe,KSort y.2/\Fok y.1/\wgt y.2<=n*4256
 mayf:∀y∈q.maybe,q.f<=y.1
 calm:q.broken=false->q.p.maybe= []/\q.p.cuts= []
 lens:q.cm<=i/\q.maybe.length<=i
def Any(_:KS):Prop:=True
section
variable {q:KP}{i n T:Nat}{P P':KS->Prop}
theorem KInv.weak(h:KInv q i n T P)(hP:∀s,P s->P' s):KInv q i n T P':=by
 obtain⟨s,h1,h2,h3,h4⟩:=h.run
 exact⟨h.pv,h.base,h.sort,h.f0,h.wt,⟨s,h1,h2,h3,hP s h4⟩,h.may,h.mays,h.mayf,h.calm,h.lens⟩
theorem KInv.up(h:KInv q i n T P){i' n' T':Nat}(hi:i<=i')(hn:n<=n')(hT:T<=T'):KInv q i' n' T' P:=by
 have hm:n*4256<=n'*4256:=Nat.mul_le_mul_right _ hn
 have hl:=h.lens
 exact⟨h.pv.up hi hT,h.base,h.sort,h.f0,Nat.le_trans h.wt hm,h.run,h.may,fun y hy=>by
  obtain⟨a,b,c⟩:=h.mays y hy
  exact⟨a,b,Nat.le_trans c hm⟩,h.mayf,h.calm,by omega⟩
theorem app_good{p:PS}{b:List UInt8}(he:(appendP p.d p.l b).2.2.2=0):(p.app b).c=p.c.add b/\(p.app b).maybe= []/\(p.app b).cuts= []:=by
 unfold PS.app
 rw[if_pos he]
 exact⟨rfl,rfl,rfl⟩
theorem app_bad{p:PS}{b:List UInt8}(he:(appendP p.d p.l b).2.2.2≠0):(p.app b).c=p.c/\(p.app b).maybe=p.maybe++ [p.c.add b]/\(p.app b).cuts=p.cuts:=by
 unfold PS.app
 rw[if_neg he]
 exact⟨rfl,rfl,rfl⟩
theorem al_nil{p:PS}{x:Ct}(h1:p.maybe= [])(h2:p.cuts= [])(h:Al p x):False:=by
 rcases h with h | ⟨m,h,_⟩
 ·rw[h1]at h;cases h
 ·rw[h2]at h;cases h
theorem al_bad{p:PS}{b:List UInt8}(he:(appendP p.d p.l b).2.2.2≠0){x:Ct}(h:Al (p.app b) x):Al p x\/x=p.c.add b:=by
 obtain⟨h1,h2,h3⟩:=app_bad he
 rcases h with h | ⟨m,h,e⟩
 ·rw[h2]at h
  rcases List.mem_append.1 h with h | h
  ·exact .inl (.inl h)
  ·exact .inr (List.mem_singleton.1 h)
 ·rw[h3]at h
  rw[h1]at e
  exact .inl (.inr ⟨m,h,e⟩)
theorem KInv.rec_(h:KInv q i n T P)(hi:i<=900)(hT:T<=50000000){b:List UInt8}(hb:b.length<=260000)(k:KR)(hk:k.Is b)(hok:∀s,P s->k.ok s)
  (hst:∀s,P s->s.fence=q.f->s.has=q.has->(s.step k).fence=q.f/\(s.step k).has=q.has/\P' (s.step k)):
  ((appendP q.p.d q.p.l b).2.2.2=0->KInv { q with p:=q.p.app b } (i+1) n (T+b.length+25) P')/\
  ((appendP q.p.d q.p.l b).2.2.2≠0->KInv { q with p:=q.p.app b,broken:=true } (i+1) n (T+b.length+25) P):=by
 obtain⟨g1,g2,g3,g4,_⟩:=h.pv.app (by omega) (by omega) hb
 obtain⟨s,r1,r2,r3,r4⟩:=h.run
 have hr:Runs KS.new (q.p.c.add b).rows (s.step k):=r1.append (Runs.one k hk (hok s r4))
 have hl:=h.lens
 obtain⟨u1,u2,u3⟩:=hst s r4 r2 r3
 refine⟨fun he=> ?_,fun he=> ?_⟩
 ·obtain⟨e1,e2,e3⟩:=app_good he
  refine⟨g1,g4.trans h.base,h.sort,h.f0,h.wt,⟨s.step k, ?_,u1,u2,u3⟩,fun x hx=>(al_nil e2 e3 hx).elim,h.mays,h.mayf,fun _=>⟨e2,e3⟩,by dsimp only;omega⟩
  dsimp only
  rw[e1]
  exact hr
 ·obtain⟨e1,e2,e3⟩:=app_bad he
  refine⟨g1,g4.trans h.base,h.sort,h.f0,h.wt,⟨s,by dsimp only;rw[e1];exact r1,r2,r3,r4⟩,fun x hx=> ?_,h.mays,h.mayf,fun e=>(by cases e),by dsimp only;omega⟩
  rcases al_bad he hx with hx | rfl
  ·exact h.may x hx
  ·exact⟨s.step k,hr, .inl ⟨u1,u2⟩⟩
def KP.call(q:KP)(b:List UInt8)(nx:Int×KL):KP:=
 if (appendP q.p.d q.p.l b).2.2.2=0 then ⟨q.p.app b,nx.1,nx.2, [],false,q.cm+1⟩ else ⟨q.p.app b,q.f,q.has,q.maybe++ [nx],true,q.cm⟩
theorem KP.call_p(q:KP)(b:List UInt8)(nx:Int×KL):(q.call b nx).p=q.p.app b:=by
 unfold KP.call
 split<;>rfl
theorem KInv.call(h:KInv q i n T P)(hi:i<=900)(hT:T<=50000000){b:List UInt8}(hb:b.length<=260000)(k:KR)(hk:k.Is b)(hok:∀s,k.ok s){nx:Int×KL}
  (hst:∀s:KS,s.fence=q.f->s.has=q.has->(s.step k).fence=nx.1/\(s.step k).has=nx.2) {n':Nat} (hn:n<=n') (hnx:KSort nx.2/\Fok nx.1/\wgt nx.2<=n'*4256) (hnf:q.f<=nx.1):
  KInv (q.call b nx) (i+1) n' (T+b.length+25) Any/\((appendP q.p.d q.p.l b).2.2.2≠0->((appendP q.p.d q.p.l b).2.2.2=3\/(appendP q.p.d q.p.l b).2.2.2=4)/\hindered q.p q.p.d.ops (q.call b nx).p.d.ops=true):=by
 obtain⟨g1,g2,g3,g4,_⟩:=h.pv.app (by omega) (by omega) hb
 obtain⟨s,r1,r2,r3,r4⟩:=h.run
 have hr:Runs KS.new (q.p.c.add b).rows (s.step k):=r1.append (Runs.one k hk (hok s))
 have hl:=h.lens
 have hm:n*4256<=n'*4256:=Nat.mul_le_mul_right _ hn
 obtain⟨u1,u2⟩:=hst s r2 r3
 refine⟨?_,fun he=>by rw[KP.call_p];exact g2 he⟩
 unfold KP.call
 by_cases he:(appendP q.p.d q.p.l b).2.2.2=0
 ·rw[if_pos he]
  obtain⟨e1,e2,e3⟩:=app_good he
  refine⟨g1,g4.trans h.base,hnx.1,hnx.2.1,hnx.2.2,⟨s.step k, ?_,u1,u2,trivial⟩,fun x hx=>(al_nil e2 e3 hx).elim,fun y hy=>(by cases hy),fun y hy=>(by cases hy),fun _=>⟨e2,e3⟩,by dsimp only;simp only[List.length_nil];omega⟩
  dsimp only
  rw[e1]
  exact hr
 ·rw[if_neg he]
  obtain⟨e1,e2,e3⟩:=app_bad he
  refine⟨g1,g4.trans h.base,h.sort,h.f0,Nat.le_trans h.wt hm,⟨s,by dsimp only;rw[e1];exact r1,r2,r3,trivial⟩,fun x hx=> ?_,fun y hy=> ?_,fun y hy=> ?_,fun e=>(by cases e),by dsimp only;rw[List.length_append,List.length_singleton];omega⟩
  ·rcases al_bad he hx with hx | rfl
   ·obtain⟨s',q1,q2⟩:=h.may x hx
    exact⟨s',q1,q2.imp id fun e=>List.mem_append_left _ e⟩
   ·exact⟨s.step k,hr, .inr (List.mem_append_right _ (by rw[u1,u2];simp))⟩
  ·rcases List.mem_append.1 hy with hy | hy
   ·obtain⟨a,b,c⟩:=h.mays y hy
    exact⟨a,b,Nat.le_trans c hm⟩
   ·rw[List.mem_singleton]at hy
    rw[hy]
    exact hnx
  ·rcases List.mem_append.1 hy with hy | hy
   ·exact h.mayf y hy
   ·rw[List.mem_singleton]at hy
    rw[hy]
    exact hnf
def KP.cpt(q:KP)(ys zs:List UInt8):KP×Int:=
 if q.p.c.first=q.p.c.next then (q,0)
 else if (appendP q.p.d q.p.l [98]).2.2.2≠0 then ({ q with p:=q.p.app [98],broken:=true },(appendP q.p.d q.p.l [98]).2.2.2)
 else if (appendP (q.p.app [98]).d (q.p.app [98]).l (112 :: ys)).2.2.2≠0 then ({ q with p:=(q.p.app [98]).app (112 :: ys),broken:=true },(appendP (q.p.app [98]).d (q.p.app [98]).l (112 :: ys)).2.2.2)
 else if (appendP ((q.p.app [98]).app (112 :: ys)).d ((q.p.app [98]).app (112 :: ys)).l (101 :: zs)).2.2.2≠0 then ({ q with p:=((q.p.app [98]).app (112 :: ys)).app (101 :: zs),broken:=true },(appendP ((q.p.app [98]).app (112 :: ys)).d ((q.p.app [98]).app (112 :: ys)).l (101 :: zs)).2.2.2)
 else ({ q with p:=(((q.p.app [98]).app (112 :: ys)).app (101 :: zs)).cutS q.p.c.next,broken:=q.broken || decide ((cutP (((q.p.app [98]).app (112 :: ys)).app (101 :: zs)).d (((q.p.app [98]).app (112 :: ys)).app (101 :: zs)).l (q.p.c.next:Int)).2.2≠0) },
  (cutP (((q.p.app [98]).app (112 :: ys)).app (101 :: zs)).d (((q.p.app [98]).app (112 :: ys)).app (101 :: zs)).l (q.p.c.next:Int)).2.2)
theorem KInv.cut_(h:KInv q i n T P)(hi:i<=900)(hT:T<=50000000){m:Nat}(hm:q.p.c.first<m)(hm2:m<=q.p.c.next)(hcs:(q.p.c.cut m).size<=299000)(hr:Runs KS.new (q.p.c.cut m).rows ⟨q.f,q.has,some []⟩):
  ((cutP q.p.d q.p.l (m:Int)).2.2=0->KInv { q with p:=q.p.cutS m } (i+1) n T Any)/\((cutP q.p.d q.p.l (m:Int)).2.2≠0->KInv { q with p:=q.p.cutS m,broken:=true } (i+1) n T Any)/\
   ((cutP q.p.d q.p.l (m:Int)).2.2≠0->((cutP q.p.d q.p.l (m:Int)).2.2=3\/(cutP q.p.d q.p.l (m:Int)).2.2=4)/\hindered q.p q.p.d.ops (q.p.cutS m).d.ops=true):=by
 obtain⟨g1,g2,g3,g4,_⟩:=h.pv.cutS (by omega) (by omega) hm hm2 hcs
 obtain⟨s,r1,r2,r3,r4⟩:=h.run
 have hl:=h.lens
 refine⟨fun he=> ?_,fun he=> ?_,g2⟩
 ·have e1:(q.p.cutS m).c=q.p.c.cut m/\(q.p.cutS m).maybe= []/\(q.p.cutS m).cuts= []:=by
   unfold PS.cutS
   rw[if_pos he]
   exact⟨rfl,rfl,rfl⟩
  refine⟨g1,g4.trans h.base,h.sort,h.f0,h.wt,⟨⟨q.f,q.has,some []⟩, ?_,rfl,rfl,trivial⟩,fun x hx=>(al_nil e1.2.1 e1.2.2 hx).elim,h.mays,h.mayf,fun _=>e1.2,by dsimp only;omega⟩
  dsimp only
  rw[e1.1]
  exact hr
 ·have e1:(q.p.cutS m).c=q.p.c/\(q.p.cutS m).maybe=q.p.maybe/\(q.p.cutS m).cuts=q.p.cuts++ [m]:=by
   unfold PS.cutS
   rw[if_neg he]
   exact⟨rfl,rfl,rfl⟩
  refine⟨g1,g4.trans h.base,h.sort,h.f0,h.wt,⟨s,by dsimp only;rw[e1.1];exact r1,r2,r3,trivial⟩,fun x hx=> ?_,h.mays,h.mayf,fun e=>(by cases e),by dsimp only;omega⟩
  rcases hx with hx | ⟨k,hk,e⟩
  ·exact h.may x (.inl (e1.2.1 ▸ hx))
  ·have hk:k∈(q.p.cutS m).cuts:=hk
   have e:x=(q.p.cutS m).c.cut k:=e
   rw[e1.2.2]at hk
   rw[e1.1]at e
   rcases List.mem_append.1 hk with hk | hk
   ·exact h.may x (.inr ⟨k,hk,e⟩)
   ·rw[List.mem_singleton]at hk
    rw[e,hk]
    exact⟨_,hr, .inl ⟨rfl,rfl⟩⟩
theorem app_more(h:KInv q i n T P)(hi:i<=900)(hT:T<=50000000){b:List UInt8}(hb:b.length<=260000):q.p.d.ops<=(q.p.app b).d.ops/\(q.p.app b).struck=q.p.struck/\(q.p.app b).stop=q.p.stop/\((appendP q.p.d q.p.l b).2.2.2≠0->((appendP q.p.d q.p.l b).2.2.2=3\/(appendP q.p.d q.p.l b).2.2.2=4)/\hindered q.p q.p.d.ops (q.p.app b).d.ops=true):=by
 obtain⟨g1,g2,g3,g4,g5,g6,g7,g8⟩:=h.pv.app (by omega) (by omega) hb
 exact⟨g3,g7,g8,g2⟩
theorem KInv.compact(h:KInv q i n T P)(hi:i<=896)(hT:T<=49000000)(hn:n<=61){ys zs:List UInt8}(hy:Enc.ops (opsOf q.has)=some ys)(hyl:ys.length<=wgt q.has+8)(hz:Enc.plain q.f=some zs)(hzl:zs.length<=8):
  KInv (q.cpt ys zs).1 (i+4) n (T+270000) Any/\((q.cpt ys zs).2≠0->((q.cpt ys zs).2=3\/(q.cpt ys zs).2=4)/\hindered q.p q.p.d.ops (q.cpt ys zs).1.p.d.ops=true):=by
 have hw:=h.wt
 have hwm:n*4256<=259616:=by omega
 unfold KP.cpt
 by_cases hid:q.p.c.first=q.p.c.next
 ·rw[if_pos hid]
  exact⟨(h.weak fun _ _=>trivial).up (by omega) (Nat.le_refl _) (by omega),fun e=>absurd rfl e⟩
 rw[if_neg hid]
 have l1:([98]:List UInt8).length<=260000:=by decide
 obtain⟨a1,a2⟩:=h.rec_ (by omega) (by omega) l1 .start (P':=fun s=>s.shot=some []) rfl (fun _ _=>trivial) (fun s _ e1 e2=>⟨e1,e2,rfl⟩)
 obtain⟨m1,m2,m3,m4⟩:=app_more h (by omega) (by omega) l1
 by_cases h1:(appendP q.p.d q.p.l [98]).2.2.2≠0
 ·rw[if_pos h1]
  exact⟨((a2 h1).weak fun _ _=>trivial).up (by omega) (Nat.le_refl _) (by simp only[List.length_cons,List.length_nil];omega),fun _=>m4 h1⟩
 rw[if_neg h1]
 have k1:=a1 (Decidable.not_not.1 h1)
 obtain⟨q1,hq1⟩:∃q1:KP,q1={ q with p:=q.p.app [98] }:=⟨_,rfl⟩
 have ep1:q.p.app [98]=q1.p:=by rw[hq1]
 have f1:q1.f=q.f/\q1.has=q.has/\q1.maybe=q.maybe/\q1.broken=q.broken/\q1.cm=q.cm:=by rw[hq1];exact⟨rfl,rfl,rfl,rfl,rfl⟩
 rw[<- hq1]at k1
 rw[ep1]at m1 m2 m3 m4 ⊢
 have c1:=(app_good (Decidable.not_not.1 h1)).1
 rw[ep1]at c1
 have T1:T+([98]:List UInt8).length+25=T+26:=by simp
 rw[T1]at k1
 have l2:(112 :: ys:List UInt8).length<=260000:=by rw[List.length_cons];omega
 obtain⟨b1,b2⟩:=k1.rec_ (by omega) (by omega) l2 (.part (opsOf q.has)) (P':=fun s=>s.shot=some q.has) ⟨ys,hy,rfl⟩ (fun s e=>by show s.shot≠none;rw[e];exact fun h=>by cases h)
  (fun s e e1 e2=>⟨e1,e2,by
   have:=kdo_opsOf q.has [] (by simpa using h.sort)
   show s.shot.map (fun x=>kdo x (opsOf q.has))= _
   rw[e]
   show some (kdo [] (opsOf q.has))= _
   rw[this]
   rfl⟩)
 obtain⟨m5,m6,m7,m8⟩:=app_more k1 (by omega) (by omega) l2
 by_cases h2:(appendP q1.p.d q1.p.l (112 :: ys)).2.2.2≠0
 ·rw[if_pos h2]
  obtain⟨n1,n2⟩:=m8 h2
  refine⟨?_,fun _=>⟨n1, ?_⟩⟩
  ·have:=((b2 h2).weak (P':=Any) fun _ _=>trivial).up (i':=i+4) (n':=n) (T':=T+270000) (by omega) (Nat.le_refl _) (by rw[List.length_cons];omega)
   rw[hq1]at this
   rw[hq1]
   exact this
  ·rw[hindered_congr m2 m3]at n2
   exact hindered_mono n2 m1 (Nat.le_refl _)
 rw[if_neg h2]
 have k2:=b1 (Decidable.not_not.1 h2)
 obtain⟨q2,hq2⟩:∃q2:KP,q2={ q1 with p:=q1.p.app (112 :: ys) }:=⟨_,rfl⟩
 have ep2:q1.p.app (112 :: ys)=q2.p:=by rw[hq2]
 have f2:q2.f=q.f/\q2.has=q.has/\q2.maybe=q.maybe/\q2.broken=q.broken/\q2.cm=q.cm:=by rw[hq2];exact f1
 rw[<- hq2]at k2
 rw[ep2]at m5 m6 m7 m8 ⊢
 have c2:=(app_good (Decidable.not_not.1 h2)).1
 rw[ep2,c1]at c2
 have l3:(101 :: zs:List UInt8).length<=260000:=by rw[List.length_cons];omega
 obtain⟨d1,d2⟩:=k2.rec_ (by omega) (by rw[List.length_cons];omega) l3 (.fin q.f) (P':=fun s=>True) ⟨zs,hz,rfl⟩ (fun s e=>by show s.shot≠none;rw[e];exact fun h=>by cases h)
  (fun s e e1 e2=>⟨f2.1.symm,by show s.shot.getD []= _;rw[e,f2.2.1];rfl,trivial⟩)
 obtain⟨m9,m10,m11,m12⟩:=app_more k2 (by omega) (by rw[List.length_cons];omega) l3
 by_cases h3:(appendP q2.p.d q2.p.l (101 :: zs)).2.2.2≠0
 ·rw[if_pos h3]
  obtain⟨n1,n2⟩:=m12 h3
  refine⟨?_,fun _=>⟨n1, ?_⟩⟩
  ·have:=((d2 h3).weak (P':=Any) fun _ _=>trivial).up (i':=i+4) (n':=n) (T':=T+270000) (by omega) (Nat.le_refl _) (by simp only[List.length_cons];omega)
   have e:({ q2 with p:=q2.p.app (101 :: zs),broken:=true }:KP)={ q with p:=q2.p.app (101 :: zs),broken:=true }:=by rw[hq2,hq1]
   rw[<- e]
   exact this
  ·rw[hindered_congr m6 m7,hindered_congr m2 m3]at n2
   exact hindered_mono n2 (by omega) (Nat.le_refl _)
 rw[if_neg h3]
 have k3:=d1 (Decidable.not_not.1 h3)
 obtain⟨q3,hq3⟩:∃q3:KP,q3={ q2 with p:=q2.p.app (101 :: zs) }:=⟨_,rfl⟩
 have ep3:q2.p.app (101 :: zs)=q3.p:=by rw[hq3]
 have f3:q3.f=q.f/\q3.has=q.has/\q3.maybe=q.maybe/\q3.broken=q.broken/\q3.cm=q.cm:=by rw[hq3];exact f2
 rw[<- hq3]at k3
 rw[ep3]at m9 m10 m11 m12 ⊢
 have c3:=(app_good (Decidable.not_not.1 h3)).1
 rw[ep3,c2]at c3
 have hrows:(q3.p.c.cut q.p.c.next).rows= [[98],112 :: ys,101 :: zs]/\q3.p.c.first<q.p.c.next/\q.p.c.next<=q3.p.c.next:=by
  rw[c3]
  have hne:q.p.c.first<q.p.c.next:=by
   have:q.p.c.next=q.p.c.first+q.p.c.rows.length:=rfl
   omega
  refine⟨?_,hne, ?_⟩
  ·unfold Ct.cut
   rw[if_pos (show (((q.p.c.add [98]).add (112 :: ys)).add (101 :: zs)).first<q.p.c.next from hne)]
   show (((q.p.c.rows++ [[98]])++ [112 :: ys])++ [101 :: zs]).drop (q.p.c.next-q.p.c.first)= _
   have e:q.p.c.next-q.p.c.first=q.p.c.rows.length:=by
    have:q.p.c.next=q.p.c.first+q.p.c.rows.length:=rfl
    omega
   rw[e,List.append_assoc,List.append_assoc,List.drop_left]
   rfl
  ·rw[Ct.next_add,Ct.next_add,Ct.next_add]
   omega
 have hsz:(q3.p.c.cut q.p.c.next).size<=299000:=by
  rw[Ct.size_eq,hrows.1]
  simp only[List.map_cons,List.map_nil,List.sum_cons,List.sum_nil,List.length_cons,List.length_nil]
  omega
 have hrun:Runs KS.new (q3.p.c.cut q.p.c.next).rows ⟨q3.f,q3.has,some []⟩:=by
  rw[hrows.1,f3.1,f3.2.1]
  exact Runs.snap h.sort rfl ⟨ys,hy,rfl⟩ ⟨zs,hz,rfl⟩ _
 obtain⟨x1,x2,x3⟩:=k3.cut_ (by omega) (by simp only[List.length_cons];omega) hrows.2.1 hrows.2.2 hsz hrun
 by_cases h4:(cutP q3.p.d q3.p.l (q.p.c.next:Int)).2.2=0
 ·have:=(x1 h4).up (i':=i+4) (n':=n) (T':=T+270000) (by omega) (Nat.le_refl _) (by simp only[List.length_cons];omega)
  have e:({ q3 with p:=q3.p.cutS q.p.c.next }:KP)={ q with p:=q3.p.cutS q.p.c.next }:=by rw[hq3,hq2,hq1]
  rw[e]at this
  refine⟨?_,fun e=>absurd h4 e⟩
  have hb:(q.broken || decide ((cutP q3.p.d q3.p.l (q.p.c.next:Int)).2.2≠0))=q.broken:=by
   rw[h4]
   simp
  dsimp only
  rw[hb]
  exact this
 ·have:=(x2 h4).up (i':=i+4) (n':=n) (T':=T+270000) (by omega) (Nat.le_refl _) (by simp only[List.length_cons];omega)
  have e:({ q3 with p:=q3.p.cutS q.p.c.next,broken:=true }:KP)={ q with p:=q3.p.cutS q.p.c.next,broken:=true }:=by rw[hq3,hq2,hq1]
  rw[e]at this
  have hb:(q.broken || decide ((cutP q3.p.d q3.p.l (q.p.c.next:Int)).2.2≠0))=true:=by
   rw[decide_eq_true h4]
   simp
  obtain⟨n1,n2⟩:=x3 h4
  refine⟨?_,fun _=>⟨n1, ?_⟩⟩
  ·dsimp only
   rw[hb]
   exact this
  ·rw[hindered_congr m10 m11,hindered_congr m6 m7,hindered_congr m2 m3]at n2
   exact hindered_mono n2 (by omega) (Nat.le_refl _)
theorem KInv.fail(h:KInv q i n T P)(hi:i<=900){m:Nat}{k:Int}(hm:m<15):KInv { q with p:={ q.p with d:=q.p.d.fail m k,struck:=q.p.struck++ [(q.p.d.ops:Int)+m] } } (i+1) n T P:=
 ⟨h.pv.fail hi hm,h.base,h.sort,h.f0,h.wt,h.run,h.may,h.mays,h.mayf,h.calm,by have:=h.lens;dsimp only;omega⟩
theorem KInv.halt(h:KInv q i n T P)(hi:i<=900){m:Nat}(hm:m<15):KInv { q with p:={ q.p with d:=q.p.d.halt m,stop:=(q.p.d.ops:Int)+m } } (i+1) n T P:=
 ⟨h.pv.halt hi hm,h.base,h.sort,h.f0,h.wt,h.run,h.may,h.mays,h.mayf,h.calm,by have:=h.lens;dsimp only;omega⟩
theorem openP_base(fs:List Fl)(b:Nat):(openP fs b).base=b:=rfl
theorem KInv.crash(h:KInv q i n T P)(hi:i<=900)(cuts:List Int):∃s,Runs KS.new (q.p.crashS cuts).c.rows s/\q.May s/\q.f<=s.fence/\KInv ⟨q.p.crashS cuts,s.fence,s.has, [],false,0⟩ (i+1) n T Any:=by
 obtain⟨g1,g2,g3⟩:=h.pv.crash hi cuts
 have hs:∃s,Runs KS.new (q.p.crashS cuts).c.rows s/\q.May s:=by
  rcases g2 with g2 | g2
  ·obtain⟨s,r1,r2,r3,_⟩:=h.run
   refine⟨s, ?_, .inl ⟨r2,r3⟩⟩
   have e:(q.p.crashS cuts).c=q.p.c:=g2
   rw[e]
   exact r1
  ·exact h.may _ g2
 obtain⟨s,r1,r2⟩:=hs
 have key:KSort s.has/\Fok s.fence/\wgt s.has<=n*4256:=by
  rcases r2 with⟨e1,e2⟩ | e
  ·rw[e1,e2];exact⟨h.sort,h.f0,h.wt⟩
  ·exact h.mays _ e
 have keyf:q.f<=s.fence:=by
  rcases r2 with⟨e1,_⟩ | e
  ·omega
  ·exact h.mayf _ e
 exact⟨s,r1,r2,keyf,g1,(openP_base _ _).trans h.base,key.1,key.2.1,key.2.2,⟨s,r1,rfl,rfl,trivial⟩,fun x hx=>(al_nil rfl rfl hx).elim,fun y hy=>(by cases hy),fun y hy=>(by cases hy),fun _=>⟨rfl,rfl⟩,by dsimp only;simp⟩
theorem KInv.reopen(h:KInv q i n T P)(hi:i<=900)(hb:q.broken=false):KInv ⟨q.p.openS,q.f,q.has, [],false,0⟩ (i+1) n T Any/\q.p.openS.c=q.p.c:=by
 obtain⟨c1,c2⟩:=h.calm hb
 obtain⟨g1,g2⟩:=h.pv.openS hi c1 c2
 obtain⟨s,r1,r2,r3,_⟩:=h.run
 have e:q.p.openS.c=q.p.c:=g2
 exact⟨⟨g1,(openP_base _ _).trans h.base,h.sort,h.f0,h.wt,⟨s,by dsimp only;rw[e];exact r1,r2,r3,trivial⟩,fun x hx=>(al_nil rfl rfl hx).elim,fun y hy=>(by cases hy),fun y hy=>(by cases hy),fun _=>⟨rfl,rfl⟩,by dsimp only;simp⟩,e⟩
end
def PS.new:PS:=⟨Dk.new,openP [] 0,⟨0, []⟩, [], [], [],-1⟩
theorem new_shape(A:Ct->Prop):Shape ([]:List Fl) 0 [] ⟨0, []⟩ A:=
 ⟨⟨List.Pairwise.nil,by simp⟩,by simp,trivial,rfl,List.nodup_nil,by simp,by simp,by simp,by simp,by simp⟩
theorem open_nil(base:Nat):openP [] base=⟨base, [],⟨0, []⟩,false,false⟩:=by
 unfold openP found lost tooMany
 simp[sortS,replayAll]
theorem PInv.new:PInv PS.new 1 0:=by
 unfold PS.new
 rw[open_nil]
 refine⟨⟨[],⟨new_shape _,trivial,fun _=>⟨by simp[Dk.new],by simp⟩⟩,Nat.zero_le _⟩,rfl,Nat.zero_le _,Nat.zero_le _,fun f hf=>(by cases hf),Nat.zero_le _,Nat.zero_le _,Nat.zero_le _,Nat.zero_le _,fun r hr=>(by cases hr),by simp,by simp,fun f hf=>(by cases hf),fun s hs=>(by cases hs),fun hs=>(by cases hs), ?_⟩
 simp
def KP.new:KP:=⟨PS.new,0, [], [],false,0⟩
theorem KInv.new:KInv KP.new 1 0 0 Any:=by
 have e:KP.new.p.c=⟨0, []⟩:=rfl
 refine⟨PInv.new, ?_,by simp[KP.new,KSort],by simp[KP.new,Fok],by show wgt []<= _;exact Nat.le_refl _,⟨KS.new,by rw[e];rfl,rfl,rfl,trivial⟩,fun x hx=>(al_nil rfl rfl hx).elim,fun y hy=>(by cases hy),fun y hy=>(by cases hy),fun _=>⟨rfl,rfl⟩,by simp[KP.new]⟩
 show (openP [] 0).base=0
 rw[open_nil]
end Go.Proofs.YtjehlgblkfofpaaGreat