/- The claims' texts, several in one: Ow. Conditions stand with each theorem. -/
import Derived.Test.YtjehlgblkfofpaaGreatZa26
import Derived.Test.YtjehlgblkfofpaaGreatZa29
import Derived.Test.YtjehlgblkfofpaaGreatZa11
import Derived.Test.YtjehlgblkfofpaaGreatZa08
import Derived.Test.YtjehlgblkfofpaaGreatZa16
import Derived.Test.YtjehlgblkfofpaaGreatZa22
import Derived.LoopIn
set_option maxHeartbeats 16000000
set_option maxRecDepth 200000
namespace Go.Proofs.YtjehlgblkfofpaaGreat
open Go.RowKit
attribute [local go_sem] Oper.semAt_some
def OpsGen(w:World)(ys:List UInt8)(e:Ending)(w':World):Prop:=
 ∃(Ao:Option Addr) (no co:Nat) (p q:Int),e= .returned (.tuple #[.slice Ao no co, .int .i64 p, .int .i64 q])/\Fresh w w'/\∀l,Dec.whole (Dec.ops ys 0) ys.length= .ok l->no=l.length/\VRow w' 31 3 (.slice Ao l.length co) l.length (opsV l)/\∀k,(Value.slice Ao l.length co).ownBlock=some k->w.heap.size<=k
theorem ops_gen{w:World}{A:Option Addr}{c:Nat}{ys:List UInt8}(hbs:Bs w A ys.length c ys)(hA:∀a,A=some a->0<ys.length->a.block<w.heap.size)(hn:ys.length<=100000000):Calls Tryz.prog 53 #[.slice A ys.length c] w (OpsGen w ys):=by
 refine(ops_read A ys.length c ys w hbs hA (by omega)).mono fun e w' h=> ?_
 rcases h.cases with⟨a,h1,h2,h3⟩ | ⟨l,A',c',h1,h2,h3,h4,h5⟩
 ·exact⟨none,0,0,_,_,h2,h3,fun l h=>by rw[h1]at h;cases h⟩
 ·refine⟨A',l.length,c',_,_,h2,h5,fun l' h=> ?_⟩
  rw[h1]at h
  injection h with h
  subst h
  exact⟨rfl,h3,h4⟩
def NumGen(w:World)(ys:List UInt8)(e:Ending)(w':World):Prop:=
 ∃v p q:Int,e= .returned (.tuple #[.int .i64 v, .int .i64 p, .int .i64 q])/\Fresh w w'/\∀n s,Dec.plain ys 0= .ok (n,s)->v=n
theorem num_gen{w:World}{A:Option Addr}{c:Nat}{ys:List UInt8}(hbs:Bs w A ys.length c ys)(hA:∀a,A=some a->0<ys.length->a.block<w.heap.size):Calls Tryz.prog 54 #[.slice A ys.length c] w (NumGen w ys):=by
 refine(readnum_any A ys.length c ys w hbs hA).mono fun e w' h=> ?_
 unfold NumEnd at h
 obtain⟨h1,h2⟩:=h
 cases hd:Dec.plain ys 0 with
 | error a=>
  rw[hd]at h2
  exact⟨_,_,_,h2,h1,fun n s h=>by rw[hd]at h;cases h⟩
 | ok p=>
  obtain⟨n,s⟩:=p
  rw[hd]at h2
  refine⟨_,_,_,h2,h1,fun n' s' h=> ?_⟩
  rw[hd]at h
  injection h with h
  injection h
theorem bs_tail{V:World}{g cb:Nat}{x:UInt8}{ys:List UInt8}(h:Bs V (some ⟨g,0,none⟩) (ys.length+1) cb (x :: ys)):Bs V (some ⟨g,1,none⟩) ys.length (cb-1) ys:=by
 have:=h.drop_ (k:=1) (by omega)
 simpa using this
def KoEnd(w:World)(bd:Nat)(S:Nat->Prop)(d:Dk)(st:KS)(e:Ending)(w':World):Prop:=
 ∃(w1 w4:World) (sb bl m0:Nat) (R:Nat->Prop) (sv rv:Value) (vs:List Value),e= .returned (.tuple #[.pointer (some ⟨sb,0,none⟩), .int .i64 0])/\Touch S w w1/\Fresh w1 w4/\LD w1 bl bd S R (openP d.fs 0) d sv rv vs/\
  (∀k,lfoot bl sv rv k\/R k->w.heap.size<=k)/\(w1.heap.size<=sb/\sb+4<=w4.heap.size/\w1.heap.size<=m0/\m0<sb)/\OI w4 sb (sb+1) (sb+2) bl m0 st w'
section
variable {w:World}{bd K:Nat}{S:Nat->Prop}{d:Dk}
theorem kopen_any(hD:Disk w S bd d)(hs:d.small K)(hK:K<=300000000)(hfl:d.fs.length<=1000000){ss:List AS}{c:Ct}{A:Ct->Prop}(h:Shape d.fs 0 ss c A)(hnx:(openP d.fs 0).c.next<=1000000000)(hrl:∀b∈(openP d.fs 0).c.rows,b.length<=1000000)(htot:tot (openP d.fs 0).c.rows<=300000000){st:KS}(hruns:Runs KS.new (openP d.fs 0).c.rows st)(Q:Ending->World->Prop)
  (hQ:∀e w',KoEnd w bd S d st e w'->Q e w'):
  Calls Tryz.prog 17 #[.pointer (some ⟨bd,0,none⟩), .int .i64 0] w Q:=by
 have KO:=zh (show Calls Tryz.prog 50 #[.pointer (some ⟨bd,0,none⟩), .int .i64 0] w (OpenEnd w bd S d 0) from by
  have:=lopen_shape (n:=0) hD hs hK hfl (by omega) (by simpa using h)
  simpa using this)
 clear hD hs hfl h
 refine(callsIn_wide (n:=3)).1 ?_
 refine callsIn_of_wp_marks Tryz.func17 rfl trivial ?_ rfl
 simp only[Tryz.ntmps17,List.size_toArray,List.length_cons,List.length_nil,Nat.reduceAdd,Nat.reduceSub,Array.replicate_succ,Array.replicate_zero,List.push_toArray,List.append_toArray,List.nil_append,List.cons_append]
 refine wpIn_wide.2 ?_
 go_wp2_with fail
 refine KO.out.mono ?_
 rintro e w1 ⟨t1,bl,R,sv,rv,vs,rfl,hL,hnew⟩
 have HL1:=zh hL.Rlt
 have HL:=zh hL;have HT:=zh t1;have HN:=zh hnew
 clear hL t1 hnew KO
 go_wp2_with fail
 refine(empty_any w1).mono ?_
 rintro e w2 ⟨f2,m0,hm0,hsm,rfl⟩
 have HF2:=zh f2;have HM0:=zh hm0;have HSM:=zh hsm
 clear f2 hm0 hsm
 go_wp2_with fail
 obtain⟨sb,hsb⟩:∃sb,w2.heap.size=sb:=⟨_,rfl⟩
 rw[hsb]
 obtain⟨w3,hw3⟩:∃w3,w3=((w2.alloc (.cells #[.pointer (some ⟨bl,0,none⟩), .int .i64 0, .slice none 0 0, .map (some m0), .int .i64 0, .int .i64 0] 96)).alloc (.cells #[.pointer (some ⟨sb,0,none⟩)] 33)).alloc (.cells #[.slice none 0 0, .map none, .int .i64 0] 94):=⟨_,rfl⟩
 have f3:Fresh w2 w3:=by rw[hw3];exact(((Touch.refl _ w2).alloc _).alloc _).alloc _
 have b1:Blk w3 sb 96 #[.pointer (some ⟨bl,0,none⟩), .int .i64 0, .slice none 0 0, .map (some m0), .int .i64 0, .int .i64 0]:=by
  rw[hw3,<- hsb];exact((Blk.new w2 _ _).alloc _).alloc _
 have b2:Blk w3 (sb+1) 33 #[.pointer (some ⟨sb,0,none⟩)]:=by
  have:=(Blk.new (w2.alloc (.cells #[.pointer (some ⟨bl,0,none⟩), .int .i64 0, .slice none 0 0, .map (some m0), .int .i64 0, .int .i64 0] 96)) 33 #[.pointer (some ⟨sb,0,none⟩)]).alloc (.cells #[.slice none 0 0, .map none, .int .i64 0] 94)
  rw[World.size_alloc,hsb]at this
  rw[hw3];exact this
 have b3:Blk w3 (sb+2) 94 #[.slice none 0 0, .map none, .int .i64 0]:=by
  have:=Blk.new ((w2.alloc (.cells #[.pointer (some ⟨bl,0,none⟩), .int .i64 0, .slice none 0 0, .map (some m0), .int .i64 0, .int .i64 0] 96)).alloc (.cells #[.pointer (some ⟨sb,0,none⟩)] 33)) 94 #[.slice none 0 0, .map none, .int .i64 0]
  rw[World.size_alloc,World.size_alloc,hsb]at this
  rw[hw3];exact this
 have z3:w3.heap.size=sb+3:=by rw[hw3,World.size_alloc,World.size_alloc,World.size_alloc,hsb]
 rw[<- hw3,show sb+1+1=sb+2 from rfl]
 refine(lall_any bl _).mono ?_
 rintro e w4 ⟨rfl,hw4⟩
 rw[z3]
 have f4:Fresh w3 w4:=by rw[hw4];exact(Touch.refl _ w3).alloc _
 have b4:Blk w4 (sb+3) 91 #[.pointer (some ⟨bl,0,none⟩)]:=by rw[hw4,<- z3];exact Blk.new w3 _ _
 have hsm0:=HSM.out.lt
 have f24:Fresh w2 w4:=f3.trans f4 fun _ _=>id
 have hcm:CM w4 sb 2 96 #[.pointer (some ⟨bl,0,none⟩), .int .i64 0, .slice none 0 0, .map (some m0), .int .i64 0, .int .i64 0] (.slice none 0 0) m0 []:=
  ⟨b1.touch f4 id,rfl,rfl,rfl,Own.nil_ _ _ _,HSM.out.touch f24 id,by simp[KSort],by decide⟩
 have HOI:=zh (OI.base hcm rfl rfl rfl rfl rfl (b2.touch f4 id) (b3.touch f4 id) rfl)
 have HF14:=zh (HF2.out.trans f24 fun _ _=>id)
 have HL4:=zh (HL.out.fresh HF14.out)
 have HB4:=zh b4
 have HZ:=zh (show w1.heap.size<=sb/\sb+4<=w4.heap.size/\w1.heap.size<=m0/\m0<sb from⟨by rw[<- hsb];exact HF2.out.size,by rw[hw4,World.size_alloc,z3];exact Nat.le_refl _,HM0.out,by omega⟩)
 clear hcm f3 f4 f24 b1 b2 b3 b4 hw3 hw4 z3 HSM HM0 hsm0 hsb HF2
 go_wp2_with fail
 refine wpIn_wide (n:=3).1 ?_
 refine range_fr (F:=Fence.wide) (n:=3) rfl (by decide) (gf:=89) (lb:= #[.pointer (some ⟨sb+3,0,none⟩)]) rfl trivial (enters_of Tryz.func89 (by kernel_rfl) rfl)
  (log_tolde OE (OE.ne (by decide)) 2 (sb+3) bl bd R (openP d.fs 0) sv rv vs (OS sb (sb+2) m0) w4 (by decide) HB4.out HL4.out.lm hnx (fun b hb=>Nat.le_trans (hrl b hb) (by omega))
   (fun k hk=>by have:=HZ.out;unfold OS at hk;omega) (fun k hk=>⟨fun e=>by have:=HL1.out k hk;have:=HN.out k (.inr hk);have:=HZ.out;unfold OS at e;omega,HL4.out.Rlt k hk⟩))
  (fun pre x V l o o' hok hl hc=>hok.put hl hc) (fun pre x V V1 hok hf=>hok.fresh hf)
  (fun x b V=>b={ tmps:= #[.pointer (some ⟨bd,0,none⟩), .int .i64 0,undef,undef, .pointer none, .int .i64 0, .pointer (some ⟨bl,0,none⟩), .int .i64 0, .pointer (some ⟨sb+1,0,none⟩), .pointer (some ⟨sb+2,0,none⟩),undef,x.2.2,undef,undef,undef,undef,undef,undef,undef,undef, .tuple #[.pointer (some ⟨bl,0,none⟩), .int .i64 0], .pointer (some ⟨bd,0,none⟩), .int .i64 0, .tuple #[.pointer (some ⟨bl,0,none⟩), .int .i64 0], .pointer (some ⟨bl,0,none⟩), .int .i64 0, .int .i64 0, .bool false,undef, .pointer (some ⟨bl,0,none⟩), .agg #[.slice none 0 0, .map (some m0), .int .i64 0], .agg #[.pointer (some ⟨bl,0,none⟩), .int .i64 0, .slice none 0 0, .map (some m0), .int .i64 0, .int .i64 0], .pointer (some ⟨sb,0,none⟩), .pointer (some ⟨bl,0,none⟩), .func (.func 89) #[] #[.pointer (some ⟨sb+3,0,none⟩)], .int .i64 (x.1:Int),x.2.2,undef,undef,undef,undef,undef,undef,undef,undef,undef,undef,undef,undef,undef,undef,undef,undef,undef,undef,undef,undef,undef,undef,undef,undef,undef,undef,undef,undef,undef,undef,undef,undef,undef,undef,undef,undef,undef,undef,undef,undef,undef,undef,undef,undef,undef,undef,undef,undef,undef,undef,undef,undef,undef,undef,undef,undef,undef],defers:= [] })
  (fun x b V l o o' h hl hc=>h)
  (fun h=>LKe.fresh h) (fun h1 h2=>h1.trans_ h2) (fun V l o o' _ hl hc _=>LKe.put V l o o' hl hc) (fun _=>rfl)
  (fun pre V=>∃st',Runs KS.new ((openP d.fs 0).c.rows.take pre.length) st'/\Runs st' ((openP d.fs 0).c.rows.drop pre.length) st/\OI w4 sb (sb+1) (sb+2) bl m0 st' V) (fun _ _=>False)
  (fun _ _ _ ⟨s,h1,h2,h3⟩ hf=>⟨s,h1,h2,h3.fresh hf⟩) (fun _ _ _ h _=>h) (fun _ _ _ _ r' ⟨s,h1,h2,h3⟩ hk hl=>⟨s,h1,h2,h3.loop r' hk hl⟩) (fun _ _ _ _ _ h _ _=>h)
  ⟨KS.new,rfl,by simpa using hruns,HOI.out⟩ ?assign ?body ?done ?stop
 case assign=>
  rintro l' pre ⟨i,b,v⟩ V K hok hK
  clear hok
  simp only[rcEnc,List.zip_toArray,List.size_toArray,List.zip_cons_cons,List.zip_nil_left]
  gi_wp2
  exact hK _ _ (Touch.refl _ V) rfl
 case body=>
  rintro l' pre ⟨i,b,v⟩ a₁ V ⟨st',hr1,hr2,hoi⟩ ⟨hi,hbk,hrow,hnew⟩ rfl hlt
  dsimp only at hi hbk hrow hnew
  have hdr:(openP d.fs 0).c.rows.drop pre.length=b :: (openP d.fs 0).c.rows.drop (pre.length+1):=by
   obtain⟨h1,h2⟩:=List.getElem?_eq_some_iff.1 hbk
   rw[List.drop_eq_getElem_cons h1,h2]
  rw[hdr]at hr2
  obtain⟨k,his,hok,hr3⟩:=hr2
  have htk:(openP d.fs 0).c.rows.take (pre.length+1)=(openP d.fs 0).c.rows.take pre.length++ [b]:=by
   rw[List.take_add_one,hbk];rfl
  have hr4:Runs KS.new ((openP d.fs 0).c.rows.take (pre.length+1)) (st'.step k):=by rw[htk];exact hr1.append (Runs.one k his hok)
  have HR1:=zh hr1;have HBK:=zh hbk
  have HR3:=zh hr3;have HR4:=zh hr4;have HOK:=zh hok
  obtain⟨x,ys,rfl⟩:∃x ys,b=x :: ys:=by
   cases k<;>first | exact⟨_,_,his⟩ | (obtain⟨ys,_,e⟩:=his;exact⟨_,ys,e⟩)
  have hblen:=hrl _ (List.mem_of_getElem? hbk)
  have HIS:=zh his;have HI:=zh hoi;have HROW:=zh hrow;have HNW:=zh hnew
  obtain⟨A,cb,rfl,hnc,hcm2,hA⟩:=hrow.form
  obtain⟨g,rfl⟩:∃g,A=some ⟨g,0,none⟩:=by
   exact hA (by simp)
  have hl1:(x :: ys).length=ys.length+1:=rfl
  have hne0:(((ys.length+1:Nat):Int) == 0)=false:=by
   rw[beq_eq_false_iff_ne];omega
  have hbs:=hrow.bs
  rw[hl1]at hbs hnc
  have HBS:=zh hbs
  unfold maxLen at hcm2
  clear hdr hr1 hr3 hr4 hok his htk hoi hrow hnew hbs hA hbk hlt hi
  rw[hl1]
  by_cases hcb:cb=1
  ·subst hcb
   obtain rfl:ys= []:=by
    cases ys with
    | nil=>rfl
    | cons a r=>simp only[List.length_cons]at hnc;omega
   have hks:k= .start:=by
    have hh:=HIS.out
    cases k with
    | ops l=>
     obtain⟨zs,h1,h2⟩:=hh
     injection h2 with _ h2
     exact absurd h2.symm (encops_pos h1)
    | fence n=>
     obtain⟨zs,h1,h2⟩:=hh
     injection h2 with _ h2
     exact absurd h2.symm (encplain_pos h1)
    | start=>rfl
    | part l=>
     obtain⟨zs,h1,h2⟩:=hh
     injection h2 with _ h2
     exact absurd h2.symm (encops_pos h1)
    | fin n=>
     obtain⟨zs,h1,h2⟩:=hh
     injection h2 with _ h2
     exact absurd h2.symm (encplain_pos h1)
   subst hks
   have hbe:∀W,Bs W (some ⟨g,0,none⟩) 0 0 []:=fun W=>⟨rfl,Nat.le_refl _,Nat.zero_le _,fun h=>by omega⟩
   have KRO:=zh (show CallsIn (Fence.wide.inRound l') 0 Tryz.prog 53 #[.slice (some ⟨g,0,none⟩) 0 0] V _ from(callsIn_wide (n:=0)).2 (ops_gen (ys:= []) (hbe V) (fun a _ h=>absurd h (Nat.lt_irrefl 0)) (Nat.zero_le _)))
   have KRN:=zh (fun W=>show CallsIn (Fence.wide.inRound l') 0 Tryz.prog 54 #[.slice (some ⟨g,0,none⟩) 0 0] W _ from(callsIn_wide (n:=0)).2 (num_gen (ys:= []) (hbe W) (fun a _ h=>absurd h (Nat.lt_irrefl 0))))
   simp only[List.length_nil,Nat.zero_add]at hne0 ⊢
   clear hbe
   gi_wp2
   refine⟨trivial,KRO.out.mono ?_⟩
   rintro e V1 ⟨Ao,no,co,p1,p2,rfl,hf1,_⟩
   have HF1:=zh hf1
   clear hf1 KRO
   gi_wp2
   refine⟨trivial,(KRN.out V1).mono ?_⟩
   rintro e V2 ⟨nv,p3,p4,rfl,hf2,_⟩
   have HF2:=zh (HF1.out.trans hf2 fun _ _=>id)
   have cx:V2.cell? ⟨g,0,none⟩=some (.int .u8 (x.toNat:Int)):=by
    obtain⟨b',o',e',hc⟩:=HBS.out.2.2.2 (by omega)
    injection e' with e'
    injection e' with e1 e2
    subst e1 e2
    exact HF2.out.cell (by simpa using hc 0 x rfl) id
   have HI2:=zh (HI.out.fresh HF2.out)
   have cb0:V2.cell? ⟨sb+1,0,none⟩=some (.pointer (some ⟨sb,0,none⟩)):=HI2.out.box.cell 0
   clear hf2 KRN hcm2
   have hh:=HIS.out
   injection hh with hx _
   subst hx
   have e98:((98:UInt8).toNat:Int)=98:=rfl
   rw[e98]at cx
   have KEM:=zh (show CallsIn (Fence.wide.inRound l') 0 Tryz.prog 51 #[] V2 _ from(callsIn_wide (n:=0)).2 (empty_any V2))
   gi_wp2
   refine⟨trivial,KEM.out.mono ?_⟩
   rintro e V3 ⟨hf3,m3,hm3,hsm3,rfl⟩
   obtain⟨hc3,hB3,hz3⟩:∃hc,Blk V3 (sb+2) 94 hc/\hc.size=3:=by
    obtain⟨cs,kv,mb,_,_,_,_,_,_,h7⟩:=HI2.out.ct
    obtain⟨hc,h8,h9⟩:=h7.blk
    exact⟨hc,h8.touch hf3 id,h9⟩
   have HQ:=zh (HI2.out.start hf3 hsm3 hm3)
   have HKL:=zh (show KeepsLoops V2 (set3 V3 (sb+2) 0 (.slice none 0 0) (.map (some m3)) (.int .i64 0)) from(KeepsLoops.fresh hf3).trans_ (.touch (set3_touch _ _ _ _ _ _) fun k o e hk=> .inl (by
     rw[e]at hk
     have:=hk.symm.trans hB3
     injection this with this
     rw[this];rfl)))
   have f0:V3.frozen? ⟨sb+2,0,none⟩=false:=hB3.frozen 0
   have f1:V3.frozen? ⟨sb+2,1,none⟩=false:=hB3.frozen 1
   have f2:V3.frozen? ⟨sb+2,2,none⟩=false:=hB3.frozen 2
   obtain⟨a0,a1,a2,rfl⟩:∃a0 a1 a2,hc3= #[a0,a1,a2]:=by
    rcases hc3 with⟨_ | ⟨a,_ | ⟨b,_ | ⟨c,_ | ⟨d,r⟩⟩⟩⟩⟩<;>simp at hz3
    exact⟨a,b,c,rfl⟩
   have k0:V3.cell? ⟨sb+2,0,none⟩=some a0:=hB3.cell 0
   have k1:V3.cell? ⟨sb+2,1,none⟩=some a1:=hB3.cell 1
   have k2:V3.cell? ⟨sb+2,2,none⟩=some a2:=hB3.cell 2
   clear hf3 hsm3 KEM hB3 hz3
   gi_wp2
   exact⟨(KeepsLoops.fresh HF2.out).trans_ HKL.out,(LKe.fresh HF2.out).trans_ HQ.out.2,_,by rw[List.length_append];exact HR4.out,by rw[List.length_append];exact HR3.out,HQ.out.1⟩
  ·have hcb2:1<cb:=by omega
   have hbt:=bs_tail HBS.out
   have hglt:g<V.heap.size:=HROW.out.lt g rfl
   have KRO:=zh (show CallsIn (Fence.wide.inRound l') 0 Tryz.prog 53 #[.slice (some ⟨g,1,none⟩) ys.length (cb-1)] V _ from(callsIn_wide (n:=0)).2 (ops_gen hbt (by rintro a e _;injection e with e;rw[<- e];exact hglt) (by rw[hl1]at hblen;omega)))
   have KRN:=zh (fun W (hW:Fresh V W)=>show CallsIn (Fence.wide.inRound l') 0 Tryz.prog 54 #[.slice (some ⟨g,1,none⟩) ys.length (cb-1)] W _ from(callsIn_wide (n:=0)).2 (num_gen (hbt.touch hW fun _ _ _=>id) (by rintro a e _;injection e with e;rw[<- e];exact Nat.lt_of_lt_of_le hglt hW.size)))
   clear hbt
   gi_wp2
   refine⟨trivial,KRO.out.mono ?_⟩
   rintro e V1 ⟨Ao,no,co,p1,p2,rfl,hf1,hops⟩
   have HF1:=zh hf1;have HOPS:=zh hops
   clear hf1 hops KRO
   gi_wp2
   refine⟨trivial,(KRN.out V1 HF1.out).mono ?_⟩
   rintro e V2 ⟨nv,p3,p4,rfl,hf2,hnum⟩
   have HF2:=zh (HF1.out.trans hf2 fun _ _=>id);have HNUM:=zh hnum;have HF12:=zh hf2
   have cx:V2.cell? ⟨g,0,none⟩=some (.int .u8 (x.toNat:Int)):=by
    obtain⟨b',o',e',hc⟩:=HBS.out.2.2.2 (by omega)
    injection e' with e'
    injection e' with e1 e2
    subst e1 e2
    exact HF2.out.cell (by simpa using hc 0 x rfl) id
   have HI2:=zh (HI.out.fresh HF2.out)
   have cb0:V2.cell? ⟨sb+1,0,none⟩=some (.pointer (some ⟨sb,0,none⟩)):=HI2.out.box.cell 0
   clear hf2 hnum KRN hcm2
   cases k with
   | ops l=>
    obtain⟨zs,hz1,hz2⟩:=HIS.out
    injection hz2 with hx hy
    subst hx hy
    obtain⟨hno,hvr,hno2⟩:=HOPS.out l (Plain.ops_whole l hz1)
    subst hno
    obtain⟨m1,m2,m3⟩:=(Runs.lim HR1.out HBK.out htot hblen).1 ⟨ys,hz1,rfl⟩
    have hvs:Vs V2 3 Ao l.length co (opsV l):=(hvr.touch HF12.out fun _ _=>id).rd
    have hlt1:=(Own.ofRow hvr).lt
    have KD:=zh (show CallsIn (Fence.wide.inRound l') 0 Tryz.prog 46 #[.pointer (some ⟨sb,0,none⟩), .slice Ao l.length co] V2 _ from(callsIn_wide (n:=0)).2 (HI.out.does HF2.out hvs (fun a ha h0=>by
     subst ha
     exact⟨hno2 a.block rfl,Nat.lt_of_lt_of_le (hlt1 a.block rfl) HF12.out.size⟩) m1 m2 m3))
    have e111:((111:UInt8).toNat:Int)=111:=rfl
    rw[e111]at cx
    clear hvs hvr hlt1 hno2 m1 m2 m3
    gi_wp2
    refine⟨trivial,KD.out.mono ?_⟩
    rintro e V3 ⟨rfl,q1,q2,q3⟩
    gi_wp2
    exact⟨q3,q2,_,by rw[List.length_append];exact HR4.out,by rw[List.length_append];exact HR3.out,q1⟩
   | fence n=>
    obtain⟨zs,hz1,hz2⟩:=HIS.out
    injection hz2 with hx hy
    subst hx hy
    have hnv:nv=n:=HNUM.out n _ (Plain.plain_enc (post:= []) (p:=0) hz1 (by simp))
    subst hnv
    have e111:((102:UInt8).toNat:Int)=102:=rfl
    rw[e111]at cx
    have hfr:V2.frozen? ⟨sb,1,none⟩=false:=by
     obtain⟨cs,kv,mb,h1,_⟩:=HI2.out.ct
     exact h1.blk.frozen 1
    have cs1:V2.cell? ⟨sb,1,none⟩=some (.int .i64 st'.fence):=by
     obtain⟨cs,kv,mb,h1,h2,h3,h4,_⟩:=HI2.out.ct
     exact(h1.blk.cell 1).trans h4
    have hq:=HI2.out.fenced nv
    have HQ:=zh hq
    have HKL:=zh (show KeepsLoops V2 (V2.setCell ⟨sb,1,none⟩ (.int .i64 nv)) from by
     obtain⟨cs,kv,mb,h1,_⟩:=HI2.out.ct
     exact .touch ((Touch.refl (fun k=>k=sb) V2).setCell (p:=⟨sb,1,none⟩) (.inr rfl) _) fun k o e hk=> .inl (by
      rw[e]at hk
      have:=hk.symm.trans h1.blk
      injection this with this
      rw[this];rfl))
    clear hq
    gi_wp2
    exact⟨(KeepsLoops.fresh HF2.out).trans_ HKL.out,(LKe.fresh HF2.out).trans_ HQ.out.2,_,by rw[List.length_append];exact HR4.out,by rw[List.length_append];exact HR3.out,HQ.out.1⟩
   | start=>
    have hh:=HIS.out
    injection hh with hx hy
    subst hx hy
    have e98:((98:UInt8).toNat:Int)=98:=rfl
    rw[e98]at cx
    have KEM:=zh (show CallsIn (Fence.wide.inRound l') 0 Tryz.prog 51 #[] V2 _ from(callsIn_wide (n:=0)).2 (empty_any V2))
    gi_wp2
    refine⟨trivial,KEM.out.mono ?_⟩
    rintro e V3 ⟨hf3,m3,hm3,hsm3,rfl⟩
    obtain⟨hc3,hB3,hz3⟩:∃hc,Blk V3 (sb+2) 94 hc/\hc.size=3:=by
     obtain⟨cs,kv,mb,_,_,_,_,_,_,h7⟩:=HI2.out.ct
     obtain⟨hc,h8,h9⟩:=h7.blk
     exact⟨hc,h8.touch hf3 id,h9⟩
    have HQ:=zh (HI2.out.start hf3 hsm3 hm3)
    have HKL:=zh (show KeepsLoops V2 (set3 V3 (sb+2) 0 (.slice none 0 0) (.map (some m3)) (.int .i64 0)) from(KeepsLoops.fresh hf3).trans_ (.touch (set3_touch _ _ _ _ _ _) fun k o e hk=> .inl (by
      rw[e]at hk
      have:=hk.symm.trans hB3
      injection this with this
      rw[this];rfl)))
    have f0:V3.frozen? ⟨sb+2,0,none⟩=false:=hB3.frozen 0
    have f1:V3.frozen? ⟨sb+2,1,none⟩=false:=hB3.frozen 1
    have f2:V3.frozen? ⟨sb+2,2,none⟩=false:=hB3.frozen 2
    obtain⟨a0,a1,a2,rfl⟩:∃a0 a1 a2,hc3= #[a0,a1,a2]:=by
     rcases hc3 with⟨_ | ⟨a,_ | ⟨b,_ | ⟨c,_ | ⟨d,r⟩⟩⟩⟩⟩<;>simp at hz3
     exact⟨a,b,c,rfl⟩
    have k0:V3.cell? ⟨sb+2,0,none⟩=some a0:=hB3.cell 0
    have k1:V3.cell? ⟨sb+2,1,none⟩=some a1:=hB3.cell 1
    have k2:V3.cell? ⟨sb+2,2,none⟩=some a2:=hB3.cell 2
    clear hf3 hsm3 KEM hB3 hz3
    gi_wp2
    exact⟨(KeepsLoops.fresh HF2.out).trans_ HKL.out,(LKe.fresh HF2.out).trans_ HQ.out.2,_,by rw[List.length_append];exact HR4.out,by rw[List.length_append];exact HR3.out,HQ.out.1⟩
   | part l=>
    obtain⟨zs,hz1,hz2⟩:=HIS.out
    injection hz2 with hx hy
    subst hx hy
    obtain⟨hno,hvr,hno2⟩:=HOPS.out l (Plain.ops_whole l hz1)
    subst hno
    obtain⟨sh,hsh⟩:∃sh,st'.shot=some sh:=Option.ne_none_iff_exists'.1 HOK.out
    obtain⟨m1,m2,m3⟩:=(Runs.lim HR1.out HBK.out htot hblen).2 ⟨ys,hz1,rfl⟩ sh hsh
    have hss:KSort sh:=by
     obtain⟨_,_,_,q1,_⟩:=HI2.out.part hsh
     exact q1.sort
    have HOW:=zh (Own.ofRow (hvr.touch HF12.out fun _ _=>id))
    have HM:=zh (And.intro m1 (And.intro m2 (And.intro m3 hss)))
    have e111:((112:UInt8).toNat:Int)=112:=rfl
    rw[e111]at cx
    have HST:=zh (show OI w4 sb (sb+1) (sb+2) bl m0 { st' with shot:=some (kdo sh (l.take 0)) } V2 by
     rw[List.take_zero]
     have e:({ st' with shot:=some (kdo sh []) }:KS)=st':=by cases st';dsimp only at hsh;rw[hsh];rfl
     rw[e]
     exact HI2.out)
    obtain⟨LN,hLN⟩:∃LN,LN=l.length:=⟨_,rfl⟩
    rw[<- hLN]at HOW HOPS ⊢
    have HLN:=zh hLN
    have hlm:LN<=400000000:=by omega
    have HFIN:=zh (show ({ st' with shot:=some (kdo sh l) }:KS)=st'.step (.part l) by
     show _=({ st' with shot:=st'.shot.map fun x=>kdo x l }:KS)
     rw[hsh]
     rfl)
    clear hvr hno2 m1 m2 m3 hsh hss hLN
    gi_wp2
    gi_loopw [75] (fun i W=>∃j:Nat,j<=LN/\i= .int .i64 (j:Int)/\OI w4 sb (sb+1) (sb+2) bl m0 { st' with shot:=some (kdo sh (l.take j)) } W/\LKe OE (OS sb (sb+2) m0) w4.heap.size V2 W/\KeepsLoops V2 W/\Own W 31 3 (.slice Ao LN co) LN (opsV l)) (fun i _=>LN-(intOf i).toNat)
    case atStart=>exact⟨0,Nat.zero_le _,rfl,HST.out,LKe.fresh (Touch.refl _ _),KeepsLoops.fresh (Touch.refl _ _),HOW.out⟩
    case round=>
     obtain⟨j,hj,rfl,ho,hk1,hk2,hw⟩:=hrel
     have HO:=zh ho;have HK1:=zh hk1;have HK2:=zh hk2;have HWO:=zh hw
     clear ho hk1 hk2 hw
     by_cases hlt:j<LN
     ·obtain⟨x,hx⟩:∃x,l[j]? =some x:=⟨_,List.getElem?_eq_getElem (by rw[<- HLN.out];exact hlt)⟩
      obtain⟨g2,rfl⟩:∃g2,Ao=some ⟨g2,0,none⟩:=by
       obtain⟨A',c',hv,_,_,hA'⟩:=HWO.out.form
       injection hv with e1 _ _
       rcases hA' with⟨_,h0,_⟩ | ⟨g2,h2⟩
       ·omega
       ·exact⟨g2,e1.trans h2⟩
      have k0:wr.cell? ⟨g2,j*3,none⟩=some (.string ⟨x.k.toArray⟩):=by rw[HWO.out.cell (j:=j*3) (by omega)];exact opsV_at hx 0 (by omega)
      have k1:wr.cell? ⟨g2,j*3+1,none⟩=some (.string ⟨x.v.toArray⟩):=by rw[HWO.out.cell (j:=j*3+1) (by omega)];exact opsV_at hx 1 (by omega)
      have k2:wr.cell? ⟨g2,j*3+2,none⟩=some (.bool x.g):=by rw[HWO.out.cell (j:=j*3+2) (by omega)];exact opsV_at hx 2 (by omega)
      have hts:l.take (j+1)=l.take j++ [x]:=by rw[List.take_add_one,hx];rfl
      have hxm:=HM.out.1 x (List.mem_of_getElem? hx)
      obtain⟨W1,hW1⟩:∃W1,W1=wr.alloc (.cells #[.string ⟨x.k.toArray⟩, .string ⟨x.v.toArray⟩, .bool x.g] 31):=⟨_,rfl⟩
      have hf1:Fresh wr W1:=by rw[hW1];exact(Touch.refl _ wr).alloc _
      have hb1:Blk W1 wr.heap.size 31 #[.string ⟨x.k.toArray⟩, .string ⟨x.v.toArray⟩, .bool x.g]:=by rw[hW1];exact Blk.new _ _ _
      have hkd:=ksize_kdo (l.take j) (l:=sh) HM.out.2.2.2
      have hos:=opsum_take l j
      have htl:(l.take j).length=j:=by rw[List.length_take,<- HLN.out];omega
      have KP:=zh (show CallsIn (Fence.wide.inRound l') 0 Tryz.prog 55 #[.pointer (some ⟨sb+2,0,none⟩),opA x] W1 fun e W'=>e= .returned (.tuple #[])/\
        OI w4 sb (sb+1) (sb+2) bl m0 { st' with shot:=some (kdo sh (l.take (j+1))) } W'/\LKe OE (OS sb (sb+2) m0) w4.heap.size V2 W'/\KeepsLoops V2 W'/\Own W' 31 3 (.slice (some ⟨g2,0,none⟩) LN co) LN (opsV l) from(callsIn_wide (n:=0)).2 (by
       obtain⟨hc,kv2,mb2,q1,q2⟩:=(HO.out.fresh hf1).part rfl
       refine(kput_any q1 x hxm.1 hxm.2 (by have:=HM.out.2.1;have:=HLN.out;omega) (by have:=HM.out.2.2.1;omega)).mono ?_
       rintro e W' ⟨rfl,hp⟩
       obtain⟨r1,r2⟩:=q2 _ W' hp
       have hown1:=HWO.out.touch hf1 fun _ _=>id
       obtain⟨cs',kv',p1,p2,p3,p4,p5⟩:=hp
       refine⟨rfl,by rw[hts,kdo_snoc];exact r1,(HK1.out.trans_ (LKe.fresh hf1)).trans_ r2,(HK2.out.trans_ (KeepsLoops.fresh hf1)).trans_ (q1.kl p2),hown1.touch p2 fun k hk e=> ?_⟩
       have ek:g2=k:=by simpa [Value.ownBlock] using hk
       obtain⟨cur,hg2,_⟩:=hown1.parts
       rcases e with e | e | e
       ·exact hown1.ne_blk q1.blk (by decide) (by rw[<- e];exact hk)
       ·exact(hown1.ow.ne_ow q1.keys.ow (by decide)) k hk e
       ·exact q1.map.ne_blk (g:=g2) (t:=31) hg2 (by rw[<- e,ek])))
      unfold opA at KP
      have y0:W1.cell? ⟨wr.heap.size,0,none⟩=some (.string ⟨x.k.toArray⟩):=hb1.cell 0
      have y1:W1.cell? ⟨wr.heap.size,1,none⟩=some (.string ⟨x.v.toArray⟩):=hb1.cell 1
      have y2:W1.cell? ⟨wr.heap.size,2,none⟩=some (.bool x.g):=hb1.cell 2
      have HW1:=zh hW1
      have hjd:decide ((j:Int)<(LN:Int))=true:=decide_eq_true (by omega)
      have hji:(j:Int)<(LN:Int):=by omega
      have hwk:IntKind.i64.wrap ((j:Int)+1)=(j:Int)+1:=IntWalk.i64_in _ (by omega)
      clear hts hxm hW1 hf1 hb1 hkd hos htl hx
      gi_upto_region 22 with fail
      rw[<- HW1.out]
      clear k0 k1 k2
      gi_wp2
      refine⟨trivial,KP.out.mono ?_⟩
      rintro e W5 ⟨rfl,q1,q2,q3,q4⟩
      have HE:=zh (And.intro q1 (And.intro q2 (And.intro q3 q4)))
      clear q1 q2 q3 q4 KP y0 y1 y2
      gi_wp2
      go_roundw
      case rel=>exact⟨j+1,by omega,by go_num,HE.out.1,HE.out.2.1,HE.out.2.2.1,HE.out.2.2.2⟩
      case measure=>simp[intOf]<;>omega
     ·obtain rfl:j=LN:=by omega
      have hq:=HO.out
      rw[HLN.out,List.take_length,HFIN.out]at hq
      have HQ:=zh hq
      clear hq
      gi_wp2
      exact⟨(KeepsLoops.fresh HF2.out).trans_ HK2.out,(LKe.fresh HF2.out).trans_ HK1.out,_,by rw[List.length_append];exact HR4.out,by rw[List.length_append];exact HR3.out,HQ.out⟩
   | fin n=>
    obtain⟨zs,hz1,hz2⟩:=HIS.out
    injection hz2 with hx hy
    subst hx hy
    have hnv:nv=n:=HNUM.out n _ (Plain.plain_enc (post:= []) (p:=0) hz1 (by simp))
    subst hnv
    have e111:((101:UInt8).toNat:Int)=101:=rfl
    rw[e111]at cx
    obtain⟨sh,hsh⟩:∃sh,st'.shot=some sh:=Option.ne_none_iff_exists'.1 HOK.out
    obtain⟨hc,kv2,mb2,q1,q2⟩:=HI2.out.fin nv hsh
    obtain⟨A2,c2,rfl,_,_,_⟩:=q1.keys.form
    have HCM:=zh q1;have HQ2:=zh (fun (W:World) (mb:Nat) (a:Fresh V2 W) (b:SMap W mb []) (c:V2.heap.size<=mb)=>q2 a b c)
    have HS0:=zh (show V2.drew.cell? ⟨sb+1,0,none⟩=some (.pointer (some ⟨sb,0,none⟩)) from cb0)
    have KEM:=zh (fun W=>empty_any W)
    have HFIN:=zh (show (⟨nv,sh,some []⟩:KS)=st'.step (.fin nv) by
     show _=(⟨nv,st'.shot.getD [],some []⟩:KS)
     rw[hsh]
     rfl)
    clear hsh q1 q2
    gi_wp2
    refine region_held_round (fun W=>W.cell? ⟨sb+1,0,none⟩=some (.pointer (some ⟨sb,0,none⟩))) l' (by rintro⟨_,_,h⟩;exact h) (by simp) (by kernel_rfl) HS0.out (fun hS=> ?_)
    refine take_l (i:=0) (v:= ?_) rfl (by kernel_rfl) (by kernel_rfl) (by kernel_rfl) (fun _ _ _ h=>h) (Or.inl ⟨by rfl, ?_⟩) HS0.out ?_
    rotate_left
    ·intro W hW
     go_simp
     all_goals with_reducible rfl
    try simp only[Act.put,List.setIfInBounds_toArray,List.set_cons_zero,List.set_cons_succ]
    refine take_l (i:=1) (v:= ?_) rfl (by kernel_rfl) (by kernel_rfl) (by kernel_rfl) (fun _ _ _ h=>h) (Or.inl ⟨by rfl, ?_⟩) HS0.out ?_
    rotate_left
    ·intro W hW
     go_simp
     all_goals with_reducible rfl
    try simp only[Act.put,List.setIfInBounds_toArray,List.set_cons_zero,List.set_cons_succ]
    refine take_l (i:=2) (v:= ?_) rfl (by kernel_rfl) (by kernel_rfl) (by kernel_rfl) (fun _ _ _ h=>h) (Or.inl ⟨by rfl, ?_⟩) HS0.out ?_
    rotate_left
    ·intro W hW
     go_simp
     all_goals with_reducible rfl
    try simp only[Act.put,List.setIfInBounds_toArray,List.set_cons_zero,List.set_cons_succ]
    have d0:V2.drew.cell? ⟨sb+2,0,none⟩=some (.slice A2 sh.length c2):=HCM.out.cells.1
    have d1:V2.drew.cell? ⟨sb+2,1,none⟩=some (.map (some mb2)):=HCM.out.cells.2.1
    have d2:V2.drew.cell? ⟨sb+2,2,none⟩=some (.int .i64 (ksize sh:Int)):=HCM.out.cells.2.2
    refine wpAnyH_ready (rs:= [3,4]) (by kernel_rfl) (by simp) (AllReadyH.cons rfl (fun K hK=> ?_) (AllReadyH.cons rfl (fun K hK=> ?_) AllReadyH.nil))
    ·-- the load first
     go_simp
     refine hK.out _ _ HS0.out (fun _=> ?_)
     clear hK K
     try simp only[Act.put,List.setIfInBounds_toArray,List.set_cons_zero,List.set_cons_succ]
     refine ready_l (i:=4) (by kernel_rfl) rfl (fun K hK=> ?_)
     go_simp
     refine(KEM.out _).mono ?_
     rintro e V3 ⟨hf3,m3,hm3,hsm3,rfl⟩
     have HF3:=zh (show Fresh V2 V3 from((Touch.refl (fun _=>False) V2).drew).trans hf3 fun _ _=>id)
     have HQ:=zh (HQ2.out V3 m3 HF3.out hsm3 hm3)
     have HB3:=zh (HI2.out.box.touch HF3.out id)
     have HC3:=zh (HCM.out.blk.touch HF3.out id)
     obtain⟨s1,s2,s3,s4,s5,s6,s7⟩:∃u1 u2 u3 u4,V3.cell? ⟨sb,1,none⟩=some u1/\V3.cell? ⟨sb,2,none⟩=some u2/\V3.cell? ⟨sb,3,none⟩=some u3/\V3.cell? ⟨sb,4,none⟩=some u4:=by
      obtain⟨cs,kv,mb,g1,g2,g3,g4,g5,_⟩:=(HI2.out.fresh HF3.out).ct
      exact⟨_,_,_,_,(g1.blk.cell 1).trans g4,g1.cells.1,g1.cells.2.1,g1.cells.2.2⟩
     have hfz:∀j,V3.frozen? ⟨sb,j,none⟩=false:=by
      obtain⟨cs,kv,mb,g1,_⟩:=(HI2.out.fresh HF3.out).ct
      exact fun j=>g1.blk.frozen j
     have fz1:=hfz 1
     have fz2:=hfz 2
     have fz3:=hfz 3
     have fz4:=hfz 4
     have hk0:V3.cell? ⟨sb+2,0,none⟩=some (.slice A2 sh.length c2):=((HCM.out.fresh HF3.out).cells).1
     have hk1:V3.cell? ⟨sb+2,1,none⟩=some (.map (some mb2)):=((HCM.out.fresh HF3.out).cells).2.1
     have hk2:V3.cell? ⟨sb+2,2,none⟩=some (.int .i64 (ksize sh:Int)):=((HCM.out.fresh HF3.out).cells).2.2
     have hf0:=HC3.out.frozen 0
     have hf1:=HC3.out.frozen 1
     have hf2':=HC3.out.frozen 2
     have HS3:=zh (show V3.cell? ⟨sb+1,0,none⟩=some (.pointer (some ⟨sb,0,none⟩)) from HB3.out.cell 0)
     have HX:=zh (show∀W,Touch (fun k=>k=sb\/k=sb+2) V3 W->W.cell? ⟨sb+1,0,none⟩=some (.pointer (some ⟨sb,0,none⟩)) from fun W hW=>hW.cell HS3.out (by rintro(e | e)<;>simp at e))
     have HKL:=zh (show∀W,Touch (fun k=>k=sb\/k=sb+2) V3 W->KeepsLoops V2 W from fun W hW=>(KeepsLoops.fresh HF3.out).trans_ (.touch hW fun k o e hk=> .inl (by
      obtain⟨cs,kv,mb,g1,_⟩:=(HI2.out.fresh HF3.out).ct
      rcases e with e | e
      ·rw[e]at hk
       have:=hk.symm.trans g1.blk
       injection this with this
       rw[this];rfl
      ·rw[e]at hk
       have:=hk.symm.trans HC3.out
       injection this with this
       rw[this];rfl)))
     clear hf3 hsm3 hm3 hfz
     refine hK.out _ _ HS3.out (fun _=> ?_)
     clear hK K
     try simp only[Act.put,List.setIfInBounds_toArray,List.set_cons_zero,List.set_cons_succ]
     refine take_l (i:=5) (v:= ?_) rfl (by kernel_rfl) (by kernel_rfl) (by kernel_rfl) (fun _ _ _ h=>h) (Or.inl ⟨by rfl, ?_⟩) HS3.out ?_
     rotate_left
     ·intro W hW
      go_simp
      all_goals with_reducible rfl
     try simp only[Act.put,List.setIfInBounds_toArray,List.set_cons_zero,List.set_cons_succ]
     refine take_l (i:=6) (v:= ?_) rfl (by kernel_rfl) (by kernel_rfl) (by kernel_rfl) (fun _ _ _ h=>h) (Or.inl ⟨by rfl, ?_⟩) HS3.out ?_
     rotate_left
     ·intro W hW
      go_simp
      all_goals with_reducible rfl
     try simp only[Act.put,List.setIfInBounds_toArray,List.set_cons_zero,List.set_cons_succ]
     refine ready_l (i:=7) (by kernel_rfl) rfl (fun K hK=> ?_)
     go_simp
     refine hK.out _ _ (HX.out _ (by repeat (first | exact Touch.refl _ _ | (refine Touch.setCell ?_ (.inr (.inl rfl)) _) | (refine Touch.setCell ?_ (.inr (.inr rfl)) _)))) (fun _=> ?_)
     clear hK K
     try simp only[Act.put,List.setIfInBounds_toArray,List.set_cons_zero,List.set_cons_succ]
     refine take_l (i:=8) (v:= ?_) rfl (by kernel_rfl) (by kernel_rfl) (by kernel_rfl) (fun _ _ _ h=>h) (Or.inl ⟨by rfl, ?_⟩) (HX.out _ ((Touch.refl (fun k=>k=sb\/k=sb+2) V3).setCell (p:=⟨sb,1,none⟩) (.inr (.inl rfl)) _)) ?_
     rotate_left
     ·intro W hW
      go_simp
      all_goals with_reducible rfl
     try simp only[Act.put,List.setIfInBounds_toArray,List.set_cons_zero,List.set_cons_succ]
     refine take_l (i:=9) (v:= ?_) rfl (by kernel_rfl) (by kernel_rfl) (by kernel_rfl) (fun _ _ _ h=>h) (Or.inl ⟨by rfl, ?_⟩) (HX.out _ ((Touch.refl (fun k=>k=sb\/k=sb+2) V3).setCell (p:=⟨sb,1,none⟩) (.inr (.inl rfl)) _)) ?_
     rotate_left
     ·intro W hW
      go_simp
      all_goals with_reducible rfl
     try simp only[Act.put,List.setIfInBounds_toArray,List.set_cons_zero,List.set_cons_succ]
     refine ready_l (i:=10) (by kernel_rfl) rfl (fun K hK=> ?_)
     go_simp
     refine hK.out _ _ (HX.out _ (by repeat (first | exact Touch.refl _ _ | (refine Touch.setCell ?_ (.inr (.inl rfl)) _) | (refine Touch.setCell ?_ (.inr (.inr rfl)) _)))) (fun _=> ?_)
     clear hK K
     try simp only[Act.put,List.setIfInBounds_toArray,List.set_cons_zero,List.set_cons_succ]
     generalize hV6:World.setCell _ _ _=V6
     have hq6:=HQ.out
     rw[show set3 (V3.setCell ⟨sb,1,none⟩ (.int .i64 nv)) sb 2 (.slice A2 sh.length c2) (.map (some mb2)) (.int .i64 (ksize sh:Int))=V6 from hV6]at hq6
     have HQ6:=zh hq6
     clear hq6
     have HT6:=zh (show Touch (fun k=>k=sb) V3 V6 by rw[<- hV6];exact((((Touch.refl (fun k=>k=sb) V3).setCell (p:=⟨sb,1,none⟩) (.inr rfl) _).setCell (p:=⟨sb,2,none⟩) (.inr rfl) _).setCell (p:=⟨sb,3,none⟩) (.inr rfl) _).setCell (p:=⟨sb,4,none⟩) (.inr rfl) _)
     have HT62:=zh (HT6.out.mono (S':=fun k=>k=sb\/k=sb+2) fun _ _ e=> .inl e)
     have B6:=zh (HC3.out.touch HT6.out (by omega))
     have hj0:V6.cell? ⟨sb+2,0,none⟩=some (.slice A2 sh.length c2):=HT6.out.cell hk0 (by show ¬sb+2=sb;omega)
     have hj1:V6.cell? ⟨sb+2,1,none⟩=some (.map (some mb2)):=HT6.out.cell hk1 (by show ¬sb+2=sb;omega)
     have hj2:V6.cell? ⟨sb+2,2,none⟩=some (.int .i64 (ksize sh:Int)):=HT6.out.cell hk2 (by show ¬sb+2=sb;omega)
     have hg0:=B6.out.frozen 0
     have hg1:=B6.out.frozen 1
     have hg2:=B6.out.frozen 2
     clear hV6 hf0 hf1 hf2' hk0 hk1 hk2 fz1 fz2 fz3 fz4 s5 s6 s7
     refine ready_l (i:=11) (by kernel_rfl) rfl (fun K hK=> ?_)
     go_simp
     refine hK.out _ _ (HX.out _ (by repeat (first | exact HT62.out | (refine Touch.setCell ?_ (.inr (.inr rfl)) _) | (refine Touch.setCell ?_ (.inr (.inr rfl)) _)))) (fun _=> ?_)
     clear hK K
     try simp only[Act.put,List.setIfInBounds_toArray,List.set_cons_zero,List.set_cons_succ]
     refine wpAnyH_done (by kernel_rfl) ?_ _
     gi_wp2
     exact⟨(KeepsLoops.fresh HF2.out).trans_ (HKL.out _ (by repeat (first | exact HT62.out | (refine Touch.setCell ?_ (.inr (.inr rfl)) _) | (refine Touch.setCell ?_ (.inr (.inr rfl)) _)))),(LKe.fresh HF2.out).trans_ HQ6.out.2,_,by rw[List.length_append];exact HR4.out,by rw[List.length_append];exact HR3.out,by rw[<- HFIN.out];exact HQ6.out.1⟩
    ·-- the call first
     go_simp
     refine(KEM.out _).mono ?_
     rintro e V3 ⟨hf3,m3,hm3,hsm3,rfl⟩
     have HF3:=zh (show Fresh V2 V3 from((Touch.refl (fun _=>False) V2).drew).trans hf3 fun _ _=>id)
     have HQ:=zh (HQ2.out V3 m3 HF3.out hsm3 hm3)
     have HB3:=zh (HI2.out.box.touch HF3.out id)
     have HC3:=zh (HCM.out.blk.touch HF3.out id)
     obtain⟨s1,s2,s3,s4,s5,s6,s7⟩:∃u1 u2 u3 u4,V3.cell? ⟨sb,1,none⟩=some u1/\V3.cell? ⟨sb,2,none⟩=some u2/\V3.cell? ⟨sb,3,none⟩=some u3/\V3.cell? ⟨sb,4,none⟩=some u4:=by
      obtain⟨cs,kv,mb,g1,g2,g3,g4,g5,_⟩:=(HI2.out.fresh HF3.out).ct
      exact⟨_,_,_,_,(g1.blk.cell 1).trans g4,g1.cells.1,g1.cells.2.1,g1.cells.2.2⟩
     have hfz:∀j,V3.frozen? ⟨sb,j,none⟩=false:=by
      obtain⟨cs,kv,mb,g1,_⟩:=(HI2.out.fresh HF3.out).ct
      exact fun j=>g1.blk.frozen j
     have fz1:=hfz 1
     have fz2:=hfz 2
     have fz3:=hfz 3
     have fz4:=hfz 4
     have hk0:V3.cell? ⟨sb+2,0,none⟩=some (.slice A2 sh.length c2):=((HCM.out.fresh HF3.out).cells).1
     have hk1:V3.cell? ⟨sb+2,1,none⟩=some (.map (some mb2)):=((HCM.out.fresh HF3.out).cells).2.1
     have hk2:V3.cell? ⟨sb+2,2,none⟩=some (.int .i64 (ksize sh:Int)):=((HCM.out.fresh HF3.out).cells).2.2
     have hf0:=HC3.out.frozen 0
     have hf1:=HC3.out.frozen 1
     have hf2':=HC3.out.frozen 2
     have HS3:=zh (show V3.cell? ⟨sb+1,0,none⟩=some (.pointer (some ⟨sb,0,none⟩)) from HB3.out.cell 0)
     have HX:=zh (show∀W,Touch (fun k=>k=sb\/k=sb+2) V3 W->W.cell? ⟨sb+1,0,none⟩=some (.pointer (some ⟨sb,0,none⟩)) from fun W hW=>hW.cell HS3.out (by rintro(e | e)<;>simp at e))
     have HKL:=zh (show∀W,Touch (fun k=>k=sb\/k=sb+2) V3 W->KeepsLoops V2 W from fun W hW=>(KeepsLoops.fresh HF3.out).trans_ (.touch hW fun k o e hk=> .inl (by
      obtain⟨cs,kv,mb,g1,_⟩:=(HI2.out.fresh HF3.out).ct
      rcases e with e | e
      ·rw[e]at hk
       have:=hk.symm.trans g1.blk
       injection this with this
       rw[this];rfl
      ·rw[e]at hk
       have:=hk.symm.trans HC3.out
       injection this with this
       rw[this];rfl)))
     clear hf3 hsm3 hm3 hfz
     refine hK.out _ _ HS3.out (fun _=> ?_)
     clear hK K
     try simp only[Act.put,List.setIfInBounds_toArray,List.set_cons_zero,List.set_cons_succ]
     have d0:V3.cell? ⟨sb+2,0,none⟩=some (.slice A2 sh.length c2):=hk0
     refine ready_l (i:=3) (by kernel_rfl) rfl (fun K hK=> ?_)
     go_simp
     refine hK.out _ _ HS3.out (fun _=> ?_)
     clear hK K
     try simp only[Act.put,List.setIfInBounds_toArray,List.set_cons_zero,List.set_cons_succ]
     refine take_l (i:=5) (v:= ?_) rfl (by kernel_rfl) (by kernel_rfl) (by kernel_rfl) (fun _ _ _ h=>h) (Or.inl ⟨by rfl, ?_⟩) HS3.out ?_
     rotate_left
     ·intro W hW
      go_simp
      all_goals with_reducible rfl
     try simp only[Act.put,List.setIfInBounds_toArray,List.set_cons_zero,List.set_cons_succ]
     refine take_l (i:=6) (v:= ?_) rfl (by kernel_rfl) (by kernel_rfl) (by kernel_rfl) (fun _ _ _ h=>h) (Or.inl ⟨by rfl, ?_⟩) HS3.out ?_
     rotate_left
     ·intro W hW
      go_simp
      all_goals with_reducible rfl
     try simp only[Act.put,List.setIfInBounds_toArray,List.set_cons_zero,List.set_cons_succ]
     refine ready_l (i:=7) (by kernel_rfl) rfl (fun K hK=> ?_)
     go_simp
     refine hK.out _ _ (HX.out _ (by repeat (first | exact Touch.refl _ _ | (refine Touch.setCell ?_ (.inr (.inl rfl)) _) | (refine Touch.setCell ?_ (.inr (.inr rfl)) _)))) (fun _=> ?_)
     clear hK K
     try simp only[Act.put,List.setIfInBounds_toArray,List.set_cons_zero,List.set_cons_succ]
     refine take_l (i:=8) (v:= ?_) rfl (by kernel_rfl) (by kernel_rfl) (by kernel_rfl) (fun _ _ _ h=>h) (Or.inl ⟨by rfl, ?_⟩) (HX.out _ ((Touch.refl (fun k=>k=sb\/k=sb+2) V3).setCell (p:=⟨sb,1,none⟩) (.inr (.inl rfl)) _)) ?_
     rotate_left
     ·intro W hW
      go_simp
      all_goals with_reducible rfl
     try simp only[Act.put,List.setIfInBounds_toArray,List.set_cons_zero,List.set_cons_succ]
     refine take_l (i:=9) (v:= ?_) rfl (by kernel_rfl) (by kernel_rfl) (by kernel_rfl) (fun _ _ _ h=>h) (Or.inl ⟨by rfl, ?_⟩) (HX.out _ ((Touch.refl (fun k=>k=sb\/k=sb+2) V3).setCell (p:=⟨sb,1,none⟩) (.inr (.inl rfl)) _)) ?_
     rotate_left
     ·intro W hW
      go_simp
      all_goals with_reducible rfl
     try simp only[Act.put,List.setIfInBounds_toArray,List.set_cons_zero,List.set_cons_succ]
     refine ready_l (i:=10) (by kernel_rfl) rfl (fun K hK=> ?_)
     go_simp
     refine hK.out _ _ (HX.out _ (by repeat (first | exact Touch.refl _ _ | (refine Touch.setCell ?_ (.inr (.inl rfl)) _) | (refine Touch.setCell ?_ (.inr (.inr rfl)) _)))) (fun _=> ?_)
     clear hK K
     try simp only[Act.put,List.setIfInBounds_toArray,List.set_cons_zero,List.set_cons_succ]
     generalize hV6:World.setCell _ _ _=V6
     have hq6:=HQ.out
     rw[show set3 (V3.setCell ⟨sb,1,none⟩ (.int .i64 nv)) sb 2 (.slice A2 sh.length c2) (.map (some mb2)) (.int .i64 (ksize sh:Int))=V6 from hV6]at hq6
     have HQ6:=zh hq6
     clear hq6
     have HT6:=zh (show Touch (fun k=>k=sb) V3 V6 by rw[<- hV6];exact((((Touch.refl (fun k=>k=sb) V3).setCell (p:=⟨sb,1,none⟩) (.inr rfl) _).setCell (p:=⟨sb,2,none⟩) (.inr rfl) _).setCell (p:=⟨sb,3,none⟩) (.inr rfl) _).setCell (p:=⟨sb,4,none⟩) (.inr rfl) _)
     have HT62:=zh (HT6.out.mono (S':=fun k=>k=sb\/k=sb+2) fun _ _ e=> .inl e)
     have B6:=zh (HC3.out.touch HT6.out (by omega))
     have hj0:V6.cell? ⟨sb+2,0,none⟩=some (.slice A2 sh.length c2):=HT6.out.cell hk0 (by show ¬sb+2=sb;omega)
     have hj1:V6.cell? ⟨sb+2,1,none⟩=some (.map (some mb2)):=HT6.out.cell hk1 (by show ¬sb+2=sb;omega)
     have hj2:V6.cell? ⟨sb+2,2,none⟩=some (.int .i64 (ksize sh:Int)):=HT6.out.cell hk2 (by show ¬sb+2=sb;omega)
     have hg0:=B6.out.frozen 0
     have hg1:=B6.out.frozen 1
     have hg2:=B6.out.frozen 2
     clear hV6 hf0 hf1 hf2' hk0 hk1 hk2 fz1 fz2 fz3 fz4 s5 s6 s7
     refine ready_l (i:=11) (by kernel_rfl) rfl (fun K hK=> ?_)
     go_simp
     refine hK.out _ _ (HX.out _ (by repeat (first | exact HT62.out | (refine Touch.setCell ?_ (.inr (.inr rfl)) _) | (refine Touch.setCell ?_ (.inr (.inr rfl)) _)))) (fun _=> ?_)
     clear hK K
     try simp only[Act.put,List.setIfInBounds_toArray,List.set_cons_zero,List.set_cons_succ]
     refine wpAnyH_done (by kernel_rfl) ?_ _
     gi_wp2
     exact⟨(KeepsLoops.fresh HF2.out).trans_ (HKL.out _ (by repeat (first | exact HT62.out | (refine Touch.setCell ?_ (.inr (.inr rfl)) _) | (refine Touch.setCell ?_ (.inr (.inr rfl)) _)))),(LKe.fresh HF2.out).trans_ HQ6.out.2,_,by rw[List.length_append];exact HR4.out,by rw[List.length_append];exact HR3.out,by rw[<- HFIN.out];exact HQ6.out.1⟩
 case done=>
  rintro D zs V hD hS ⟨st',r1,r2,hoi⟩ hKD
  have est:st=st':=by rw[hS,List.drop_length]at r2;exact r2
  subst est
  have cb0:V.cell? ⟨sb+1,0,none⟩=some (.pointer (some ⟨sb,0,none⟩)):=hoi.box.cell 0
  have HO:=zh hoi;have HKD:=zh hKD;have HD:=zh hD
  clear hoi hKD hD r1 r2
  go_wp2_with fail
  have hKD:=HKD.out
  refine⟨by simp, .inl ⟨_,_,rfl,run_takeDeferred hKD, ?_⟩⟩
  have hF:=HO.out.put_ (.deferred none) (by have:=HD.out;omega) hKD rfl rfl
  refine⟨.tuple #[.pointer (some ⟨sb,0,none⟩), .int .i64 0],by simp[results,Tryz.results17,go_sem],hQ _ _ ⟨w1,w4,sb,bl,m0,R,sv,rv,vs,rfl,HT.out,HF14.out,HL.out,HN.out,HZ.out,hF⟩⟩
 case stop=>
  intro D pre W _ _ h
  exact h.elim
end
end Go.Proofs.YtjehlgblkfofpaaGreat