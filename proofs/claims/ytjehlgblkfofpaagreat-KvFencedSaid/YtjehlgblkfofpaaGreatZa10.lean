/- The claims' texts, several in one: OpsW, Eye, Eye2, Recs, RecG, RecO. Conditions stand with each theorem. -/
import Derived.Test.YtjehlgblkfofpaaGreatZa08
import Derived.Test.YtjehlgblkfofpaaGreatZa01
import Derived.Test.YtjehlgblkfofpaaGreatZa09
import Derived.ScopeJumps
import Derived.BigQuiet
import Derived.Deep.QuietTactic
import Derived.Laws.BytesArg
import Derived.RegionTactic
import Derived.BigRegion
set_option maxHeartbeats 4000000
set_option maxRecDepth 100000
namespace Go.Proofs.YtjehlgblkfofpaaGreat
open Go.RowKit
theorem op_none{l:List Dec.Op}{k:Nat}{o:Dec.Op}(h:l[k]? =some o)(hn:Enc.op o=none):Enc.catAll (l.map Enc.op)=none:=
 catAll_none (List.mem_map.2 ⟨o,List.mem_of_getElem? h,hn⟩)
theorem catAll_snoc(l:List Enc.Enc)(a:Enc.Enc):Enc.catAll (l++ [a])=Enc.cat (Enc.catAll l) a:=by
 induction l with
 | nil=>simp[Enc.catAll,Enc.cat_nil,Enc.nil_cat]
 | cons b l ih=>simp only[List.cons_append,Enc.catAll,ih,Enc.cat_assoc]
theorem op_take{l:List Dec.Op}{k:Nat}{o:Dec.Op}(h:l[k]? =some o):Enc.catAll ((l.take (k+1)).map Enc.op)=Enc.cat (Enc.catAll ((l.take k).map Enc.op)) (Enc.op o):=by
 obtain⟨hk,rfl⟩:=List.getElem?_eq_some_iff.1 h
 rw[List.take_succ_eq_append_getElem hk,List.map_append,List.map_singleton,catAll_snoc]
def opV(o:Dec.Op):List Value:= [.string ⟨o.k.toArray⟩, .string ⟨o.v.toArray⟩, .bool o.g]
def opsV(l:List Dec.Op):List Value:=l.flatMap opV
theorem opsV_length(l:List Dec.Op):(opsV l).length=l.length*3:=flat_length opV 3 (fun _=>rfl) l
theorem opsV_at{l:List Dec.Op}{i:Nat}{o:Dec.Op}(h:l[i]? =some o)(r:Nat)(hr:r<3):(opsV l)[i*3+r]? =(opV o)[r]? :=flat_at opV 3 (fun _=>rfl) l i r o h hr
theorem ops1_any(bp be:Nat)(A:Option Addr)(n c:Nat)(l:List Dec.Op)(w:World)(hp:Pen w bp (.slice none 0 0) [])(he:Blk w be 28 #[.slice A n c])(hv:Vs w 3 A n c (opsV l))
  (hA:∀a,A=some a->0<n->a.block<w.heap.size/\a.block≠bp) (hn:n<=1048576) (hs:∀o∈l,o.k.length<=maxLen/\o.v.length<=maxLen):
  Calls Tryz.prog 73 #[.pointer (some ⟨bp,0,none⟩), .pointer (some ⟨be,0,none⟩)] w (PenEnd bp (.slice none 0 0) [] w (Enc.ops l)):=by
 have hln:l.length=n:=by have:=hv.1;rw[opsV_length]at this;omega
 have hne:be≠bp:=he.ne_ hp.1 (by decide)
 have HNE:=zh hne
 have HV:=zh hv;clear hv
 have HA:=zh hA;clear hA
 have HS:=zh hs;clear hs
 have hc0:=he.cell 0
 simp only[List.getElem?_toArray,List.getElem?_cons_zero]at hc0
 have HK:=zh (plain_any bp (.slice none 0 0) [] n w hp (by simp only[List.length_nil];omega))
 have HE:=zh he;clear he
 have HP:=zh hp;clear hp hne
 go_enter Tryz.func73,Tryz.ntmps73
 go_wp2_with fail
 refine HK.out.mono ?_
 intro e w1 h
 rcases h.cases with⟨hr,rfl,ht⟩ | ⟨y0,v1,hr,rfl,hp1,hg1⟩
 ·exact⟨rfl,PenEnd.pan (by unfold Enc.ops;rw[hln,hr];rfl) ht⟩
 have hl0:=Enc.plain_size hr
 have HR:=zh hr;clear hr h
 have HP1:=zh hp1;clear hp1
 have HG1:=zh hg1;clear hg1
 have hc1:w1.cell? ⟨be,0,none⟩=some (.slice A n c):=HG1.out.touch.cell hc0 (by rintro(h | h);exact HNE.out h;cases h)
 go_wp2_with fail
 go_loopw [11] (fun i wr=>∃k:Nat,k<=n/\i= .int .i64 k/\∃(ys:List UInt8) (u:Value),Enc.catAll ((l.take k).map Enc.op)=some ys/\ys.length<=k*2097200/\Pen wr bp u (y0++ys)/\PenGo bp (.slice none 0 0) w u wr) (fun i _=>n-(intOf i).toNat)
 case atStart=>exact⟨0,Nat.zero_le _,rfl, [],v1,rfl,by simp,by rw[List.append_nil];exact HP1.out,HG1.out⟩
 case round=>
  obtain⟨k,hk,rfl,ys,u,hys,hyl,hpu,hgu⟩:=hrel
  have HPU:=zh hpu;clear hpu
  have HGU:=zh hgu;clear hgu
  have HYS:=zh hys;clear hys
  by_cases hlt:k<n
  ·obtain⟨b,off,rfl⟩:=HV.out.at_ (by omega)
   obtain⟨o,ho⟩:∃o,l[k]? =some o:=⟨l[k],List.getElem?_eq_getElem (by omega)⟩
   have hab:=HA.out _ rfl (by omega)
   have hvr:Vs wr 3 (some ⟨b,off,none⟩) n c (opsV l):=HV.out.touch HGU.out.touch (by rintro a ha h0 (h | h);exact(HA.out a ha h0).2 h;cases h)
   have hk0:wr.cell? ⟨b,off+k*3,none⟩=some (.string ⟨o.k.toArray⟩):=hvr.cellAt (opsV_at ho 0 (by omega))
   have hk1:wr.cell? ⟨b,off+k*3+1,none⟩=some (.string ⟨o.v.toArray⟩):=hvr.cellAt (opsV_at ho 1 (by omega))
   have hk2:wr.cell? ⟨b,off+k*3+2,none⟩=some (.bool o.g):=hvr.cellAt (opsV_at ho 2 (by omega))
   clear hvr
   have hso:=HS.out o (List.mem_of_getElem? ho)
   obtain⟨S,hS⟩:∃S,S=wr.alloc (.cells #[.string ⟨o.k.toArray⟩, .string ⟨o.v.toArray⟩, .bool o.g] 31):=⟨_,rfl⟩
   have HPS:=zh (show Pen S bp u (y0++ys) by rw[hS];exact⟨HPU.out.1.alloc _,HPU.out.2.alloc _⟩)
   have HGS:=zh (show PenGo bp (.slice none 0 0) w u S by rw[hS];exact⟨HGU.out.touch.alloc _,HGU.out.own⟩)
   have HBS:=zh (show Blk S wr.heap.size 31 #[.string ⟨o.k.toArray⟩, .string ⟨o.v.toArray⟩, .bool o.g] by rw[hS];exact Blk.new _ _ _)
   have HSS:=zh hS;clear hS
   have hbb:wr.heap.size≠bp:=by have:=HPU.out.1.lt;omega
   have hyk:k*2097200<=2199075880000:=by omega
   have hkl:=hso.1
   have hvl:=hso.2
   go_wp2_with fail
   rw[<- HSS.out]
   refine(text_any bp u (y0++ys) ⟨o.k.toArray⟩ S HPS.out (by simp only[List.length_append];omega) hkl).mono ?_
   intro e w2 h
   rcases h.cases with⟨hr,rfl,ht⟩ | ⟨z1,v2,hr,rfl,hp2,hg2⟩
   ·exact⟨rfl,PenEnd.pan (by unfold Enc.ops;rw[op_none ho (by unfold Enc.op;rw[show Enc.text o.k=none from hr];rfl),Enc.cat_none_r]) (HGS.out.touch.trans ht HGS.out.subS)⟩
   have hz1:=text_size hr
   have HR1:=zh (show Enc.text o.k=some z1 from hr);clear hr h
   have HG2:=zh (HGS.out.trans hg2)
   have hB2:=HBS.out.touch hg2.touch (by rintro(h | h);exact hbb h;exact HPS.out.2.ne_blk HBS.out (by decide) h)
   have HP2:=zh hp2;clear hp2
   have HB2:=zh hB2
   have hd1:=hB2.cell 1
   have hd2:=hB2.cell 2
   simp only[List.getElem?_toArray,List.getElem?_cons_zero,List.getElem?_cons_succ]at hd1 hd2
   have hcp:=HP2.out.1.cell 0
   have hfp:=HP2.out.1.frozen 0
   simp only[List.getElem?_toArray,List.getElem?_cons_zero]at hcp
   have hne2:v2.ownBlock≠some bp:=HP2.out.2.ne_blk HP2.out.1 (by decide)
   have HNE2:=zh hne2;clear hne2
   clear hB2 hg2 hk0 hk1 hk2
   have HNB:=zh (HP2.out.2.ne_blk HB2.out (by decide))
   cases hg:o.g with
   | true=>
    rw[hg]at hd2
    by_cases hv0:o.v= []
    ·rw[hv0]at hd1
     go_wp2_with (at_builtin;(refine wpList_row _ rfl _ _ 29 rfl Tryz.info5 Tryz.underlying29 v2 (y0++ys++z1) rfl (HP2.out.2.alloc _) w2.heap.size 1 1 [1] rfl rfl (new_u8 w2 _ _ _ rfl) (by simp only[List.length_singleton,List.length_append];omega) ?_);intro A3 c3 w3 hr3 hg3 ho3;have hB3:=(HP2.out.1.alloc (.cells #[.int .u8 1] 5)).grown hg3 (fun e=>HNE2.out e.symm);have hc3:=hB3.cell 0;have hf3:=hB3.frozen 0;have hd3:=((HB2.out.alloc (.cells #[.int .u8 1] 5)).grown hg3 (fun e=>HNB.out e.symm)).cell 1;simp only[List.getElem?_toArray,List.getElem?_cons_zero,List.getElem?_cons_succ]at hc3 hd3)
     have hpb:=pen_app HP2.out ((Touch.refl _ w2).alloc _) (HP2.out.1.alloc _) hr3 hg3 ho3
     simp only[List.append_assoc,List.length_append,List.length_singleton]at hpb
     clear hc3 hf3 hd3 hB3 hr3 hg3 ho3
     go_roundw
     case rel=>
      refine⟨k+1,by omega,by go_num,ys++(z1++ [1]),_, ?_, ?_,hpb.1,HG2.out.trans hpb.2⟩
      ·rw[op_take ho,HYS.out]
       unfold Enc.op Enc.flag
       rw[hg,hv0,HR1.out]
       simp[Enc.cat_some]
      ·simp only[List.length_append,List.length_singleton];omega
     case measure=>simp[intOf]<;>omega
    ·have hve:o.v.isEmpty=false:=by simpa using hv0
     go_wp2_with (at_builtin;(refine wpList_row _ rfl _ _ 29 rfl Tryz.info5 Tryz.underlying29 v2 (y0++ys++z1) rfl (HP2.out.2.alloc _) w2.heap.size 1 1 [1] rfl rfl (new_u8 w2 _ _ _ rfl) (by simp only[List.length_singleton,List.length_append];omega) ?_);intro A3 c3 w3 hr3 hg3 ho3;have hB3:=(HP2.out.1.alloc (.cells #[.int .u8 1] 5)).grown hg3 (fun e=>HNE2.out e.symm);have hc3:=hB3.cell 0;have hf3:=hB3.frozen 0;have hd3:=((HB2.out.alloc (.cells #[.int .u8 1] 5)).grown hg3 (fun e=>HNB.out e.symm)).cell 1;simp only[List.getElem?_toArray,List.getElem?_cons_zero,List.getElem?_cons_succ]at hc3 hd3)
     have hpb:=pen_app HP2.out ((Touch.refl _ w2).alloc _) (HP2.out.1.alloc _) hr3 hg3 ho3
     simp only[List.append_assoc,List.length_append,List.length_singleton]at hpb
     refine⟨rfl,PenEnd.pan ?_ (HG2.out.trans hpb.2).touch⟩
     unfold Enc.ops
     rw[op_none ho (by unfold Enc.op;rw[hg,if_pos rfl,if_neg hv0,Enc.cat_none_r]),Enc.cat_none_r]
   | false=>
    rw[hg]at hd2
    go_wp2_with (at_builtin;(refine wpList_row _ rfl _ _ 29 rfl Tryz.info5 Tryz.underlying29 v2 (y0++ys++z1) rfl (HP2.out.2.alloc _) w2.heap.size 1 1 [0] rfl rfl (new_u8 w2 _ _ _ rfl) (by simp only[List.length_singleton,List.length_append];omega) ?_);intro A3 c3 w3 hr3 hg3 ho3;have hB3:=(HP2.out.1.alloc (.cells #[.int .u8 0] 5)).grown hg3 (fun e=>HNE2.out e.symm);have hc3:=hB3.cell 0;have hf3:=hB3.frozen 0;have hd3:=((HB2.out.alloc (.cells #[.int .u8 0] 5)).grown hg3 (fun e=>HNB.out e.symm)).cell 1;simp only[List.getElem?_toArray,List.getElem?_cons_zero,List.getElem?_cons_succ]at hc3 hd3)
    have hpb:=pen_app HP2.out ((Touch.refl _ w2).alloc _) (HP2.out.1.alloc _) hr3 hg3 ho3
    simp only[List.append_assoc,List.length_append,List.length_singleton]at hpb
    clear hc3 hf3 hd3 hB3 hr3 hg3 ho3
    have HPB:=zh hpb.1
    have HGB:=zh (HG2.out.trans hpb.2)
    clear hpb
    refine(text_any bp _ (y0++(ys++(z1++ [0]))) ⟨o.v.toArray⟩ _ HPB.out (by simp only[List.length_append,List.length_singleton];omega) hvl).mono ?_
    intro e w4 h
    rcases h.cases with⟨hr,rfl,ht⟩ | ⟨z2,v4,hr,rfl,hp4,hg4⟩
    ·refine⟨rfl,PenEnd.pan ?_ (HGB.out.touch.trans ht HGB.out.subS)⟩
     unfold Enc.ops
     rw[op_none ho (by unfold Enc.op;rw[hg,if_neg (by simp),show Enc.text o.v=none from hr,Enc.cat_none_r]),Enc.cat_none_r]
    ·have hz2:=text_size hr
     replace hr:Enc.text o.v=some z2:=hr
     have HP4:=zh hp4;clear hp4
     have HG4:=zh hg4;clear hg4
     have HR4:=zh hr;clear hr h
     go_wp2_with fail
     go_roundw
     case rel=>
      refine⟨k+1,by omega,by go_num,ys++(z1++([0]++z2)),v4, ?_, ?_,by simpa only[List.append_assoc] using HP4.out,HGB.out.trans HG4.out⟩
      ·rw[op_take ho,HYS.out]
       unfold Enc.op Enc.flag
       rw[hg,HR1.out,if_neg (by simp),if_neg (by simp),HR4.out]
       simp[Enc.cat_some]
      ·simp only[List.length_append,List.length_singleton];omega
     case measure=>simp[intOf]<;>omega
  ·obtain rfl:k=n:=by omega
   go_wp2_with fail
   go_end0
   refine PenEnd.ret (ys:=y0++ys) ?_ ⟨u,HPU.out,HGU.out⟩
   have h2:=HYS.out
   rw[<- hln,List.take_length]at h2
   unfold Enc.ops
   rw[hln,HR.out,h2]
   rfl
theorem cops_any(A:Option Addr)(n c:Nat)(l:List Dec.Op)(w:World)(hv:Vs w 3 A n c (opsV l))
  (hA:∀a,A=some a->0<n->a.block<w.heap.size) (hn:n<=1048576) (hs:∀o∈l,o.k.length<=maxLen/\o.v.length<=maxLen):
  Calls Tryz.prog 43 #[.slice A n c] w (EncEnd w (Enc.ops l)):=by
 have hmf:∀(fn:Fn) (first cap:Array Value) (w:World),(Instr.makeFunc fn first cap).run Tryz.prog w= .ok (.func fn first cap) w:=fun _ _ _ _=>rfl
 have HK:=zh (written_any 73 #[.pointer (some ⟨w.heap.size,0,none⟩)] (Enc.ops l) (w.alloc (.cells #[.slice A n c] 28)) (fun args w=>by simp[go_sem])
  (fun w1 bp hf hbp hp=>by
   have hsz:(w.alloc (.cells #[.slice A n c] 28)).heap.size=w.heap.size+1:=by simp
   simpa using ops1_any bp w.heap.size A n c l w1 hp ((Blk.new w _ _).touch hf id) ((hv.alloc _).fresh hf) (fun a ha h0=>by have h1:=hA a ha h0;have h2:=hf.size;exact⟨by omega,by omega⟩) hn hs))
 clear hv hA hs
 go_enter Tryz.func43,Tryz.ntmps43
 go_wp2_with fail
 refine HK.out.mono ?_
 intro e w1 h
 rcases h.of_alloc.cases with⟨hr,rfl,ht⟩ | ⟨ys,A,c,hr,rfl,hrow,hnew,ht⟩
 ·have HR:=zh hr;clear hr h
  have HT:=zh ht;clear ht
  go_wp2_with fail
  go_ret2
  exact EncEnd.no HR.out HT.out
 ·have HR:=zh hr;clear hr h
  have HT:=zh ht;clear ht
  have HROW:=zh hrow;clear hrow
  have HNEW:=zh hnew;clear hnew
  go_wp2_with fail
  go_ret2
  exact EncEnd.yes HR.out HROW.out HNEW.out HT.out
def Eye(w:World)(be:Nat)(A:Option Addr)(n c:Nat)(xs:List UInt8)(p:Nat):Prop:=Blk w be 167 #[.slice A n c, .int .i64 p]/\Bs w A n c xs/\p<=n/\∀a,A=some a->0<n->a.block<be
def stopAt(p:Nat):PanicEntry:={ v:= .iface 133 (.agg #[.int .i64 p]),recovered:=false }
def EyeEnd{α:Type}(f:α->Value)(be:Nat)(A:Option Addr)(n c:Nat)(xs:List UInt8)(w:World)(r:Dec.Rd α)(e:Ending)(w':World):Prop:=
 match r with
 | .ok (x,p)=>e= .returned (f x)/\Eye w' be A n c xs p/\Touch (·=be) w w'
 | .error at_=>e= .panicked [stopAt at_]/\Touch (·=be) w w'
theorem efail_any(x:Value)(p:Nat)(w:World):Calls Tryz.prog 129 #[x, .int .i64 p] w fun e w'=>w=w'/\e= .panicked [stopAt p]:=by
 have hb:∀w,(Instr.build 133 #[(0, .int .i64 p)]).run Tryz.prog w= .ok (.agg #[.int .i64 p]) w:=fun _=>by kernel_rfl
 go_enter Tryz.func129,Tryz.ntmps129
 go_wp2
 exact⟨rfl,rfl,rfl⟩
theorem enumber_end(be:Nat)(A:Option Addr)(n c:Nat)(xs:List UInt8)(lo hi:Int)(w:World)(he:Eye w be A n c xs n):
  Calls Tryz.prog 130 #[.pointer (some ⟨be,0,none⟩), .int .i64 lo, .int .i64 hi] w (fun e w'=>w=w'/\e= .panicked [stopAt n]):=by
 have hc0:=he.1.cell 0
 have hc1:=he.1.cell 1
 simp only[List.getElem?_toArray,List.getElem?_cons_zero,List.getElem?_cons_succ]at hc0 hc1
 have hm:=he.2.1.2.2.1
 have hn:=he.2.1.2.1
 unfold maxLen at hm
 clear he
 go_enter Tryz.func130,Tryz.ntmps130
 go_wp2_with fail
 go_step3
 go_wp2_with fail
 refine(efail_any _ _ _).mono ?_
 rintro e w1 ⟨rfl,rfl⟩
 exact⟨rfl,rfl,rfl⟩
theorem wp_scope_fwd{P:Program}{Q:Exit->Act->World->Prop}{a:Act}{w:World}{c rest:Code}(l:Nat)(hf:findLabel c l=some rest)
  (first:c.wp P (Exit.jump l (fun a w=>rest.wp P (Exit.jump l (fun _ _=>False) Q) a w) Q) a w):(Code.scope c).wp P Q a w:=
 wp_scope_jumps l (fun a w=>rest.wp P (Exit.jump l (fun _ _=>False) Q) a w) (fun _ _=>0) hf first fun a w h=>
  Code.wp_mono (fun e a' w' q=>by
   cases e with
   | goto l'=>exact⟨q.1,q.2.elim⟩
   | _=>exact q) h
theorem enumber_big(be:Nat)(A:Option Addr)(n c:Nat)(xs:List UInt8)(p:Nat)(lo hi:Int)(w:World)(he:Eye w be A n c xs p)(hp:p<n)(hk:7<(xs.getD p 0).toNat):
  Calls Tryz.prog 130 #[.pointer (some ⟨be,0,none⟩), .int .i64 lo, .int .i64 hi] w (fun e w'=>w=w'/\e= .panicked [stopAt p]):=by
 have hc0:=he.1.cell 0
 have hc1:=he.1.cell 1
 simp only[List.getElem?_toArray,List.getElem?_cons_zero,List.getElem?_cons_succ]at hc0 hc1
 have hm:=he.2.1.2.2.1
 have hn:=he.2.1.2.1
 unfold maxLen at hm
 obtain⟨b,o,rfl⟩:=he.2.1.at_ (by omega)
 have hcell:=he.2.1.cellAt hp
 have hlt:=(xs.getD p 0).toNat_lt
 generalize (xs.getD p 0).toNat=k at*
 clear he
 go_enter Tryz.func130,Tryz.ntmps130
 go_wp2_with fail
 refine wp_scope_fwd 0 rfl ?_
 go_wp2_with fail
 refine wp_goto ?_
 go_wp2_with fail
 refine⟨rfl, ?_⟩
 show Code.wp _ _ _ _ _
 go_wp2_with fail
 refine(efail_any _ _ _).mono ?_
 rintro e w1 ⟨rfl,rfl⟩
 exact⟨rfl,rfl,rfl⟩
theorem enumber_short(be:Nat)(A:Option Addr)(n c:Nat)(xs:List UInt8)(p:Nat)(lo hi:Int)(w:World)(he:Eye w be A n c xs p)(hp:p<n)(hk:¬ 7<(xs.getD p 0).toNat)(hs:n-p-1<(xs.getD p 0).toNat):
  Calls Tryz.prog 130 #[.pointer (some ⟨be,0,none⟩), .int .i64 lo, .int .i64 hi] w (fun e w'=>w=w'/\e= .panicked [stopAt n]):=by
 have hc0:=he.1.cell 0
 have hc1:=he.1.cell 1
 simp only[List.getElem?_toArray,List.getElem?_cons_zero,List.getElem?_cons_succ]at hc0 hc1
 have hm:=he.2.1.2.2.1
 have hn:=he.2.1.2.1
 unfold maxLen at hm
 obtain⟨b,o,rfl⟩:=he.2.1.at_ (by omega)
 have hcell:=he.2.1.cellAt hp
 have hlt:=(xs.getD p 0).toNat_lt
 generalize (xs.getD p 0).toNat=k at*
 clear he
 go_enter Tryz.func130,Tryz.ntmps130
 go_wp2_with fail
 refine wp_scope_fwd 0 rfl ?_
 go_wp2_with fail
 refine(efail_any _ _ _).mono ?_
 rintro e w1 ⟨rfl,rfl⟩
 exact⟨rfl,rfl,rfl⟩
theorem ofInt_i64(a:Nat)(ha:a<9223372036854775808):(BitVec.ofInt 64 (a:Int)).toNat=a:=by
 rw[BitVec.ofInt_natCast,BitVec.toNat_ofNat];exact Nat.mod_eq_of_lt (by omega)
theorem or_step(m b:Nat)(hm:m<281474976710656)(hb:b<2 ^ 8):bits .or .i64 (wrap64 ((m:Int)*256)) (wrap64 (b:Int))=((256*m+b:Nat):Int):=by
 rw[IntWalk.wrap64_in _ (by omega),IntWalk.wrap64_in _ (by omega),show (m:Int)*256=((2 ^ 8*m:Nat):Int) by omega]
 have hx:2 ^ 8*m+b<2 ^ 63:=by omega
 show IntKind.i64.wrap ((BitVec.ofInt 64 ((2 ^ 8*m:Nat):Int) ||| BitVec.ofInt 64 (b:Int)).toNat:Int)= _
 rw[BitVec.toNat_or,ofInt_i64 _ (by omega),ofInt_i64 b (by omega),<- Nat.two_pow_add_eq_or_of_lt hb,IntKind.wrap_i64]
 omega
theorem enumber_pos(be:Nat)(A:Option Addr)(n c:Nat)(xs:List UInt8)(p:Nat)(lo hi:Int)(w:World)(he:Eye w be A n c xs p)(hp:p<n)(k:Nat)(hkk:k=(xs.getD p 0).toNat)(hk:¬ 7<k)(hs:¬n-p-1<k)(h0:0<k):
  Calls Tryz.prog 130 #[.pointer (some ⟨be,0,none⟩), .int .i64 lo, .int .i64 hi] w (EyeEnd (α:=Int) (fun v=> .int .i64 v) be A n c xs w (Dec.number lo hi xs p)):=by
 have hc0:=he.1.cell 0
 have hc1:=he.1.cell 1
 have hf1:=he.1.frozen 1
 simp only[List.getElem?_toArray,List.getElem?_cons_zero,List.getElem?_cons_succ]at hc0 hc1
 have hm:=he.2.1.2.2.1
 have hn:=he.2.1.2.1
 unfold maxLen at hm
 obtain⟨b,o,rfl⟩:=he.2.1.at_ (by omega)
 have hcell:=he.2.1.cellAt hp
 rw[<- hkk]at hcell
 have hlt:=(xs.getD p 0).toNat_lt
 rw[<- hkk]at hlt
 have HKK:=zh hkk;clear hkk
 have HE:=zh he;clear he
 have hbe:b≠be:=Nat.ne_of_lt (HE.out.2.2.2 _ rfl (by omega))
 have hxl:=HE.out.2.1.1
 obtain⟨W,hW⟩:∃W,W=w.setCell ⟨be,1,none⟩ (.int .i64 ((p:Int)+(1+(k:Int)))):=⟨_,rfl⟩
 have hBW:Blk W be 167 #[.slice (some ⟨b,o,none⟩) n c, .int .i64 ((p:Int)+(1+(k:Int)))]:=by rw[hW];exact HE.out.1.set_ 1 _
 have hTW:Touch (·=be) w W:=by rw[hW];exact(Touch.refl (·=be) w).setCell (p:=⟨be,1,none⟩) (.inr rfl) _
 have hSW:Bs W (some ⟨b,o,none⟩) n c xs:=HE.out.2.1.touch hTW (fun a ha _ e=>by injection ha with ha;subst ha;exact hbe e)
 have HBW:=zh hBW;clear hBW
 have HTW:=zh hTW;clear hTW
 have HSW:=zh hSW;clear hSW
 have hno:∀nq,Dec.number lo hi xs p= .error p->EyeEnd (α:=Int) (fun v=> .int .i64 v) be (some ⟨b,o,none⟩) n c xs w (Dec.number lo hi xs p) (.panicked [stopAt p]) (W.drewN nq):=by
  intro nq h
  rw[h]
  exact⟨rfl,HTW.out.drewN nq⟩
 have hyes:∀nq (m:Nat),Dec.number lo hi xs p= .ok ((m:Int),p+1+k)->EyeEnd (α:=Int) (fun v=> .int .i64 v) be (some ⟨b,o,none⟩) n c xs w (Dec.number lo hi xs p) (.returned (.int .i64 m)) (W.drewN nq):=by
  intro nq m h
  rw[h]
  refine⟨rfl,⟨?_,HSW.out.drewN nq,by omega,HE.out.2.2.2⟩,HTW.out.drewN nq⟩
  have h0:=HBW.out.drewN nq
  have e1:(p:Int)+(1+(k:Int))=((p+1+k:Nat):Int):=by omega
  rw[e1]at h0
  exact h0
 have hds:((xs.drop (p+1)).take k).length=k:=by rw[List.length_take,List.length_drop,hxl];omega
 have hspec:Dec.number lo hi xs p=if (0<k/\xs.getD (p+1) 0=0)\/(Dec.val ((xs.drop (p+1)).take k):Int)<lo\/hi<(Dec.val ((xs.drop (p+1)).take k):Int) then .error p else .ok ((Dec.val ((xs.drop (p+1)).take k):Int),p+1+k):=by
  unfold Dec.number
  rw[<- HKK.out,hxl,if_neg (by omega),if_neg hk,if_neg hs]
 have hval:=Dec.val_lt7 ((xs.drop (p+1)).take k) (by omega)
 obtain⟨ds,hdsE⟩:∃ds,ds=(xs.drop (p+1)).take k:=⟨_,rfl⟩
 rw[<- hdsE]at hds hspec hval
 have HNO:=zh hno;clear hno
 have HYES:=zh hyes;clear hyes
 have HSPEC:=zh hspec;clear hspec
 have HDSE:=zh hdsE;clear hdsE
 have HDS:=zh hds;clear hds
 have HXL:=zh hxl;clear hxl
 go_enter Tryz.func130,Tryz.ntmps130
 go_wp2_with fail
 refine wp_scope_fwd 0 rfl ?_
 go_wp2_with fail
 rw[<- hW]
 have HW:=zh hW;clear hW
 have hWc0:=HBW.out.cell 0
 have hWc1:=HBW.out.cell 1
 simp only[List.getElem?_toArray,List.getElem?_cons_zero,List.getElem?_cons_succ]at hWc0 hWc1
 clear hc0 hc1 hf1 hcell
 have hs1:IntKind.i64.wrap ((p:Int)+1)=(p:Int)+1:=IntWalk.i64_in _ (by omega)
 go_quiet (fail)
 clear hs1
 go_wp2_with fail
 rw[show p+(1+k)-(p+1)=k from by omega]
 go_loop [8,74] (fun m i=>∃j:Nat,j<=k/\i= .int .i64 j/\m= .int .i64 (Dec.val (ds.take j):Nat)) (fun _ i=>k-(intOf i).toNat)
 case atStart=>exact⟨0,by omega,rfl,rfl⟩
 case round=>
  obtain⟨j,hj,rfl,rfl⟩:=hrel
  by_cases hlt:j<k
  ·have hcj:W.cell? ⟨b,o+(p+1)+j,none⟩=some (.int .u8 ((xs.getD (p+1+j) 0).toNat:Int)):=by
    rw[show o+(p+1)+j=o+(p+1+j) from by omega]
    exact HSW.out.cellAt (by omega)
   have hvl:Dec.val (ds.take j)<281474976710656:=by
    have h1:=Dec.val_lt (ds.take j)
    have h2:256 ^ (ds.take j).length<=256 ^ 6:=Nat.pow_le_pow_right (by omega) (by rw[List.length_take];omega)
    have h3:(256:Nat) ^ 6=281474976710656:=by decide
    omega
   have hxl:=(xs.getD (p+1+j) 0).toNat_lt
   have hor:=or_step _ _ hvl hxl
   have hstep:Dec.val (ds.take (j+1))=256*Dec.val (ds.take j)+(xs.getD (p+1+j) 0).toNat:=by
    have hdl:j<ds.length:=by rw[HDS.out];exact hlt
    rw[Dec.val_take ds j hdl]
    congr 2
    have h1:ds[j]? =xs[p+1+j]? :=by rw[HDSE.out,List.getElem?_take,if_pos hlt,List.getElem?_drop]
    have h2:ds[j]? =some ds[j]:=List.getElem?_eq_getElem hdl
    rw[List.getD_eq_getElem?_getD,<- h1,h2]
    rfl
   have HOR:=zh hor;clear hor
   have HSTEP:=zh hstep;clear hstep
   clear hxl hvl
   go_wp2_with fail
   go_round
   case rel=>exact⟨j+1,by omega,by go_num,by rw[HSTEP.out,<- HOR.out,List.getD_eq_getElem?_getD]⟩
   case measure=>simp[intOf]<;>omega
  ·obtain rfl:j=k:=by omega
   have htake:ds.take j=ds:=List.take_of_length_le (by rw[HDS.out];omega)
   rw[htake]
   have hc1:W.cell? ⟨b,o+(p+1),none⟩=some (.int .u8 ((xs.getD (p+1) 0).toNat:Int)):=HSW.out.cellAt (by omega)
   have hx1:xs.getD (p+1) 0=0↔(xs.getD (p+1) 0).toNat=0:=by
    constructor
    ·intro h;rw[h];rfl
    ·intro h;exact UInt8.toNat_inj.1 (by rw[h];rfl)
   have HX1:=zh hx1;clear hx1
   obtain⟨x1,hx1E⟩:∃x1,x1=(xs.getD (p+1) 0).toNat:=⟨_,rfl⟩
   rw[<- hx1E]at hc1
   have HX1E:=zh hx1E;clear hx1E
   obtain⟨m,hmE⟩:∃m,m=Dec.val ds:=⟨_,rfl⟩
   rw[<- hmE]at hval ⊢
   have HME:=zh hmE;clear hmE htake hlt
   have hk0:decide (0<(j:Int))=true:=by simpa using h0
   by_cases hz:x1=0
   ·have hzb:((x1:Int) == 0)=true:=by subst hz;rfl
    have herr:Dec.number lo hi xs p= .error p:=by rw[HSPEC.out,if_pos (.inl ⟨h0,HX1.out.2 (by rw[<- HX1E.out,hz])⟩)]
    have HERR:=zh herr;clear herr
    clear hz
    go_wp2_with fail
    refine wp_goto ?_
    go_wp2_with fail
    refine⟨rfl, ?_⟩
    show Code.wp _ _ _ _ _
    go_wp2_with fail
    refine(efail_any _ _ _).mono ?_
    rintro e w1 ⟨rfl,rfl⟩
    exact⟨rfl,HNO.out _ HERR.out⟩
   ·have hzb:((x1:Int) == 0)=false:=by simp;omega
    have hnz:¬(0<j/\xs.getD (p+1) 0=0):=fun h=>hz (by rw[HX1E.out];exact HX1.out.1 h.2)
    have HNZ:=zh hnz;clear hnz
    clear hz
    by_cases hlo:(m:Int)<lo
    ·have herr:Dec.number lo hi xs p= .error p:=by rw[HSPEC.out,if_pos (.inr (.inl (by rw[<- HME.out];exact hlo)))]
     have HERR:=zh herr;clear herr
     go_wp2_with fail
     refine wp_goto ?_
     go_wp2_with fail
     refine⟨rfl, ?_⟩
     show Code.wp _ _ _ _ _
     go_wp2_with fail
     refine(efail_any _ _ _).mono ?_
     rintro e w1 ⟨rfl,rfl⟩
     exact⟨rfl,HNO.out _ HERR.out⟩
    ·by_cases hhi:hi<(m:Int)
     ·have herr:Dec.number lo hi xs p= .error p:=by rw[HSPEC.out,if_pos (.inr (.inr (by rw[<- HME.out];exact hhi)))]
      have HERR:=zh herr;clear herr
      go_wp2_with fail
      refine wp_goto ?_
      go_wp2_with fail
      refine⟨rfl, ?_⟩
      show Code.wp _ _ _ _ _
      go_wp2_with fail
      refine(efail_any _ _ _).mono ?_
      rintro e w1 ⟨rfl,rfl⟩
      exact⟨rfl,HNO.out _ HERR.out⟩
     ·have hok:Dec.number lo hi xs p= .ok ((m:Int),p+1+j):=by
       rw[HSPEC.out,<- HME.out,if_neg (by
        rintro(h | h | h)
        ·exact HNZ.out h
        ·exact hlo h
        ·exact hhi h)]
      have HOK:=zh hok;clear hok
      go_wp2_with fail
      simp only[Exit.jump]
      go_ret
      exact HYES.out _ _ HOK.out
theorem enumber_zero(be:Nat)(A:Option Addr)(n c:Nat)(xs:List UInt8)(p:Nat)(lo hi:Int)(w:World)(he:Eye w be A n c xs p)(hp:p<n)(k:Nat)(hkk:k=(xs.getD p 0).toNat)(hk:¬ 7<k)(hs:¬n-p-1<k)(h0:k=0):
  Calls Tryz.prog 130 #[.pointer (some ⟨be,0,none⟩), .int .i64 lo, .int .i64 hi] w (EyeEnd (α:=Int) (fun v=> .int .i64 v) be A n c xs w (Dec.number lo hi xs p)):=by
 have hc0:=he.1.cell 0
 have hc1:=he.1.cell 1
 have hf1:=he.1.frozen 1
 simp only[List.getElem?_toArray,List.getElem?_cons_zero,List.getElem?_cons_succ]at hc0 hc1
 have hm:=he.2.1.2.2.1
 have hn:=he.2.1.2.1
 unfold maxLen at hm
 obtain⟨b,o,rfl⟩:=he.2.1.at_ (by omega)
 have hcell:=he.2.1.cellAt hp
 rw[<- hkk]at hcell
 have hlt:=(xs.getD p 0).toNat_lt
 rw[<- hkk]at hlt
 have HKK:=zh hkk;clear hkk
 have HE:=zh he;clear he
 have H0:=zh h0;clear h0
 have hbe:b≠be:=Nat.ne_of_lt (HE.out.2.2.2 _ rfl (by omega))
 have hxl:=HE.out.2.1.1
 obtain⟨W,hW⟩:∃W,W=w.setCell ⟨be,1,none⟩ (.int .i64 ((p:Int)+(1+(k:Int)))):=⟨_,rfl⟩
 have hBW:Blk W be 167 #[.slice (some ⟨b,o,none⟩) n c, .int .i64 ((p:Int)+(1+(k:Int)))]:=by rw[hW];exact HE.out.1.set_ 1 _
 have hTW:Touch (·=be) w W:=by rw[hW];exact(Touch.refl (·=be) w).setCell (p:=⟨be,1,none⟩) (.inr rfl) _
 have hSW:Bs W (some ⟨b,o,none⟩) n c xs:=HE.out.2.1.touch hTW (fun a ha _ e=>by injection ha with ha;subst ha;exact hbe e)
 have HBW:=zh hBW;clear hBW
 have HTW:=zh hTW;clear hTW
 have HSW:=zh hSW;clear hSW
 have hno:∀nq,Dec.number lo hi xs p= .error p->EyeEnd (α:=Int) (fun v=> .int .i64 v) be (some ⟨b,o,none⟩) n c xs w (Dec.number lo hi xs p) (.panicked [stopAt p]) (W.drewN nq):=by
  intro nq h
  rw[h]
  exact⟨rfl,HTW.out.drewN nq⟩
 have hyes:∀nq (m:Nat),Dec.number lo hi xs p= .ok ((m:Int),p+1+k)->EyeEnd (α:=Int) (fun v=> .int .i64 v) be (some ⟨b,o,none⟩) n c xs w (Dec.number lo hi xs p) (.returned (.int .i64 m)) (W.drewN nq):=by
  intro nq m h
  rw[h]
  refine⟨rfl,⟨?_,HSW.out.drewN nq,by omega,HE.out.2.2.2⟩,HTW.out.drewN nq⟩
  have h0:=HBW.out.drewN nq
  have e1:(p:Int)+(1+(k:Int))=((p+1+k:Nat):Int):=by omega
  rw[e1]at h0
  exact h0
 have hds:((xs.drop (p+1)).take k).length=k:=by rw[List.length_take,List.length_drop,hxl];omega
 have hspec:Dec.number lo hi xs p=if (0<k/\xs.getD (p+1) 0=0)\/(Dec.val ((xs.drop (p+1)).take k):Int)<lo\/hi<(Dec.val ((xs.drop (p+1)).take k):Int) then .error p else .ok ((Dec.val ((xs.drop (p+1)).take k):Int),p+1+k):=by
  unfold Dec.number
  rw[<- HKK.out,hxl,if_neg (by omega),if_neg hk,if_neg hs]
 have hval:=Dec.val_lt7 ((xs.drop (p+1)).take k) (by omega)
 obtain⟨ds,hdsE⟩:∃ds,ds=(xs.drop (p+1)).take k:=⟨_,rfl⟩
 rw[<- hdsE]at hds hspec hval
 have HNO:=zh hno;clear hno
 have HYES:=zh hyes;clear hyes
 have HSPEC:=zh hspec;clear hspec
 have HDSE:=zh hdsE;clear hdsE
 have HDS:=zh hds;clear hds
 have HXL:=zh hxl;clear hxl
 go_enter Tryz.func130,Tryz.ntmps130
 go_wp2_with fail
 refine wp_scope_fwd 0 rfl ?_
 go_wp2_with fail
 rw[<- hW]
 have HW:=zh hW;clear hW
 have hWc0:=HBW.out.cell 0
 have hWc1:=HBW.out.cell 1
 simp only[List.getElem?_toArray,List.getElem?_cons_zero,List.getElem?_cons_succ]at hWc0 hWc1
 clear hc0 hc1 hf1 hcell
 have hs1:IntKind.i64.wrap ((p:Int)+1)=(p:Int)+1:=IntWalk.i64_in _ (by omega)
 go_quiet (fail)
 clear hs1
 have hds0:ds= []:=List.eq_nil_of_length_eq_zero (by rw[HDS.out];exact H0.out)
 have hv0:Dec.val ds=0:=by rw[hds0];rfl
 have hk0:decide (0<(k:Int))=false:=by have:=H0.out;simp;omega
 have HV0:=zh hv0
 clear hds0 hv0 hval
 go_wp2_with fail
 all_goals
  rw[show p+(1+k)-(p+1)=k from by omega]
  go_loop [8,74] (fun m i=>m= .int .i64 0/\i= .int .i64 0) (fun _ _=>0)
  case atStart=>exact⟨rfl,rfl⟩
  case round=>
   obtain⟨rfl,rfl⟩:=hrel
   have hk00:¬(0:Int)<(k:Int):=by have:=H0.out;omega
   by_cases hlo:(0:Int)<lo
   ·have herr:Dec.number lo hi xs p= .error p:=by rw[HSPEC.out,if_pos (.inr (.inl (by rw[HV0.out];exact hlo)))]
    have HERR:=zh herr;clear herr
    go_wp2_with fail
    refine wp_goto ?_
    go_wp2_with fail
    refine⟨rfl, ?_⟩
    show Code.wp _ _ _ _ _
    go_wp2_with fail
    refine(efail_any _ _ _).mono ?_
    rintro e w1 ⟨rfl,rfl⟩
    exact⟨rfl,HNO.out _ HERR.out⟩
   ·by_cases hhi:hi<(0:Int)
    ·have herr:Dec.number lo hi xs p= .error p:=by rw[HSPEC.out,if_pos (.inr (.inr (by rw[HV0.out];exact hhi)))]
     have HERR:=zh herr;clear herr
     go_wp2_with fail
     refine wp_goto ?_
     go_wp2_with fail
     refine⟨rfl, ?_⟩
     show Code.wp _ _ _ _ _
     go_wp2_with fail
     refine(efail_any _ _ _).mono ?_
     rintro e w1 ⟨rfl,rfl⟩
     exact⟨rfl,HNO.out _ HERR.out⟩
    ·have hok:Dec.number lo hi xs p= .ok (((0:Nat):Int),p+1+k):=by
      rw[HSPEC.out,HV0.out,if_neg (by
       rintro(h | h | h)
       ·have:=H0.out;omega
       ·exact hlo h
       ·exact hhi h)]
     have HOK:=zh hok;clear hok
     go_wp2_with fail
     simp only[Exit.jump]
     go_ret
     exact HYES.out _ 0 HOK.out
theorem enumber_any(be:Nat)(A:Option Addr)(n c:Nat)(xs:List UInt8)(p:Nat)(lo hi:Int)(w:World)(he:Eye w be A n c xs p):
  Calls Tryz.prog 130 #[.pointer (some ⟨be,0,none⟩), .int .i64 lo, .int .i64 hi] w (EyeEnd (α:=Int) (fun v=> .int .i64 v) be A n c xs w (Dec.number lo hi xs p)):=by
 have hxl:=he.2.1.1
 by_cases hp:p<n
 ·by_cases hk:7<(xs.getD p 0).toNat
  ·refine(enumber_big be A n c xs p lo hi w he hp hk).mono ?_
   rintro e w' ⟨rfl,rfl⟩
   unfold Dec.number
   rw[if_neg (by omega),if_pos hk]
   exact⟨rfl,Touch.refl _ _⟩
  ·by_cases hs:n-p-1<(xs.getD p 0).toNat
   ·refine(enumber_short be A n c xs p lo hi w he hp hk hs).mono ?_
    rintro e w' ⟨rfl,rfl⟩
    unfold Dec.number
    rw[if_neg (by omega),if_neg hk,hxl,if_pos hs]
    exact⟨rfl,Touch.refl _ _⟩
   ·rcases Nat.eq_zero_or_pos (xs.getD p 0).toNat with h0 | h0
    ·exact enumber_zero be A n c xs p lo hi w he hp _ rfl hk hs h0
    ·exact enumber_pos be A n c xs p lo hi w he hp _ rfl hk hs h0
 ·have:p=n:=by have:=he.2.2.1;omega
  subst this
  refine(enumber_end be A p c xs lo hi w he).mono ?_
  rintro e w' ⟨rfl,rfl⟩
  unfold Dec.number
  rw[if_pos (by omega),hxl]
  exact⟨rfl,Touch.refl _ _⟩
theorem EyeEnd.cases{α:Type}{f:α->Value}{be:Nat}{A:Option Addr}{n c:Nat}{xs:List UInt8}{w:World}{r:Dec.Rd α}{e:Ending}{w':World}(h:EyeEnd f be A n c xs w r e w'):
  (∃a,r= .error a/\e= .panicked [stopAt a]/\Touch (·=be) w w')\/(∃x p,r= .ok (x,p)/\e= .returned (f x)/\Eye w' be A n c xs p/\Touch (·=be) w w'):=by
 cases r with
 | error a=>exact .inl ⟨a,rfl,h.1,h.2⟩
 | ok y=>exact .inr ⟨y.1,y.2,rfl,h.1,h.2.1,h.2.2⟩
theorem EyeEnd.bad{α:Type}{f:α->Value}{be:Nat}{A:Option Addr}{n c:Nat}{xs:List UInt8}{w w':World}{r:Dec.Rd α}{a:Nat}(hr:r= .error a)(h:Touch (·=be) w w'):EyeEnd f be A n c xs w r (.panicked [stopAt a]) w':=hr ▸ ⟨rfl,h⟩
theorem EyeEnd.good{α:Type}{f:α->Value}{be:Nat}{A:Option Addr}{n c:Nat}{xs:List UInt8}{w w':World}{r:Dec.Rd α}{x:α}{p:Nat}(hr:r= .ok (x,p))(he:Eye w' be A n c xs p)(h:Touch (·=be) w w'):EyeEnd f be A n c xs w r (.returned (f x)) w':=hr ▸ ⟨rfl,he,h⟩
theorem eplain_any(be:Nat)(A:Option Addr)(n c:Nat)(xs:List UInt8)(p:Nat)(w:World)(he:Eye w be A n c xs p):
  Calls Tryz.prog 93 #[.pointer (some ⟨be,0,none⟩)] w (EyeEnd (α:=Int) (fun v=> .int .i64 v) be A n c xs w (Dec.plain xs p)):=by
 have HK:=zh (enumber_any be A n c xs p 0 4503599627370496 w he)
 clear he
 go_enter Tryz.func93,Tryz.ntmps93
 go_wp2_with fail
 refine HK.out.mono ?_
 intro e w1 h
 rcases h.cases with⟨a,hr,rfl,ht⟩ | ⟨x,q,hr,rfl,he,ht⟩
 ·exact⟨rfl,EyeEnd.bad hr ht⟩
 ·have HR:=zh hr;clear hr h
  have HE:=zh he;clear he
  have HT:=zh ht;clear ht
  go_wp2_with fail
  go_ret
  exact EyeEnd.good HR.out HE.out HT.out
theorem etext_any(be:Nat)(A:Option Addr)(n c:Nat)(xs:List UInt8)(p:Nat)(w:World)(he:Eye w be A n c xs p):
  Calls Tryz.prog 94 #[.pointer (some ⟨be,0,none⟩)] w (EyeEnd (α:=List UInt8) (fun v=> .string ⟨v.toArray⟩) be A n c xs w (Dec.text xs p)):=by
 have HK:=zh (enumber_any be A n c xs p 0 1048576 w he)
 clear he
 go_enter Tryz.func94,Tryz.ntmps94
 go_wp2_with fail
 refine HK.out.mono ?_
 intro e w1 h
 rcases h.cases with⟨a,hr,rfl,ht⟩ | ⟨x,q,hr,rfl,he,ht⟩
 ·exact⟨rfl,EyeEnd.bad (by unfold Dec.text;rw[hr]) ht⟩
 ·obtain⟨hpn,_,hq,hx0,hx1,_⟩:=Dec.number_ok hr
  have hxl:=he.2.1.1
  rw[hxl]at hpn hq
  obtain⟨m,rfl⟩:=Int.eq_ofNat_of_zero_le hx0
  obtain⟨b,o,rfl⟩:=he.2.1.at_ (by omega)
  have hs:Dec.text xs p=if n-q<m then .error n else .ok ((xs.drop q).take m,q+m):=by unfold Dec.text;rw[hr,hxl];rfl
  have HS:=zh hs
  have hnc:=he.2.1.2.1
  have hcm:=he.2.1.2.2.1
  unfold maxLen at hcm
  have hc0:=he.1.cell 0
  have hc1:=he.1.cell 1
  have hf1:=he.1.frozen 1
  simp only[List.getElem?_toArray,List.getElem?_cons_zero,List.getElem?_cons_succ]at hc0 hc1
  have HE:=zh he
  have HT:=zh ht
  have HXL:=zh hxl
  clear hs he ht hr h hxl
  have hs1:IntKind.i64.wrap ((n:Int)-(q:Int))=(n:Int)-(q:Int):=IntWalk.i64_in _ (by omega)
  by_cases hbig:n-q<m
  ·have hb1:(n:Int)-(q:Int)<(m:Int):=by omega
   have HS2:=zh (HS.out.trans (if_pos hbig))
   go_wp2_with fail
   go_quiet (fail)
   clear hs1
   go_wp2_with fail
   refine(efail_any _ _ _).mono ?_
   rintro e w2 ⟨rfl,rfl⟩
   exact⟨rfl,EyeEnd.bad HS2.out (HT.out.drewN _)⟩
  ·have hb1:¬(n:Int)-(q:Int)<(m:Int):=by omega
   have HS2:=zh (HS.out.trans (if_neg hbig))
   go_wp2_with fail
   go_quiet (fail)
   clear hs1
   go_wp2_with fail
   obtain⟨W,hW⟩:∃W,W=(w1.drewN nq).setCell ⟨be,1,none⟩ (.int .i64 ((q:Int)+(m:Int))):=⟨_,rfl⟩
   have hBW:Blk W be 167 #[.slice (some ⟨b,o,none⟩) n c, .int .i64 ((q:Int)+(m:Int))]:=by rw[hW];exact(HE.out.1.drewN nq).set_ 1 _
   have hTW:Touch (·=be) w1 W:=by rw[hW];exact((Touch.refl (·=be) w1).drewN nq).setCell (p:=⟨be,1,none⟩) (.inr rfl) _
   have hbe:b≠be:=Nat.ne_of_lt (HE.out.2.2.2 _ rfl (by omega))
   have hSW:Bs W (some ⟨b,o,none⟩) n c xs:=HE.out.2.1.touch hTW (fun a ha _ e=>by injection ha with ha;subst ha;exact hbe e)
   rw[<- hW]
   have HW:=zh hW;clear hW
   have hWc0:=hBW.cell 0
   have hWc1:=hBW.cell 1
   simp only[List.getElem?_toArray,List.getElem?_cons_zero,List.getElem?_cons_succ]at hWc0 hWc1
   have hgood:∀r,EyeEnd (α:=List UInt8) (fun v=> .string ⟨v.toArray⟩) be (some ⟨b,o,none⟩) n c xs w (Dec.text xs p) (.returned (.string ⟨((xs.drop q).take m).toArray⟩)) (W.drewN r):=by
    intro r
    refine EyeEnd.good (f:=fun v:List UInt8=>Value.string ⟨v.toArray⟩) HS2.out ⟨?_,hSW.drewN r,by omega,HE.out.2.2.2⟩ ((HT.out.trans hTW (fun _ _ h=>h)).drewN r)
    have h0:=hBW.drewN r
    rw[show (q:Int)+(m:Int)=((q+m:Nat):Int) from by omega]at h0
    exact h0
   have HGOOD:=zh hgood
   have HSW:=zh hSW
   clear hgood hSW hBW hTW hc0 hc1 hf1
   have hs2:IntKind.i64.wrap ((q:Int)+(m:Int)-(m:Int))=(q:Int):=by rw[IntWalk.i64_in _ (by omega)];omega
   by_cases hcq:c=q
   ·have hm0:m=0:=by omega
    subst hm0
    subst hcq
    have hcv:∀r,(convert 29 9 (.slice (some ⟨b,o,none⟩) 0 0)).run Tryz.prog (W.drewN r)= .ok (.string ⟨(([]:List UInt8)).toArray⟩) (W.drewN r):=fun r=>
     run_convert_Bs _ _ Tryz.underlying29 Tryz.underlying5 Tryz.underlying9 ⟨rfl,Nat.le_refl _,by simp[maxLen],fun h=>by omega⟩
    have hs3:IntKind.i64.wrap (c:Int)=(c:Int):=IntWalk.i64_in _ (by omega)
    clear hs2
    go_quiet (fail)
    go_wp2_with fail
    go_ret
    have:=fun r=>HGOOD.out r
    simp only[List.take_zero]at this
    exact this _
   ·have hcv:∀r,(convert 29 9 (.slice (some ⟨b,o+q,none⟩) m (c-q))).run Tryz.prog (W.drewN r)= .ok (.string ⟨((xs.drop q).take m).toArray⟩) (W.drewN r):=fun r=>
     run_convert_Bs _ _ Tryz.underlying29 Tryz.underlying5 Tryz.underlying9 ((HSW.out.drop_ (k:=q) (by omega)).take (by omega) |>.drewN r)
    go_quiet (fail)
    go_wp2_with fail
    go_ret
    exact HGOOD.out _
theorem eflag_any(be:Nat)(A:Option Addr)(n c:Nat)(xs:List UInt8)(p:Nat)(w:World)(he:Eye w be A n c xs p):
  Calls Tryz.prog 95 #[.pointer (some ⟨be,0,none⟩)] w (EyeEnd (α:=Bool) (fun v=> .bool v) be A n c xs w (Dec.flag xs p)):=by
 have hxl:=he.2.1.1
 have hnc:=he.2.1.2.1
 have hcm:=he.2.1.2.2.1
 have hpn:=he.2.2.1
 unfold maxLen at hcm
 have hc0:=he.1.cell 0
 have hc1:=he.1.cell 1
 have hf1:=he.1.frozen 1
 simp only[List.getElem?_toArray,List.getElem?_cons_zero,List.getElem?_cons_succ]at hc0 hc1
 have HE:=zh he;clear he
 have HXL:=zh hxl;clear hxl
 by_cases hp:p=n
 ·subst hp
  have hs:Dec.flag xs p= .error p:=by unfold Dec.flag;rw[HXL.out,if_pos (Nat.le_refl _)]
  have HS:=zh hs;clear hs
  have hb:((p:Int) == (p:Int))=true:=by simp
  go_enter Tryz.func95,Tryz.ntmps95
  go_wp2_with fail
  go_quiet (fail)
  go_wp2_with fail
  refine(efail_any _ _ _).mono ?_
  rintro e w2 ⟨rfl,rfl⟩
  exact⟨rfl,EyeEnd.bad HS.out ((Touch.refl _ _).drewN _)⟩
 ·obtain⟨b,o,rfl⟩:=HE.out.2.1.at_ (by omega)
  have hcell:=HE.out.2.1.cellAt (j:=p) (by omega)
  have hlt:=(xs.getD p 0).toNat_lt
  have hb:((p:Int) == (n:Int))=false:=by simp;omega
  have hs:Dec.flag xs p=if 1<(xs.getD p 0).toNat then .error p else .ok ((xs.getD p 0).toNat == 1,p+1):=by unfold Dec.flag;rw[HXL.out,if_neg (by omega)]
  have HS:=zh hs;clear hs
  generalize (xs.getD p 0).toNat=x at*
  by_cases hx:1<x
  ·have HS2:=zh (HS.out.trans (if_pos hx))
   have hx':decide ((1:Int)<(x:Int))=true:=by simp;omega
   go_enter Tryz.func95,Tryz.ntmps95
   go_wp2_with fail
   go_quiet (fail)
   go_wp2_with fail
   refine(efail_any _ _ _).mono ?_
   rintro e w2 ⟨rfl,rfl⟩
   exact⟨rfl,EyeEnd.bad HS2.out ((Touch.refl _ _).drewN _)⟩
  ·have HS2:=zh (HS.out.trans (if_neg hx))
   have hx':decide ((1:Int)<(x:Int))=false:=by simp;omega
   go_enter Tryz.func95,Tryz.ntmps95
   go_wp2_with fail
   go_quiet (fail)
   go_wp2_with fail
   have hbe:b≠be:=Nat.ne_of_lt (HE.out.2.2.2 _ rfl (by omega))
   obtain⟨W,hW⟩:∃W,W=(w.drewN nq).setCell ⟨be,1,none⟩ (.int .i64 ((p:Int)+1)):=⟨_,rfl⟩
   have hBW:Blk W be 167 #[.slice (some ⟨b,o,none⟩) n c, .int .i64 ((p:Int)+1)]:=by rw[hW];exact(HE.out.1.drewN nq).set_ 1 _
   have hTW:Touch (·=be) w W:=by rw[hW];exact((Touch.refl (·=be) w).drewN nq).setCell (p:=⟨be,1,none⟩) (.inr rfl) _
   have hSW:Bs W (some ⟨b,o,none⟩) n c xs:=HE.out.2.1.touch hTW (fun a ha _ e=>by injection ha with ha;subst ha;exact hbe e)
   have hcell2:W.cell? ⟨b,o+p,none⟩=some (.int .u8 (x:Int)):=hTW.cell hcell hbe
   rw[<- hW]
   have HW:=zh hW;clear hW
   have hWc0:=hBW.cell 0
   have hWc1:=hBW.cell 1
   simp only[List.getElem?_toArray,List.getElem?_cons_zero,List.getElem?_cons_succ]at hWc0 hWc1
   have hgood:∀r,EyeEnd (α:=Bool) (fun v=> .bool v) be (some ⟨b,o,none⟩) n c xs w (Dec.flag xs p) (.returned (.bool (x == 1))) (W.drewN r):=by
    intro r
    refine EyeEnd.good (f:=fun v:Bool=>Value.bool v) HS2.out ⟨?_,hSW.drewN r,by omega,HE.out.2.2.2⟩ (hTW.drewN r)
    exact hBW.drewN r
   have HGOOD:=zh hgood
   clear hgood hSW hBW hTW hc0 hc1 hf1 hcell
   have hs2:IntKind.i64.wrap ((p:Int)+1-1)=(p:Int):=by rw[IntWalk.i64_in _ (by omega)];omega
   by_cases h1:x=1
   ·subst h1
    go_quiet (fail)
    go_wp2_with fail
    go_ret
    exact HGOOD.out _
   ·have hx0:x=0:=by omega
    subst hx0
    go_quiet (fail)
    go_wp2_with fail
    go_ret
    exact HGOOD.out _
def intV(n:Int):Value:= .int .i64 n
def Fresh3(G:Nat->Prop)(w w2:World):Prop:=Touch G w w2/\w.heap.size+1+1<w2.heap.size
def RecG{α:Type}(f:α->Value)(be:Nat)(G:Nat->Prop)(A:Option Addr)(n c:Nat)(xs:List UInt8)(bad:Nat->Prop)(Good:α->Nat->World->Prop)(w1:World)(e:Ending)(w2:World):Prop:=
 (∃a,e= .panicked [stopAt a]/\bad a/\Touch (fun k=>k=be\/G k) w1 w2)\/
 (∃x q,e= .returned (f x)/\Good x q w2/\Eye w2 be A n c xs q/\Touch (fun k=>k=be\/G k) w1 w2)
def RecGEnd{α:Type}(f:α->Value)(zero:Value)(n:Nat)(G:Nat->Prop)(bad:Nat->Prop)(Good:α->Nat->World->Prop)(w:World)(e:Ending)(w':World):Prop:=
 Touch G w w'/\((∃a,bad a/\e= .returned (.tuple #[zero, .int .i64 (a:Nat), .int .i64 2]))\/
  (∃x q w2,Good x q w2/\((q<n/\e= .returned (.tuple #[zero, .int .i64 (q:Nat), .int .i64 2]))\/(n<=q/\w2=w'/\e= .returned (.tuple #[f x, .int .i64 0, .int .i64 0])))))
theorem rcatch_idle_int(p q r:Addr)(w:World):
  CallsD Tryz.prog 131 #[.pointer (some p), .pointer (some q), .pointer (some r)] .returning w fun e u' w'=>e= .returned (.tuple #[])/\u'= .returning/\w'=w:=by
 refine callsD_of_wpS Tryz.func131 rfl fun c₀ cs hu=> ?_
 apply wpS_seq
 apply wpS_region
 simp[wpOpsS,go_sem,recoverD,hu,Tryz.ntmps131,Exit.thenS]
 refine wpS_of_wp ?_
 have heq:∀w,(binOp .eql 20 .nilIface .nilIface).run Tryz.prog w= .ok (.bool true) w:=fun _=>by kernel_rfl
 go_wp2
 cases c₀
 simp_all [bodyPostS,results,Tryz.results131]
theorem rcatch_stop_int(xb ab yb at_:Nat)(c0:Value)(n m:Int)(older:List PanicEntry)(w:World)(hx:Blk w xb 3 #[c0])(hne:xb≠ab)(ha:Blk w ab 3 #[.int .i64 n])(hy:Blk w yb 40 #[.int .i64 m]):
  CallsD Tryz.prog 131 #[.pointer (some ⟨xb,0,none⟩), .pointer (some ⟨ab,0,none⟩), .pointer (some ⟨yb,0,none⟩)] (.panicking (stopAt at_ :: older)) w fun e u' w'=>
   e= .returned (.tuple #[])/\u'= .panicking ({ stopAt at_ with recovered:=true } :: older)/\Touch (fun k=>k=xb\/k=ab\/k=yb) w w'/\Blk w' xb 3 #[.int .i64 0]/\Blk w' ab 3 #[.int .i64 at_]/\Blk w' yb 40 #[.int .i64 2]:=by
 have hay:ab≠yb:=ha.ne_ hy (by decide)
 have hxy:xb≠yb:=hx.ne_ hy (by decide)
 have hcx0:w.cell? ⟨xb,0,none⟩=some c0:=hx.cell 0
 have hfx0:w.frozen? ⟨xb,0,none⟩=false:=hx.frozen 0
 have hca:w.cell? ⟨ab,0,none⟩=some (.int .i64 n):=ha.cell 0
 have hfa:w.frozen? ⟨ab,0,none⟩=false:=ha.frozen 0
 have hcy:w.cell? ⟨yb,0,none⟩=some (.int .i64 m):=hy.cell 0
 have hfy:w.frozen? ⟨yb,0,none⟩=false:=hy.frozen 0
 have hxl:=hx.lt
 have hal:=ha.lt
 have hyl:=hy.lt
 refine callsD_of_wpS Tryz.func131 rfl fun c₀ cs hu=> ?_
 apply wpS_seq
 apply wpS_region
 simp[wpOpsS,go_sem,recoverD,hu,Tryz.ntmps131,Exit.thenS,stopAt,Array.replicate_succ,Array.replicate_zero]
 refine wpS_of_wp ?_
 have heq:∀w,(binOp .eql 20 (.iface 133 (.agg #[.int .i64 at_])) .nilIface).run Tryz.prog w= .ok (.bool false) w:=fun _=>by kernel_rfl
 have hta:∀w,(Instr.typeAssert (.iface 133 (.agg #[.int .i64 at_])) 20 133 true).run Tryz.prog w= .ok (.tuple #[.agg #[.int .i64 at_], .bool true]) w:=fun _=>by kernel_rfl
 have HX:=zh hx;clear hx
 have HA:=zh ha;clear ha
 have HY:=zh hy;clear hy
 go_wp2
 go_region
 go_wp2
 obtain⟨W,hW⟩:∃W,W=(((((w.setCell ⟨xb,0,none⟩ (.int .i64 0)).setCell ⟨ab,0,none⟩ (.int .i64 at_)).setCell ⟨yb,0,none⟩ (.int .i64 2)).alloc (.cells #[.int .i64 at_] 133))).drew:=⟨_,rfl⟩
 rw[<- hW]
 have h1:Touch (fun k=>k=xb\/k=ab\/k=yb) w W:=by
  rw[hW]
  exact((((((Touch.refl (fun k=>k=xb\/k=ab\/k=yb) w).setCell (p:=⟨xb,0,none⟩) (.inr (.inl rfl)) _).setCell (p:=⟨ab,0,none⟩) (.inr (.inr (.inl rfl))) _).setCell (p:=⟨yb,0,none⟩) (.inr (.inr (.inr rfl))) _).alloc _)).drew
 have h2:Blk W xb 3 #[.int .i64 0]:=by
  rw[hW]
  exact(((((HX.out.set_ 0 (.int .i64 0)).far (p:=⟨ab,0,none⟩) hne (.int .i64 at_)).far (p:=⟨yb,0,none⟩) hxy (.int .i64 2)).alloc (.cells #[.int .i64 at_] 133))).drew
 have h3:Blk W ab 3 #[.int .i64 at_]:=by
  rw[hW]
  exact((((((HA.out.far (p:=⟨xb,0,none⟩) hne.symm (.int .i64 0)).set_ 0 (.int .i64 at_)).far (p:=⟨yb,0,none⟩) hay (.int .i64 2)).alloc (.cells #[.int .i64 at_] 133))).drew)
 have h4:Blk W yb 40 #[.int .i64 2]:=by
  rw[hW]
  exact((((((HY.out.far (p:=⟨xb,0,none⟩) hxy.symm (.int .i64 0)).far (p:=⟨ab,0,none⟩) hay.symm (.int .i64 at_)).set_ 0 (.int .i64 2)).alloc (.cells #[.int .i64 at_] 133))).drew)
 have hW':=zh hW
 clear hW
 exact⟨rfl,_,rfl,_,results_none rfl _ _ _,rfl,rfl,h1,h2,h3,h4⟩
theorem record_int_g(fid:Nat)(caps:Array Value)(G:Nat->Prop)(A:Option Addr)(n c:Nat)(xs:List UInt8)(bad:Nat->Prop)(Good:Int->Nat->World->Prop)(w:World)(hbs:Bs w A n c xs)(hA:∀a,A=some a->0<n->a.block<w.heap.size)
  (hG:∀k,G k->k<w.heap.size) (hent:∀(args:Array Value) (w:World),(callFunc fid args).run Tryz.prog w= .ok (.enter fid args) w)
  (hstab:∀x q w2 w3,Fresh3 G w w2->Good x q w2->Touch (fun k=>k=w.heap.size\/k=w.heap.size+1\/k=w.heap.size+1+1) w2 w3->Good x q w3)
  (hf:∀w1 be,Fresh w w1->w.heap.size+1+1<be->Eye w1 be A n c xs 0->Calls Tryz.prog fid (#[.pointer (some ⟨be,0,none⟩)]++caps) w1 (RecG intV be G A n c xs bad Good w1)):
  Calls Tryz.prog 96 #[.slice A n c, .func (.func fid) #[] caps] w (RecGEnd intV (.int .i64 0) n G bad Good w):=by
 have hmf:∀(fn:Fn) (first cap:Array Value) (w:World),(Instr.makeFunc fn first cap).run Tryz.prog w= .ok (.func fn first cap) w:=fun _ _ _ _=>rfl
 have HF:=zh hf;clear hf
 have hcm:=hbs.2.2.1
 have hnc:=hbs.2.1
 unfold maxLen at hcm
 have HBS:=zh hbs;clear hbs
 have HAB:=zh hA;clear hA
 have HG:=zh hG;clear hG
 have HST:=zh hstab;clear hstab
 go_enter_defers Tryz.func96,Tryz.ntmps96
 go_wp2_with fail
 obtain⟨w1,hw1⟩:∃w1,w1=(((w.alloc (Obj.cells #[.int .i64 0] 3)).alloc (Obj.cells #[.int .i64 0] 3)).alloc (Obj.cells #[.int .i64 0] 40)).alloc (Obj.cells #[.slice A n c, .int .i64 0] 167):=⟨_,rfl⟩
 have hfr:Fresh w w1:=by rw[hw1];exact((((Touch.refl _ w).alloc _).alloc _).alloc _).alloc _
 have hBx:Blk w1 w.heap.size 3 #[.int .i64 0]:=by rw[hw1];exact(((Blk.new w _ _).alloc _).alloc _).alloc _
 have hBa:Blk w1 (w.heap.size+1) 3 #[.int .i64 0]:=by
  rw[hw1]
  have:=((Blk.new (w.alloc (Obj.cells #[.int .i64 0] 3)) 3 #[.int .i64 0]).alloc (Obj.cells #[.int .i64 0] 40)).alloc (Obj.cells #[.slice A n c, .int .i64 0] 167)
  simpa only[World.size_alloc] using this
 have hBy:Blk w1 (w.heap.size+1+1) 40 #[.int .i64 0]:=by
  rw[hw1]
  have:=(Blk.new ((w.alloc (Obj.cells #[.int .i64 0] 3)).alloc (Obj.cells #[.int .i64 0] 3)) 40 #[.int .i64 0]).alloc (Obj.cells #[.slice A n c, .int .i64 0] 167)
  simpa only[World.size_alloc] using this
 have hBe:Blk w1 (w.heap.size+1+1+1) 167 #[.slice A n c, .int .i64 ((0:Nat):Int)]:=by
  rw[hw1]
  have:=Blk.new (((w.alloc (Obj.cells #[.int .i64 0] 3)).alloc (Obj.cells #[.int .i64 0] 3)).alloc (Obj.cells #[.int .i64 0] 40)) 167 #[.slice A n c, .int .i64 0]
  simp only[World.size_alloc]at this
  exact this
 have hsz:w.heap.size+1+1+1+1=w1.heap.size:=by rw[hw1];simp
 rw[<- hw1]
 have HW1:=zh hw1;clear hw1
 have hey:Eye w1 (w.heap.size+1+1+1) A n c xs 0:=⟨hBe,HBS.out.fresh hfr,Nat.zero_le _,fun a ha h0=>by have:=HAB.out a ha h0;omega⟩
 refine(HF.out w1 (w.heap.size+1+1+1) hfr (by omega) hey).mono ?_
 intro e w2 h
 rcases h with⟨a,rfl,hr,ht⟩ | ⟨x,q,rfl,hr,he2,ht⟩
 ·have hBx':=hBx.touch ht (fun h=>h.elim (fun h=>by omega) (fun h=>by have:=HG.out _ h;omega))
  have hBa':=hBa.touch ht (fun h=>h.elim (fun h=>by omega) (fun h=>by have:=HG.out _ h;omega))
  have hBy':=hBy.touch ht (fun h=>h.elim (fun h=>by omega) (fun h=>by have:=HG.out _ h;omega))
  refine leaves_cons (f:=131) (args:= #[.pointer (some ⟨w.heap.size,0,none⟩), .pointer (some ⟨w.heap.size+1,0,none⟩), .pointer (some ⟨w.heap.size+1+1,0,none⟩)]) (by simp) (by simp[go_sem]) ?_
  refine(rcatch_stop_int (w.heap.size) (w.heap.size+1) (w.heap.size+1+1) a (.int .i64 0) 0 0 [] w2 hBx' (by omega) hBa' hBy').mono ?_
  rintro e u' w3 ⟨rfl,rfl,ht3,hb1,hb2,hb3⟩
  have hfin:Touch G w w3:=((hfr.mono (fun _ _ h=>h.elim)).trans ht (fun i hi hs=>hs.elim (fun hs=>by omega) (fun hs=>hs))).trans ht3 (fun i hi hs=>by omega)
  have HFIN:RecGEnd intV (.int .i64 0) n G bad Good w (.returned (.tuple #[.int .i64 0, .int .i64 a, .int .i64 2])) w3:=⟨hfin, .inl ⟨a,hr,rfl⟩⟩
  have hcz0:=hb1.cell 0
  have hca:=hb2.cell 0
  have hcy:=hb3.cell 0
  simp only[List.getElem?_toArray,List.getElem?_cons_zero]at hcz0 hca hcy
  simpa [Leaves,settle,results,Tryz.results96,go_sem,hcz0,hca,hcy] using HFIN
 ·have hBx':=hBx.touch ht (fun h=>h.elim (fun h=>by omega) (fun h=>by have:=HG.out _ h;omega))
  have hBa':=hBa.touch ht (fun h=>h.elim (fun h=>by omega) (fun h=>by have:=HG.out _ h;omega))
  have hBy':=hBy.touch ht (fun h=>h.elim (fun h=>by omega) (fun h=>by have:=HG.out _ h;omega))
  have hsz2:=ht.size
  have hfr2:Touch G w w2:=(hfr.mono (fun _ _ h=>h.elim)).trans ht (fun i hi hs=>hs.elim (fun hs=>by omega) (fun hs=>hs))
  have hst3:Fresh3 G w w2:=⟨hfr2,by omega⟩
  have hqn:=he2.2.2.1
  have hcv0:=hBx'.cell 0
  have hfv0:=hBx'.frozen 0
  have hca:=hBa'.cell 0
  have hcy:=hBy'.cell 0
  have hfa:=hBa'.frozen 0
  have hfy:=hBy'.frozen 0
  have hce0:=he2.1.cell 0
  have hce1:=he2.1.cell 1
  simp only[List.getElem?_toArray,List.getElem?_cons_zero,List.getElem?_cons_succ]at hcv0 hca hcy hce0 hce1
  have HR:=zh hr
  have HFR2:=zh hfr2
  have HST3:=zh hst3
  clear hst3
  have HBX:=zh hBx'
  have HBA:=zh hBa'
  have HBY:=zh hBy'
  clear hr hfr2 hBx' hBa' hBy' he2 ht hBx hBa hBy hBe hfr hey hmf hent
  by_cases hq:q<n
  ·have HQ:=zh hq
   obtain⟨w3,hw3⟩:∃w3,w3=(w2.setCell ⟨w.heap.size,0,none⟩ (.int .i64 x)):=⟨_,rfl⟩
   have hB3:Blk w3 w.heap.size 3 #[.int .i64 x]:=by rw[hw3];exact(HBX.out.set_ 0 (.int .i64 x))
   have hBa3:Blk w3 (w.heap.size+1) 3 #[.int .i64 0]:=by rw[hw3];exact(HBA.out.far (p:=⟨w.heap.size,0,none⟩) (by simp) (.int .i64 x))
   have hBy3:Blk w3 (w.heap.size+1+1) 40 #[.int .i64 0]:=by rw[hw3];exact(HBY.out.far (p:=⟨w.heap.size,0,none⟩) (by simp;omega) (.int .i64 x))
   have hfr3:Touch G w w3:=by rw[hw3];exact(HFR2.out.setCell (p:=⟨w.heap.size,0,none⟩) (.inl (Nat.le_refl _)) _)
   have HB3:=zh hB3
   have HBA3:=zh hBa3
   have HBY3:=zh hBy3
   have HFR3:=zh hfr3
   have HW3:=zh hw3
   clear hB3 hBa3 hBy3 hfr3 hw3
   unfold intV
   go_wp2_with fail
   rw[<- HW3.out]
   refine(efail_any _ _ _).mono ?_
   rintro e w4 ⟨rfl,rfl⟩
   refine leaves_cons (f:=131) (args:= #[.pointer (some ⟨w.heap.size,0,none⟩), .pointer (some ⟨w.heap.size+1,0,none⟩), .pointer (some ⟨w.heap.size+1+1,0,none⟩)]) (by simp) (by simp[go_sem]) ?_
   refine(rcatch_stop_int (w.heap.size) (w.heap.size+1) (w.heap.size+1+1) q (.int .i64 x) 0 0 [] w3 HB3.out (by omega) HBA3.out HBY3.out).mono ?_
   rintro e u' w4 ⟨rfl,rfl,ht3,hb1,hb2,hb3⟩
   have hfin:Touch G w w4:=HFR3.out.trans ht3 (fun i hi hs=>by omega)
   have HFIN:RecGEnd intV (.int .i64 0) n G bad Good w (.returned (.tuple #[.int .i64 0, .int .i64 q, .int .i64 2])) w4:=⟨hfin, .inr ⟨x,q,w2,HR.out, .inl ⟨HQ.out,rfl⟩⟩⟩
   have hcz0:=hb1.cell 0
   have hca:=hb2.cell 0
   have hcy:=hb3.cell 0
   simp only[List.getElem?_toArray,List.getElem?_cons_zero]at hcz0 hca hcy
   simpa [Leaves,settle,results,Tryz.results96,go_sem,hcz0,hca,hcy] using HFIN
  ·have HQ:=zh hq
   unfold intV
   go_wp2_with fail
   obtain⟨w5,hw5⟩:∃w5,w5=(((w2.setCell ⟨w.heap.size,0,none⟩ (.int .i64 x)).setCell ⟨w.heap.size,0,none⟩ (.int .i64 x)).setCell ⟨w.heap.size+1,0,none⟩ (.int .i64 0)).setCell ⟨w.heap.size+1+1,0,none⟩ (.int .i64 0):=⟨_,rfl⟩
   have hb1:Blk w5 w.heap.size 3 #[.int .i64 x]:=by rw[hw5];exact(((HBX.out.set_ 0 (.int .i64 x)).set_ 0 (.int .i64 x)).far (p:=⟨w.heap.size+1,0,none⟩) (by simp) (.int .i64 0)).far (p:=⟨w.heap.size+1+1,0,none⟩) (by simp;omega) (.int .i64 0)
   have hb2:Blk w5 (w.heap.size+1) 3 #[.int .i64 0]:=by rw[hw5];exact(((HBA.out.far (p:=⟨w.heap.size,0,none⟩) (by simp) (.int .i64 x)).far (p:=⟨w.heap.size,0,none⟩) (by simp) (.int .i64 x)).set_ 0 (.int .i64 0)).far (p:=⟨w.heap.size+1+1,0,none⟩) (by simp) (.int .i64 0)
   have hb3:Blk w5 (w.heap.size+1+1) 40 #[.int .i64 0]:=by rw[hw5];exact(((HBY.out.far (p:=⟨w.heap.size,0,none⟩) (by simp;omega) (.int .i64 x)).far (p:=⟨w.heap.size,0,none⟩) (by simp;omega) (.int .i64 x)).far (p:=⟨w.heap.size+1,0,none⟩) (by simp) (.int .i64 0)).set_ 0 (.int .i64 0)
   have hfin:Touch G w w5:=by rw[hw5];exact(((HFR2.out.setCell (p:=⟨w.heap.size,0,none⟩) (.inl (Nat.le_refl _)) _).setCell (p:=⟨w.heap.size,0,none⟩) (.inl (Nat.le_refl _)) _).setCell (p:=⟨w.heap.size+1,0,none⟩) (.inl (by simp)) _).setCell (p:=⟨w.heap.size+1+1,0,none⟩) (.inl (by simp;omega)) _
   have hgood:Good x q w5:=HST.out x q w2 w5 HST3.out HR.out (by rw[hw5];exact((((Touch.refl (fun k=>k=w.heap.size\/k=w.heap.size+1\/k=w.heap.size+1+1) w2).setCell (p:=⟨w.heap.size,0,none⟩) (.inr (.inl rfl)) _).setCell (p:=⟨w.heap.size,0,none⟩) (.inr (.inl rfl)) _).setCell (p:=⟨w.heap.size+1,0,none⟩) (.inr (.inr (.inl rfl))) _).setCell (p:=⟨w.heap.size+1+1,0,none⟩) (.inr (.inr (.inr rfl))) _)
   rw[<- hw5]
   clear hw5
   have HFIN:RecGEnd intV (.int .i64 0) n G bad Good w (.returned (.tuple #[.int .i64 x, .int .i64 0, .int .i64 0])) w5:=⟨hfin, .inr ⟨x,q,w5,hgood, .inr ⟨by omega,rfl,rfl⟩⟩⟩
   refine leaves_cons (f:=131) (args:= #[.pointer (some ⟨w.heap.size,0,none⟩), .pointer (some ⟨w.heap.size+1,0,none⟩), .pointer (some ⟨w.heap.size+1+1,0,none⟩)]) (by simp) (by simp[go_sem]) ?_
   refine(rcatch_idle_int _ _ _ _).mono ?_
   rintro e u' w4 ⟨rfl,rfl,rfl⟩
   have hcz0:=hb1.cell 0
   have hca:=hb2.cell 0
   have hcy:=hb3.cell 0
   simp only[List.getElem?_toArray,List.getElem?_cons_zero]at hcz0 hca hcy
   simpa [Leaves,settle,results,Tryz.results96,go_sem,hcz0,hca,hcy] using HFIN
def slV(x:Option Addr×Nat×Nat):Value:= .slice x.1 x.2.1 x.2.2
theorem rcatch_idle_ops(p q r:Addr)(w:World):
  CallsD Tryz.prog 128 #[.pointer (some p), .pointer (some q), .pointer (some r)] .returning w fun e u' w'=>e= .returned (.tuple #[])/\u'= .returning/\w'=w:=by
 refine callsD_of_wpS Tryz.func128 rfl fun c₀ cs hu=> ?_
 apply wpS_seq
 apply wpS_region
 simp[wpOpsS,go_sem,recoverD,hu,Tryz.ntmps128,Exit.thenS]
 refine wpS_of_wp ?_
 have heq:∀w,(binOp .eql 20 .nilIface .nilIface).run Tryz.prog w= .ok (.bool true) w:=fun _=>by kernel_rfl
 go_wp2
 cases c₀
 simp_all [bodyPostS,results,Tryz.results128]
theorem rcatch_stop_ops(xb ab yb at_:Nat)(c0:Value)(n m:Int)(older:List PanicEntry)(w:World)(hx:Blk w xb 28 #[c0])(hne:xb≠ab)(ha:Blk w ab 3 #[.int .i64 n])(hy:Blk w yb 40 #[.int .i64 m]):
  CallsD Tryz.prog 128 #[.pointer (some ⟨xb,0,none⟩), .pointer (some ⟨ab,0,none⟩), .pointer (some ⟨yb,0,none⟩)] (.panicking (stopAt at_ :: older)) w fun e u' w'=>
   e= .returned (.tuple #[])/\u'= .panicking ({ stopAt at_ with recovered:=true } :: older)/\Touch (fun k=>k=xb\/k=ab\/k=yb) w w'/\Blk w' xb 28 #[.slice none 0 0]/\Blk w' ab 3 #[.int .i64 at_]/\Blk w' yb 40 #[.int .i64 2]:=by
 have hay:ab≠yb:=ha.ne_ hy (by decide)
 have hxy:xb≠yb:=hx.ne_ hy (by decide)
 have hcx0:w.cell? ⟨xb,0,none⟩=some c0:=hx.cell 0
 have hfx0:w.frozen? ⟨xb,0,none⟩=false:=hx.frozen 0
 have hca:w.cell? ⟨ab,0,none⟩=some (.int .i64 n):=ha.cell 0
 have hfa:w.frozen? ⟨ab,0,none⟩=false:=ha.frozen 0
 have hcy:w.cell? ⟨yb,0,none⟩=some (.int .i64 m):=hy.cell 0
 have hfy:w.frozen? ⟨yb,0,none⟩=false:=hy.frozen 0
 have hxl:=hx.lt
 have hal:=ha.lt
 have hyl:=hy.lt
 refine callsD_of_wpS Tryz.func128 rfl fun c₀ cs hu=> ?_
 apply wpS_seq
 apply wpS_region
 simp[wpOpsS,go_sem,recoverD,hu,Tryz.ntmps128,Exit.thenS,stopAt,Array.replicate_succ,Array.replicate_zero]
 refine wpS_of_wp ?_
 have heq:∀w,(binOp .eql 20 (.iface 133 (.agg #[.int .i64 at_])) .nilIface).run Tryz.prog w= .ok (.bool false) w:=fun _=>by kernel_rfl
 have hta:∀w,(Instr.typeAssert (.iface 133 (.agg #[.int .i64 at_])) 20 133 true).run Tryz.prog w= .ok (.tuple #[.agg #[.int .i64 at_], .bool true]) w:=fun _=>by kernel_rfl
 have HX:=zh hx;clear hx
 have HA:=zh ha;clear ha
 have HY:=zh hy;clear hy
 go_wp2
 go_region
 go_wp2
 obtain⟨W,hW⟩:∃W,W=(((((w.setCell ⟨xb,0,none⟩ (.slice none 0 0)).setCell ⟨ab,0,none⟩ (.int .i64 at_)).setCell ⟨yb,0,none⟩ (.int .i64 2)).alloc (.cells #[.int .i64 at_] 133))).drew:=⟨_,rfl⟩
 rw[<- hW]
 have h1:Touch (fun k=>k=xb\/k=ab\/k=yb) w W:=by
  rw[hW]
  exact((((((Touch.refl (fun k=>k=xb\/k=ab\/k=yb) w).setCell (p:=⟨xb,0,none⟩) (.inr (.inl rfl)) _).setCell (p:=⟨ab,0,none⟩) (.inr (.inr (.inl rfl))) _).setCell (p:=⟨yb,0,none⟩) (.inr (.inr (.inr rfl))) _).alloc _)).drew
 have h2:Blk W xb 28 #[.slice none 0 0]:=by
  rw[hW]
  exact(((((HX.out.set_ 0 (.slice none 0 0)).far (p:=⟨ab,0,none⟩) hne (.int .i64 at_)).far (p:=⟨yb,0,none⟩) hxy (.int .i64 2)).alloc (.cells #[.int .i64 at_] 133))).drew
 have h3:Blk W ab 3 #[.int .i64 at_]:=by
  rw[hW]
  exact((((((HA.out.far (p:=⟨xb,0,none⟩) hne.symm (.slice none 0 0)).set_ 0 (.int .i64 at_)).far (p:=⟨yb,0,none⟩) hay (.int .i64 2)).alloc (.cells #[.int .i64 at_] 133))).drew)
 have h4:Blk W yb 40 #[.int .i64 2]:=by
  rw[hW]
  exact((((((HY.out.far (p:=⟨xb,0,none⟩) hxy.symm (.slice none 0 0)).far (p:=⟨ab,0,none⟩) hay.symm (.int .i64 at_)).set_ 0 (.int .i64 2)).alloc (.cells #[.int .i64 at_] 133))).drew)
 have hW':=zh hW
 clear hW
 exact⟨rfl,_,rfl,_,results_none rfl _ _ _,rfl,rfl,h1,h2,h3,h4⟩
theorem record_ops_g(fid:Nat)(caps:Array Value)(G:Nat->Prop)(A:Option Addr)(n c:Nat)(xs:List UInt8)(bad:Nat->Prop)(Good:(Option Addr×Nat×Nat)->Nat->World->Prop)(w:World)(hbs:Bs w A n c xs)(hA:∀a,A=some a->0<n->a.block<w.heap.size)
  (hG:∀k,G k->k<w.heap.size) (hent:∀(args:Array Value) (w:World),(callFunc fid args).run Tryz.prog w= .ok (.enter fid args) w)
  (hstab:∀x q w2 w3,Fresh3 G w w2->Good x q w2->Touch (fun k=>k=w.heap.size\/k=w.heap.size+1\/k=w.heap.size+1+1) w2 w3->Good x q w3)
  (hf:∀w1 be,Fresh w w1->w.heap.size+1+1<be->Eye w1 be A n c xs 0->Calls Tryz.prog fid (#[.pointer (some ⟨be,0,none⟩)]++caps) w1 (RecG slV be G A n c xs bad Good w1)):
  Calls Tryz.prog 91 #[.slice A n c, .func (.func fid) #[] caps] w (RecGEnd slV (.slice none 0 0) n G bad Good w):=by
 have hmf:∀(fn:Fn) (first cap:Array Value) (w:World),(Instr.makeFunc fn first cap).run Tryz.prog w= .ok (.func fn first cap) w:=fun _ _ _ _=>rfl
 have HF:=zh hf;clear hf
 have hcm:=hbs.2.2.1
 have hnc:=hbs.2.1
 unfold maxLen at hcm
 have HBS:=zh hbs;clear hbs
 have HAB:=zh hA;clear hA
 have HG:=zh hG;clear hG
 have HST:=zh hstab;clear hstab
 go_enter_defers Tryz.func91,Tryz.ntmps91
 go_wp2_with fail
 obtain⟨w1,hw1⟩:∃w1,w1=(((w.alloc (Obj.cells #[.slice none 0 0] 28)).alloc (Obj.cells #[.int .i64 0] 3)).alloc (Obj.cells #[.int .i64 0] 40)).alloc (Obj.cells #[.slice A n c, .int .i64 0] 167):=⟨_,rfl⟩
 have hfr:Fresh w w1:=by rw[hw1];exact((((Touch.refl _ w).alloc _).alloc _).alloc _).alloc _
 have hBx:Blk w1 w.heap.size 28 #[.slice none 0 0]:=by rw[hw1];exact(((Blk.new w _ _).alloc _).alloc _).alloc _
 have hBa:Blk w1 (w.heap.size+1) 3 #[.int .i64 0]:=by
  rw[hw1]
  have:=((Blk.new (w.alloc (Obj.cells #[.slice none 0 0] 28)) 3 #[.int .i64 0]).alloc (Obj.cells #[.int .i64 0] 40)).alloc (Obj.cells #[.slice A n c, .int .i64 0] 167)
  simpa only[World.size_alloc] using this
 have hBy:Blk w1 (w.heap.size+1+1) 40 #[.int .i64 0]:=by
  rw[hw1]
  have:=(Blk.new ((w.alloc (Obj.cells #[.slice none 0 0] 28)).alloc (Obj.cells #[.int .i64 0] 3)) 40 #[.int .i64 0]).alloc (Obj.cells #[.slice A n c, .int .i64 0] 167)
  simpa only[World.size_alloc] using this
 have hBe:Blk w1 (w.heap.size+1+1+1) 167 #[.slice A n c, .int .i64 ((0:Nat):Int)]:=by
  rw[hw1]
  have:=Blk.new (((w.alloc (Obj.cells #[.slice none 0 0] 28)).alloc (Obj.cells #[.int .i64 0] 3)).alloc (Obj.cells #[.int .i64 0] 40)) 167 #[.slice A n c, .int .i64 0]
  simp only[World.size_alloc]at this
  exact this
 have hsz:w.heap.size+1+1+1+1=w1.heap.size:=by rw[hw1];simp
 rw[<- hw1]
 have HW1:=zh hw1;clear hw1
 have hey:Eye w1 (w.heap.size+1+1+1) A n c xs 0:=⟨hBe,HBS.out.fresh hfr,Nat.zero_le _,fun a ha h0=>by have:=HAB.out a ha h0;omega⟩
 refine(HF.out w1 (w.heap.size+1+1+1) hfr (by omega) hey).mono ?_
 intro e w2 h
 rcases h with⟨a,rfl,hr,ht⟩ | ⟨x,q,rfl,hr,he2,ht⟩
 ·have hBx':=hBx.touch ht (fun h=>h.elim (fun h=>by omega) (fun h=>by have:=HG.out _ h;omega))
  have hBa':=hBa.touch ht (fun h=>h.elim (fun h=>by omega) (fun h=>by have:=HG.out _ h;omega))
  have hBy':=hBy.touch ht (fun h=>h.elim (fun h=>by omega) (fun h=>by have:=HG.out _ h;omega))
  refine leaves_cons (f:=128) (args:= #[.pointer (some ⟨w.heap.size,0,none⟩), .pointer (some ⟨w.heap.size+1,0,none⟩), .pointer (some ⟨w.heap.size+1+1,0,none⟩)]) (by simp) (by simp[go_sem]) ?_
  refine(rcatch_stop_ops (w.heap.size) (w.heap.size+1) (w.heap.size+1+1) a (.slice none 0 0) 0 0 [] w2 hBx' (by omega) hBa' hBy').mono ?_
  rintro e u' w3 ⟨rfl,rfl,ht3,hb1,hb2,hb3⟩
  have hfin:Touch G w w3:=((hfr.mono (fun _ _ h=>h.elim)).trans ht (fun i hi hs=>hs.elim (fun hs=>by omega) (fun hs=>hs))).trans ht3 (fun i hi hs=>by omega)
  have HFIN:RecGEnd slV (.slice none 0 0) n G bad Good w (.returned (.tuple #[.slice none 0 0, .int .i64 a, .int .i64 2])) w3:=⟨hfin, .inl ⟨a,hr,rfl⟩⟩
  have hcz0:=hb1.cell 0
  have hca:=hb2.cell 0
  have hcy:=hb3.cell 0
  simp only[List.getElem?_toArray,List.getElem?_cons_zero]at hcz0 hca hcy
  simpa [Leaves,settle,results,Tryz.results91,go_sem,hcz0,hca,hcy] using HFIN
 ·have hBx':=hBx.touch ht (fun h=>h.elim (fun h=>by omega) (fun h=>by have:=HG.out _ h;omega))
  have hBa':=hBa.touch ht (fun h=>h.elim (fun h=>by omega) (fun h=>by have:=HG.out _ h;omega))
  have hBy':=hBy.touch ht (fun h=>h.elim (fun h=>by omega) (fun h=>by have:=HG.out _ h;omega))
  have hsz2:=ht.size
  have hfr2:Touch G w w2:=(hfr.mono (fun _ _ h=>h.elim)).trans ht (fun i hi hs=>hs.elim (fun hs=>by omega) (fun hs=>hs))
  have hst3:Fresh3 G w w2:=⟨hfr2,by omega⟩
  have hqn:=he2.2.2.1
  have hcv0:=hBx'.cell 0
  have hfv0:=hBx'.frozen 0
  have hca:=hBa'.cell 0
  have hcy:=hBy'.cell 0
  have hfa:=hBa'.frozen 0
  have hfy:=hBy'.frozen 0
  have hce0:=he2.1.cell 0
  have hce1:=he2.1.cell 1
  simp only[List.getElem?_toArray,List.getElem?_cons_zero,List.getElem?_cons_succ]at hcv0 hca hcy hce0 hce1
  have HR:=zh hr
  have HFR2:=zh hfr2
  have HST3:=zh hst3
  clear hst3
  have HBX:=zh hBx'
  have HBA:=zh hBa'
  have HBY:=zh hBy'
  clear hr hfr2 hBx' hBa' hBy' he2 ht hBx hBa hBy hBe hfr hey hmf hent
  by_cases hq:q<n
  ·have HQ:=zh hq
   obtain⟨w3,hw3⟩:∃w3,w3=(w2.setCell ⟨w.heap.size,0,none⟩ (.slice x.1 x.2.1 x.2.2)):=⟨_,rfl⟩
   have hB3:Blk w3 w.heap.size 28 #[.slice x.1 x.2.1 x.2.2]:=by rw[hw3];exact(HBX.out.set_ 0 (.slice x.1 x.2.1 x.2.2))
   have hBa3:Blk w3 (w.heap.size+1) 3 #[.int .i64 0]:=by rw[hw3];exact(HBA.out.far (p:=⟨w.heap.size,0,none⟩) (by simp) (.slice x.1 x.2.1 x.2.2))
   have hBy3:Blk w3 (w.heap.size+1+1) 40 #[.int .i64 0]:=by rw[hw3];exact(HBY.out.far (p:=⟨w.heap.size,0,none⟩) (by simp;omega) (.slice x.1 x.2.1 x.2.2))
   have hfr3:Touch G w w3:=by rw[hw3];exact(HFR2.out.setCell (p:=⟨w.heap.size,0,none⟩) (.inl (Nat.le_refl _)) _)
   have HB3:=zh hB3
   have HBA3:=zh hBa3
   have HBY3:=zh hBy3
   have HFR3:=zh hfr3
   have HW3:=zh hw3
   clear hB3 hBa3 hBy3 hfr3 hw3
   unfold slV
   go_wp2_with fail
   rw[<- HW3.out]
   refine(efail_any _ _ _).mono ?_
   rintro e w4 ⟨rfl,rfl⟩
   refine leaves_cons (f:=128) (args:= #[.pointer (some ⟨w.heap.size,0,none⟩), .pointer (some ⟨w.heap.size+1,0,none⟩), .pointer (some ⟨w.heap.size+1+1,0,none⟩)]) (by simp) (by simp[go_sem]) ?_
   refine(rcatch_stop_ops (w.heap.size) (w.heap.size+1) (w.heap.size+1+1) q (.slice x.1 x.2.1 x.2.2) 0 0 [] w3 HB3.out (by omega) HBA3.out HBY3.out).mono ?_
   rintro e u' w4 ⟨rfl,rfl,ht3,hb1,hb2,hb3⟩
   have hfin:Touch G w w4:=HFR3.out.trans ht3 (fun i hi hs=>by omega)
   have HFIN:RecGEnd slV (.slice none 0 0) n G bad Good w (.returned (.tuple #[.slice none 0 0, .int .i64 q, .int .i64 2])) w4:=⟨hfin, .inr ⟨x,q,w2,HR.out, .inl ⟨HQ.out,rfl⟩⟩⟩
   have hcz0:=hb1.cell 0
   have hca:=hb2.cell 0
   have hcy:=hb3.cell 0
   simp only[List.getElem?_toArray,List.getElem?_cons_zero]at hcz0 hca hcy
   simpa [Leaves,settle,results,Tryz.results91,go_sem,hcz0,hca,hcy] using HFIN
  ·have HQ:=zh hq
   unfold slV
   go_wp2_with fail
   obtain⟨w5,hw5⟩:∃w5,w5=(((w2.setCell ⟨w.heap.size,0,none⟩ (.slice x.1 x.2.1 x.2.2)).setCell ⟨w.heap.size,0,none⟩ (.slice x.1 x.2.1 x.2.2)).setCell ⟨w.heap.size+1,0,none⟩ (.int .i64 0)).setCell ⟨w.heap.size+1+1,0,none⟩ (.int .i64 0):=⟨_,rfl⟩
   have hb1:Blk w5 w.heap.size 28 #[.slice x.1 x.2.1 x.2.2]:=by rw[hw5];exact(((HBX.out.set_ 0 (.slice x.1 x.2.1 x.2.2)).set_ 0 (.slice x.1 x.2.1 x.2.2)).far (p:=⟨w.heap.size+1,0,none⟩) (by simp) (.int .i64 0)).far (p:=⟨w.heap.size+1+1,0,none⟩) (by simp;omega) (.int .i64 0)
   have hb2:Blk w5 (w.heap.size+1) 3 #[.int .i64 0]:=by rw[hw5];exact(((HBA.out.far (p:=⟨w.heap.size,0,none⟩) (by simp) (.slice x.1 x.2.1 x.2.2)).far (p:=⟨w.heap.size,0,none⟩) (by simp) (.slice x.1 x.2.1 x.2.2)).set_ 0 (.int .i64 0)).far (p:=⟨w.heap.size+1+1,0,none⟩) (by simp) (.int .i64 0)
   have hb3:Blk w5 (w.heap.size+1+1) 40 #[.int .i64 0]:=by rw[hw5];exact(((HBY.out.far (p:=⟨w.heap.size,0,none⟩) (by simp;omega) (.slice x.1 x.2.1 x.2.2)).far (p:=⟨w.heap.size,0,none⟩) (by simp;omega) (.slice x.1 x.2.1 x.2.2)).far (p:=⟨w.heap.size+1,0,none⟩) (by simp) (.int .i64 0)).set_ 0 (.int .i64 0)
   have hfin:Touch G w w5:=by rw[hw5];exact(((HFR2.out.setCell (p:=⟨w.heap.size,0,none⟩) (.inl (Nat.le_refl _)) _).setCell (p:=⟨w.heap.size,0,none⟩) (.inl (Nat.le_refl _)) _).setCell (p:=⟨w.heap.size+1,0,none⟩) (.inl (by simp)) _).setCell (p:=⟨w.heap.size+1+1,0,none⟩) (.inl (by simp;omega)) _
   have hgood:Good x q w5:=HST.out x q w2 w5 HST3.out HR.out (by rw[hw5];exact((((Touch.refl (fun k=>k=w.heap.size\/k=w.heap.size+1\/k=w.heap.size+1+1) w2).setCell (p:=⟨w.heap.size,0,none⟩) (.inr (.inl rfl)) _).setCell (p:=⟨w.heap.size,0,none⟩) (.inr (.inl rfl)) _).setCell (p:=⟨w.heap.size+1,0,none⟩) (.inr (.inr (.inl rfl))) _).setCell (p:=⟨w.heap.size+1+1,0,none⟩) (.inr (.inr (.inr rfl))) _)
   rw[<- hw5]
   clear hw5
   have HFIN:RecGEnd slV (.slice none 0 0) n G bad Good w (.returned (.tuple #[.slice x.1 x.2.1 x.2.2, .int .i64 0, .int .i64 0])) w5:=⟨hfin, .inr ⟨x,q,w5,hgood, .inr ⟨by omega,rfl,rfl⟩⟩⟩
   refine leaves_cons (f:=128) (args:= #[.pointer (some ⟨w.heap.size,0,none⟩), .pointer (some ⟨w.heap.size+1,0,none⟩), .pointer (some ⟨w.heap.size+1+1,0,none⟩)]) (by simp) (by simp[go_sem]) ?_
   refine(rcatch_idle_ops _ _ _ _).mono ?_
   rintro e u' w4 ⟨rfl,rfl,rfl⟩
   have hcz0:=hb1.cell 0
   have hca:=hb2.cell 0
   have hcy:=hb3.cell 0
   simp only[List.getElem?_toArray,List.getElem?_cons_zero]at hcz0 hca hcy
   simpa [Leaves,settle,results,Tryz.results91,go_sem,hcz0,hca,hcy] using HFIN
end Go.Proofs.YtjehlgblkfofpaaGreat