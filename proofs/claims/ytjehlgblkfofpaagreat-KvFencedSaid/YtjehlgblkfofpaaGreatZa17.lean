/- The claims' texts, several in one: Rdr, Num, Cut, Read, All, Ld, Bgn. Conditions stand with each theorem. -/
import Derived.Test.YtjehlgblkfofpaaGreatZa16
import Derived.Deep.RegionHeld
import Derived.Deep.RegionLaw
import Derived.Test.YtjehlgblkfofpaaGreatZa15
set_option maxHeartbeats 8000000
set_option maxRecDepth 20000
namespace Go.Proofs.YtjehlgblkfofpaaGreat
open Go.RowKit
theorem row_form{w:World}{A:Option Addr}{n c:Nat}{xs:List UInt8}(h:Row w (.slice A n c) xs):A=none\/∃g,A=some ⟨g,0,none⟩:=by
 rcases h.2 with⟨e,_⟩ | ⟨g,cap,cur,e,_⟩
 ·injection e with e;exact .inl e
 ·injection e with e;exact .inr ⟨g,e⟩
section
variable {w w':World}{bl bd:Nat}{R:Nat->Prop}{l:Lg}{sv rv:Value}{vs:List Value}
theorem keptB_eq(d:Dk)(n:Int):keptB d.fs n=(d.read n).take (d.kept n):=by
 unfold keptB Dk.read Dk.kept
 cases Fl.at_ d.fs n with
 | none=>rfl
 | some f=>rfl
theorem kept_le{d:Dk}(h:Fl.ok d.fs)(n:Int):d.kept n<=(d.read n).length:=by
 unfold Dk.read Dk.kept
 cases hf:Fl.at_ d.fs n with
 | none=>exact Nat.zero_le _
 | some f=>exact h.le f (Fl.at_mem hf).1
theorem lkept_any{S:Nat->Prop}{d:Dk}{K:Nat}(h:LM w bl bd R l sv rv vs)(hD:Disk w S bd d)(hs:d.small K)(hK:K<=400000000)(hok:Fl.ok d.fs){n:Nat}(hn:n<9223372036854775808):
  Calls Tryz.prog 120 #[.pointer (some ⟨bl,0,none⟩), .int .i64 (n:Int)] w fun e w'=>Fresh w w'/\∃A c,e= .returned (.slice A (keptB d.fs n).length c)/\Bs w' A (keptB d.fs n).length c (keptB d.fs n)/\(A=none\/∃g,A=some ⟨g,0,none⟩)/\∀a,A=some a->w.heap.size<=a.block:=by
 have hnw:=nat_wf hn
 have HB:=zh h.blk
 have HST:=zh (show∀W,Fresh w W->Fresh w W/\W.cell? ⟨bl,0,none⟩=some (.pointer (some ⟨bd,0,none⟩)) from fun W hW=>⟨hW,(HB.out.touch hW id).cell 0⟩)
 have KR:=zh (show∀W,Fresh w W->Calls Tryz.prog 88 #[.pointer (some ⟨bd,0,none⟩), .int .i64 (n:Int)] W fun e w'=>Fresh W w'/\∃B c,e= .returned (.slice B (d.read n).length c)/\Row w' (.slice B (d.read n).length c) (d.read n)/\∀a,B=some a->W.heap.size<=a.block from fun W hW=>disk_read (hD.fresh hW) hs (by omega) hnw)
 have KK:=zh (show∀W,Fresh w W->Calls Tryz.prog 148 #[.pointer (some ⟨bd,0,none⟩), .int .i64 (n:Int)] W fun e w'=>W=w'/\e= .returned (.int .i64 (d.kept n)) from fun W hW=>disk_kept (hD.fresh hW) hnw)
 have hle:=kept_le hok (n:Int)
 have hrl:(d.read (n:Int)).length<=400000000:=by
  unfold Dk.read
  cases hf:Fl.at_ d.fs (n:Int) with
  | none=>simp
  | some f=>exact Nat.le_trans (hs.raw f (Fl.at_mem hf).1) hK
 have HE:=zh (keptB_eq d (n:Int))
 have HLE:=zh hle
 clear h hD hs hok
 generalize d.read (n:Int)=rd at*
 generalize d.kept (n:Int)=kp at*
 have hkl:(keptB d.fs n).length=kp:=by rw[HE.out,List.length_take];omega
 rw[hkl]
 have hi:(kp:Int)<=(rd.length:Int):=by omega
 clear hkl
 go_enter Tryz.func120,Tryz.ntmps120
 go_upto_region 1 with fail
 go_region_held (fun W=>Fresh w W/\W.cell? ⟨bl,0,none⟩=some (.pointer (some ⟨bd,0,none⟩)))
  (first | exact HST.out _ ((Touch.refl _ w).drew) | assumption)
  (first
   | (go_at_call 88;refine(KR.out _ (And.left (by assumption))).mono ?_;rintro e w2 ⟨t2,B2,c2,rfl,hr2,hn2⟩;have k2:=HST.out w2 ((And.left (by assumption:Fresh w _/\ _)).trans t2 fun _ _=>id);have q2:kp<=c2:=Nat.le_trans HLE.out (Row.bs hr2).2.1;have q3:(kp:Int)<=(c2:Int):=Int.ofNat_le.2 q2;have HR2:=zh (Row.bs hr2);have HF2:=zh (row_form hr2);have HN2:=zh hn2;clear hr2 hn2)
   | (go_at_call 148;refine(KK.out _ (And.left (by assumption))).mono ?_;rintro e w3 ⟨rfl,rfl⟩))
 have HK2:=zh k2.1
 clear k2 t2
 go_wp2_with fail
 go_ret
 refine⟨HK2.out,B2,c2,rfl, ?_,HF2.out,fun a ha=>HN2.out a ha⟩
 rw[HE.out]
 exact HR2.out.take HLE.out
end
def NextEnd(w:World)(br:Nat)(A:Option Addr)(n c:Nat)(raw:List UInt8)(at_:Nat)(e:Ending)(w':World):Prop:=
 match Enc.unframe (raw.drop at_) with
 | none=>e= .returned (.tuple #[.slice none 0 0, .bool false])/\Fresh w w'
 | some (p,k)=>∃B c',e= .returned (.tuple #[.slice B p.length c', .bool true])/\Touch (·=br) w w'/\Blk w' br 182 #[.slice A n c, .int .i64 ((at_+k:Nat):Int)]/\Bs w' B p.length c' p/\∀a,B=some a->0<p.length->w.heap.size<=a.block
theorem rnext_any{w:World}{br:Nat}{A:Option Addr}{n c:Nat}{raw:List UInt8}{at_:Nat}(hb:Blk w br 182 #[.slice A n c, .int .i64 (at_:Int)])(hr:Bs w A n c raw)(hA:A=none\/∃b o,A=some ⟨b,o,none⟩)(hat:at_<=n)(hn:n<=400000000):
  Calls Tryz.prog 121 #[.pointer (some ⟨br,0,none⟩)] w (NextEnd w br A n c raw at_):=by
 have hnc:=hr.2.1
 have hcm:=hr.2.2.1
 have hrl:=hr.1
 unfold maxLen at hcm
 obtain⟨A2,hA2,hd⟩:∃A2,A2=(match A with | some a=>if c=at_ then some a else some (a.add at_) | none=>none:Option Addr)/\Bs w A2 (n-at_) (c-at_) (raw.drop at_):=by
  refine⟨_,rfl, ?_⟩
  by_cases h0:n-at_=0
  ·exact⟨by rw[List.length_drop];omega,by omega,by unfold maxLen;omega,fun h=>by omega⟩
  ·obtain⟨b,o,rfl⟩:=hr.at_ (by omega)
   dsimp only
   rw[if_neg (by omega),add_flat]
   exact hr.drop_ hat
 have c0:w.drew.cell? ⟨br,0,none⟩=some (.slice A n c):=hb.cell 0
 have c1:w.drew.cell? ⟨br,1,none⟩=some (.int .i64 (at_:Int)):=hb.cell 1
 have KU:=zh (unframe_any A2 (n-at_) (c-at_) (raw.drop at_) w.drew hd.drew (by omega))
 have HB:=zh hb;have HA2:=zh hA2
 unfold NextEnd
 generalize raw.drop at_=rest at*
 have hd1:=hd.1
 have HNIL:=zh (show 0<n->A≠none from fun h=>by
  obtain⟨b,o,e⟩:=hr.at_ h
  rw[e];simp)
 clear hb hr hd
 have key:∀(B2:Option Addr) (m2 k2:Nat),B2=A2->m2=n-at_->k2=c-at_->Calls Tryz.prog 149 #[.slice B2 m2 k2] w.drew (UnfEnd w.drew rest):=by
  rintro B2 m2 k2 rfl rfl rfl
  exact KU.out
 have KEY:=zh key
 clear key KU
 have hat2:(at_:Int)<=(n:Int):=by omega
 have hrest:rest.length=n-at_:=hd1
 cases hu:Enc.unframe rest with
 | none=>
  have HU:=zh hu
  clear hu
  dsimp only
  rcases hA with rfl | ⟨b,o,rfl⟩
  ·go_enter Tryz.func121,Tryz.ntmps121
   go_upto_region 1 with fail
   go_region_held (fun W=>W.cell? ⟨br,0,none⟩=some (.slice none n c)/\W.cell? ⟨br,1,none⟩=some (.int .i64 (at_:Int)))
    (first | exact⟨c0,c1⟩ | assumption)
    (first | (go_at_call 149;refine(KEY.out _ _ _ (by rw[HA2.out]) (by first | rfl | omega) (by first | rfl | omega)).mono ?_;intro e w2 hend;have hend2:=hend;unfold UnfEnd Unf at hend2;rw[HU.out]at hend2;obtain⟨t2,rfl⟩:=hend2;have k2:w2.cell? ⟨br,0,none⟩=some (.slice none n c)/\w2.cell? ⟨br,1,none⟩=some (.int .i64 (at_:Int)):=⟨t2.cell c0 id,t2.cell c1 id⟩))
   have HT2:=zh (show Fresh w w2 from(Touch.refl (fun _=>False) w).drew.trans t2 fun _ _=>id)
   clear t2 k2 hend
   go_wp2_with fail
   go_ret2
   exact⟨rfl,HT2.out⟩
  ·by_cases hca:c=at_
   ·have hnn:n=at_:=by omega
    subst hnn
    subst hca
    have KE2:=zh (show∀W,W=w.drew->Calls Tryz.prog 149 #[.slice (some ⟨b,o,none⟩) 0 0] W (UnfEnd w.drew rest) from fun W hW=>by
     rw[hW]
     exact KEY.out _ _ _ (by rw[HA2.out];exact(if_pos rfl).symm) (Nat.sub_self _).symm (Nat.sub_self _).symm)
    clear hnc hat hat2 hrl hrest hd1 HNIL HA2 hcm hn KEY
    go_enter Tryz.func121,Tryz.ntmps121
    go_upto_region 1 with fail
    go_region_law (first | (go_simp;go_at_call 149;refine(KE2.out _ rfl).mono ?_;intro e w2 hend;have hend2:=hend;unfold UnfEnd Unf at hend2;rw[HU.out]at hend2;obtain⟨t2,rfl⟩:=hend2))
    all_goals
     have HT2:=zh (show Fresh w w2 from(Touch.refl (fun _=>False) w).drew.trans t2 fun _ _=>id)
     clear t2 hend
     go_wp2_with fail
     go_ret2
     exact⟨rfl,HT2.out⟩
   ·have hca2:¬c=at_:=hca
    have EA:=zh (show A2=some ⟨b,o+at_,none⟩ by rw[HA2.out];dsimp only;rw[if_neg hca,add_flat])
    go_enter Tryz.func121,Tryz.ntmps121
    go_upto_region 1 with fail
    go_region_held (fun W=>W.cell? ⟨br,0,none⟩=some (.slice (some ⟨b,o,none⟩) n c)/\W.cell? ⟨br,1,none⟩=some (.int .i64 (at_:Int)))
     (first | exact⟨c0,c1⟩ | assumption)
     (first | (go_at_call 149;refine(KEY.out _ _ _ (by rw[EA.out]) (by first | rfl | omega) (by first | rfl | omega)).mono ?_;intro e w2 hend;have hend2:=hend;unfold UnfEnd Unf at hend2;rw[HU.out]at hend2;obtain⟨t2,rfl⟩:=hend2;have k2:w2.cell? ⟨br,0,none⟩=some (.slice (some ⟨b,o,none⟩) n c)/\w2.cell? ⟨br,1,none⟩=some (.int .i64 (at_:Int)):=⟨t2.cell c0 id,t2.cell c1 id⟩))
    have HT2:=zh (show Fresh w w2 from(Touch.refl (fun _=>False) w).drew.trans t2 fun _ _=>id)
    clear t2 k2 hend
    go_wp2_with fail
    go_ret2
    exact⟨rfl,HT2.out⟩
 | some q=>
  obtain⟨p,k⟩:=q
  have hle:=Enc.unframe_le hu
  have HU:=zh hu
  clear hu
  dsimp only
  have hca:¬c=at_:=by omega
  rcases hA with rfl | ⟨b,o,rfl⟩
  ·exact absurd HNIL.out (by simp;omega)
  ·have EA:=zh (show A2=some ⟨b,o+at_,none⟩ by rw[HA2.out];dsimp only;rw[if_neg hca,add_flat])
   have hwr:IntKind.i64.wrap ((at_:Int)+(k:Int))=(at_:Int)+(k:Int):=IntWalk.i64_in _ (by omega)
   go_enter Tryz.func121,Tryz.ntmps121
   go_upto_region 1 with fail
   go_region_held (fun W=>W.cell? ⟨br,0,none⟩=some (.slice (some ⟨b,o,none⟩) n c)/\W.cell? ⟨br,1,none⟩=some (.int .i64 (at_:Int)))
    (first | exact⟨c0,c1⟩ | assumption)
    (first | (go_at_call 149;refine(KEY.out _ _ _ (by rw[EA.out]) (by first | rfl | omega) (by first | rfl | omega)).mono ?_;intro e w2 hend;have hend2:=hend;unfold UnfEnd Unf at hend2;rw[HU.out]at hend2;obtain⟨t2,B2,c2,rfl,hb2,hn2⟩:=hend2;have k2:w2.cell? ⟨br,0,none⟩=some (.slice (some ⟨b,o,none⟩) n c)/\w2.cell? ⟨br,1,none⟩=some (.int .i64 (at_:Int)):=⟨t2.cell c0 id,t2.cell c1 id⟩))
   have HT2:=zh (show Fresh w w2 from(Touch.refl (fun _=>False) w).drew.trans t2 fun _ _=>id)
   have hbb:=HB.out.touch HT2.out id
   have HB2:=zh hb2;have HN2:=zh hn2;have HBB:=zh hbb
   have e1:=hbb.cell 1
   have f1:=hbb.frozen 1
   simp only[List.getElem?_toArray,List.getElem?_cons_zero,List.getElem?_cons_succ]at e1
   clear t2 k2 hend hb2 hn2 hbb
   go_wp2_with fail
   go_ret2
   have hbb2:=HBB.out.set_ 1 (.int .i64 ((at_:Int)+(k:Int)))
   refine⟨B2,c2,rfl,(HT2.out.mono (S':=(·=br)) fun _ _ h=>h.elim).setCell (p:=⟨br,1,none⟩) (.inr rfl) _, ?_, ?_,fun a ha _=>HN2.out a ha⟩
   ·simpa using hbb2
   ·refine HB2.out.keep fun h0 q v hq ⟨a,ha,e⟩=> ?_
    rw[World.cell?_setCell_far _ _ _ _ (by
     have h1:=HN2.out a ha
     have h2:=HB.out.lt
     show br≠q.block
     rw[e]
     have h3:w.heap.size<=a.block:=h1
     omega)]
    exact hq
theorem un8_snoc(l:List UInt8)(b:UInt8):un8 (l++ [b])=un8 l*256+b.toNat:=by simp[un8]
theorem un8_fold(l:List UInt8):∀n,l.foldl (fun n c=>n*256+c.toNat) n=n*256 ^ l.length+un8 l:=by
 induction l with
 | nil=>intro n;simp[un8]
 | cons b l ih=>
  intro n
  show l.foldl _ (n*256+b.toNat)=n*256 ^ (l.length+1)+l.foldl _ (0*256+b.toNat)
  rw[ih,ih,Nat.pow_succ,Nat.add_mul,Nat.add_mul,Nat.mul_assoc,Nat.mul_comm 256]
  omega
theorem un8_append(a b:List UInt8):un8 (a++b)=un8 a*256 ^ b.length+un8 b:=by
 unfold un8
 rw[List.foldl_append]
 exact un8_fold b _
def numsOf(p:List UInt8)(i:Nat):List Nat:=(List.range i).map (num p)
theorem numsOf_succ(p:List UInt8)(i:Nat):numsOf p (i+1)=numsOf p i++ [num p i]:=by simp[numsOf,List.range_succ]
theorem numsOf_len(p:List UInt8)(i:Nat):(numsOf p i).length=i:=by simp[numsOf]
theorem or_i64{x c:Nat}(hc:c<256)(hx:x*256+c<9223372036854775808):bits .or .i64 ((x:Int)*256) (c:Int)=((x*256+c:Nat):Int):=by
 have h1:(BitVec.ofInt 64 ((x*256:Nat):Int)).toNat=x*256:=by rw[BitVec.ofInt_natCast,BitVec.toNat_ofNat];omega
 have h2:(BitVec.ofInt 64 (c:Int)).toNat=c:=by rw[BitVec.ofInt_natCast,BitVec.toNat_ofNat];omega
 have h3:x*256 ||| c=x*256+c:=by
  have:=Nat.shiftLeft_add_eq_or_of_lt (i:=8) (b:=c) (by omega) x
  rw[Nat.shiftLeft_eq]at this
  exact this.symm
 have e:(x:Int)*256=((x*256:Nat):Int):=by omega
 rw[e]
 show IntKind.i64.wrap ((BitVec.ofInt 64 ((x*256:Nat):Int) ||| BitVec.ofInt 64 (c:Int)).toNat:Int)= _
 rw[BitVec.toNat_or,h1,h2,h3]
 exact IntWalk.i64_in _ (by omega)
theorem numbers_any(A:Option Addr)(c m:Nat)(p:List UInt8)(w:World)(h:Bs w A (1+8*m) c p)(hm0:1<=m)(hm:m<=10)(hn:∀i,i<m->num p i<9223372036854775808):
  Calls Tryz.prog 122 #[.slice A (1+8*m) c] w fun e w'=>Fresh w w'/\∃B c',e= .returned (.slice B m c')/\IsInts w' B m c' (natsV (numsOf p m))/\∀a,B=some a->0<m->w.heap.size<=a.block:=by
 have hc1:=h.2.1
 have hc2:=h.2.2.1
 unfold maxLen at hc2
 have hpl:=h.1
 obtain⟨b,o,rfl⟩:=h.at_ (by omega)
 have H:=zh h;have HN:=zh hn
 have HD:=zh (show Bs w (some ⟨b,o+1,none⟩) (8*m) (c-1) (p.drop 1) from by
  have:=h.drop_ (k:=1) (by omega)
  rwa [show 1+8*m-1=8*m by omega]at this)
 have e1:1+8*m-1=8*m:=by omega
 have z1:(1:Int)<=((1+8*m:Nat):Int):=by omega
 have hcn:¬c=1:=by omega
 clear h hn
 go_enter Tryz.func122,Tryz.ntmps122
 go_wp2_with fail
 go_loopw [3,4] (fun v u wr=>∃(j:Nat) (A4:Option Addr) (c4 k4:Nat),j<=m/\k4=8*(m-j)/\u= .slice A4 k4 c4/\Bs w A4 k4 c4 (p.drop (1+8*j))/\Own wr 3 1 v (numsOf p j).length (intsV (natsV (numsOf p j)))/\(∀q,v.ownBlock=some q->w.heap.size<=q)/\Fresh w wr) (fun _ u _=>(match u with | .slice _ n _=>n | _=>0))
 case atStart=>exact⟨0,_,_,_,Nat.zero_le _,by omega,rfl,HD.out,Own.nil_ _ _ _,fun q hq=>by (cases hq),Touch.refl _ _⟩
 case round=>
  obtain⟨j,A4,c4,k4,hj,hk4,rfl,hB,hO,hN,hF⟩:=hrel
  have HB:=zh hB;have HO:=zh hO;have HNB:=zh hN;have HF:=zh hF;have HK4:=zh hk4
  obtain⟨OA,oc,rfl,ho1,ho2,_⟩:=hO.form
  unfold maxLen at ho2
  have hb1:=hB.2.1
  have hb2:=hB.2.2.1
  unfold maxLen at hb2
  have hnl:=numsOf_len p j
  clear hB hO hN hF hk4
  by_cases hlt:j<m
  ·have hk8:8<=k4:=by have:=HK4.out;omega
   obtain⟨b4,o4,rfl⟩:=HB.out.at_ (by omega)
   have z8:(8:Int)<=(k4:Int):=by omega
   have z9:(8:Int)<=(c4:Int):=by omega
   obtain⟨q,hq⟩:∃q,q=(p.drop (1+8*j)).take 8:=⟨_,rfl⟩
   have hql:q.length=8:=by rw[hq,List.length_take,HB.out.1];omega
   have HNUM:=zh (show num p j=un8 q by rw[hq];rfl)
   have hlt63:=HN.out j hlt
   rw[HNUM.out]at hlt63
   have HQ:=zh (show Bs wr (some ⟨b4,o4,none⟩) 8 c4 q from by rw[hq];exact(HB.out.fresh HF.out).take hk8)
   clear hq
   go_wp2_with fail
   go_loop [5,18] (fun x i=>∃t:Nat,t<=8/\i= .int .i64 t/\x= .int .i64 (un8 (q.take t):Nat)) (fun _ i=>8-(intOf i).toNat)
   case atStart=>exact⟨0,by omega,rfl,rfl⟩
   case round=>
    obtain⟨t,ht,rfl,rfl⟩:=hrel
    by_cases ht8:t<8
    ·have ct:wr.cell? ⟨b4,o4+t,none⟩=some (.int .u8 ((q.getD t 0).toNat:Int)):=HQ.out.cellAt (by omega)
     have hbt:=(q.getD t 0).toNat_lt
     have HT:=zh (show un8 (q.take (t+1))=un8 (q.take t)*256+(q.getD t 0).toNat by
      rw[List.take_add_one,List.getD_eq_getElem?_getD,List.getElem?_eq_getElem (by omega)]
      exact un8_snoc _ _)
     have hub:un8 (q.take t)*256+(q.getD t 0).toNat<9223372036854775808:=by
      rw[<- HT.out]
      have h1:=un8_append (q.take (t+1)) (q.drop (t+1))
      rw[List.take_append_drop]at h1
      have h2:1<=256 ^ (q.drop (t+1)).length:=Nat.pos_of_ne_zero (by simp)
      have h3:=Nat.mul_le_mul_left (un8 (q.take (t+1))) h2
      omega
     generalize un8 (q.take t)=x at*
     generalize (q.getD t 0).toNat=y at*
     have HOR:=zh (or_i64 hbt hub)
     have wx:IntKind.i64.wrap ((x:Int)*256)=(x:Int)*256:=IntWalk.i64_in _ (by omega)
     go_wp2_with fail
     go_round
     case rel=>exact⟨t+1,by omega,by go_num,by rw[HOR.out,HT.out]⟩
     case measure=>simp[intOf]<;>omega
    ·obtain rfl:t=8:=by omega
     rw[show q.take 8=q from List.take_of_length_le (by omega),<- HNUM.out]
     obtain⟨N,hN⟩:∃N,N=num p j:=⟨_,rfl⟩
     rw[<- hN]
     have HNS:=zh (show numsOf p (j+1)=numsOf p j++ [N] by rw[numsOf_succ,hN])
     have HSRC:=zh (int_new wr (N:Int))
     clear hN
     go_wp2_with (at_builtin;refine wpList_own_src _ rfl _ _ 22 22 rfl 3 (.int .i64 0) 1 8 Tryz.info3 Tryz.underlying22 rfl (.slice OA (numsOf p j).length oc) (numsOf p j).length (intsV (natsV (numsOf p j))) rfl (HO.out.alloc _) (intsV_one _) (.slice (some ⟨wr.heap.size,0,none⟩) 1 1) 1 [.int .i64 (N:Int)] rfl HSRC.out (by unfold maxLen;omega) (by omega) ?_;intro D c5 w5 o5 g5 b5;have HO5:=zh o5;have HG5:=zh (grow_step HF.out g5 HNB.out b5);have HG55:=zh g5;clear o5 g5 b5;rw[numsOf_len]at HO5 HG5)
     refine⟨⟨j+1,(if c4=8 then some ⟨b4,o4,none⟩ else some ⟨b4,o4+8,none⟩),c4-8,k4-8,by omega,by have:=HK4.out;omega,rfl, ?_, ?_,HG5.out.2,HG5.out.1⟩,by show k4-8<k4;omega⟩
     ·have hd:=HB.out.drop_ (k:=8) hk8
      rw[List.drop_drop,show 1+8*j+8=1+8*(j+1) by omega]at hd
      by_cases hc8:c4=8
      ·rw[if_pos hc8]
       exact⟨hd.1,hd.2.1,hd.2.2.1,fun h0=>by have:=HB.out.2.1;omega⟩
      ·rw[if_neg hc8]
       exact hd
     ·rw[numsOf_len,HNS.out,show intsV (natsV (numsOf p j++ [N]))=intsV (natsV (numsOf p j))++ [.int .i64 (N:Int)] by simp[intsV,natsV]]
      exact HO5.out
  ·obtain rfl:j=m:=by omega
   obtain rfl:k4=0:=by have:=HK4.out;omega
   rw[hnl]
   go_wp2_with fail
   have HI:=zh ((show Own wr 3 1 (.slice OA j oc) j (intsV (natsV (numsOf p j))) from by have:=HO.out;rw[numsOf_len]at this;exact this).ints)
   have HNB2:=zh (show∀(q:Nat),(Value.slice OA j oc).ownBlock=some q->w.heap.size<=q from by have:=HNB.out;rw[numsOf_len]at this;exact this)
   go_ret
   refine⟨HF.out,OA,oc,rfl,HI.out,fun a ha h0=> ?_⟩
   refine HNB2.out a.block ?_
   rw[ha]
   simp[Value.ownBlock]
section
variable {w:World}{bl bd:Nat}{R:Nat->Prop}{l:Lg}{sv rv:Value}{vs:List Value}
def CutEnd(w:World)(bl bd:Nat)(R:Nat->Prop)(l:Lg)(m:Nat)(sv rv:Value)(e:Ending)(w':World):Prop:=
 e= .returned (.tuple #[])/\Touch (·=bl) w w'/\∃rv' vs',LM w' bl bd R { l with c:=l.c.cut m } sv rv' vs'/\∀k,rv'.ownBlock=some k->rv.ownBlock=some k
theorem RecsOf.drop{rows:List (List UInt8)}(h:RecsOf w R vs rows)(k:Nat):RecsOf w R (vs.drop k) (rows.drop k):=
 ⟨by rw[List.length_drop,List.length_drop,h.len],fun i b hb=>by
  rw[List.getElem?_drop]at hb
  obtain⟨A,c,h1,h2⟩:=h.at_ _ b hb
  exact⟨A,c,by rw[List.getElem?_drop];exact h1,h2⟩,fun u hu=>h.one u (List.mem_of_mem_drop hu)⟩
theorem cut_end(h:LM w bl bd R l sv rv vs)(hR:¬R bl){m:Nat}(hlt:l.c.first<m){rv':Value}{k:Nat}(hk:k=min (m-l.c.first) l.c.rows.length)(ho:Ow w 29 1 rv' (l.c.rows.length-k) (vs.drop k))(hown:∀k,rv'.ownBlock=some k->rv.ownBlock=some k):
  CutEnd w bl bd R l m sv rv (.returned (.tuple #[])) ((w.setCell ⟨bl,4,none⟩ rv').setCell ⟨bl,3,none⟩ (.int .i64 (m:Int))).drew:=by
 have hT:Touch (·=bl) w ((w.setCell ⟨bl,4,none⟩ rv').setCell ⟨bl,3,none⟩ (.int .i64 (m:Int))).drew:=(((Touch.refl (·=bl) w).setCell (p:=⟨bl,4,none⟩) (.inr rfl) _).setCell (p:=⟨bl,3,none⟩) (.inr rfl) _).drew
 have hc:l.c.cut m=⟨m,l.c.rows.drop k⟩:=by
  unfold Ct.cut
  rw[if_pos hlt]
  congr 1
  by_cases hle:m-l.c.first<=l.c.rows.length
  ·rw[hk,Nat.min_eq_left hle]
  ·rw[hk,Nat.min_eq_right (by omega),List.drop_of_length_le (by omega),List.drop_of_length_le (by omega)]
 refine⟨rfl,hT,rv',vs.drop k,⟨?_, ?_, ?_, ?_⟩,hown⟩
 ·have:=((h.blk.set_ 4 rv').set_ 3 (.int .i64 (m:Int))).drew
  rw[hc]
  simpa using this
 ·exact h.segs.touch hT fun q hq e=>h.segs.ne_blk h.blk (by decide) (by rw[hq,e])
 ·rw[hc]
  show Ow _ _ 1 rv' (l.c.rows.drop k).length (vs.drop k)
  rw[List.length_drop]
  exact ho.touch hT fun q hq e=>h.rows.ne_blk h.blk (by decide) (by rw[hown q hq,e])
 ·rw[hc]
  exact(h.recs.drop k).touch hT fun q hq e=>hR (e ▸ hq)
theorem lcut_any(h:LM w bl bd R l sv rv vs)(hR:¬R bl)(hb:l.c.next<=1000000000){m:Nat}(hm:m<=1000000000):
  Calls Tryz.prog 127 #[.pointer (some ⟨bl,0,none⟩), .int .i64 (m:Int)] w (CutEnd w bl bd R l m sv rv):=by
 have hnx:l.c.first+l.c.rows.length<=1000000000:=hb
 have c3:w.cell? ⟨bl,3,none⟩=some (.int .i64 (l.c.first:Int)):=h.blk.cell 3
 have hwr:IntKind.i64.wrap ((m:Int)-(l.c.first:Int))=(m:Int)-(l.c.first:Int):=IntWalk.i64_in _ (by omega)
 obtain⟨A,c,rfl,hnc,hcm,hA⟩:=h.rows.form
 have c4:w.cell? ⟨bl,4,none⟩=some (.slice A l.c.rows.length c):=h.blk.cell 4
 have f4:=h.blk.frozen 4
 have f3:=h.blk.frozen 3
 have ho:=h.rows
 have HE:=zh (fun hlt rv' k=> @cut_end w bl bd R l sv _ vs h hR m hlt rv' k)
 have H:=zh h
 clear h hb
 unfold maxLen at hcm
 generalize hfi:l.c.first=fi at*
 generalize hrl:l.c.rows.length=rl at*
 by_cases hlt:fi<m
 ·have hgt:(0:Int)<(m:Int)-(fi:Int):=by omega
  have HE2:=zh (HE.out hlt)
  clear HE
  obtain⟨k,hk⟩:∃k,k=min (m-fi) rl:=⟨_,rfl⟩
  have hkn:(min ((m:Int)-(fi:Int)) (rl:Int))=(k:Int):=by omega
  have hkn2:(min ((m:Int)-(fi:Int)) (rl:Int)).toNat=k:=by omega
  have h0:(0:Int)<=min ((m:Int)-(fi:Int)) (rl:Int):=by omega
  have hk1:k<=rl:=by omega
  rcases hA with⟨rfl,h2,h3⟩ | ⟨g,o,rfl⟩
  ·subst h2 h3
   obtain rfl:k=0:=by omega
   have HK:=zh hk
   have HO:=zh ho
   clear hk hkn hkn2 ho hnc hcm hk1
   go_enter Tryz.func127,Tryz.ntmps127
   go_wp2_with fail
   go_region
   go_wp2_with fail
   go_end0
   have:=HE2.out (.slice none 0 0) 0 HK.out HO.out (fun q hq=>by simp[Value.ownBlock]at hq)
   simpa using this
  ·have hod:=ho.drop hk1
   rw[Nat.mul_one k]at hod
   have HO:=zh hod
   clear hod
   have HO1:=zh ho
   clear ho
   by_cases hck:c=k
   ·have hck2:(c:Int)=min ((m:Int)-(fi:Int)) (rl:Int):=by omega
    have hck3:c=(min ((m:Int)-(fi:Int)) (rl:Int)).toNat:=by omega
    go_enter Tryz.func127,Tryz.ntmps127
    go_wp2_with fail
    go_region
    go_wp2_with fail
    go_end0
    rw[<- hk]
    have hrk:rl=k:=by omega
    have hvl:vs.length=rl:=by have:=HO1.out.1;omega
    have:=HE2.out _ _ hk (show Ow w 29 1 (.slice (some ⟨g,o*1,none⟩) (rl-k) 0) (rl-k) (vs.drop k) from by
     rw[List.drop_of_length_le (by omega),show rl-k=0 by omega]
     exact HO1.out.empty (Nat.zero_le _)) (fun q hq=>by first | (simp[Value.ownBlock]at hq;done) | simpa [Value.ownBlock] using hq)
    simpa using this
   ·have hck3:¬c=(min ((m:Int)-(fi:Int)) (rl:Int)).toNat:=by omega
    go_enter Tryz.func127,Tryz.ntmps127
    go_wp2_with fail
    go_region
    go_wp2_with fail
    go_end0
    rw[<- hk]
    have:=HE2.out (.slice (some ⟨g,o*1+k,none⟩) (rl-k) (c-k)) k hk HO.out (fun q hq=>by simpa [Value.ownBlock] using hq)
    simpa using this
 ·have hgt:¬(0:Int)<(m:Int)-(fi:Int):=by omega
  go_enter Tryz.func127,Tryz.ntmps127
  go_wp2_with fail
  go_end0
  have hl:({ l with c:=l.c.cut m }:Lg)=l:=by unfold Ct.cut;rw[if_neg (by omega)]
  exact⟨rfl,Touch.refl _ _,_,_,by rw[hl];exact H.out,fun k hk=>hk⟩
end
theorem Own.lit0(w:World)(e:TypeId)(size:Nat):Own (w.alloc (.cells #[] e)) e size (.slice (some ⟨w.heap.size,0,none⟩) 0 0) 0 []:=
 ⟨by simp, .inr ⟨w.heap.size,0, #[],rfl,heap_alloc_new w _,Nat.le_refl _,Nat.zero_le _,by simp,by simp⟩⟩
theorem Tryz.underlying136:Tryz.prog.underlying 136=some (.slice 29):=by kernel_rfl
theorem cloneR_any(v:Value)(n:Nat)(vs:List Value)(w:World)(h:Ow w 29 1 v n vs)(h1:∀u∈vs,u.oneCell'=true)(hl:n<=1000000000):
  Calls Tryz.prog 90 #[v] w fun e w'=>Fresh w w'/\∃B c',e= .returned (.slice B n c')/\Own w' 29 1 (.slice B n c') n vs/\∀k,(Value.slice B n c').ownBlock=some k->w.heap.size<=k:=by
 have q36:∀(w:World) (a:Option Addr) (n c n' c':Nat),(binOp .eql 136 (.slice a n c) (.slice none n' c')).run Tryz.prog w= .ok (.bool a.isNone) w:=fun w a n c n' c'=>Lib.run_eql_slice_nil w _ _ a n c n' c' Tryz.underlying136
 have H:=zh h
 have hn:=h.1
 obtain⟨A,c,rfl,h2,h3,h4⟩:=h.form
 cases A with
 | none=>
  have h0:n=0:=by
   rcases h4 with⟨_,e,_⟩ | ⟨g,o,e⟩
   ·exact e
   ·cases e
  subst h0
  have hu:vs= []:=List.eq_nil_of_length_eq_zero (by omega)
  subst hu
  clear h h4
  go_enter Tryz.func90,Tryz.ntmps90
  go_wp2_with fail
  go_ret
  exact⟨Touch.refl _ _,none,0,rfl,Own.nil_ _ _ _,fun _ h=>by cases h⟩
 | some a=>
  clear h h4
  have H1:=zh h1
  go_enter Tryz.func90,Tryz.ntmps90
  go_wp2_with (at_builtin;go_loud (refine wpList_own_src _ rfl _ _ 136 136 rfl 29 (.slice none 0 0) 1 24 Tryz.info29 Tryz.underlying136 rfl (.slice (some ⟨w.heap.size,0,none⟩) 0 0) 0 [] rfl (Own.lit0 _ _ _) (by simp) (.slice (some a) n c) n vs rfl (Ow.src (H.out.alloc _) Tryz.underlying136 H1.out) (by unfold maxLen;omega) (by omega) ?_;intro B1 c1 w1 o1 g1 b1;simp only[Nat.zero_add,List.nil_append]at o1 g1 b1 ⊢;have HO:=zh o1;have HG:=zh g1;have HB:=zh b1;clear o1 g1 b1))
  go_ret
  have hT:Fresh w w1:=((Touch.refl _ w).alloc _).grown HG.out fun k hk=> .inl (by simp only[Value.ownBlock,Option.some.injEq]at hk;omega)
  refine⟨hT,B1,c1,rfl,HO.out,fun k hk=> ?_⟩
  rcases HB.out with h | h
  ·rw[hk]at h;simp only[Value.ownBlock,Option.some.injEq]at h;omega
  ·rw[hk,alloc_size]at h;injection h with h;omega
section
variable {w w' w'':World}{bl bd:Nat}{R S R' S':Nat->Prop}{l l' l'':Lg}{sv rv sv' rv':Value}{vs vs':List Value}{d d' d'':Dk}
theorem Disk.below(h:Disk w S bd d):∀k,S k->k<w.heap.size:=by obtain⟨_,_,_,_,_,h⟩:=h;exact h
theorem Disk.good(h:Disk w S bd d):(∀f∈d.fs,f.kept<=f.raw.length/\f.raw≠ []/\(Lit.int .i64 f.n).wf=true)/\d.fs.Pairwise fun a b=>a.n<b.n:=by
 obtain⟨bm,fv,fs,hd,_,_⟩:=h
 rw[hd.fls]
 refine⟨fun f hf=> ?_,List.pairwise_map.2 (hd.apart.imp fun h=>h.1)⟩
 obtain⟨g,hg,rfl⟩:=List.mem_map.1 hf
 exact⟨(hd.file g hg).le,(hd.file g hg).some_,(hd.file g hg).key⟩
theorem Disk.nodup(h:Disk w S bd d):(d.fs.map Fl.n).Nodup:=List.pairwise_map.2 (h.good.2.imp fun h=>by omega)
structure LD(w:World)(bl bd:Nat)(S R:Nat->Prop)(l:Lg)(d:Dk)(sv rv:Value)(vs:List Value):Prop where
 lm:LM w bl bd R l sv rv vs
 dk:Disk w S bd d
 dis:∀k,lfoot bl sv rv k\/R k->¬S k
 nR:∀k,lfoot bl sv rv k->¬R k
 Rlt:∀k,R k->k<w.heap.size
theorem LD.fresh(h:LD w bl bd S R l d sv rv vs)(hf:Fresh w w'):LD w' bl bd S R l d sv rv vs:=
 ⟨h.lm.fresh hf,h.dk.fresh hf,h.dis,h.nR,fun k hk=>Nat.lt_of_lt_of_le (h.Rlt k hk) hf.size⟩
theorem LD.lt(h:LD w bl bd S R l d sv rv vs):∀k,lfoot bl sv rv k\/R k->k<w.heap.size:=fun k hk=>hk.elim (h.lm.lt k) (h.Rlt k)
theorem LD.disk(h:LD w bl bd S R l d sv rv vs)(ht:Touch S w w')(hd:Disk w' (more S w w') bd d'):LD w' bl bd (more S w w') R l d' sv rv vs:=
 ⟨h.lm.touch ht h.dis,hd,fun k hk hs=>by
  rcases hs with hs | hs
  ·exact h.dis k hk hs
  ·have:=h.lt k hk;omega,h.nR,fun k hk=>Nat.lt_of_lt_of_le (h.Rlt k hk) ht.size⟩
structure LX(w w':World)(bl bd:Nat)(S R:Nat->Prop)(sv rv:Value)(l':Lg)(d':Dk)(S' R':Nat->Prop)(sv' rv':Value)(vs':List Value):Prop where
 ld:LD w' bl bd S' R' l' d' sv' rv' vs'
 tch:Touch (fun k=>lfoot bl sv rv k\/S k) w w'
 sS:∀k,S' k->S k\/w.heap.size<=k
 sR:∀k,R' k->R k\/w.heap.size<=k
 sF:∀k,lfoot bl sv' rv' k->lfoot bl sv rv k\/w.heap.size<=k
def LB(w w':World)(bl bd:Nat)(S R:Nat->Prop)(sv rv:Value)(l':Lg)(d':Dk):Prop:=∃S' R' sv' rv' vs',LX w w' bl bd S R sv rv l' d' S' R' sv' rv' vs'
theorem LD.same(h:LD w bl bd S R l d sv rv vs):LX w w bl bd S R sv rv l d S R sv rv vs:=⟨h,Touch.refl _ _,fun _=> .inl,fun _=> .inl,fun _=> .inl⟩
theorem LX.trans{S2 R2:Nat->Prop}{sv2 rv2:Value}{vs2:List Value}(h:LX w w' bl bd S R sv rv l' d' S' R' sv' rv' vs')(h2:LX w' w'' bl bd S' R' sv' rv' l'' d'' S2 R2 sv2 rv2 vs2):LX w w'' bl bd S R sv rv l'' d'' S2 R2 sv2 rv2 vs2:=by
 have hs:=h.tch.size
 refine⟨h2.ld,h.tch.trans h2.tch fun k hk hx=> ?_,fun k hk=> ?_,fun k hk=> ?_,fun k hk=> ?_⟩
 ·rcases hx with hx | hx
  ·exact(h.sF k hx).elim .inl fun e=>by omega
  ·exact(h.sS k hx).elim .inr fun e=>by omega
 ·exact(h2.sS k hk).elim (h.sS k) fun e=> .inr (by omega)
 ·exact(h2.sR k hk).elim (h.sR k) fun e=> .inr (by omega)
 ·exact(h2.sF k hk).elim (h.sF k) fun e=> .inr (by omega)
theorem LX.fresh(h:LX w w' bl bd S R sv rv l' d' S' R' sv' rv' vs')(hf:Fresh w' w''):LX w w'' bl bd S R sv rv l' d' S' R' sv' rv' vs':=
 ⟨h.ld.fresh hf,h.tch.trans hf fun _ _=>False.elim,h.sS,h.sR,h.sF⟩
theorem LX.disk{d2:Dk}(h:LX w w' bl bd S R sv rv l' d' S' R' sv' rv' vs')(ht:Touch S' w' w'')(hd:Disk w'' (more S' w' w'') bd d2):LX w w'' bl bd S R sv rv l' d2 (more S' w' w'') R' sv' rv' vs':=by
 have hs:=h.tch.size
 refine⟨h.ld.disk ht hd,h.tch.trans ht fun k hk hx=>(h.sS k hx).elim .inr fun e=>by omega,fun k hk=> ?_,h.sR,h.sF⟩
 rcases hk with hk | hk
 ·exact h.sS k hk
 ·exact .inr (by omega)
theorem LX.own{sv2 rv2:Value}{vs2:List Value}{R2:Nat->Prop}(h:LX w w' bl bd S R sv rv l' d' S' R' sv' rv' vs')(ht:Touch (lfoot bl sv' rv') w' w'')(hm:LM w'' bl bd R2 l'' sv2 rv2 vs2)
  (hF:∀k,lfoot bl sv2 rv2 k->lfoot bl sv' rv' k\/(w'.heap.size<=k/\¬R2 k)) (hR:∀k,R2 k->R' k\/(w.heap.size<=k/\k<w''.heap.size/\¬S' k/\¬lfoot bl sv' rv' k)):LX w w'' bl bd S R sv rv l'' d' S' R2 sv2 rv2 vs2:=by
 have hs:=h.tch.size
 have hs2:=ht.size
 have hSlt:=h.ld.dk.below
 refine⟨⟨hm,h.ld.dk.touch ht fun k hk hf=>h.ld.dis k (.inl hf) hk,fun k hk hsk=> ?_,fun k hk hr=> ?_,fun k hk=> ?_⟩,h.tch.trans ht fun k hk hx=>(h.sF k hx).elim .inl fun e=>by omega,h.sS,fun k hk=> ?_,fun k hk=> ?_⟩
 ·rcases hk with hk | hk
  ·rcases hF k hk with h1 | h1
   ·exact h.ld.dis k (.inl h1) hsk
   ·have:=hSlt k hsk;omega
  ·rcases hR k hk with h1 | h1
   ·exact h.ld.dis k (.inr h1) hsk
   ·exact h1.2.2.1 hsk
 ·rcases hF k hk with h1 | h1
  ·rcases hR k hr with h2 | h2
   ·exact h.ld.nR k h1 h2
   ·exact h2.2.2.2 h1
  ·exact h1.2 hr
 ·rcases hR k hk with h1 | h1
  ·have:=h.ld.Rlt k h1;omega
  ·exact h1.2.1
 ·rcases hR k hk with h1 | h1
  ·exact h.sR k h1
  ·exact .inr h1.1
 ·rcases hF k hk with h1 | h1
  ·exact h.sF k h1
  ·exact .inr (by omega)
theorem LX.block(h:LX w w' bl bd S R sv rv l' d' S' R' sv' rv' vs')(ht:Touch (·=bl) w' w'')(hl:l''.segs=l'.segs)(hc:l''.c=l'.c)
  (hb:Blk w'' bl 138 #[.pointer (some ⟨bd,0,none⟩), .int .i64 (l''.base:Int),sv', .int .i64 (l''.c.first:Int),rv', .bool l''.failed, .bool l''.dirty]):LX w w'' bl bd S R sv rv l'' d' S' R' sv' rv' vs':=by
 have hm:=h.ld.lm
 refine h.own (ht.mono fun k _ hk=> .inl hk) ⟨hb, ?_, ?_, ?_⟩ (fun k hk=> .inl hk) (fun k hk=> .inl hk)
 ·rw[hl]
  exact hm.segs.touch ht fun k hk e=>hm.segs.ne_blk hm.blk (by decide) (by rw[hk,e])
 ·rw[hc]
  exact hm.rows.touch ht fun k hk e=>hm.rows.ne_blk hm.blk (by decide) (by rw[hk,e])
 ·rw[hc]
  exact hm.recs.touch ht fun k hk e=>h.ld.nR k (.inl e) hk
end
section
variable {P:Program}
theorem wp_fb_src(w:World){o:Oper}{a:Act}{K:Act->World->Prop}{Q:Exit->Act->World->Prop}(s x:Operand)(t tx:TypeId)
  (ho:o.op= .call { callee:= .builtin .append,args:= #[s,x],argTypes:= #[t,tx] })
  (e:TypeId) (hinfo:(P.info? e).map (fun i=>(i.zero,i.size,i.bytes))=some (some (.int .u8 0),1,1)) (ht:P.underlying t=some (.slice e))
  {g cap:Nat} {l ys:List UInt8} (hv:a.eval s= .slice (some ⟨g,0,none⟩) l.length cap) (h:Fb w g cap l) (y:Value) (m:Nat) (hx:a.eval x=y) (hs:Src P 1 tx y m (u8s ys) w) (h63:l.length+m<=140737488355328)
  (hk:∀g' c' w',Bs w' (some ⟨g',0,none⟩) (l.length+m) c' (l++ys)->w.grownBy w' (some g)->(g'=g\/g'=w.heap.size)->K (a.put o.dst (.slice (some ⟨g',0,none⟩) (l.length+m) c')) w'):o.wp P a w K Q:=by
 obtain⟨i,hi,hz,hs1,hb1⟩:=info_parts hinfo
 obtain⟨g',c',w',hr,h2,h3,h4⟩:=run_fb_src (P:=P) w t tx o.type e i ht hi hz hs1 hb1 h y m hs h63
 unfold Oper.wp execOp
 simp only[ho,resolve,invoke,builtin,Sem.run_bind,Sem.run_pure,Result.andThen_ok,List.map_toArray,List.map_cons,List.map_nil,hv,hx,hr]
 exact hk g' c' w' h2 h3 h4
theorem step_fb_src(w:World){ops:Array Oper}{o:Oper}{a:Act}{K:Act->World->Prop}{Q:Exit->Act->World->Prop}{E:Prop}(hgd:o.guard=none)(s x:Operand)(t tx:TypeId)
  (ho:o.op= .call { callee:= .builtin .append,args:= #[s,x],argTypes:= #[t,tx] })
  (e:TypeId) (hinfo:(P.info? e).map (fun i=>(i.zero,i.size,i.bytes))=some (some (.int .u8 0),1,1)) (ht:P.underlying t=some (.slice e))
  {g cap:Nat} {l ys:List UInt8} (hv:a.eval s= .slice (some ⟨g,0,none⟩) l.length cap) (h:Fb w g cap l) (y:Value) (m:Nat) (hx:a.eval x=y) (hs:Src P 1 tx y m (u8s ys) w) (h63:l.length+m<=140737488355328)
  (hk:∀g' c' w',Bs w' (some ⟨g',0,none⟩) (l.length+m) c' (l++ys)->w.grownBy w' (some g)->(g'=g\/g'=w.heap.size)->K (a.put o.dst (.slice (some ⟨g',0,none⟩) (l.length+m) c')) w'):if Region.wanted o (yielded ops a.tmps)=true then Oper.wp P o a w K Q else E:=by
 have hw:Region.wanted o (yielded ops a.tmps)=true:=by simp[Region.wanted,hgd]
 rw[if_pos hw]
 exact wp_fb_src w s x t tx ho e hinfo ht hv h y m hx hs h63 hk
theorem step_ow_src(w:World){ops:Array Oper}{o:Oper}{a:Act}{K:Act->World->Prop}{Q:Exit->Act->World->Prop}{E:Prop}(hgd:o.guard=none)(s x:Operand)(t tx:TypeId)
  (ho:o.op= .call { callee:= .builtin .append,args:= #[s,x],argTypes:= #[t,tx] })
  (e:TypeId) (z:Value) (size bytes:Nat) (hinfo:(P.info? e).map (fun i=>(i.zero,i.size,i.bytes))=some (some z,size,bytes)) (ht:P.underlying t=some (.slice e)) (hzs:z.cells.size=size)
  (v:Value) (n:Nat) (xs:List Value) (hv:a.eval s=v) (hown:Ow w e size v n xs) (h1:∀u∈xs,u.oneCell'=true) (y:Value) (m:Nat) (news:List Value) (hx:a.eval x=y) (hs:Src P size tx y m news w) (h63:n+m<=maxLen) (hbytes:(n+m)*bytes<=140737488355328)
  (h:∀B c' w',Ow w' e size (.slice B (n+m) c') (n+m) (xs++news)->w.grownBy w' v.ownBlock->((Value.slice B (n+m) c').ownBlock=v.ownBlock\/(Value.slice B (n+m) c').ownBlock=some w.heap.size)->K (a.put o.dst (.slice B (n+m) c')) w'):
  if Region.wanted o (yielded ops a.tmps)=true then Oper.wp P o a w K Q else E:=by
 have hw:Region.wanted o (yielded ops a.tmps)=true:=by simp[Region.wanted,hgd]
 rw[if_pos hw]
 exact wp_ow_src w s x t tx ho e z size bytes hinfo ht hzs v n xs hv hown h1 y m news hx hs h63 hbytes h
end
def bgnV(file:Nat):Option Hd->List Value
 | none=> [.int .i64 0, .int .i64 0, .int .i64 0, .int .i64 0, .bool false, .int .i64 0, .int .i64 0, .int .i64 0]
 | some h=>segC (h.seg file)
def isStr:Option TypeDesc->Bool
 | some (.struct _)=>true
 | _=>false
theorem seg_desc:∃fs,Tryz.prog.underlying 145=some (.struct fs):=by
 have h:isStr (Tryz.prog.underlying 145)=true:=by kernel_rfl
 generalize Tryz.prog.underlying 145=o at*
 cases o with
 | none=>cases h
 | some d=>cases d<;>first | exact⟨_,rfl⟩ | cases h
theorem results_seg{fn:Func}(h:fn.results= #[.cell 4 145, .tmp 5])(tmps:Array Value)(w:World)(g:Nat)(cs:Array Value)
  (hp:tmps.getD 4 undef= .pointer (some ⟨g,0,none⟩)) (hg:Blk w g 145 cs) (hs:cs.size=8):
  (results fn tmps).run Tryz.prog w= .ok (.tuple #[.agg cs,tmps.getD 5 undef]) w:=by
 obtain⟨fs,hu⟩:=seg_desc
 have hi:(Tryz.prog.info? 145).map (·.size)=some cs.size:=by rw[hs];kernel_rfl
 rw[results_cell_tmp h,hp]
 have:=run_loadVar_row (P:=Tryz.prog) w g 145 145 cs (0,0) _ hg hu rfl hi
 simp[asAddr,Result.andThen,this]
theorem seg_set{w:World}{g:Nat}{a0 a1 a2 a3 a4 a5 a6 a7:Value}(h:Blk w g 145 #[a0,a1,a2,a3,a4,a5,a6,a7])(b0 b1 b2 b3 b4 b5 b6 b7:Value):
  Blk ((((((((w.setCell ⟨g,0,none⟩ b0).setCell ⟨g,1,none⟩ b1).setCell ⟨g,2,none⟩ b2).setCell ⟨g,3,none⟩ b3).setCell ⟨g,4,none⟩ b4).setCell ⟨g,5,none⟩ b5).setCell ⟨g,6,none⟩ b6).setCell ⟨g,7,none⟩ b7) g 145 #[b0,b1,b2,b3,b4,b5,b6,b7]:=by
 have:=(((((((h.set_ 0 b0).set_ 1 b1).set_ 2 b2).set_ 3 b3).set_ 4 b4).set_ 5 b5).set_ 6 b6).set_ 7 b7
 simpa using this
theorem seg_touch{S:Nat->Prop}{W w:World}{g:Nat}(h:Touch S W w)(hg:W.heap.size<=g)(b0 b1 b2 b3 b4 b5 b6 b7:Value):
  Touch S W ((((((((w.setCell ⟨g,0,none⟩ b0).setCell ⟨g,1,none⟩ b1).setCell ⟨g,2,none⟩ b2).setCell ⟨g,3,none⟩ b3).setCell ⟨g,4,none⟩ b4).setCell ⟨g,5,none⟩ b5).setCell ⟨g,6,none⟩ b6).setCell ⟨g,7,none⟩ b7):=
 (((((((h.setCell (.inl hg) b0).setCell (.inl hg) b1).setCell (.inl hg) b2).setCell (.inl hg) b3).setCell (.inl hg) b4).setCell (.inl hg) b5).setCell (.inl hg) b6).setCell (.inl hg) b7
section
variable {w:World}{bl bd:Nat}{R:Nat->Prop}{l:Lg}{sv rv:Value}{vs:List Value}
theorem begun_any{S:Nat->Prop}{d:Dk}{K:Nat}(h:LM w bl bd R l sv rv vs)(hD:Disk w S bd d)(hs:d.small K)(hK:K<=400000000)(hok:Fl.ok d.fs){n:Nat}(hn:n<9223372036854775808)(hsane:Sane (keptB d.fs n))(hlen:(keptB d.fs n).length<=400000000):
  Calls Tryz.prog 83 #[.pointer (some ⟨bl,0,none⟩), .int .i64 (n:Int)] w fun e w'=>Fresh w w'/\e= .returned (.tuple #[.agg (bgnV n (begunP (keptB d.fs n))).toArray, .bool (begunP (keptB d.fs n)).isSome]):=by
 have HK:=zh (show∀W,Fresh w W->Calls Tryz.prog 120 #[.pointer (some ⟨bl,0,none⟩), .int .i64 (n:Int)] W fun e w'=>Fresh W w'/\∃A c,e= .returned (.slice A (keptB d.fs n).length c)/\Bs w' A (keptB d.fs n).length c (keptB d.fs n)/\(A=none\/∃g,A=some ⟨g,0,none⟩)/\∀a,A=some a->W.heap.size<=a.block from fun W hW=>lkept_any (h.touch hW fun _ _=>id) (hD.fresh hW) hs hK hok hn)
 clear h hD hs hok
 generalize keptB d.fs n=raw at*
 go_enter Tryz.func83,Tryz.ntmps83
 go_wp2_with fail
 refine(HK.out _ ((Touch.refl _ w).alloc _)).mono ?_
 rintro e w1 ⟨t1,A,c,rfl,hb1,hA1,hn1⟩
 have HZ:=zh ((Blk.new w 145 #[.int .i64 0, .int .i64 0, .int .i64 0, .int .i64 0, .bool false, .int .i64 0, .int .i64 0, .int .i64 0]).touch t1 id)
 have HF1:=zh (((Touch.refl (fun _=>False) w).alloc _).trans t1 fun _ _=>id)
 have HB1:=zh hb1;have HN1:=zh hn1;have HA1:=zh hA1
 clear t1 hb1 hn1 hA1
 go_wp2_with fail
 have HN2:=zh (show Calls Tryz.prog 121 #[.pointer (some ⟨w1.heap.size,0,none⟩)] (w1.alloc (.cells #[.slice A raw.length c, .int .i64 0] 182)) (NextEnd (w1.alloc (.cells #[.slice A raw.length c, .int .i64 0] 182)) w1.heap.size A raw.length c raw 0) from rnext_any (at_:=0) (Blk.new _ _ _) (HB1.out.alloc _) (HA1.out.imp id fun ⟨g,e⟩=>⟨g,0,e⟩) (Nat.zero_le _) hlen)
 have HBA:=zh (HB1.out.alloc (.cells #[.slice A raw.length c, .int .i64 0] 182))
 have HZA:=zh (HZ.out.alloc (.cells #[.slice A raw.length c, .int .i64 0] 182))
 have HFA:=zh (HF1.out.alloc (.cells #[.slice A raw.length c, .int .i64 0] 182))
 have hsz:w.heap.size<w1.heap.size:=HZ.out.lt
 refine HN2.out.mono ?_
 intro e w2 hend
 unfold NextEnd at hend
 rw[List.drop_zero]at hend
 cases hu:Enc.unframe raw with
 | none=>
  rw[hu]at hend
  obtain⟨rfl,t2⟩:=hend
  have HZ2:=HZA.out.touch t2 id
  have HU:=zh (show begunP raw=none from begun_none hu)
  clear hu
  have HF2:=zh (HFA.out.trans t2 fun _ _=>id)
  clear t2
  have z0:=HZ2.cell 0
  have z1:=HZ2.cell 1
  have z2:=HZ2.cell 2
  have z3:=HZ2.cell 3
  have z4:=HZ2.cell 4
  have z5:=HZ2.cell 5
  have z6:=HZ2.cell 6
  have z7:=HZ2.cell 7
  have f0:=HZ2.frozen 0
  have f1:=HZ2.frozen 1
  have f2:=HZ2.frozen 2
  have f3:=HZ2.frozen 3
  have f4:=HZ2.frozen 4
  have f5:=HZ2.frozen 5
  have f6:=HZ2.frozen 6
  have f7:=HZ2.frozen 7
  simp only[List.getElem?_toArray,List.getElem?_cons_zero,List.getElem?_cons_succ]at z0 z1 z2 z3 z4 z5 z6 z7
  go_wp2_with fail
  try simp only[Exit.inBlock,Exit.then]
  refine bodyPost_ret (results_seg rfl _ _ _ _ rfl (seg_set HZ2 _ _ _ _ _ _ _ _) rfl) rfl ?_
  rw[HU.out]
  exact⟨seg_touch HF2.out (Nat.le_refl _) _ _ _ _ _ _ _ _,rfl⟩
 | some q=>
  obtain⟨p,k⟩:=q
  have hkl:=Enc.unframe_le hu
  have HU:=zh (show begunP raw=(if ¬(p.length=49/\(p.headD 0=104\/p.headD 0=119)) then none
   else if big6 p then some ⟨0,0,0,0,false,0⟩
   else if p.headD 0=119/\(raw.length-k<num p 4\/Enc.sum ((raw.drop k).take (num p 4))≠num p 5 % 4294967296) then none
   else some ⟨num p 0,num p 1,num p 2,num p 3,decide (p.headD 0=119),k⟩) by unfold begunP;rw[hu])
  have hsn:=hsane p k hu
  rw[hu]at hend
  obtain⟨B,c2,rfl,t2,hr2,hb2,hn2⟩:=hend
  have HZ2:=HZA.out.touch t2 (by show w.heap.size≠w1.heap.size;omega)
  have HF2:=zh (show Fresh w w2 from HFA.out.trans t2 fun q hq e=>by have e:q=w1.heap.size:=e;omega)
  have HR2:=zh hr2;have HB2:=zh hb2;have HBA2:=zh (HBA.out.touch t2 (fun a ha h0 e=>by
   have e:a.block=w1.heap.size:=e
   have h1:=HBA.out.2.2.2 h0
   obtain⟨b',o',e',hc⟩:=HB1.out.2.2.2 h0
   have h2:=HB1.out.1
   have h3:=World.block_lt_of_cell? w1 _ (hc 0 (raw[0]'(by omega)) (List.getElem?_eq_getElem _))
   rw[ha]at e'
   injection e' with e'
   rw[e']at e
   exact absurd h3 (by show ¬b'<w1.heap.size;have:b'=w1.heap.size:=e;omega)))
  clear t2 hr2 hb2 hn2 hu hsane
  have z0:=HZ2.cell 0
  have z1:=HZ2.cell 1
  have z2:=HZ2.cell 2
  have z3:=HZ2.cell 3
  have z4:=HZ2.cell 4
  have z5:=HZ2.cell 5
  have z6:=HZ2.cell 6
  have z7:=HZ2.cell 7
  have f0:=HZ2.frozen 0
  have f1:=HZ2.frozen 1
  have f2:=HZ2.frozen 2
  have f3:=HZ2.frozen 3
  have f4:=HZ2.frozen 4
  have f5:=HZ2.frozen 5
  have f6:=HZ2.frozen 6
  have f7:=HZ2.frozen 7
  simp only[List.getElem?_toArray,List.getElem?_cons_zero,List.getElem?_cons_succ]at z0 z1 z2 z3 z4 z5 z6 z7
  by_cases h49:p.length=49
  ·have HP:=zh h49
   obtain⟨b,o,rfl⟩:=HB2.out.at_ (by omega)
   have c0:w2.cell? ⟨b,o,none⟩=some (.int .u8 ((p.headD 0).toNat:Int)):=by
    have:=HB2.out.cellAt (j:=0) (by omega)
    rwa [show p.getD 0 0=p.headD 0 by cases p<;>rfl]at this
   rw[h49]at HB2 HU
   rw[h49]
   clear h49
   by_cases hx:p.headD 0=104\/p.headD 0=119
   ·have HBIG:=zh (big6_not (hsn HP.out hx))
    have HB6:=zh (hsn HP.out hx)
    have HKN:=zh (numbers_any (some ⟨b,o,none⟩) c2 6 p w2 HB2.out (by omega) (by omega) HBIG.out)
    clear hsn
    rcases hx with hx | hx
    ·rw[hx]at c0 HU
     have c0:w2.cell? ⟨b,o,none⟩=some (.int .u8 104):=c0
     go_wp2_with fail
     refine HKN.out.mono ?_
     rintro e w3 ⟨t3,B6,c6,rfl,hi6,hn6⟩
     obtain⟨b6,o6,rfl,hc6⟩:=hi6.2.2.2 (by omega)
     have g0:w3.cell? ⟨b6,o6+0,none⟩=some (.int .i64 (num p 0)):=hc6 0 _ rfl
     have g1:w3.cell? ⟨b6,o6+1,none⟩=some (.int .i64 (num p 1)):=hc6 1 _ rfl
     have g2:w3.cell? ⟨b6,o6+2,none⟩=some (.int .i64 (num p 2)):=hc6 2 _ rfl
     have g3:w3.cell? ⟨b6,o6+3,none⟩=some (.int .i64 (num p 3)):=hc6 3 _ rfl
     have g4:w3.cell? ⟨b6,o6+4,none⟩=some (.int .i64 (num p 4)):=hc6 4 _ rfl
     have g5:w3.cell? ⟨b6,o6+5,none⟩=some (.int .i64 (num p 5)):=hc6 5 _ rfl
     have g00:w3.cell? ⟨b6,o6,none⟩=some (.int .i64 (num p 0)):=g0
     have hq6:=hi6.2.1
     have c03:=t3.cell c0 id
     have HR3:=HR2.out.touch t3 id
     have r0:=HR3.cell 0
     have r1:=HR3.cell 1
     simp only[List.getElem?_toArray,List.getElem?_cons_zero,List.getElem?_cons_succ]at r0 r1
     have HZ3:=HZ2.touch t3 id
     have HF3:=zh (HF2.out.trans t3 fun _ _=>id)
     have HRR:=zh HR3
     have HZZ:=zh HZ3
     have ag1:∀x,(w3.alloc x).cell? _= _:=fun x=>((Touch.refl (fun _=>False) w3).alloc x).cell g1 id
     have ag2:∀x,(w3.alloc x).cell? _= _:=fun x=>((Touch.refl (fun _=>False) w3).alloc x).cell g2 id
     have ag3:∀x,(w3.alloc x).cell? _= _:=fun x=>((Touch.refl (fun _=>False) w3).alloc x).cell g3 id
     have ag00:∀x,(w3.alloc x).cell? _= _:=fun x=>((Touch.refl (fun _=>False) w3).alloc x).cell g00 id
     have ac03:∀x,(w3.alloc x).cell? _= _:=fun x=>((Touch.refl (fun _=>False) w3).alloc x).cell c03 id
     have ar1:∀x,(w3.alloc x).cell? _= _:=fun x=>((Touch.refl (fun _=>False) w3).alloc x).cell r1 id
     clear z0 z1 z2 z3 z4 z5 z6 z7 f0 f1 f2 f3 f4 f5 f6 f7 HZ2 HZ3 HR3 t3 hi6 hc6 hn6 c0
     go_wp2_with fail
     go_region_held (fun W=>W.cell? ⟨b6,o6,none⟩=some (.int .i64 (num p 0))/\W.cell? ⟨b6,o6+1,none⟩=some (.int .i64 (num p 1))/\W.cell? ⟨b6,o6+2,none⟩=some (.int .i64 (num p 2))/\W.cell? ⟨b6,o6+3,none⟩=some (.int .i64 (num p 3))/\W.cell? ⟨b,o,none⟩=some (.int .u8 104)/\W.cell? ⟨w1.heap.size,1,none⟩=some (.int .i64 ((0+k:Nat):Int)))
      (first | exact⟨g00,g1,g2,g3,c03,r1⟩ | exact⟨ag00 _,ag1 _,ag2 _,ag3 _,ac03 _,ar1 _⟩ | assumption)
      (first | fail)
     obtain⟨w4,hw4⟩:∃w4,w4=(w3.alloc (.cells #[.int .i64 (num p 0:Nat), .int .i64 (num p 1:Nat), .int .i64 (num p 2:Nat), .int .i64 (num p 3:Nat), .bool false, .int .i64 n, .int .i64 k, .int .i64 (num p 3:Nat)] 145)).drew:=⟨_,rfl⟩
     have HS4:Blk w4 w3.heap.size 145 #[.int .i64 (num p 0:Nat), .int .i64 (num p 1:Nat), .int .i64 (num p 2:Nat), .int .i64 (num p 3:Nat), .bool false, .int .i64 n, .int .i64 k, .int .i64 (num p 3:Nat)]:=by rw[hw4];exact(Blk.new _ _ _).drew
     have HZ4:Blk w4 w.heap.size 145 #[.int .i64 0, .int .i64 0, .int .i64 0, .int .i64 0, .bool false, .int .i64 0, .int .i64 0, .int .i64 0]:=by rw[hw4];exact(HZZ.out.alloc _).drew
     have HF4:=zh (show Fresh w w4 from by rw[hw4];exact(HF3.out.alloc _).drew)
     rw[<- hw4]
     clear hw4 ag00 ag1 ag2 ag3 ac03 ar1 g00 g0 g1 g2 g3 g4 g5 c03 r0 r1
     have q0:=HS4.cell 0
     have q1:=HS4.cell 1
     have q2:=HS4.cell 2
     have q3:=HS4.cell 3
     have q4:=HS4.cell 4
     have q5:=HS4.cell 5
     have q6:=HS4.cell 6
     have q7:=HS4.cell 7
     have z0:=HZ4.cell 0
     have z1:=HZ4.cell 1
     have z2:=HZ4.cell 2
     have z3:=HZ4.cell 3
     have z4:=HZ4.cell 4
     have z5:=HZ4.cell 5
     have z6:=HZ4.cell 6
     have z7:=HZ4.cell 7
     have f0:=HZ4.frozen 0
     have f1:=HZ4.frozen 1
     have f2:=HZ4.frozen 2
     have f3:=HZ4.frozen 3
     have f4:=HZ4.frozen 4
     have f5:=HZ4.frozen 5
     have f6:=HZ4.frozen 6
     have f7:=HZ4.frozen 7
     simp only[List.getElem?_toArray,List.getElem?_cons_zero,List.getElem?_cons_succ]at q0 q1 q2 q3 q4 q5 q6 q7 z0 z1 z2 z3 z4 z5 z6 z7
     go_wp2_with fail
     go_region
     go_wp2_with fail
     try simp only[Exit.inBlock,Exit.then]
     refine bodyPost_ret (results_seg rfl _ _ _ _ rfl (seg_set HZ4 _ _ _ _ _ _ _ _).drew rfl) rfl ?_
     rw[HU.out,if_neg (by simp),HB6.out,if_neg (by simp),if_neg (by simp)]
     exact⟨(seg_touch HF4.out (Nat.le_refl _) _ _ _ _ _ _ _ _).drew,rfl⟩
    ·rw[hx]at c0 HU
     have c0:w2.cell? ⟨b,o,none⟩=some (.int .u8 119):=c0
     go_wp2_with fail
     refine HKN.out.mono ?_
     rintro e w3 ⟨t3,B6,c6,rfl,hi6,hn6⟩
     obtain⟨b6,o6,rfl,hc6⟩:=hi6.2.2.2 (by omega)
     have g0:w3.cell? ⟨b6,o6+0,none⟩=some (.int .i64 (num p 0)):=hc6 0 _ rfl
     have g1:w3.cell? ⟨b6,o6+1,none⟩=some (.int .i64 (num p 1)):=hc6 1 _ rfl
     have g2:w3.cell? ⟨b6,o6+2,none⟩=some (.int .i64 (num p 2)):=hc6 2 _ rfl
     have g3:w3.cell? ⟨b6,o6+3,none⟩=some (.int .i64 (num p 3)):=hc6 3 _ rfl
     have g4:w3.cell? ⟨b6,o6+4,none⟩=some (.int .i64 (num p 4)):=hc6 4 _ rfl
     have g5:w3.cell? ⟨b6,o6+5,none⟩=some (.int .i64 (num p 5)):=hc6 5 _ rfl
     have g00:w3.cell? ⟨b6,o6,none⟩=some (.int .i64 (num p 0)):=g0
     have hq6:=hi6.2.1
     have c03:=t3.cell c0 id
     have HR3:=HR2.out.touch t3 id
     have r0:=HR3.cell 0
     have r1:=HR3.cell 1
     simp only[List.getElem?_toArray,List.getElem?_cons_zero,List.getElem?_cons_succ]at r0 r1
     have HZ3:=HZ2.touch t3 id
     have HF3:=zh (HF2.out.trans t3 fun _ _=>id)
     have HRR:=zh HR3
     have HBA3:=zh (HBA2.out.fresh t3)
     have HZZ:=zh HZ3
     have ag1:∀x,(w3.alloc x).cell? _= _:=fun x=>((Touch.refl (fun _=>False) w3).alloc x).cell g1 id
     have ag2:∀x,(w3.alloc x).cell? _= _:=fun x=>((Touch.refl (fun _=>False) w3).alloc x).cell g2 id
     have ag3:∀x,(w3.alloc x).cell? _= _:=fun x=>((Touch.refl (fun _=>False) w3).alloc x).cell g3 id
     have ag00:∀x,(w3.alloc x).cell? _= _:=fun x=>((Touch.refl (fun _=>False) w3).alloc x).cell g00 id
     have ac03:∀x,(w3.alloc x).cell? _= _:=fun x=>((Touch.refl (fun _=>False) w3).alloc x).cell c03 id
     have ar1:∀x,(w3.alloc x).cell? _= _:=fun x=>((Touch.refl (fun _=>False) w3).alloc x).cell r1 id
     clear z0 z1 z2 z3 z4 z5 z6 z7 f0 f1 f2 f3 f4 f5 f6 f7 HZ2 HZ3 HR3 t3 hi6 hc6 hn6 c0
     go_wp2_with fail
     go_region_held (fun W=>W.cell? ⟨b6,o6,none⟩=some (.int .i64 (num p 0))/\W.cell? ⟨b6,o6+1,none⟩=some (.int .i64 (num p 1))/\W.cell? ⟨b6,o6+2,none⟩=some (.int .i64 (num p 2))/\W.cell? ⟨b6,o6+3,none⟩=some (.int .i64 (num p 3))/\W.cell? ⟨b,o,none⟩=some (.int .u8 119)/\W.cell? ⟨w1.heap.size,1,none⟩=some (.int .i64 ((0+k:Nat):Int)))
      (first | exact⟨g00,g1,g2,g3,c03,r1⟩ | exact⟨ag00 _,ag1 _,ag2 _,ag3 _,ac03 _,ar1 _⟩ | assumption)
      (first | fail)
     obtain⟨w4,hw4⟩:∃w4,w4=(w3.alloc (.cells #[.int .i64 (num p 0:Nat), .int .i64 (num p 1:Nat), .int .i64 (num p 2:Nat), .int .i64 (num p 3:Nat), .bool true, .int .i64 n, .int .i64 k, .int .i64 (num p 3:Nat)] 145)).drew:=⟨_,rfl⟩
     have HS4:Blk w4 w3.heap.size 145 #[.int .i64 (num p 0:Nat), .int .i64 (num p 1:Nat), .int .i64 (num p 2:Nat), .int .i64 (num p 3:Nat), .bool true, .int .i64 n, .int .i64 k, .int .i64 (num p 3:Nat)]:=by rw[hw4];exact(Blk.new _ _ _).drew
     have HZ4:Blk w4 w.heap.size 145 #[.int .i64 0, .int .i64 0, .int .i64 0, .int .i64 0, .bool false, .int .i64 0, .int .i64 0, .int .i64 0]:=by rw[hw4];exact(HZZ.out.alloc _).drew
     have HF4:=zh (show Fresh w w4 from by rw[hw4];exact(HF3.out.alloc _).drew)
     rw[<- hw4]
     have d4:w4.cell? ⟨b6,o6+4,none⟩=some (.int .i64 (num p 4)):=by rw[hw4];exact((Touch.refl (fun _=>False) w3).alloc _).cell g4 id
     have d5:w4.cell? ⟨b6,o6+5,none⟩=some (.int .i64 (num p 5)):=by rw[hw4];exact((Touch.refl (fun _=>False) w3).alloc _).cell g5 id
     have e0:w4.cell? ⟨w1.heap.size,0,none⟩=some (.slice A raw.length c):=by rw[hw4];exact((Touch.refl (fun _=>False) w3).alloc _).cell r0 id
     have e1:w4.cell? ⟨w1.heap.size,1,none⟩=some (.int .i64 ((0+k:Nat):Int)):=by rw[hw4];exact((Touch.refl (fun _=>False) w3).alloc _).cell r1 id
     rw[Nat.zero_add]at e1
     have HBA4:=zh (show Bs w4 A raw.length c raw from by rw[hw4];exact HBA3.out.alloc _)
     clear hw4 ag00 ag1 ag2 ag3 ac03 ar1 g00 g0 g1 g2 g3 g4 g5 c03 r0 r1
     have q0:=HS4.cell 0
     have q1:=HS4.cell 1
     have q2:=HS4.cell 2
     have q3:=HS4.cell 3
     have q4:=HS4.cell 4
     have q5:=HS4.cell 5
     have q6:=HS4.cell 6
     have q7:=HS4.cell 7
     have z0:=HZ4.cell 0
     have z1:=HZ4.cell 1
     have z2:=HZ4.cell 2
     have z3:=HZ4.cell 3
     have z4:=HZ4.cell 4
     have z5:=HZ4.cell 5
     have z6:=HZ4.cell 6
     have z7:=HZ4.cell 7
     have f0:=HZ4.frozen 0
     have f1:=HZ4.frozen 1
     have f2:=HZ4.frozen 2
     have f3:=HZ4.frozen 3
     have f4:=HZ4.frozen 4
     have f5:=HZ4.frozen 5
     have f6:=HZ4.frozen 6
     have f7:=HZ4.frozen 7
     simp only[List.getElem?_toArray,List.getElem?_cons_zero,List.getElem?_cons_succ]at q0 q1 q2 q3 q4 q5 q6 q7 z0 z1 z2 z3 z4 z5 z6 z7
     go_wp2_with fail
     have hn4:=HBIG.out 4 (by omega)
     have hn5:=HBIG.out 5 (by omega)
     rw[if_neg (by simp),HB6.out,if_neg (by simp)]at HU
     generalize num p 4=u at*
     generalize num p 5=v at*
     have hwr:IntKind.i64.wrap ((raw.length:Int)-(k:Int))=(raw.length:Int)-(k:Int):=IntWalk.i64_in _ (by omega)
     by_cases hlt:raw.length-k<u
     ·rw[if_pos ⟨by trivial, .inl hlt⟩]at HU
      have hlt2:(raw.length:Int)-(k:Int)<(u:Int):=by omega
      go_quiet (fail)
      go_wp2_with fail
      try simp only[Exit.inBlock,Exit.then]
      refine bodyPost_ret (results_seg rfl _ _ _ _ rfl (seg_set (HZ4.drewN _) _ _ _ _ _ _ _ _) rfl) rfl ?_
      rw[HU.out]
      exact⟨seg_touch (HF4.out.drewN _) (Nat.le_refl _) _ _ _ _ _ _ _ _,rfl⟩
     ·have hkc:k<=c:=Nat.le_trans hkl.2 HBA4.out.2.1
      have hcm:=HBA4.out.2.2.1
      have hrl:=HBA4.out.1
      have hrc:=HBA4.out.2.1
      unfold maxLen at hcm
      obtain⟨gA,oA,rfl⟩:=HBA4.out.at_ (by omega)
      have hpl:((raw.drop k).take (u)).length=u:=by rw[List.length_take,List.length_drop];omega
      obtain⟨A8,hA8,h8b⟩:∃A8,A8=(if c=k then some ⟨gA,oA,none⟩ else some ⟨gA,oA+k,none⟩:Option Addr)/\Bs w4 A8 (u) (c-k) ((raw.drop k).take (u)):=by
       refine⟨_,rfl, ?_⟩
       by_cases hck:c=k
       ·rw[if_pos hck]
        exact⟨hpl,by omega,by unfold maxLen;omega,fun h=>by omega⟩
       ·rw[if_neg hck]
        exact(HBA4.out.drop_ (k:=k) hkl.2).take (by omega)
      have HT1:=zh (show∀r,Calls Tryz.prog 123 #[.slice A8 (u) (c-k)] (w4.drewN r) fun e w'=>e= .returned (.int .u32 (Enc.sum ((raw.drop k).take (u)):Nat))/\w'=w4.drewN r from fun r=>(sum_any A8 (u) (c-k) _ (w4.drewN r) (h8b.drewN r)).mono fun e w' ⟨h1,h2⟩=>⟨h2,h1⟩)
      have HA8:=zh hA8
      clear hA8 h8b
      have hlt2:¬(raw.length:Int)-(k:Int)<(u:Int):=by omega
      have hwa:IntKind.i64.wrap ((k:Int)+(u:Int))=(k:Int)+(u:Int):=IntWalk.i64_in _ (by omega)
      have htn:((k:Int)+(u:Int)).toNat=k+u:=by omega
      have hun:(k:Int)+(u:Int)<=(c:Int):=by omega
      have hkk:(k:Int)<=(k:Int)+(u:Int):=by omega
      have hsb:k+u-k=u:=by omega
      have hwu:IntKind.u32.wrap (v:Int)=((v % 4294967296:Nat):Int):=by rw[IntKind.wrap_u32'];omega
      by_cases hck:c=k
      ·obtain rfl:A8=some ⟨gA,oA,none⟩:=by rw[HA8.out,if_pos hck]
       subst hck
       rw[Nat.sub_self]at HT1
       clear HA8 hkc
       by_cases hse:Enc.sum ((raw.drop c).take u)=v % 4294967296
       ·have hne:((Enc.sum ((raw.drop c).take u):Int) != ((v % 4294967296:Nat):Int))=false:=by rw[hse];simp
        go_quiet ((first | (go_at_call 123;exact Calls.quiet_of_same (HT1.out _))))
        go_wp2_with fail
        try simp only[Exit.inBlock,Exit.then]
        refine bodyPost_ret (results_seg rfl _ _ _ _ rfl (seg_set (HZ4.drewN _) _ _ _ _ _ _ _ _) rfl) rfl ?_
        rw[HU.out,if_neg (fun ⟨_,h⟩=>h.elim hlt fun h=>h hse)]
        exact⟨seg_touch (HF4.out.drewN _) (Nat.le_refl _) _ _ _ _ _ _ _ _,rfl⟩
       ·have hne:((Enc.sum ((raw.drop c).take u):Int) != ((v % 4294967296:Nat):Int))=true:=bne_iff_ne.2 (by omega)
        go_quiet ((first | (go_at_call 123;exact Calls.quiet_of_same (HT1.out _))))
        go_wp2_with fail
        try simp only[Exit.inBlock,Exit.then]
        refine bodyPost_ret (results_seg rfl _ _ _ _ rfl (seg_set (HZ4.drewN _) _ _ _ _ _ _ _ _) rfl) rfl ?_
        rw[HU.out,if_pos ⟨by trivial, .inr hse⟩]
        exact⟨seg_touch (HF4.out.drewN _) (Nat.le_refl _) _ _ _ _ _ _ _ _,rfl⟩
      ·obtain rfl:A8=some ⟨gA,oA+k,none⟩:=by rw[HA8.out,if_neg hck]
       by_cases hse:Enc.sum ((raw.drop k).take u)=v % 4294967296
       ·have hne:((Enc.sum ((raw.drop k).take u):Int) != ((v % 4294967296:Nat):Int))=false:=by rw[hse];simp
        go_quiet ((first | (go_at_call 123;exact Calls.quiet_of_same (HT1.out _))))
        go_wp2_with fail
        try simp only[Exit.inBlock,Exit.then]
        refine bodyPost_ret (results_seg rfl _ _ _ _ rfl (seg_set (HZ4.drewN _) _ _ _ _ _ _ _ _) rfl) rfl ?_
        rw[HU.out,if_neg (fun ⟨_,h⟩=>h.elim hlt fun h=>h hse)]
        exact⟨seg_touch (HF4.out.drewN _) (Nat.le_refl _) _ _ _ _ _ _ _ _,rfl⟩
       ·have hne:((Enc.sum ((raw.drop k).take u):Int) != ((v % 4294967296:Nat):Int))=true:=bne_iff_ne.2 (by omega)
        go_quiet ((first | (go_at_call 123;exact Calls.quiet_of_same (HT1.out _))))
        go_wp2_with fail
        try simp only[Exit.inBlock,Exit.then]
        refine bodyPost_ret (results_seg rfl _ _ _ _ rfl (seg_set (HZ4.drewN _) _ _ _ _ _ _ _ _) rfl) rfl ?_
        rw[HU.out,if_pos ⟨by trivial, .inr hse⟩]
        exact⟨seg_touch (HF4.out.drewN _) (Nat.le_refl _) _ _ _ _ _ _ _ _,rfl⟩
   ·have hx1:¬p.headD 0=104:=fun e=>hx (.inl e)
    have hx2:¬p.headD 0=119:=fun e=>hx (.inr e)
    have n1:¬((p.headD 0).toNat:Int)=104:=fun e=>hx1 (UInt8.toNat_inj.1 (by show (p.headD 0).toNat=104;omega))
    have n2:¬((p.headD 0).toNat:Int)=119:=fun e=>hx2 (UInt8.toNat_inj.1 (by show (p.headD 0).toNat=119;omega))
    rw[if_pos (fun h=>hx h.2)]at HU
    have m1:(((p.headD 0).toNat:Int) != 104)=true:=bne_iff_ne.2 n1
    have m2:(((p.headD 0).toNat:Int) != 119)=true:=bne_iff_ne.2 n2
    generalize p.headD 0=y at*
    go_wp2_with fail
    try simp only[Exit.inBlock,Exit.then]
    refine bodyPost_ret (results_seg rfl _ _ _ _ rfl (seg_set HZ2 _ _ _ _ _ _ _ _) rfl) rfl ?_
    rw[HU.out]
    exact⟨seg_touch HF2.out (Nat.le_refl _) _ _ _ _ _ _ _ _,rfl⟩
  ·have hi:¬(p.length:Int)=49:=by omega
   go_wp2_with fail
   try simp only[Exit.inBlock,Exit.then]
   refine bodyPost_ret (results_seg rfl _ _ _ _ rfl (seg_set HZ2 _ _ _ _ _ _ _ _) rfl) rfl ?_
   rw[HU.out,if_pos (fun h=>h49 h.1)]
   exact⟨seg_touch HF2.out (Nat.le_refl _) _ _ _ _ _ _ _ _,rfl⟩
end
end Go.Proofs.YtjehlgblkfofpaaGreat