/- The claims' texts, several in one: Fault, Begin. Conditions stand with each theorem. -/
import Derived.Test.YtjehlgblkfofpaaGreatZa02
import Derived.RegionTactic
import Derived.Deep.QuietTactic
import Derived.BigQuiet
import Derived.Outline
set_option maxHeartbeats 2000000
set_option maxRecDepth 20000
namespace Go.Proofs.YtjehlgblkfofpaaGreat
open Go.RowKit
def stepF(at_:Int)(s:Bool×Int)(f:Int×Int):Bool×Int:=if f.1=at_ then (if s.1 then s else (true,f.2)) else s
def Boxes(w:World)(ba bs bk:Nat)(at_:Int)(s:Bool×Int):Prop:=Blk w ba 3 #[.int .i64 at_]/\Blk w bs 4 #[.bool s.1]/\Blk w bk 3 #[.int .i64 s.2]/\ba≠bk
def DelEnd(at_:Int)(f:Int×Int)(s:Bool×Int)(ba bs bk:Nat)(w:World)(e:Ending)(w':World):Prop:=
 e= .returned (.bool (decide (f.1=at_)))/\Touch (fun j=>j=bs\/j=bk) w w'/\Boxes w' ba bs bk at_ (stepF at_ s f)
theorem del_any(a k at_:Int)(s:Bool×Int)(ba bs bk:Nat)(w:World)(h:Boxes w ba bs bk at_ s):
  Calls Tryz.prog 164 #[.agg #[.int .i64 a, .int .i64 k], .pointer (some ⟨ba,0,none⟩), .pointer (some ⟨bs,0,none⟩), .pointer (some ⟨bk,0,none⟩)] w (DelEnd at_ (a,k) s ba bs bk w):=by
 obtain⟨struck,kd⟩:=s
 obtain⟨hA,hS,hK,hne⟩:=h
 have hca:∀o,(w.alloc o).cell? ⟨ba,0,none⟩=some (.int .i64 at_):=fun o=>(hA.alloc o).cell 0
 have hcs:∀o,(w.alloc o).cell? ⟨bs,0,none⟩=some (.bool struck):=fun o=>(hS.alloc o).cell 0
 have hck:∀o,(w.alloc o).cell? ⟨bk,0,none⟩=some (.int .i64 kd):=fun o=>(hK.alloc o).cell 0
 have hfs:∀o,(w.alloc o).frozen? ⟨bs,0,none⟩=false:=fun o=>(hS.alloc o).frozen 0
 have hfk:∀o,(w.alloc o).frozen? ⟨bk,0,none⟩=false:=fun o=>(hK.alloc o).frozen 0
 have hsk:bs≠bk:=hS.ne_ hK (by decide)
 have has:ba≠bs:=hA.ne_ hS (by decide)
 by_cases h:a=at_
 ·subst h
  cases struck with
  | true=>
   have HA:=zh hA;have HS:=zh hS;have HK:=zh hK;have HNE:=zh hne
   clear hA hS hK hne hsk has
   go_enter Tryz.func164,Tryz.ntmps164
   go_wp2_with fail
   go_ret
   refine⟨by simp,(Touch.refl _ _).alloc _,HA.out.alloc _, ?_, ?_,HNE.out⟩
   ·simpa [stepF] using HS.out.alloc _
   ·simpa [stepF] using HK.out.alloc _
  | false=>
   have hck3:∀o,((w.alloc o).setCell ⟨bs,0,none⟩ (.bool true)).cell? ⟨bk,0,none⟩=some (.int .i64 kd):=fun o=>((hK.alloc o).far (p:=⟨bs,0,none⟩) hsk.symm _).cell 0
   have HA:=zh hA;have HS:=zh hS;have HK:=zh hK;have HNE:=zh hne;have HSK:=zh hsk;have HAS:=zh has
   clear hA hS hK hne hsk has
   go_enter Tryz.func164,Tryz.ntmps164
   go_wp2_with fail
   go_region
   all_goals
    go_wp2_with fail
    go_ret
    refine⟨by simp,((((Touch.refl _ w).alloc _).setCell (.inr (.inl rfl)) _).setCell (.inr (.inr rfl)) _).drew, ?_, ?_, ?_,HNE.out⟩
    ·exact((HA.out.alloc _).far (p:=⟨bs,0,none⟩) HAS.out _).far (p:=⟨bk,0,none⟩) HNE.out _
    ·simpa [stepF] using (((HS.out.alloc _).set_ 0 (.bool true)).far (p:=⟨bk,0,none⟩) HSK.out (.int .i64 k)).drew
    ·simpa [stepF] using (((HK.out.alloc _).far (p:=⟨bs,0,none⟩) (fun e=>HSK.out e.symm) (.bool true)).set_ 0 (.int .i64 k)).drew
 ·have hb:(a == at_)=false:=by simpa using h
  have hb2:(a != at_)=true:=by simpa using h
  have HA:=zh hA;have HS:=zh hS;have HK:=zh hK;have HH:=zh h;have HNE:=zh hne
  clear hA hS hK hne hsk has h
  go_enter Tryz.func164,Tryz.ntmps164
  go_wp2_with fail
  go_ret
  refine⟨?_,(Touch.refl _ _).alloc _,HA.out.alloc _, ?_, ?_,HNE.out⟩
  ·simp[HH.out]
  ·simpa [stepF,HH.out] using HS.out.alloc _
  ·simpa [stepF,HH.out] using HK.out.alloc _
theorem fltCells_get:∀(l:List (Int×Int)) (i:Nat) (h:i<l.length),(fltCells l)[i*2]? =some (.int .i64 l[i].1)/\(fltCells l)[i*2+1]? =some (.int .i64 l[i].2)
 | a :: r,0,_=>⟨rfl,rfl⟩
 | a :: r,i+1,h=>by
  have:=fltCells_get r i (by simpa using h)
  have e:fltCells (a :: r)= .int .i64 a.1 :: .int .i64 a.2 :: fltCells r:=rfl
  rw[e,show (i+1)*2=i*2+1+1 by omega]
  simpa using this
def delFn(ba bs bk:Nat):Value:= .func (.func 164) #[] #[.pointer (some ⟨ba,0,none⟩), .pointer (some ⟨bs,0,none⟩), .pointer (some ⟨bk,0,none⟩)]
def IdxEnd(at_:Int)(fs:List (Int×Int))(ba bs bk:Nat)(w:World)(e:Ending)(w':World):Prop:=
 Touch (fun j=>j=bs\/j=bk) w w'/\((∃i,∃h:i<fs.length,e= .returned (.int .i64 i)/\fs[i].1=at_/\(∀f∈fs.take i,f.1≠at_)/\Boxes w' ba bs bk at_ (true,fs[i].2))\/
  (e= .returned (.int .i64 (-1))/\(∀f∈fs,f.1≠at_)/\Boxes w' ba bs bk at_ (false,0)))
theorem indexFunc_any(A:Option Addr)(c:Nat)(fs:List (Int×Int))(at_:Int)(ba bs bk:Nat)(w:World)(h:Own w 90 2 (.slice A fs.length c) fs.length (fltCells fs))(hm:fs.length<=4611686018427387904)(hB:Boxes w ba bs bk at_ (false,0)):
  Calls Tryz.prog 181 #[.slice A fs.length c,delFn ba bs bk] w (IdxEnd at_ fs ba bs bk w):=by
 unfold delFn
 have H:=zh h;have HB:=zh hB
 clear h hB
 go_enter Tryz.func181,Tryz.ntmps181
 go_wp2_with fail
 go_loopw [8] (fun i wr=>∃j:Nat,j<=fs.length/\i= .int .i64 j/\(∀f∈fs.take j,f.1≠at_)/\Boxes wr ba bs bk at_ (false,0)/\Touch (fun j=>j=bs\/j=bk) w wr) (fun i _=>fs.length-(intOf i).toNat)
 case atStart=>exact⟨0,by omega,rfl,by simp,HB.out,Touch.refl _ _⟩
 case round=>
  obtain⟨j,hj,rfl,hno,hb,ht⟩:=hrel
  have HNO:=zh hno;have HB1:=zh hb;have HT:=zh ht
  clear hno hb ht
  by_cases hlt:j<fs.length
  ·obtain⟨g,rfl⟩:∃g,A=some ⟨g,0,none⟩:=by
    obtain⟨A',c',hv,_,_,hA⟩:=H.out.form
    injection hv with e1 _ _
    subst e1
    rcases hA with⟨_,h0,_⟩ | hA
    ·omega
    ·exact hA
   have hO:Own wr 90 2 (.slice (some ⟨g,0,none⟩) fs.length c) fs.length (fltCells fs):=H.out.touch HT.out (by
    intro k hk hs
    simp only[Value.ownBlock,Option.some.injEq]at hk
    subst hk
    rcases hs with rfl | rfl
    ·exact H.out.ne_blk HB.out.2.1 (by decide) rfl
    ·exact H.out.ne_blk HB.out.2.2.1 (by decide) rfl)
   have hc0:=hO.cell (j:=j*2) (by omega)
   have hc1:=hO.cell (j:=j*2+1) (by omega)
   rw[(fltCells_get fs j hlt).1]at hc0
   rw[(fltCells_get fs j hlt).2]at hc1
   have hD:=del_any fs[j].1 fs[j].2 at_ (false,0) ba bs bk wr HB1.out
   generalize hfj:fs[j]=fj at hc0 hc1 hD
   have HD:=zh hD;have HFJ:=zh hfj
   clear hO hD hfj
   go_wp2_with fail
   by_cases hat:fj.1=at_
   ·have hdec:decide (fj.1=at_)=true:=by simpa using hat
    have HAT:=zh hat
    clear hat
    refine HD.out.mono ?_
    rintro e w1 ⟨he,ht1,hb1⟩
    rw[show (((fj.1,fj.2):Int×Int).1)=fj.1 from rfl,hdec]at he
    subst he
    have HB2:=zh hb1;have HT2:=zh (HT.out.trans ht1 (fun _ _ h=>h))
    clear hb1 ht1 hdec
    go_wp2_with fail
    go_ret
    refine⟨HT2.out, .inl ⟨j,hlt,rfl,by rw[HFJ.out];exact HAT.out,HNO.out, ?_⟩⟩
    have:=HB2.out
    unfold stepF at this
    rw[if_pos HAT.out,if_neg (by simp)]at this
    rw[HFJ.out]
    exact this
   ·have hdec:decide (fj.1=at_)=false:=by simpa using hat
    have HAT:=zh hat
    clear hat
    refine HD.out.mono ?_
    rintro e w1 ⟨he,ht1,hb1⟩
    rw[show (((fj.1,fj.2):Int×Int).1)=fj.1 from rfl,hdec]at he
    subst he
    have HB2:=zh hb1;have HT2:=zh (HT.out.trans ht1 (fun _ _ h=>h))
    clear hb1 ht1 hdec
    go_wp2_with fail
    go_roundw
    case rel=>
     refine⟨j+1,by omega,by simp, ?_, ?_,HT2.out⟩
     ·intro f hf
      rw[List.take_succ_eq_append_getElem hlt,List.mem_append,List.mem_singleton]at hf
      rcases hf with hf | rfl
      ·exact HNO.out f hf
      ·rw[HFJ.out];exact HAT.out
     ·have:=HB2.out
      unfold stepF at this
      rw[if_neg HAT.out]at this
      exact this
    case measure=>simp[intOf]<;>omega
  ·have:j=fs.length:=by omega
   subst this
   go_wp2_with fail
   go_ret
   have:=HNO.out
   rw[List.take_length]at this
   exact⟨HT.out, .inr ⟨rfl,this,HB1.out⟩⟩
theorem touch_setCells{S:Nat->Prop}{a w:World}{g:Nat}(h:Touch S a w)(hg:S g)(o:Nat)(zs:List Value):Touch S a (w.setCells g o zs):=
 ⟨(World.os_setCells w g o zs).trans h.os,(tape_setCells g zs o w).trans h.tape,(World.output_setCells w g o zs).trans h.output,by rw[size_setCells];exact h.size,
  fun k hk hn=>(World.heap_setCells_other w g o zs (Nat.lt_of_lt_of_le hk h.size) (fun e=>hn (e ▸ hg))).trans (h.block k hk hn)⟩
theorem own_tail{w:World}{e:TypeId}{size g n c:Nat}{xs:List Value}(h:Own w e size (.slice (some ⟨g,0,none⟩) n c) n xs){k:Nat}(hk:k<=n)(zs:List Value)(hz:zs.length=(n-k)*size):
  Own (w.setCells g (k*size) zs) e size (.slice (some ⟨g,0,none⟩) k c) k (xs.take (k*size)):=by
 obtain⟨cur,hg,h1,h2,h3,h4⟩:=h.parts
 have e1:k*size+(n-k)*size=n*size:=by rw[<- Nat.add_mul];congr 1;omega
 have e2:n*size<=c*size:=Nat.mul_le_mul_right _ h1
 have hks:k*size<=n*size:=Nat.mul_le_mul_right _ hk
 refine⟨by rw[List.length_take,h.1];omega, .inr ⟨g,c,_,rfl,heap_setCells_self g e (0,0) zs (k*size) w cur hg (by omega),by omega,h2, ?_, ?_⟩⟩
 ·simp only[List.size_toArray,List.length_append,List.length_take,List.length_drop,Array.length_toList]
  omega
 ·show ((cur.toList.take (k*size)++zs++cur.toList.drop (k*size+zs.length))).take (k*size)= _
  rw[List.append_assoc,List.take_append_of_le_length (by simp;omega),List.take_take,Nat.min_self,<- h4,List.take_take,Nat.min_eq_left hks]
def zeros(n:Nat):List Value:=(List.replicate n [Value.int .i64 0, .int .i64 0]).flatten
theorem zeros_length(n:Nat):(zeros n).length=n*2:=by unfold zeros;simp
theorem zeros_one(n:Nat):∀u∈zeros n,u.oneCell'=true:=by
 intro u hu
 unfold zeros at hu
 obtain⟨l,hl,hu⟩:=List.mem_flatten.1 hu
 rw[List.mem_replicate]at hl
 rw[hl.2]at hu
 simp at hu
 rw[hu]
 rfl
theorem zeroCells_zeros(n:Nat):(Builtin.zeroCells (Value.agg #[.int .i64 0, .int .i64 0]).cells n).toList=zeros n:=by
 have h1:zeros n=List.replicate (n*2) (.int .i64 0):=by
  refine List.eq_replicate_iff.2 ⟨zeros_length n,fun u hu=> ?_⟩
  unfold zeros at hu
  obtain⟨l,hl,hu⟩:=List.mem_flatten.1 hu
  rw[List.mem_replicate]at hl
  rw[hl.2]at hu
  simpa using hu
 rw[h1]
 refine List.eq_replicate_iff.2 ⟨by simp[Builtin.zeroCells,Value.cells],fun u hu=> ?_⟩
 simp only[Builtin.zeroCells,Value.cells,Array.toList_map,List.mem_map]at hu
 obtain⟨i,_,rfl⟩:=hu
 show #[Value.int .i64 0,Value.int .i64 0][i % 2]! = _
 have:i % 2=0\/i % 2=1:=by omega
 rcases this with e | e<;>rw[e]<;>rfl
theorem clear_faults(w:World)(g:Nat)(n c k c':Nat)(xs:List Value)(h:Own w 90 2 (.slice (some ⟨g,0,none⟩) n c) n xs)(hk:k<n)(ty:TypeId):
  (Builtin.clear_ #[86] ty #[.slice (some ⟨g,k*2,none⟩) (n-k) c']).run Tryz.prog w= .ok (.tuple #[]) (w.setCells g (k*2) (zeros (n-k))):=by
 obtain⟨m,hm⟩:∃m,n-k=m+1:=⟨n-k-1,by omega⟩
 have hst:=run_storeCells_cells (P:=Tryz.prog) g (k*2) (zeros (n-k)) 0 w (fun j hj=>by
  rw[zeros_length]at hj
  have:=h.cell (j:=k*2+j) (by omega)
  rw[Nat.add_zero,this,List.getElem?_eq_getElem (by have:=h.1;omega)]
  rfl) (fun j _=>h.frozen _) (zeros_one _)
 rw[Nat.add_zero]at hst
 rw[hm]at hst ⊢
 simp[Builtin.clear_,run_underlying Tryz.underlying86,zeroCells_zeros,hst]
def delSt(at_:Int)(fs:List (Int×Int)):Bool×Int:=match fs.find? (fun f=>decide (f.1=at_)) with | some f=>(true,f.2) | none=>(false,0)
def DelFEnd(at_:Int)(fs:List (Int×Int))(v:Value)(ba bs bk:Nat)(w:World)(e:Ending)(w':World):Prop:=
 Touch (fun j=>v.ownBlock=some j\/j=bs\/j=bk) w w'/\Boxes w' ba bs bk at_ (delSt at_ fs)/\
  ∃A c,e= .returned (.slice A (fs.filter fun f=>decide (f.1≠at_)).length c)/\Own w' 90 2 (.slice A (fs.filter fun f=>decide (f.1≠at_)).length c) (fs.filter fun f=>decide (f.1≠at_)).length (fltCells (fs.filter fun f=>decide (f.1≠at_)))/\
   (Value.slice A (fs.filter fun f=>decide (f.1≠at_)).length c).ownBlock=v.ownBlock
theorem fltCells_take(l:List (Int×Int))(k:Nat):(fltCells l).take (k*2)=fltCells (l.take k):=by
 induction l generalizing k with
 | nil=>simp[fltCells]
 | cons a r ih=>
  cases k with
  | zero=>simp[fltCells]
  | succ k=>
   have e:fltCells (a :: r)= .int .i64 a.1 :: .int .i64 a.2 :: fltCells r:=rfl
   rw[e,show (k+1)*2=k*2+1+1 by omega,List.take_succ_cons,List.take_succ_cons,ih]
   rfl
theorem fltCells_set(l:List (Int×Int))(i:Nat)(f:Int×Int):((fltCells l).set (i*2) (.int .i64 f.1)).set (i*2+1) (.int .i64 f.2)=fltCells (l.set i f):=by
 induction l generalizing i with
 | nil=>simp[fltCells]
 | cons a r ih=>
  have e:fltCells (a :: r)= .int .i64 a.1 :: .int .i64 a.2 :: fltCells r:=rfl
  cases i with
  | zero=>rfl
  | succ i=>
   rw[e,show (i+1)*2=i*2+1+1 by omega]
   show Value.int .i64 a.1 :: Value.int .i64 a.2 :: ((fltCells r).set (i*2) _).set (i*2+1) _= _
   rw[ih]
   rfl
theorem deleteFunc_any(A:Option Addr)(c:Nat)(fs:List (Int×Int))(at_:Int)(ba bs bk:Nat)(w:World)(h:Own w 90 2 (.slice A fs.length c) fs.length (fltCells fs))(hm:fs.length<=4611686018427387904)(hB:Boxes w ba bs bk at_ (false,0)):
  Calls Tryz.prog 163 #[.slice A fs.length c,delFn ba bs bk] w (DelFEnd at_ fs (.slice A fs.length c) ba bs bk w):=by
 have HI:=zh (indexFunc_any A c fs at_ ba bs bk w h hm hB)
 have hcap:fs.length<=c/\c<=maxLen:=by
  obtain⟨A',c',hv,h1,h2,_⟩:=h.form
  injection hv with _ _ e
  subst e
  exact⟨h1,h2⟩
 unfold maxLen at hcap
 have H:=zh h;have HB:=zh hB
 clear h hB
 unfold delFn at*
 go_enter Tryz.func163,Tryz.ntmps163
 go_wp2_with fail
 refine HI.out.mono ?_
 rintro e w1 ⟨ht,⟨i0,hi0,rfl,hat0,hno0,hb⟩ | ⟨rfl,hno,hb⟩⟩
 rotate_left
 ·have HNO:=zh hno;have HB1:=zh hb;have HT:=zh ht
  clear hno hb ht HI
  go_wp2_with fail
  go_ret
  have hf:fs.filter (fun f=>decide (f.1≠at_))=fs:=List.filter_eq_self.2 fun f hf=>by simpa using HNO.out f hf
  have hs:delSt at_ fs=(false,0):=by
   unfold delSt
   rw[List.find?_eq_none.2 (fun f hf=>by simpa using HNO.out f hf)]
  refine⟨HT.out.mono fun _ _ h=> .inr h,by rw[hs];exact HB1.out,A,c,by rw[hf];rfl, ?_,by cases A<;>rfl⟩
  rw[hf]
  exact H.out.touch HT.out (by
   intro k hk hs
   rcases hs with rfl | rfl
   ·exact H.out.ne_blk HB.out.2.1 (by decide) hk
   ·exact H.out.ne_blk HB.out.2.2.1 (by decide) hk)
 ·obtain⟨g,rfl⟩:∃g,A=some ⟨g,0,none⟩:=by
   obtain⟨A',c',hv,_,_,hA⟩:=H.out.form
   injection hv with e1 _ _
   subst e1
   rcases hA with⟨_,h0,_⟩ | hA
   ·omega
   ·exact hA
  have hfind:fs.find? (fun f=>decide (f.1=at_))=some fs[i0]:=by
   rw[List.find?_eq_some_iff_append]
   refine⟨by simpa using hat0,fs.take i0,fs.drop (i0+1),by rw[<- List.drop_eq_getElem_cons hi0,List.take_append_drop],fun f hf=>by simpa using hno0 f hf⟩
  have hst:delSt at_ fs=(true,fs[i0].2):=by unfold delSt;rw[hfind]
  rw[<- hst]at hb
  have hfil:(fs.take (i0+1)).filter (fun f=>decide (f.1≠at_))=fs.take i0:=by
   rw[List.take_succ_eq_append_getElem hi0,List.filter_append,List.filter_eq_self.2 (fun f hf=>by simpa using hno0 f hf),List.filter_cons_of_neg (by simpa using hat0)]
   simp
  have hs1:(delSt at_ fs).1=true:=by rw[hst]
  have HB1:=zh hb;have HT:=zh ht;have HFIL:=zh hfil;have HS1:=zh hs1
  have hO1:Own w1 90 2 (.slice (some ⟨g,0,none⟩) fs.length c) fs.length (fltCells fs):=H.out.touch ht (by
   intro k hk hs
   rcases hs with rfl | rfl
   ·exact H.out.ne_blk HB.out.2.1 (by decide) hk
   ·exact H.out.ne_blk HB.out.2.2.1 (by decide) hk)
  have HO1:=zh hO1
  have hgs:g≠bs/\g≠bk/\g≠ba:=⟨fun e=>H.out.ne_blk HB.out.2.1 (by decide) (by rw[e];rfl),fun e=>H.out.ne_blk HB.out.2.2.1 (by decide) (by rw[e];rfl),fun e=>H.out.ne_blk HB.out.1 (by decide) (by rw[e];rfl)⟩
  have HGS:=zh hgs
  clear hb ht HI hno0 hfind hst hfil hs1 hat0 hO1 hgs
  go_wp2_with fail
  go_loopw [5,6] (fun u5 u6 wr=>∃i j:Nat,u5= .int .i64 i/\u6= .int .i64 j/\i<j/\j<=fs.length/\(∃ys:List (Int×Int),ys.length=fs.length/\ys.take i=(fs.take j).filter (fun f=>decide (f.1≠at_))/\ys.drop j=fs.drop j/\Own wr 90 2 (.slice (some ⟨g,0,none⟩) fs.length c) fs.length (fltCells ys))/\Boxes wr ba bs bk at_ (delSt at_ fs)/\Touch (fun j=>g=j\/j=bs\/j=bk) w wr) (fun _ j _=>fs.length-(intOf j).toNat)
  case atStart=>exact⟨i0,i0+1,rfl,by simp,by omega,by omega,⟨fs,rfl,HFIL.out.symm,rfl,HO1.out⟩,HB1.out,HT.out.mono fun _ _ h=> .inr h⟩
  case round=>
   obtain⟨i,j,rfl,rfl,hij,hj,⟨ys,hyl,hyt,hyd,hO⟩,hb,ht⟩:=hrel
   by_cases hlt:j<fs.length
   ·have hc0:=hO.cell (j:=j*2) (by omega)
    have hc1:=hO.cell (j:=j*2+1) (by omega)
    rw[(fltCells_get ys j (by omega)).1]at hc0
    rw[(fltCells_get ys j (by omega)).2]at hc1
    have hyj:ys[j]=fs[j]:=by
     have h1:(ys.drop j)[0]? =(fs.drop j)[0]? :=by rw[hyd]
     rw[List.getElem?_drop,List.getElem?_drop,List.getElem?_eq_getElem (by omega),List.getElem?_eq_getElem (by omega)]at h1
     simpa using h1
    rw[hyj]at hc0 hc1
    generalize hfj:fs[j]=fj at hc0 hc1
    have hD:=del_any fj.1 fj.2 at_ (delSt at_ fs) ba bs bk (wr.alloc (.cells #[.int .i64 fj.1, .int .i64 fj.2] 90)) ⟨hb.1.alloc _,hb.2.1.alloc _,hb.2.2.1.alloc _,hb.2.2.2⟩
    have HYT:=zh hyt;have HYD:=zh hyd;have HO:=zh hO;have HB2:=zh hb;have HT2:=zh ht;have HFJ:=zh hfj;have HD:=zh hD;have HYL:=zh hyl
    clear hyt hyd hO hb ht hfj hD hyj hyl
    go_wp2_with fail
    have hbb:bs<wr.heap.size/\bk<wr.heap.size:=⟨HB2.out.2.1.lt,HB2.out.2.2.1.lt⟩
    have hgr:g<wr.heap.size:=HO.out.lt g rfl
    by_cases hat:fj.1=at_
    ·have hdec:decide (fj.1=at_)=true:=by simpa using hat
     have HAT:=zh hat
     clear hat
     refine HD.out.mono ?_
     rintro e w2 ⟨he,ht2,hb2⟩
     rw[show (((fj.1,fj.2):Int×Int).1)=fj.1 from rfl,hdec]at he
     subst he
     have HB3:=zh hb2;have HT3:=zh ht2
     clear hb2 ht2 hdec
     go_wp2_with fail
     go_roundw
     case rel=>
      repeat apply Exists.intro
      refine⟨?_,rfl⟩
      refine⟨i,j+1,rfl,by simp,by omega,by omega,⟨ys,HYL.out, ?_, ?_, ?_⟩, ?_, ?_⟩
      ·rw[List.take_succ_eq_append_getElem hlt,List.filter_append,List.filter_cons_of_neg (by rw[HFJ.out];simpa using HAT.out),List.filter_nil,List.append_nil]
       exact HYT.out
      ·have:=congrArg (List.drop 1) HYD.out
       rwa [List.drop_drop,List.drop_drop]at this
      ·exact(HO.out.alloc _).touch HT3.out (by
        intro k hk hs
        simp only[Value.ownBlock,Option.some.injEq]at hk
        subst hk
        rcases hs with rfl | rfl
        ·exact HGS.out.1 rfl
        ·exact HGS.out.2.1 rfl)
      ·have:=HB3.out
       unfold stepF at this
       rw[if_pos HAT.out,if_pos HS1.out]at this
       exact this
      ·exact(HT2.out.alloc _).trans HT3.out (fun _ _ h=> .inr h)
     case measure=>simp[intOf]<;>omega
    ·have hdec:decide (fj.1=at_)=false:=by simpa using hat
     have HAT:=zh hat
     clear hat
     refine HD.out.mono ?_
     rintro e w2 ⟨he,ht2,hb2⟩
     rw[show (((fj.1,fj.2):Int×Int).1)=fj.1 from rfl,hdec]at he
     subst he
     have hx:=(Blk.new wr 90 #[.int .i64 fj.1, .int .i64 fj.2]).touch ht2 (by rintro(h | h)<;>omega)
     have hx0:=hx.cell 0
     have hx1:=hx.cell 1
     simp only[List.getElem?_toArray,List.getElem?_cons_zero,List.getElem?_cons_succ]at hx0 hx1
     have hO2:Own w2 90 2 (.slice (some ⟨g,0,none⟩) fs.length c) fs.length (fltCells ys):=(HO.out.alloc _).touch ht2 (by
      intro k hk hs
      simp only[Value.ownBlock,Option.some.injEq]at hk
      subst hk
      rcases hs with rfl | rfl
      ·exact HGS.out.1 rfl
      ·exact HGS.out.2.1 rfl)
     have hi:i<fs.length:=by omega
     have hd0:=hO2.cell (j:=i*2) (by omega)
     have hd1:=(hO2.stored (i*2) (.int .i64 fj.1)).cell (j:=i*2+1) (by omega)
     have hd1':=hO2.cell (j:=i*2+1) (by omega)
     rw[List.getElem?_set_ne (by omega)]at hd1
     rw[(fltCells_get ys i (by have:=HYL.out;omega)).1]at hd0
     rw[(fltCells_get ys i (by have:=HYL.out;omega)).2]at hd1 hd1'
     have hf0:=hO2.frozen (i*2)
     have hf1:=hO2.frozen (i*2+1)
     have HB3:=zh hb2;have HT3:=zh ht2;have HO2:=zh hO2
     clear hb2 ht2 hdec hO2 hx
     go_wp2_with fail
     go_roundw
     case rel=>
      repeat apply Exists.intro
      refine⟨?_,rfl⟩
      refine⟨i+1,j+1,by simp,by simp,by omega,by omega,⟨ys.set i fj,by rw[List.length_set];exact HYL.out, ?_, ?_, ?_⟩, ?_, ?_⟩
      ·rw[List.take_succ_eq_append_getElem hlt,List.filter_append,List.filter_cons_of_pos (by rw[HFJ.out];simpa using HAT.out),List.filter_nil,<- HYT.out,HFJ.out]
       rw[List.take_succ_eq_append_getElem (by rw[List.length_set];have:=HYL.out;omega),List.take_set_of_le (Nat.le_refl i),List.getElem_set_self]
      ·rw[List.drop_set_of_lt (by omega)]
       have:=congrArg (List.drop 1) HYD.out
       rwa [List.drop_drop,List.drop_drop]at this
      ·rw[<- fltCells_set]
       exact(HO2.out.stored _ _).stored _ _
      ·have:=HB3.out
       unfold stepF at this
       rw[if_neg HAT.out]at this
       exact⟨(this.1.far (p:=⟨g,i*2,none⟩) (fun e=>HGS.out.2.2 e.symm) _).far (p:=⟨g,i*2+1,none⟩) (fun e=>HGS.out.2.2 e.symm) _,(this.2.1.far (p:=⟨g,i*2,none⟩) (fun e=>HGS.out.1 e.symm) _).far (p:=⟨g,i*2+1,none⟩) (fun e=>HGS.out.1 e.symm) _,
        (this.2.2.1.far (p:=⟨g,i*2,none⟩) (fun e=>HGS.out.2.1 e.symm) _).far (p:=⟨g,i*2+1,none⟩) (fun e=>HGS.out.2.1 e.symm) _,this.2.2.2⟩
      ·exact(((HT2.out.alloc _).trans HT3.out (fun _ _ h=> .inr h)).setCell (p:=⟨g,i*2,none⟩) (.inr (.inl rfl)) _).setCell (p:=⟨g,i*2+1,none⟩) (.inr (.inl rfl)) _
     case measure=>simp[intOf]<;>omega
   ·have:j=fs.length:=by omega
    subst this
    have hcl:∀ty,(Builtin.clear_ #[86] ty #[.slice (some ⟨g,i*2,none⟩) (fs.length-i) (c-i)]).run Tryz.prog wr= .ok (.tuple #[]) (wr.setCells g (i*2) (zeros (fs.length-i))):=fun ty=>clear_faults wr g fs.length c i (c-i) _ hO hij ty
    have hic:i<c:=by omega
    have HYT:=zh hyt;have HO:=zh hO;have HB2:=zh hb;have HT2:=zh ht;have HYL:=zh hyl
    clear hyt hyd hO hb ht hyl
    go_wp2_with fail
    go_ret
    have hft:ys.take i=fs.filter (fun f=>decide (f.1≠at_)):=by rw[HYT.out,List.take_length]
    have hil:(fs.filter (fun f=>decide (f.1≠at_))).length=i:=by rw[<- hft,List.length_take];have:=HYL.out;omega
    have hot:=own_tail HO.out (Nat.le_of_lt hij) (zeros (fs.length-i)) (zeros_length _)
    rw[fltCells_take,hft]at hot
    refine⟨?_, ?_,some ⟨g,0,none⟩,c,by rw[hil];rfl,by rw[hil];exact hot,rfl⟩
    ·exact(touch_setCells (HT2.out.mono fun j _ h=>(show (Value.slice (some ⟨g,0,none⟩) fs.length c).ownBlock=some j\/j=bs\/j=bk from h.imp (fun e=>congrArg some e) id)) (.inl rfl) _ _)
    ·have ht:Touch (fun j=>j=g) wr (wr.setCells g (i*2) (zeros (fs.length-i))):=touch_setCells (S:=fun j=>j=g) (Touch.refl _ _) rfl _ _
     exact⟨HB2.out.1.touch ht fun e=>HGS.out.2.2 e.symm,HB2.out.2.1.touch ht fun e=>HGS.out.1 e.symm,HB2.out.2.2.1.touch ht fun e=>HGS.out.2.1 e.symm,HB2.out.2.2.2⟩
def BeginEnd(w:World)(bd bm:Nat)(fv:Value)(fs:List FR)(d:Dk)(file:Int)(e:Ending)(w':World):Prop:=
 e= .returned (.tuple #[.int .i64 d.kind, .int .i64 (d.why file)])/\Touch (fun k=>k=bd\/fv.ownBlock=some k) w w'/\∃fv',DK w' bd bm fv' fs d.next/\fv'.ownBlock=fv.ownBlock
theorem IMap.ne_blk{w:World}{b g:Nat}{es:List (Int×Nat)}{t:TypeId}{cs:Array Value}(h:IMap w b es)(hg:Blk w g t cs):b≠g:=by
 rintro rfl
 obtain⟨es',clock,h1,_⟩:=h
 unfold Blk at hg
 rw[h1]at hg
 cases hg
theorem IMap.ne_own{w:World}{b:Nat}{es:List (Int×Nat)}{e:TypeId}{size n:Nat}{v:Value}{xs:List Value}(h:IMap w b es)(ho:Own w e size v n xs):v.ownBlock≠some b:=by
 rcases ho.2 with⟨rfl,_⟩ | ⟨g,cap,cur,rfl,hg,_⟩
 ·simp[Value.ownBlock]
 ·intro he
  have:g=b:=by simpa [Value.ownBlock] using he
  subst this
  obtain⟨es',clock,h1,_⟩:=h
  rw[h1]at hg
  cases hg
theorem Own.ne_own{w:World}{e e':TypeId}{size size' n n':Nat}{v v':Value}{xs xs':List Value}(h:Own w e size v n xs)(h':Own w e' size' v' n' xs')(hne:e≠e'):∀k,v.ownBlock=some k->v'.ownBlock≠some k:=by
 intro k hk hk'
 rcases h.2 with⟨rfl,_⟩ | ⟨g,cap,cur,rfl,hg,_⟩
 ·cases hk
 ·have:g=k:=by simpa [Value.ownBlock] using hk
  subst this
  exact h'.ne_blk (t:=e) (g:=g) (cs:=cur) hg (fun e=>hne e.symm) hk'
theorem DK.rest{w w':World}{bd bm:Nat}{fv:Value}{fs:List FR}{d:Dk}(h:DK w bd bm fv fs d)(hb:Touch (fun k=>k=bd\/fv.ownBlock=some k) w w'):IMap w' bm (fs.map fun f=>(f.n,f.g))/\∀f∈fs,FileAt w' f:=by
 refine⟨h.map.heap (hb.block _ h.map.lt ?_),fun f hf=>(h.file f hf).heap (hb.block _ (h.file f hf).blk.lt ?_) fun k hk=>hb.block _ (Own.lt (h.file f hf).row k hk) ?_⟩
 ·rintro(e | e)
  ·exact h.map.ne_blk h.blk e
  ·exact h.map.ne_own h.flt e
 ·rintro(e | e)
  ·exact(h.file f hf).blk.ne_ h.blk (by decide) e
  ·exact h.flt.ne_blk (h.file f hf).blk (by decide) e
 ·rintro(e | e)
  ·exact Own.ne_blk (h.file f hf).row h.blk (by decide) (by rw[hk,e])
  ·exact Own.ne_own h.flt (h.file f hf).row (by decide) k e hk
theorem begin_any(w:World)(bd bm:Nat)(fv:Value)(fs:List FR)(d:Dk)(file:Int)(h:DK w bd bm fv fs d)(ho:d.ops<=4611686018427387904)(hl:d.faults.length<=4611686018427387904):
  Calls Tryz.prog 145 #[.pointer (some ⟨bd,0,none⟩), .int .i64 file] w (BeginEnd w bd bm fv fs d file):=by
 obtain⟨A,c,rfl,hle,hcm,hA⟩:=h.flt.form
 have c1:∀o,(w.alloc o).cell? ⟨bd,1,none⟩=some (.int .i64 d.ops):=fun o=>(h.blk.alloc o).cell 1
 have c1b:∀o p,((w.alloc o).alloc p).cell? ⟨bd,1,none⟩=some (.int .i64 d.ops):=fun o p=>((h.blk.alloc o).alloc p).cell 1
 have f1:∀o p i,((w.alloc o).alloc p).frozen? ⟨bd,i,none⟩=false:=fun o p i=>((h.blk.alloc o).alloc p).frozen i
 have c2:∀o p q v,((((w.alloc o).alloc p).setCell ⟨bd,1,none⟩ v).alloc q).cell? ⟨bd,2,none⟩=some (.slice A d.faults.length c):=fun o p q v=>((((h.blk.alloc o).alloc p).set_ 1 v).alloc q).cell 2
 have H:=zh h
 clear h
 go_enter Tryz.func145,Tryz.ntmps145
 go_wp2_with fail
 obtain⟨W1,hW1⟩:∃W1,W1=((((w.alloc (.cells #[.int .i64 0] 3)).alloc (.cells #[.int .i64 d.ops] 3)).setCell ⟨bd,1,none⟩ (.int .i64 (d.ops+1))).alloc (.cells #[.bool false] 4)):=⟨_,rfl⟩
 rw[<- hW1]
 have hbdlt:=H.out.blk.lt
 have hT1:Touch (fun k=>k=bd) w W1:=by rw[hW1];exact(((((Touch.refl (fun k=>k=bd) w).alloc _).alloc _).setCell (p:=⟨bd,1,none⟩) (.inr rfl) _).alloc _)
 have hs1:W1.heap.size=w.heap.size+3:=by rw[hW1];simp[World.setCell]
 have hB1:Boxes W1 (w.heap.size+1) (w.heap.size+1+1) w.heap.size d.ops (false,0):=by
  rw[hW1]
  refine⟨?_, ?_, ?_,by omega⟩
  ·have:=Blk.new (w.alloc (.cells #[.int .i64 0] 3)) 3 #[.int .i64 d.ops]
   rw[alloc_size]at this
   exact(this.far (p:=⟨bd,1,none⟩) (by show w.heap.size+1≠bd;omega) _).alloc _
  ·have:=Blk.new (((w.alloc (.cells #[.int .i64 0] 3)).alloc (.cells #[.int .i64 d.ops] 3)).setCell ⟨bd,1,none⟩ (.int .i64 (d.ops+1))) 4 #[.bool false]
   rw[show (((w.alloc (.cells #[.int .i64 0] 3)).alloc (.cells #[.int .i64 d.ops] 3)).setCell ⟨bd,1,none⟩ (.int .i64 (d.ops+1))).heap.size=w.heap.size+1+1 by simp[World.setCell]]at this
   exact this
  ·have:=Blk.new w 3 #[.int .i64 0]
   exact(((this.alloc _).far (p:=⟨bd,1,none⟩) (by show w.heap.size≠bd;omega) _).alloc _)
 have hD1:Blk W1 bd 88 #[.map (some bm), .int .i64 (d.ops+1), .slice A d.faults.length c, .bool d.stopped, .int .i64 d.stop]:=by
  rw[hW1]
  exact(((H.out.blk.alloc _).alloc _).set_ 1 _).alloc _
 have hne:(Value.slice A d.faults.length c).ownBlock≠some bd:=H.out.flt.ne_blk H.out.blk (by decide)
 have hO1:=H.out.flt.touch hT1 (fun k hk e=>hne (by rw[hk,e]))
 have HT1:=zh hT1;have HD1:=zh hD1;have HNE:=zh hne;have HOL:=zh (fun k=>H.out.flt.lt k)
 have HDF:=zh (deleteFunc_any A c d.faults d.ops (w.heap.size+1) (w.heap.size+1+1) w.heap.size W1 hO1 hl hB1)
 clear hT1 hB1 hD1 hne hO1 hW1 c1 c1b f1 c2
 unfold delFn at HDF
 refine HDF.out.mono ?_
 rintro e w2 ⟨ht2,hb2,A2,c2,rfl,hO2,hown⟩
 have hD2:=HD1.out.touch ht2 (by
  rintro(h | h | h)
  ·exact HNE.out h
  ·omega
  ·omega)
 obtain⟨fl,hfl⟩:∃fl,fl=(d.faults.filter fun f=>decide (f.1≠(d.ops:Int))):=⟨_,rfl⟩
 rw[<- hfl]at hO2 hown ⊢
 obtain⟨W3,hW3⟩:∃W3,W3=w2.setCell ⟨bd,2,none⟩ (.slice A2 fl.length c2):=⟨_,rfl⟩
 have hD3:Blk W3 bd 88 #[.map (some bm), .int .i64 (d.ops+1), .slice A2 fl.length c2, .bool d.stopped, .int .i64 d.stop]:=by rw[hW3];exact hD2.set_ 2 _
 have hO3:=hO2.far (p:=⟨bd,2,none⟩) (by rw[hown];exact HNE.out) (.slice A2 fl.length c2)
 have hb3:Boxes W3 (w.heap.size+1) (w.heap.size+1+1) w.heap.size d.ops (delSt d.ops d.faults):=by
  rw[hW3]
  exact⟨hb2.1.far (p:=⟨bd,2,none⟩) (by show _≠bd;omega) _,hb2.2.1.far (p:=⟨bd,2,none⟩) (by show _≠bd;omega) _,hb2.2.2.1.far (p:=⟨bd,2,none⟩) (by show _≠bd;omega) _,hb2.2.2.2⟩
 rw[<- hW3]at hO3
 have hT3:Touch (fun k=>k=bd\/(Value.slice A d.faults.length c).ownBlock=some k) w W3:=by
  rw[hW3]
  refine((HT1.out.mono fun _ _ h=> .inl h).trans ht2 (fun k hk hs=> ?_)).setCell (p:=⟨bd,2,none⟩) (.inr (.inl rfl)) _
  rcases hs with h | h | h
  ·exact .inr h
  ·omega
  ·omega
 have k2:=hD2.cell 2
 have q2:=hD2.frozen 2
 have k3:=hD3.cell 3
 have k4:=hD3.cell 4
 have kat:=hb3.1.cell 0
 have kst:=hb3.2.1.cell 0
 have kkd:=hb3.2.2.1.cell 0
 have qkd:=hb3.2.2.1.frozen 0
 simp only[List.getElem?_toArray,List.getElem?_cons_zero,List.getElem?_cons_succ]at k2 k3 k4 kat kst kkd
 have HW3:=zh hW3;have HT3:=zh hT3;have HO3:=zh hO3;have HD3:=zh hD3;have HFL:=zh hfl;have HB3:=zh hb3;have HOWN:=zh hown
 rw[hW3]at k3 k4 kat kst kkd qkd
 clear hO3 hD3 hT3 hb3 hO2 hb2 ht2 hD2 hfl hown HDF hW3
 have hfin:∀(nq:Nat) (v:Value),Touch (fun k=>k=bd\/(Value.slice A d.faults.length c).ownBlock=some k) w (((w2.setCell ⟨bd,2,none⟩ (.slice A2 fl.length c2)).drewN nq).setCell ⟨w.heap.size,0,none⟩ v)/\
   ∃fv',DK (((w2.setCell ⟨bd,2,none⟩ (.slice A2 fl.length c2)).drewN nq).setCell ⟨w.heap.size,0,none⟩ v) bd bm fv' fs d.next/\fv'.ownBlock=(Value.slice A d.faults.length c).ownBlock:=by
  intro nq v
  rw[<- HW3.out]
  have ht:Touch (fun k=>k=bd\/(Value.slice A d.faults.length c).ownBlock=some k) w ((W3.drewN nq).setCell ⟨w.heap.size,0,none⟩ v):=(HT3.out.drewN nq).setCell (p:=⟨w.heap.size,0,none⟩) (.inl (Nat.le_refl _)) _
  obtain⟨r1,r2⟩:=H.out.rest ht
  refine⟨ht, .slice A2 fl.length c2,⟨H.out.fls, ?_,r1, ?_,r2,H.out.apart⟩,HOWN.out⟩
  ·exact(HD3.out.drewN nq).far (p:=⟨w.heap.size,0,none⟩) (by show bd≠w.heap.size;omega) _
  ·show Own _ _ 2 (.slice A2 fl.length c2) (d.faults.filter fun f=>decide (f.1≠(d.ops:Int))).length (fltCells (d.faults.filter fun f=>decide (f.1≠(d.ops:Int))))
   rw[<- HFL.out]
   exact(HO3.out.drewN nq).far (p:=⟨w.heap.size,0,none⟩) (by
    rw[HOWN.out]
    intro e
    have:=HOL.out _ e
    exact Nat.lt_irrefl _ this) _
 have FIN:=zh hfin
 have hkd:∀(nq:Nat) (v:Value),Blk (((w2.setCell ⟨bd,2,none⟩ (.slice A2 fl.length c2)).drewN nq).setCell ⟨w.heap.size,0,none⟩ v) w.heap.size 3 #[v]:=by
  intro nq v
  rw[<- HW3.out]
  exact(HB3.out.2.2.1.drewN nq).set_ 0 v
 have HKD:=zh hkd
 have hdead:d.dead=(d.stopped && decide (d.stop<=(d.ops:Int))):=rfl
 have hdel:delSt d.ops d.faults=match d.hit with | some f=>(true,f.2) | none=>(false,0):=rfl
 generalize hst:d.stopped=st at k3
 rw[hst]at hdead
 clear hfin hkd hst
 cases st with
 | true=>
  by_cases hge:d.stop<=(d.ops:Int)
  ·have hgd:decide (d.stop<=(d.ops:Int))=true:=by simpa using hge
   rw[hgd]at hdead
   have HDEAD:=zh hdead
   clear hge hdead hdel
   go_wp2_with fail
   go_quiet (fail)
   go_wp2_with fail
   ·have e1:d.kind=0:=by unfold Dk.kind;rw[HDEAD.out];rfl
    have e2:d.why file=4:=by unfold Dk.why;rw[HDEAD.out];rfl
    obtain⟨g1,g2⟩:=FIN.out nq (.int .i64 (0))
    refine bodyPost_ret (v:= .tuple #[.int .i64 (0), .int .i64 4]) ?_ rfl ⟨by rw[e1,e2],g1,g2⟩
    have hcell:((((w2.setCell ⟨bd,2,none⟩ (Value.slice A2 fl.length c2)).drewN nq).setCell ⟨w.heap.size,0,none⟩ (.int .i64 (0))).cell? ⟨w.heap.size,0,none⟩)=some (.int .i64 (0)):=(HKD.out nq _).cell 0
    simp[results,Tryz.results145,go_sem,hcell]
  ·have hgd:decide (d.stop<=(d.ops:Int))=false:=by simpa using hge
   rw[hgd]at hdead
   have HDEAD:=zh hdead
   clear hge hdead
   cases hh:d.hit with
   | some f=>
    rw[hh]at hdel
    rw[hdel]at kst kkd
    simp only at kst kkd
    have HH:=zh hh
    clear hdel hh
    go_wp2_with fail
    go_quiet (fail)
    go_wp2_with fail
    have e1:d.kind=f.2:=by unfold Dk.kind;rw[HDEAD.out,HH.out];rfl
    have e2:d.why file=3:=by unfold Dk.why;rw[HDEAD.out,HH.out];rfl
    obtain⟨g1,g2⟩:=FIN.out nq (.int .i64 (f.2))
    refine bodyPost_ret (v:= .tuple #[.int .i64 (f.2), .int .i64 3]) ?_ rfl ⟨by rw[e1,e2],g1,g2⟩
    have hcell:((((w2.setCell ⟨bd,2,none⟩ (Value.slice A2 fl.length c2)).drewN nq).setCell ⟨w.heap.size,0,none⟩ (.int .i64 (f.2))).cell? ⟨w.heap.size,0,none⟩)=some (.int .i64 (f.2)):=(HKD.out nq _).cell 0
    simp[results,Tryz.results145,go_sem,hcell]
   | none=>
    rw[hh]at hdel
    rw[hdel]at kst kkd
    simp only at kst kkd
    have HH:=zh hh
    clear hdel hh
    by_cases hf:file<0
    ·go_wp2_with fail
     go_quiet (fail)
     go_wp2_with fail
     have e1:d.kind=0:=by unfold Dk.kind;rw[HDEAD.out,HH.out];rfl
     have e2:d.why file=1:=by unfold Dk.why;rw[HDEAD.out,HH.out];exact if_pos hf
     obtain⟨g1,g2⟩:=FIN.out nq (.int .i64 (0))
     refine bodyPost_ret (v:= .tuple #[.int .i64 (0), .int .i64 1]) ?_ rfl ⟨by rw[e1,e2],g1,g2⟩
     have hcell:((((w2.setCell ⟨bd,2,none⟩ (Value.slice A2 fl.length c2)).drewN nq).setCell ⟨w.heap.size,0,none⟩ (.int .i64 (0))).cell? ⟨w.heap.size,0,none⟩)=some (.int .i64 (0)):=(HKD.out nq _).cell 0
     simp[results,Tryz.results145,go_sem,hcell]
    ·go_wp2_with fail
     go_quiet (fail)
     go_wp2_with fail
     have e1:d.kind=0:=by unfold Dk.kind;rw[HDEAD.out,HH.out];rfl
     have e2:d.why file=0:=by unfold Dk.why;rw[HDEAD.out,HH.out];exact if_neg (show ¬file<0 by omega)
     obtain⟨g1,g2⟩:=FIN.out nq (.int .i64 (0))
     refine bodyPost_ret (v:= .tuple #[.int .i64 (0), .int .i64 0]) ?_ rfl ⟨by rw[e1,e2],g1,g2⟩
     have hcell:((((w2.setCell ⟨bd,2,none⟩ (Value.slice A2 fl.length c2)).drewN nq).setCell ⟨w.heap.size,0,none⟩ (.int .i64 (0))).cell? ⟨w.heap.size,0,none⟩)=some (.int .i64 (0)):=(HKD.out nq _).cell 0
     simp[results,Tryz.results145,go_sem,hcell]
 | false=>
  have HDEAD:=zh hdead
  clear hdead
  cases hh:d.hit with
  | some f=>
   rw[hh]at hdel
   rw[hdel]at kst kkd
   simp only at kst kkd
   have HH:=zh hh
   clear hdel hh
   go_wp2_with fail
   go_quiet (fail)
   go_wp2_with fail
   have e1:d.kind=f.2:=by unfold Dk.kind;rw[HDEAD.out,HH.out];rfl
   have e2:d.why file=3:=by unfold Dk.why;rw[HDEAD.out,HH.out];rfl
   obtain⟨g1,g2⟩:=FIN.out nq (.int .i64 (f.2))
   refine bodyPost_ret (v:= .tuple #[.int .i64 (f.2), .int .i64 3]) ?_ rfl ⟨by rw[e1,e2],g1,g2⟩
   have hcell:((((w2.setCell ⟨bd,2,none⟩ (Value.slice A2 fl.length c2)).drewN nq).setCell ⟨w.heap.size,0,none⟩ (.int .i64 (f.2))).cell? ⟨w.heap.size,0,none⟩)=some (.int .i64 (f.2)):=(HKD.out nq _).cell 0
   simp[results,Tryz.results145,go_sem,hcell]
  | none=>
   rw[hh]at hdel
   rw[hdel]at kst kkd
   simp only at kst kkd
   have HH:=zh hh
   clear hdel hh
   by_cases hf:file<0
   ·go_wp2_with fail
    go_quiet (fail)
    go_wp2_with fail
    have e1:d.kind=0:=by unfold Dk.kind;rw[HDEAD.out,HH.out];rfl
    have e2:d.why file=1:=by unfold Dk.why;rw[HDEAD.out,HH.out];exact if_pos hf
    obtain⟨g1,g2⟩:=FIN.out nq (.int .i64 (0))
    refine bodyPost_ret (v:= .tuple #[.int .i64 (0), .int .i64 1]) ?_ rfl ⟨by rw[e1,e2],g1,g2⟩
    have hcell:((((w2.setCell ⟨bd,2,none⟩ (Value.slice A2 fl.length c2)).drewN nq).setCell ⟨w.heap.size,0,none⟩ (.int .i64 (0))).cell? ⟨w.heap.size,0,none⟩)=some (.int .i64 (0)):=(HKD.out nq _).cell 0
    simp[results,Tryz.results145,go_sem,hcell]
   ·go_wp2_with fail
    go_quiet (fail)
    go_wp2_with fail
    have e1:d.kind=0:=by unfold Dk.kind;rw[HDEAD.out,HH.out];rfl
    have e2:d.why file=0:=by unfold Dk.why;rw[HDEAD.out,HH.out];exact if_neg (show ¬file<0 by omega)
    obtain⟨g1,g2⟩:=FIN.out nq (.int .i64 (0))
    refine bodyPost_ret (v:= .tuple #[.int .i64 (0), .int .i64 0]) ?_ rfl ⟨by rw[e1,e2],g1,g2⟩
    have hcell:((((w2.setCell ⟨bd,2,none⟩ (Value.slice A2 fl.length c2)).drewN nq).setCell ⟨w.heap.size,0,none⟩ (.int .i64 (0))).cell? ⟨w.heap.size,0,none⟩)=some (.int .i64 (0)):=(HKD.out nq _).cell 0
    simp[results,Tryz.results145,go_sem,hcell]
end Go.Proofs.YtjehlgblkfofpaaGreat