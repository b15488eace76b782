/- The claims' texts, several in one: Dim, Bnd. Conditions stand with each theorem. -/
import Derived.Test.YtjehlgblkfofpaaGreatZa23
import Derived.Test.YtjehlgblkfofpaaGreatZa16
namespace Go.Proofs.YtjehlgblkfofpaaGreat
def dimS(s:Seg):Seg:={ s with whole:=false }
structure Alk(l m:Lg):Prop where
 base:m.base=l.base
 c:m.c=l.c
 failed:m.failed=l.failed
 dirty:m.dirty=l.dirty
 segs:m.segs.map dimS=l.segs.map dimS
theorem Alk.refl(l:Lg):Alk l l:=⟨rfl,rfl,rfl,rfl,rfl⟩
section
variable {l m:Lg}{d:Dk}{a b:List Seg}
theorem dim_len(h:b.map dimS=a.map dimS):b.length=a.length:=by have:=congrArg List.length h;simpa using this
theorem dim_get{α:Type}(f:Seg->α)(hf:∀s,f (dimS s)=f s)(h:b.map dimS=a.map dimS):b.map f=a.map f:=by
 have h1:∀l:List Seg,(l.map dimS).map f=l.map f:=fun l=>by rw[List.map_map];exact List.map_congr_left fun s _=>hf s
 rw[<- h1 b,<- h1 a,h]
theorem dim_map(g:Seg->Seg)(hg:∀s,dimS (g s)=dimS (g (dimS s)))(h:b.map dimS=a.map dimS):(b.map g).map dimS=(a.map g).map dimS:=by
 have h1:∀l:List Seg,(l.map g).map dimS=(l.map dimS).map (fun s=>dimS (g s)):=fun l=>by rw[List.map_map,List.map_map];exact List.map_congr_left fun s _=>hg s
 rw[h1,h1,h]
theorem dim_last(h:b.map dimS=a.map dimS):b.getLast?.map dimS=a.getLast?.map dimS:=by
 rw[<- List.getLast?_map,<- List.getLast?_map,h]
theorem numOf_dim(h:b.map dimS=a.map dimS):numOf b=numOf a:=by
 have:=dim_last h
 unfold numOf
 cases hb:b.getLast? <;>cases ha:a.getLast? <;>rw[ha,hb]at this<;>simp[dimS]at this ⊢
 exact this.1
theorem aheadOf_dim(h:b.map dimS=a.map dimS):aheadOf b=aheadOf a:=by
 have:=dim_last h
 unfold aheadOf
 cases hb:b.getLast? <;>cases ha:a.getLast? <;>rw[ha,hb]at this<;>simp[dimS]at this ⊢
 exact this.2.2.2.2.2.1
theorem isSeg_dim(h:b.map dimS=a.map dimS)(f:Fl):isSeg b f=isSeg a f:=by
 have h1:=dim_get (fun s=>decide ((s.file:Int)=f.n)) (fun _=>rfl) h
 have h2:∀l:List Seg,isSeg l f=(l.map fun s=>decide ((s.file:Int)=f.n)).any id:=fun l=>by unfold isSeg;rw[List.any_map];rfl
 rw[h2,h2,h1]
theorem strangeN_dim(h:b.map dimS=a.map dimS)(fs:List Fl)(base:Nat):strangeN fs base b=strangeN fs base a:=by
 unfold strangeN
 congr 2
 funext f
 rw[isSeg_dim h]
theorem usedN_dim(h:b.map dimS=a.map dimS)(fs:List Fl)(base:Nat):usedN fs base b=usedN fs base a:=by
 unfold usedN
 rw[dim_get (fun s=>(s.file:Int)) (fun _=>rfl) h]
theorem sizes_dim(h:b.map dimS=a.map dimS):sizes b=sizes a:=by
 unfold sizes
 rw[dim_get Seg.size (fun _=>rfl) h]
structure AlkR(x y:Dk×Lg×Int):Prop where
 d:y.1=x.1
 e:y.2.2=x.2.2
 l:Alk x.2.1 y.2.1
theorem begin_alkL(h:Alk l m)(whole:Bool)(first next:Nat)(xs:List UInt8):AlkR (beginP d l whole first next xs) ((beginP d m whole first next xs).1,begL d m whole first next xs,(beginP d m whole first next xs).2.2):=by
 have hs:=strangeN_dim h.segs d.fs l.base
 have hu:=usedN_dim h.segs d.fs l.base
 have hn:=numOf_dim h.segs
 have ha:=aheadOf_dim h.segs
 unfold begL beginP
 rw[h.base,hs,hu,hn,ha]
 by_cases h1:(delAll d (strangeN d.fs l.base l.segs)).2≠0
 ·rw[if_pos h1,if_pos h1]
  refine⟨rfl,rfl, ?_⟩
  dsimp only
  first | exact⟨rfl,h.c,rfl,rfl,h.segs⟩ | (rw[if_neg h1];exact⟨rfl,h.c,rfl,rfl,h.segs⟩)
 ·rw[if_neg h1,if_neg h1]
  split
  ·rename_i h2
   refine⟨rfl,rfl, ?_⟩
   dsimp only
   first | exact⟨rfl,h.c,rfl,rfl,h.segs⟩ | (rw[if_neg h2];exact⟨rfl,h.c,rfl,rfl,h.segs⟩)
  ·refine⟨rfl,rfl, ?_⟩
   dsimp only
   have hfin:((if whole=true then m.segs.map (fun s:Seg=>({ s with last:=first }:Seg)) else m.segs)++ [(⟨numOf l.segs,aheadOf l.segs,first,next,false,freeP (usedN d.fs l.base l.segs) l.base,(headB whole (numOf l.segs) (aheadOf l.segs) first next xs++xs).length,m.c.next⟩:Seg)]).map dimS=
     ((if whole=true then l.segs.map (fun s:Seg=>({ s with last:=first }:Seg)) else l.segs)++ [(⟨numOf l.segs,aheadOf l.segs,first,next,whole,freeP (usedN d.fs l.base l.segs) l.base,(headB whole (numOf l.segs) (aheadOf l.segs) first next xs++xs).length,l.c.next⟩:Seg)]).map dimS:=by
    rw[List.map_append,List.map_append,h.c]
    congr 1
    cases whole with
    | true=>exact dim_map _ (fun _=>rfl) h.segs
    | false=>exact h.segs
   first | exact⟨rfl,h.c,rfl,rfl,hfin⟩ | (rw[if_pos trivial];exact⟨rfl,h.c,rfl,rfl,hfin⟩) | (rw[if_pos rfl];exact⟨rfl,h.c,rfl,rfl,hfin⟩)
theorem snoc_dim{s:Seg}{a0:List Seg}(ha:a=a0++ [s])(h:b.map dimS=a.map dimS):∃b0 t,b=b0++ [t]/\dimS t=dimS s/\b0.map dimS=a0.map dimS:=by
 rcases nil_or_snoc b with rfl | ⟨b0,t,rfl⟩
 ·have:=congrArg List.length h
  rw[ha]at this
  simp at this
 ·rw[ha,List.map_append,List.map_append]at h
  have h1:=List.append_inj' h rfl
  exact⟨b0,t,rfl,by have:=h1.2;simpa using this,h1.1⟩
theorem write_alk(h:Alk l m)(xs:List UInt8):AlkR (writeP d l xs) (writeP d m xs):=by
 have hbeg:AlkR (beginP d l false l.c.first l.c.next xs) (beginP d m false m.c.first m.c.next xs):=by
  have h1:=begin_alkL (d:=d) h false l.c.first l.c.next xs
  rw[begL_false]at h1
  rw[h.c]
  exact h1
 rcases nil_or_snoc l.segs with hn | ⟨s0,s,hs⟩
 ·have hm:m.segs= []:=List.eq_nil_of_length_eq_zero (by rw[dim_len h.segs,hn];rfl)
  unfold writeP
  rw[hn,hm]
  exact hbeg
 ·obtain⟨t0,t,ht,hts,ht0⟩:=snoc_dim hs h.segs
  have hfile:t.file=s.file:=(congrArg Seg.file hts:(dimS t).file=(dimS s).file)
  have hg1:l.segs.getLast? =some s:=by rw[hs,List.getLast?_append];rfl
  have hg2:m.segs.getLast? =some t:=by rw[ht,List.getLast?_append];rfl
  unfold writeP
  rw[hg1,hg2]
  dsimp only
  rw[h.dirty]
  by_cases hd:l.dirty=false
  ·rw[if_pos hd,if_pos hd]
   rw[hfile]
   by_cases hl:(layP d (s.file:Int) xs).2=0
   ·rw[if_pos hl,if_pos hl]
    refine⟨rfl,rfl,⟨h.base,h.c,rfl,rfl, ?_⟩⟩
    show (growLast m.segs xs.length).map dimS=(growLast l.segs xs.length).map dimS
    rw[hs,ht,growLast_snoc,growLast_snoc,List.map_append,List.map_append,ht0]
    congr 1
    show [dimS { t with size:=t.size+xs.length }]= [dimS { s with size:=s.size+xs.length }]
    have e:=hts
    unfold dimS at e ⊢
    injection e with e1 e2 e3 e4 e5 e6 e7 e8
    simp[e1,e2,e3,e4,e6,e7,e8]
   ·rw[if_neg hl,if_neg hl]
    exact⟨rfl,rfl,⟨h.base,h.c,rfl,rfl,h.segs⟩⟩
  ·rw[if_neg hd,if_neg hd]
   exact hbeg
theorem tidy_alk(first:Nat):∀{a b:List Seg} {d:Dk},b.map dimS=a.map dimS->(tidyP first d b).1=(tidyP first d a).1/\(tidyP first d b).2.map dimS=(tidyP first d a).2.map dimS
 | [],b,d,h=>by
  have:b= []:=List.eq_nil_of_length_eq_zero (by rw[dim_len h];rfl)
  subst this
  exact⟨rfl,rfl⟩
 | [s],b,d,h=>by
  obtain⟨t,rfl⟩:=List.length_eq_one_iff.1 (by rw[dim_len h];rfl:b.length=1)
  exact⟨rfl,h⟩
 | s :: s2 :: r,b,d,h=>by
  rcases b with _ | ⟨t,_ | ⟨t2,r2⟩⟩
  ·simp at h
  ·simp at h
  ·have h1:dimS t=dimS s/\(t2 :: r2).map dimS=(s2 :: r).map dimS:=by
    rw[List.map_cons,List.map_cons]at h
    exact⟨(List.cons.inj h).1,(List.cons.inj h).2⟩
   have hl:t.last=s.last:=(congrArg Seg.last h1.1:(dimS t).last=(dimS s).last)
   have hf:t.file=s.file:=(congrArg Seg.file h1.1:(dimS t).file=(dimS s).file)
   unfold tidyP
   rw[hl,hf]
   by_cases h2:s.last<=first
   ·rw[if_pos h2,if_pos h2]
    by_cases h3:d.why s.file=0
    ·rw[if_pos h3,if_pos h3]
     exact tidy_alk first h1.2
    ·rw[if_neg h3,if_neg h3]
     exact⟨rfl,h⟩
   ·rw[if_neg h2,if_neg h2]
    exact⟨rfl,h⟩
theorem setLast_dim{n:Nat}(h:b.map dimS=a.map dimS):(setLast b n).map dimS=(setLast a n).map dimS:=by
 rcases nil_or_snoc a with hn | ⟨a0,s,hs⟩
 ·have hb:b= []:=List.eq_nil_of_length_eq_zero (by rw[dim_len h,hn];rfl)
  rw[hn,hb]
 ·obtain⟨b0,t,ht,hts,ht0⟩:=snoc_dim hs h
  rw[hs,ht,setLast_snoc,setLast_snoc,List.map_append,List.map_append,ht0]
  congr 1
  show [dimS { t with last:=n }]= [dimS { s with last:=n }]
  have e:=hts
  unfold dimS at e ⊢
  injection e with e1 e2 e3 e4 e5 e6 e7 e8
  simp[e1,e2,e3,e4,e6,e7]
theorem append_alk(h:Alk l m)(x:List UInt8):(appendP d m x).1=(appendP d l x).1/\Alk (appendP d l x).2.1 (appendP d m x).2.1/\(appendP d m x).2.2=(appendP d l x).2.2:=by
 have hw:=write_alk (d:=d) h (It.put l.c.next x).enc
 have hb:(writeP d m (It.put l.c.next x).enc).2.1.c=m.c:=write_c _ _ _
 unfold appendP
 rw[h.c]
 split
 ·exact⟨rfl,⟨h.base,rfl,rfl,h.dirty,h.segs⟩,rfl⟩
 ·rw[hw.d,hw.e]
  split
  ·exact⟨rfl,hw.l,rfl⟩
  ·obtain⟨t1,t2⟩:=tidy_alk l.c.first (d:=(writeP d l (It.put l.c.next x).enc).1) (setLast_dim (n:=l.c.next+1) hw.l.segs)
   exact⟨t1,⟨hw.l.base,rfl,hw.l.failed,hw.l.dirty,t2⟩,rfl⟩
theorem cutWM_alk(h:Alk l m)(n:Nat):AlkR (cutW d l n) (cutWM d m n):=by
 unfold cutW cutWM
 rw[h.c,sizes_dim h.segs]
 split
 ·exact begin_alkL h true n n _
 ·exact write_alk h _
theorem cutM_alk(h:Alk l m)(before:Int):AlkR (cutP d l before) (cutM d m before):=by
 unfold cutP cutM
 rw[h.c]
 split
 ·exact⟨rfl,rfl,⟨h.base,rfl,rfl,h.dirty,h.segs⟩⟩
 ·have hw:=cutWM_alk (d:=d) h (min before l.c.next).toNat
  rw[hw.e]
  split
  ·exact hw
  ·obtain⟨t1,t2⟩:=tidy_alk (min before l.c.next).toNat (d:=(cutW d l (min before l.c.next).toNat).1) hw.l.segs
   rw[hw.d]
   exact⟨t1,rfl,⟨hw.l.base,rfl,hw.l.failed,hw.l.dirty,t2⟩⟩
end
theorem segsOf_mem:∀{ss:List AS} {segs:List Seg},SegsOf ss segs->∀s∈segs,∃a∈ss,∃n,s=a.seg n
 | [], [],_,s,hs=>by cases hs
 | [],_ :: _,h,_,_=>h.elim
 | _ :: _, [],h,_,_=>h.elim
 | a :: r,t :: u,h,s,hs=>by
  obtain⟨⟨n,e,_⟩,h2⟩:=h
  rcases List.mem_cons.1 hs with rfl | hs
  ·exact⟨a,List.mem_cons_self ..,n,e⟩
  ·obtain⟨b,hb,n,e⟩:=segsOf_mem h2 s hs
   exact⟨b,List.mem_cons_of_mem _ hb,n,e⟩
theorem num_last{ss:List AS}(h:Chain ss):∀a∈ss,a.number<=lastNum ss:=by
 intro a ha
 rcases nil_or_snoc ss with rfl | ⟨s0,z,rfl⟩
 ·cases ha
 ·rw[lastNum_snoc]
  rcases List.mem_append.1 ha with ha | ha
  ·exact Nat.le_of_lt ((List.pairwise_append.1 h.rise).2.2 a ha z (by simp))
  ·rw[List.mem_singleton]at ha;rw[ha];exact Nat.le_refl _
section
variable {p:PS}{i T:Nat}{l:Lg}
theorem PInv.small(h:PInv p i T)(hi:i<=900):p.d.small 270000000:=
 ⟨fun f hf=>by have:=h.raws f hf;omega,by have:=h.files;omega,by have:=h.flt;omega,by have:=h.ops;omega⟩
theorem PInv.begB(h:PInv p i T)(hi:i<=900)(hb:p.l.base<=16777216)(ha:Alk p.l l){f nx m:Nat}(hf:f<=1000000000)(hnx:nx<=1000000000)(hm:m<=300000000):BegB l p.d 270000000 f nx m:=by
 obtain⟨ss,hl,hnum⟩:=h.live
 unfold Live at hl
 have hfs:=h.files
 have hsg:=h.segs
 have hlen:=dim_len ha.segs
 refine⟨h.small hi,by omega,by omega,by rw[ha.base];omega,fun s hs=> ?_,hf,hnx,by rw[ha.c,h.c];have:=h.next;omega,hm⟩
 have h1:dimS s∈l.segs.map dimS:=List.mem_map_of_mem hs
 rw[ha.segs]at h1
 obtain⟨s',hs',e⟩:=List.mem_map.1 h1
 obtain⟨a,haa,n,rfl⟩:=segsOf_mem hl.segs s' hs'
 have q1:s.file=a.file:=(congrArg Seg.file e).symm
 have q2:s.number=a.number:=(congrArg Seg.number e).symm
 have q3:s.size=a.bytes.length:=(congrArg Seg.size e).symm
 have r1:=hl.shape.range a haa
 have r2:=num_last hl.shape.chain a haa
 have r3:=hl.shape.small (K:=270000000) (fun f hf=>by have:=h.raws f hf;omega) a haa
 exact⟨by omega,by omega,by omega⟩
theorem PInv.cn(h:PInv p i T)(hi:i<=900)(ha:Alk p.l l):l.c=p.c/\l.c.next<=900/\l.segs.length<=900/\(∀b∈l.c.rows,b.length<=260000)/\l.c.size<=T:=by
 have e:l.c=p.c:=ha.c.trans h.c
 refine⟨e,by rw[e];have:=h.next;omega,by rw[dim_len ha.segs];have:=h.segs;omega,by rw[e];exact h.rows,by rw[e];exact h.size⟩
end
end Go.Proofs.YtjehlgblkfofpaaGreat