/- The claims' texts, several in one: Row, Met, Pen, Pen2, Written, Writers. Conditions stand with each theorem. -/
import Derived.Test.YtjehlgblkfofpaaGreatZa08
import Derived.BigQuiet
import Derived.Deep.QuietTactic
import Derived.BigRegion
import Derived.Deep.RegionLaw
import Derived.Lib.AppendStr
import Derived.Recover
set_option maxHeartbeats 2000000
set_option maxRecDepth 20000
namespace Go.Proofs.YtjehlgblkfofpaaGreat
open Go.RowKit
def Ow(w:World)(e:TypeId)(size:Nat)(v:Value)(n:Nat)(xs:List Value):Prop:=
 xs.length=n*size/\((v= .slice none 0 0/\n=0)\/
  ∃g o cap cur,v= .slice (some ⟨g,o*size,none⟩) n cap/\w.heap[g]? =some (.cells cur e (0,0))/\n<=cap/\cap<=maxLen/\o*size+cap*size<=cur.size/\(cur.toList.drop (o*size)).take (n*size)=xs)
section
variable {w w':World}{e:TypeId}{size n:Nat}{v:Value}{xs:List Value}
theorem Own.ow(h:Own w e size v n xs):Ow w e size v n xs:=by
 refine⟨h.1,h.2.imp id ?_⟩
 rintro⟨g,cap,cur,rfl,h1,h2,h3,h4,h5⟩
 exact⟨g,0,cap,cur,by rw[Nat.zero_mul],h1,h2,h3,by omega,by rw[Nat.zero_mul,List.drop_zero];exact h5⟩
theorem Ow.nil_(w:World)(e:TypeId)(size:Nat):Ow w e size (.slice none 0 0) 0 []:=⟨by simp, .inl ⟨rfl,rfl⟩⟩
theorem Ow.lt(h:Ow w e size v n xs):∀k,v.ownBlock=some k->k<w.heap.size:=by
 intro k hk
 rcases h.2 with⟨rfl,_⟩ | ⟨g,o,cap,cur,rfl,hg,_⟩
 ·simp[Value.ownBlock]at hk
 ·simp only[Value.ownBlock,Option.some.injEq]at hk
  subst hk
  exact(Array.getElem?_eq_some_iff.1 hg).1
theorem Ow.heap(h:Ow w e size v n xs)(hb:∀k,v.ownBlock=some k->w'.heap[k]? =w.heap[k]?):Ow w' e size v n xs:=by
 refine⟨h.1, ?_⟩
 rcases h.2 with h | ⟨g,o,cap,cur,rfl,hg,rest⟩
 ·exact .inl h
 ·exact .inr ⟨g,o,cap,cur,rfl,(hb g rfl).trans hg,rest⟩
theorem Ow.touch{S:Nat->Prop}(h:Ow w e size v n xs)(hb:Touch S w w')(hn:∀k,v.ownBlock=some k->¬S k):Ow w' e size v n xs:=
 h.heap fun k hk=>hb.block k (h.lt k hk) (hn k hk)
theorem Ow.fresh(h:Ow w e size v n xs)(hb:Fresh w w'):Ow w' e size v n xs:=h.touch hb fun _ _=>id
theorem Ow.alloc(h:Ow w e size v n xs)(o:Obj):Ow (w.alloc o) e size v n xs:=h.heap fun k hk=>Below.heap_alloc w o k (h.lt k hk)
theorem Ow.grown{row:Option Nat}(h:Ow w e size v n xs)(hg:w.grownBy w' row)(hn:∀k,v.ownBlock=some k->some k≠row):Ow w' e size v n xs:=
 h.heap fun k hk=>hg.block k (h.lt k hk) (hn k hk)
theorem Ow.ne_blk{g:Nat}{t:TypeId}{cs:Array Value}(h:Ow w e size v n xs)(hg:Blk w g t cs)(hne:e≠t):v.ownBlock≠some g:=by
 rcases h.2 with⟨rfl,_⟩ | ⟨g',o,cap,cur,rfl,hh,_⟩
 ·simp[Value.ownBlock]
 ·intro he
  have:g'=g:=by simpa [Value.ownBlock] using he
  subst this
  exact Blk.ne_ (t:=e) hh hg hne rfl
theorem Ow.ne_ow{e':TypeId}{s' n':Nat}{v':Value}{xs':List Value}(h:Ow w e size v n xs)(h':Ow w e' s' v' n' xs')(hne:e≠e'):∀k,v.ownBlock=some k->v'.ownBlock≠some k:=by
 intro k hk
 rcases h.2 with⟨rfl,_⟩ | ⟨g,o,cap,cur,rfl,hg,_⟩
 ·simp[Value.ownBlock]at hk
 ·simp only[Value.ownBlock,Option.some.injEq]at hk
  subst hk
  exact h'.ne_blk (t:=e) (cs:=cur) hg (Ne.symm hne)
theorem Ow.form(h:Ow w e size v n xs):∃A c,v= .slice A n c/\n<=c/\c<=maxLen/\((A=none/\n=0/\c=0)\/∃g o,A=some ⟨g,o*size,none⟩):=by
 rcases h.2 with⟨rfl,rfl⟩ | ⟨g,o,cap,cur,rfl,_,h1,h2,_⟩
 ·exact⟨none,0,rfl,Nat.le_refl _,by simp[maxLen], .inl ⟨rfl,rfl,rfl⟩⟩
 ·exact⟨_,cap,rfl,h1,h2, .inr ⟨g,o,rfl⟩⟩
theorem Ow.parts{a:Addr}{c:Nat}(h:Ow w e size (.slice (some a) n c) n xs):∃o cur,a=⟨a.block,o*size,none⟩/\w.heap[a.block]? =some (.cells cur e (0,0))/\n<=c/\c<=maxLen/\o*size+c*size<=cur.size/\(cur.toList.drop (o*size)).take (n*size)=xs:=by
 rcases h.2 with⟨h,_⟩ | ⟨g',o,cap,cur,hv,rest⟩
 ·cases h
 ·injection hv with h1 h2 h3
  injection h1 with h1
  subst h1 h3
  exact⟨o,cur,rfl,rest⟩
theorem Ow.cell{g q c:Nat}(h:Ow w e size (.slice (some ⟨g,q,none⟩) n c) n xs){j:Nat}(hj:j<n*size):w.cell? ⟨g,q+j,none⟩=xs[j]? :=by
 obtain⟨o,cur,ha,hg,h1,h2,h3,h4⟩:=h.parts
 injection ha with _ ha
 rw[cell_of_row w g (q+j) cur e (0,0) hg,<- h4,List.getElem?_take,if_pos hj,List.getElem?_drop,<- ha]
 simp
theorem Ow.frozen{g q c:Nat}(h:Ow w e size (.slice (some ⟨g,q,none⟩) n c) n xs)(j:Nat):w.frozen? ⟨g,j,none⟩=false:=by
 obtain⟨o,cur,_,hg,_⟩:=h.parts
 exact frozen_of_row w g j cur e hg
theorem Ow.stored{g q c:Nat}(h:Ow w e size (.slice (some ⟨g,q,none⟩) n c) n xs){j:Nat}(_hj:j<n*size)(u:Value):Ow (w.setCell ⟨g,q+j,none⟩ u) e size (.slice (some ⟨g,q,none⟩) n c) n (xs.set j u):=by
 obtain⟨o,cur,ha,hg,h1,h2,h3,h4⟩:=h.parts
 injection ha with _ ha
 subst ha
 refine⟨by rw[List.length_set];exact h.1, .inr ⟨g,o,c,cur.setIfInBounds (o*size+j) u,rfl, ?_,h1,h2,by simpa using h3, ?_⟩⟩
 ·simp[World.setCell,Array.getElem?_modify,hg]
 ·rw[Array.toList_setIfInBounds,List.drop_set,if_neg (by omega),show o*size+j-o*size=j by omega,List.take_set,h4]
theorem Ow.drop{g q c:Nat}(h:Ow w e size (.slice (some ⟨g,q,none⟩) n c) n xs){k:Nat}(hk:k<=n):Ow w e size (.slice (some ⟨g,q+k*size,none⟩) (n-k) (c-k)) (n-k) (xs.drop (k*size)):=by
 obtain⟨o,cur,ha,hg,h1,h2,h3,h4⟩:=h.parts
 injection ha with _ ha
 subst ha
 have hks:(n-k)*size=n*size-k*size:=Nat.sub_mul n k size
 have hkc:(c-k)*size=c*size-k*size:=Nat.sub_mul c k size
 have hkn:k*size<=n*size:=Nat.mul_le_mul_right _ hk
 have hnc:n*size<=c*size:=Nat.mul_le_mul_right _ h1
 refine⟨by rw[List.length_drop,h.1,hks], .inr ⟨g,o+k,c-k,cur,by rw[Nat.add_mul],hg,by omega,by omega, ?_, ?_⟩⟩
 ·rw[Nat.add_mul,hkc];omega
 ·rw[<- h4,hks,Nat.add_mul,<- List.drop_drop,List.drop_take]
theorem Ow.empty{g q c c':Nat}(h:Ow w e size (.slice (some ⟨g,q,none⟩) n c) n xs)(hc:c'<=c):Ow w e size (.slice (some ⟨g,q,none⟩) 0 c') 0 []:=by
 obtain⟨o,cur,ha,hg,h1,h2,h3,h4⟩:=h.parts
 injection ha with _ ha
 subst ha
 exact⟨by simp, .inr ⟨g,o,c',cur,rfl,hg,Nat.zero_le _,by omega,by have:=Nat.mul_le_mul_right size hc;omega,by simp⟩⟩
theorem Ow.src{P:Program}{t e':TypeId}(h:Ow w e size v n xs)(ht:P.underlying t=some (.slice e'))(h1:∀u∈xs,u.oneCell'=true):Src P size t v n xs w:=by
 rcases h.2 with⟨rfl,hn⟩ | ⟨g,o,cap,cur,rfl,hg,h2,h3,h4,h5⟩
 ·subst hn
  have:xs= []:=List.eq_nil_of_length_eq_zero (by have:=h.1;omega)
  subst this
  exact Src.ofNil w ht 0
 ·refine Src.ofSlice w ht _ _ _ _ h.1 (fun j u hu=> ?_) h1
  have hj:j<n*size:=by have:=(List.getElem?_eq_some_iff.1 hu).1;have:=h.1;omega
  rw[add_flat,h.cell hj]
  exact hu
end
section
variable {P:Program}
theorem run_ow_src(w:World)(t tx ty e:TypeId)(i:TypeInfo)(z:Value)(size bytes:Nat)(ht:P.underlying t=some (.slice e))(hi:P.info? e=some i)(hz:i.zero=some z)(hsize:i.size=size)(hby:i.bytes=bytes)(hzs:z.cells.size=size)
  (v:Value) (n:Nat) (xs:List Value) (hown:Ow w e size v n xs) (h1:∀u∈xs,u.oneCell'=true) (x:Value) (m:Nat) (news:List Value) (hs:Src P size tx x m news w) (h63:n+m<=maxLen) (hbytes:(n+m)*bytes<=140737488355328):
  ∃B c' w',(Builtin.append_ #[t,tx] ty #[v,x]).run P w= .ok (.slice B (n+m) c') w'/\Ow w' e size (.slice B (n+m) c') (n+m) (xs++news)/\w.grownBy w' v.ownBlock/\
   ((Value.slice B (n+m) c').ownBlock=v.ownBlock\/(Value.slice B (n+m) c').ownBlock=some w.heap.size):=by
 subst hsize
 subst hby
 have hlen:(xs++news).length=(n+m)*i.size:=by rw[List.length_append,hown.1,hs.newsLen,Nat.add_mul]
 have hm63:((n+m:Nat):Int)<=9223372036854775807:=by unfold maxLen at h63;omega
 have grow:∀(A:Option Addr) (c:Nat),c<n+m->(Builtin.firstCells i.size n (.slice A n c)).run P w.drew= .ok xs.toArray w.drew->
   ∃B c' w',(Builtin.append_ #[t,tx] ty #[.slice A n c,x]).run P w= .ok (.slice B (n+m) c') w'/\Ow w' e i.size (.slice B (n+m) c') (n+m) (xs++news)/\w.grownBy w' (Value.slice A n c).ownBlock/\
    ((Value.slice B (n+m) c').ownBlock=(Value.slice A n c).ownBlock\/(Value.slice B (n+m) c').ownBlock=some w.heap.size):=by
  intro A c hc hold
  have hrun:=run_append_grow_src (P:=P) w t tx ty e i z ht hi hz A n c xs hold x m news hs hc hm63 (growslice_fits hc hbytes)
  have hge:=grownCap_ge w (n+m) c e
  have hcm:=grownCap_le_maxLen w (n+m) c e h63
  refine⟨_,_,_,hrun,Own.ow ⟨hlen, .inr ⟨w.heap.size,_,_,rfl,heap_alloc_new w.drew _,hge,hcm, ?_, ?_⟩⟩,⟨rfl,rfl,rfl,by simp,fun k hk _=>Below.heap_alloc w.drew _ k hk⟩, .inr rfl⟩
  ·rw[Array.size_append,List.size_toArray,hlen,size_zeroCells,hzs,<- Nat.add_mul]
   exact Nat.le_of_eq (by congr 1;omega)
  ·rw[Array.toList_append,<- hlen]
   exact List.take_left
 by_cases h0:m=0
 ·subst h0
  have hn:news= []:=List.eq_nil_of_length_eq_zero (by have:=hs.newsLen;omega)
  subst hn
  obtain⟨A,c,rfl,hle,_⟩:=hown.form
  exact⟨A,c,w,run_append_nothing w t tx ty e i ht hi A n c hle x hs,by simpa using hown,⟨rfl,rfl,rfl,Nat.le_refl _,fun _ _ _=>rfl⟩, .inl rfl⟩
 ·rcases hown.2 with⟨rfl,rfl⟩ | ⟨g,o,cap,cur,rfl,hg,hnc,hcm,hcs,htake⟩
  ·have hx:xs= []:=List.eq_nil_of_length_eq_zero (by have:=hown.1;omega)
   subst hx
   exact grow none 0 (by omega) (run_firstCells_none w.drew i.size 0 0 0)
  ·by_cases hroom:n+m<=cap
   ·have hr:(n+m)*i.size<=cap*i.size:=Nat.mul_le_mul_right _ hroom
    rw[Nat.add_mul]at hr
    have hfit:o*i.size+n*i.size+news.length<=cur.size:=by rw[hs.newsLen];omega
    have hrun:=run_append_room_src (P:=P) w t tx ty e i ht hi g (o*i.size) n cap x m news hs hroom (fun j hj=>by
     rw[cell_of_row w g _ cur e (0,0) hg,Array.getElem?_eq_getElem (by omega)];rfl) (fun j _=>frozen_of_row w g _ cur e hg)
    refine⟨_,_,_,hrun,⟨hlen, .inr ⟨g,o,cap,_,rfl,heap_setCells_self g e (0,0) news (o*i.size+n*i.size) w cur hg hfit,hroom,hcm, ?_, ?_⟩⟩,⟨?_, ?_, ?_, ?_,fun k hk hne=> ?_⟩, .inl rfl⟩
    ·simp only[List.size_toArray,List.length_append,List.length_take,List.length_drop,Array.length_toList]
     omega
    ·have hol:o*i.size+n*i.size<=cur.toList.length:=by rw[Array.length_toList];omega
     have hto:(cur.toList.take (o*i.size+n*i.size)).drop (o*i.size)=xs:=by
      rw[List.drop_take,show o*i.size+n*i.size-o*i.size=n*i.size by omega,htake]
     show List.take ((n+m)*i.size) (List.drop (o*i.size) (cur.toList.take (o*i.size+n*i.size)++news++cur.toList.drop (o*i.size+n*i.size+news.length)))=xs++news
     rw[List.append_assoc,List.drop_append_of_le_length (by rw[List.length_take];omega),hto,<- List.append_assoc,<- hlen]
     exact List.take_left
    ·exact World.os_setCells w g _ news
    ·exact tape_setCells g news _ w
    ·exact World.output_setCells w g _ news
    ·exact Nat.le_of_eq (size_setCells g news _ w).symm
    ·exact World.heap_setCells_other w g _ news hk (fun e=>hne (by rw[e];rfl))
   ·have hold:=(hown.src (P:=P) (t:=t) ht h1).cellsD
    exact grow _ cap (by omega) hold
theorem wp_ow_src(w:World){o:Oper}{a:Act}{K:Act->World->Prop}{Q:Exit->Act->World->Prop}(s x:Operand)(t tx:TypeId)
  (ho:o.op= .call { callee:= .builtin .append,args:= #[s,x],argTypes:= #[t,tx] })
  (e:TypeId) (z:Value) (size bytes:Nat) (hinfo:(P.info? e).map (fun i=>(i.zero,i.size,i.bytes))=some (some z,size,bytes)) (ht:P.underlying t=some (.slice e)) (hzs:z.cells.size=size)
  (v:Value) (n:Nat) (xs:List Value) (hv:a.eval s=v) (hown:Ow w e size v n xs) (h1:∀u∈xs,u.oneCell'=true) (y:Value) (m:Nat) (news:List Value) (hx:a.eval x=y) (hs:Src P size tx y m news w) (h63:n+m<=maxLen) (hbytes:(n+m)*bytes<=140737488355328)
  (h:∀B c' w',Ow w' e size (.slice B (n+m) c') (n+m) (xs++news)->w.grownBy w' v.ownBlock->((Value.slice B (n+m) c').ownBlock=v.ownBlock\/(Value.slice B (n+m) c').ownBlock=some w.heap.size)->K (a.put o.dst (.slice B (n+m) c')) w'):o.wp P a w K Q:=by
 obtain⟨i,hi,hz,hs1,hb1⟩:=info_parts hinfo
 obtain⟨B,c',w',hr,h2,h3,h4⟩:=run_ow_src (P:=P) w t tx o.type e i z size bytes ht hi hz hs1 hb1 hzs v n xs hown h1 y m news hs h63 hbytes
 unfold Oper.wp execOp
 simp only[ho,resolve,invoke,builtin,Sem.run_bind,Sem.run_pure,Result.andThen_ok,List.map_toArray,List.map_cons,List.map_nil,hv,hx,hr]
 exact h B c' w' h2 h3 h4
theorem wpList_ow_src(w:World){ops:Array Oper}{rest:List Oper}{o:Oper}{a:Act}{Q:Exit->Act->World->Prop}(hgd:o.guard=none)(s x:Operand)(t tx:TypeId)
  (ho:o.op= .call { callee:= .builtin .append,args:= #[s,x],argTypes:= #[t,tx] })
  (e:TypeId) (z:Value) (size bytes:Nat) (hinfo:(P.info? e).map (fun i=>(i.zero,i.size,i.bytes))=some (some z,size,bytes)) (ht:P.underlying t=some (.slice e)) (hzs:z.cells.size=size)
  (v:Value) (n:Nat) (xs:List Value) (hv:a.eval s=v) (hown:Ow w e size v n xs) (h1:∀u∈xs,u.oneCell'=true) (y:Value) (m:Nat) (news:List Value) (hx:a.eval x=y) (hs:Src P size tx y m news w) (h63:n+m<=maxLen) (hbytes:(n+m)*bytes<=140737488355328)
  (h:∀B c' w',Ow w' e size (.slice B (n+m) c') (n+m) (xs++news)->w.grownBy w' v.ownBlock->((Value.slice B (n+m) c').ownBlock=v.ownBlock\/(Value.slice B (n+m) c').ownBlock=some w.heap.size)->wpList P ops Q rest (a.put o.dst (.slice B (n+m) c')) w'):wpList P ops Q (o :: rest) a w:=
 wpList_plain hgd fun _ hK=>wp_ow_src w s x t tx ho e z size bytes hinfo ht hzs v n xs hv hown h1 y m news hx hs h63 hbytes fun B c' w' h2 h3 h4=>hK _ _ (h B c' w' h2 h3 h4)
end
theorem u8_new(w:World)(k:UInt8):Src Tryz.prog 1 29 (.slice (some ⟨w.heap.size,0,none⟩) 1 1) 1 (u8s [k]) (w.alloc (.cells #[.int .u8 (k.toNat:Int)] 5)):=by
 refine Src.ofSlice _ Tryz.underlying29 _ _ _ _ rfl (fun j u hu=> ?_) (u8s_one _)
 rw[add_flat,Nat.zero_add,(Blk.new w 5 #[.int .u8 (k.toNat:Int)]).cell j,<- hu]
 simp[u8s]
theorem u8_newV(w:World)(b:UInt8)(V:Int)(hV:V=(b.toNat:Int)):Src Tryz.prog 1 29 (.slice (some ⟨w.heap.size,0,none⟩) 1 1) 1 (u8s [b]) (w.alloc (.cells #[.int .u8 V] 5)):=by
 rw[hV]
 exact u8_new w b
theorem own_one(w:World)(k:UInt8):Own (w.alloc (.cells #[.int .u8 (k.toNat:Int)] 5)) 5 1 (.slice (some ⟨w.heap.size,0,none⟩) 1 1) 1 (u8s [k]):=
 ⟨rfl, .inr ⟨w.heap.size,1, #[.int .u8 (k.toNat:Int)],rfl,heap_alloc_new w _,Nat.le_refl _,by unfold maxLen;omega,Nat.le_refl _,rfl⟩⟩
theorem metaP_take{k:UInt8}{l:List Nat}{j n:Nat}(h:l[j]? =some n):metaP k (l.take (j+1))=metaP k (l.take j)++be8 n:=by
 unfold metaP
 rw[List.take_add_one,h]
 simp
def natsV(l:List Nat):List Int:=l.map fun n:Nat=>(n:Int)
theorem meta_any(k:UInt8)(A:Option Addr)(c:Nat)(l:List Nat)(w:World)(h:IsInts w A l.length c (natsV l))(hl:l.length<=100)(hn:∀n∈l,n<9223372036854775808):
  Calls Tryz.prog 114 #[.int .u8 (k.toNat:Int), .slice A l.length c] w fun e w'=>Fresh w w'/\∃g cap,e= .returned (.slice (some ⟨g,0,none⟩) (metaF k l).length cap)/\w.heap.size<=g/\Fb w' g cap (metaF k l):=by
 have hc1:=h.2.1
 have hc2:=h.2.2.1
 unfold maxLen at hc2
 have H:=zh h;have HN:=zh hn
 clear h hn
 go_enter Tryz.func114,Tryz.ntmps114
 go_wp2_with fail
 go_loopw [5,13] (fun v i wr=>∃j:Nat,j<=l.length/\i= .int .i64 j/\Own wr 5 1 v (metaP k (l.take j)).length (u8s (metaP k (l.take j)))/\(∀q,v.ownBlock=some q->w.heap.size<=q)/\Fresh w wr) (fun _ i _=>l.length-(intOf i).toNat)
 case atStart=>exact⟨0,Nat.zero_le _,rfl,own_one w k,fun q hq=>by (simp only[Value.ownBlock,Option.some.injEq]at hq;omega),(Touch.refl _ w).alloc _⟩
 case round=>
  obtain⟨j,hj,rfl,hO,hB,hF⟩:=hrel
  have HO:=zh hO;have HB:=zh hB;have HF:=zh hF
  obtain⟨OA,oc,rfl,ho1,ho2,_⟩:=hO.form
  unfold maxLen at ho2
  clear hO hB hF
  by_cases hlt:j<l.length
  ·obtain⟨b,o,rfl,hcs⟩:=H.out.2.2.2 (by omega)
   obtain⟨n,hnj⟩:∃n,l[j]? =some n:=⟨_,List.getElem?_eq_getElem hlt⟩
   have cx:wr.cell? ⟨b,o+j,none⟩=some (.int .i64 (n:Int)):=HF.out.cell (hcs j n (by unfold natsV;rw[List.getElem?_map,hnj];rfl)) id
   have hn63:n<9223372036854775808:=HN.out n (List.mem_of_getElem? hnj)
   have HT:=zh (metaP_take (k:=k) hnj)
   have hpl:(metaP k (l.take j)).length<=801:=by rw[metaP_len,List.length_take];omega
   obtain⟨xs,hxs⟩:∃xs,xs=metaP k (l.take j):=⟨_,rfl⟩
   rw[<- hxs]at HO HT HB hpl ho1
   rw[<- hxs]
   clear hcs hnj hxs
   go_wp2_with fail
   go_loopw [5,8] (fun v i wr=>∃t:Nat,t<=8/\i= .int .i64 (56-8*(t:Int))/\Own wr 5 1 v (xs++(be8 n).take t).length (u8s (xs++(be8 n).take t))/\(∀q,v.ownBlock=some q->w.heap.size<=q)/\Fresh w wr) (fun _ i _=>(intOf i+8).toNat)
   case atStart=>exact⟨0,Nat.zero_le _,rfl,by simpa using HO.out,HB.out,HF.out⟩
   case round=>
    clear HO HB HF cx ho1 ho2
    obtain⟨t,ht,rfl,hO,hB,hF⟩:=hrel
    have HO:=zh hO;have HB:=zh hB;have HF:=zh hF
    obtain⟨OA,oc,rfl,ho1,ho2,_⟩:=hO.form
    unfold maxLen at ho2
    clear hO hB hF
    by_cases ht8:t=8
    ·subst ht8
     have HE:=zh (show xs++(be8 n).take 8=metaP k (l.take (j+1)) by rw[HT.out];rfl)
     rw[HE.out]at HO HB
     rw[HE.out]
     go_wp2_with fail
     go_roundw
     case rel=>exact⟨j+1,by omega,by go_num,HO.out,HB.out,HF.out⟩
     case measure=>simp[intOf]<;>omega
    ·obtain⟨ys,hys⟩:∃ys,ys=xs++(be8 n).take t:=⟨_,rfl⟩
     have hyl:ys.length<=809:=by rw[hys,List.length_append,List.length_take];omega
     have HYT:=zh (show xs++(be8 n).take (t+1)=ys++ [(be8 n).getD t 0] by
      rw[hys,List.append_assoc,List.take_add_one,List.getD_eq_getElem?_getD,List.getElem?_eq_getElem (by rw[be8_len];omega)]
      rfl)
     rw[<- hys]at HO HB ho1
     rw[<- hys]
     clear hys
     have h8:t=0\/t=1\/t=2\/t=3\/t=4\/t=5\/t=6\/t=7:=by omega
     rcases h8 with h8 | h8 | h8 | h8 | h8 | h8 | h8 | h8
     ·have HT8:=zh h8
      rw[show (56-8*(t:Int))=56 by omega]
      clear h8
      go_wp2_with (at_builtin;refine wpList_own_src _ rfl _ _ 29 29 rfl 5 (.int .u8 0) 1 1 Tryz.info5 Tryz.underlying29 rfl (.slice OA ys.length oc) ys.length (u8s ys) rfl (HO.out.alloc _) (u8s_one ys) (.slice (some ⟨wr.heap.size,0,none⟩) 1 1) 1 (u8s [(be8 n).getD t 0]) rfl (u8_newV _ _ _ (by rw[HT8.out];simp[be8]<;>omega)) (by unfold maxLen;omega) (by omega) ?_;intro D c4 w4 o4 g4 b4;have HO4:=zh o4;have HG4:=zh (grow_step HF.out g4 HB.out b4);clear o4 g4 b4)
      go_roundw
      case rel=>exact⟨t+1,by omega,by (rw[HT8.out];rfl),by (rw[HYT.out,List.length_append,u8s_append];exact HO4.out),HG4.out.2,HG4.out.1⟩
      case measure=>simp[intOf]<;>omega
     ·have HT8:=zh h8
      rw[show (56-8*(t:Int))=48 by omega]
      clear h8
      go_wp2_with (at_builtin;refine wpList_own_src _ rfl _ _ 29 29 rfl 5 (.int .u8 0) 1 1 Tryz.info5 Tryz.underlying29 rfl (.slice OA ys.length oc) ys.length (u8s ys) rfl (HO.out.alloc _) (u8s_one ys) (.slice (some ⟨wr.heap.size,0,none⟩) 1 1) 1 (u8s [(be8 n).getD t 0]) rfl (u8_newV _ _ _ (by rw[HT8.out];simp[be8]<;>omega)) (by unfold maxLen;omega) (by omega) ?_;intro D c4 w4 o4 g4 b4;have HO4:=zh o4;have HG4:=zh (grow_step HF.out g4 HB.out b4);clear o4 g4 b4)
      go_roundw
      case rel=>exact⟨t+1,by omega,by (rw[HT8.out];rfl),by (rw[HYT.out,List.length_append,u8s_append];exact HO4.out),HG4.out.2,HG4.out.1⟩
      case measure=>simp[intOf]<;>omega
     ·have HT8:=zh h8
      rw[show (56-8*(t:Int))=40 by omega]
      clear h8
      go_wp2_with (at_builtin;refine wpList_own_src _ rfl _ _ 29 29 rfl 5 (.int .u8 0) 1 1 Tryz.info5 Tryz.underlying29 rfl (.slice OA ys.length oc) ys.length (u8s ys) rfl (HO.out.alloc _) (u8s_one ys) (.slice (some ⟨wr.heap.size,0,none⟩) 1 1) 1 (u8s [(be8 n).getD t 0]) rfl (u8_newV _ _ _ (by rw[HT8.out];simp[be8]<;>omega)) (by unfold maxLen;omega) (by omega) ?_;intro D c4 w4 o4 g4 b4;have HO4:=zh o4;have HG4:=zh (grow_step HF.out g4 HB.out b4);clear o4 g4 b4)
      go_roundw
      case rel=>exact⟨t+1,by omega,by (rw[HT8.out];rfl),by (rw[HYT.out,List.length_append,u8s_append];exact HO4.out),HG4.out.2,HG4.out.1⟩
      case measure=>simp[intOf]<;>omega
     ·have HT8:=zh h8
      rw[show (56-8*(t:Int))=32 by omega]
      clear h8
      go_wp2_with (at_builtin;refine wpList_own_src _ rfl _ _ 29 29 rfl 5 (.int .u8 0) 1 1 Tryz.info5 Tryz.underlying29 rfl (.slice OA ys.length oc) ys.length (u8s ys) rfl (HO.out.alloc _) (u8s_one ys) (.slice (some ⟨wr.heap.size,0,none⟩) 1 1) 1 (u8s [(be8 n).getD t 0]) rfl (u8_newV _ _ _ (by rw[HT8.out];simp[be8]<;>omega)) (by unfold maxLen;omega) (by omega) ?_;intro D c4 w4 o4 g4 b4;have HO4:=zh o4;have HG4:=zh (grow_step HF.out g4 HB.out b4);clear o4 g4 b4)
      go_roundw
      case rel=>exact⟨t+1,by omega,by (rw[HT8.out];rfl),by (rw[HYT.out,List.length_append,u8s_append];exact HO4.out),HG4.out.2,HG4.out.1⟩
      case measure=>simp[intOf]<;>omega
     ·have HT8:=zh h8
      rw[show (56-8*(t:Int))=24 by omega]
      clear h8
      go_wp2_with (at_builtin;refine wpList_own_src _ rfl _ _ 29 29 rfl 5 (.int .u8 0) 1 1 Tryz.info5 Tryz.underlying29 rfl (.slice OA ys.length oc) ys.length (u8s ys) rfl (HO.out.alloc _) (u8s_one ys) (.slice (some ⟨wr.heap.size,0,none⟩) 1 1) 1 (u8s [(be8 n).getD t 0]) rfl (u8_newV _ _ _ (by rw[HT8.out];simp[be8]<;>omega)) (by unfold maxLen;omega) (by omega) ?_;intro D c4 w4 o4 g4 b4;have HO4:=zh o4;have HG4:=zh (grow_step HF.out g4 HB.out b4);clear o4 g4 b4)
      go_roundw
      case rel=>exact⟨t+1,by omega,by (rw[HT8.out];rfl),by (rw[HYT.out,List.length_append,u8s_append];exact HO4.out),HG4.out.2,HG4.out.1⟩
      case measure=>simp[intOf]<;>omega
     ·have HT8:=zh h8
      rw[show (56-8*(t:Int))=16 by omega]
      clear h8
      go_wp2_with (at_builtin;refine wpList_own_src _ rfl _ _ 29 29 rfl 5 (.int .u8 0) 1 1 Tryz.info5 Tryz.underlying29 rfl (.slice OA ys.length oc) ys.length (u8s ys) rfl (HO.out.alloc _) (u8s_one ys) (.slice (some ⟨wr.heap.size,0,none⟩) 1 1) 1 (u8s [(be8 n).getD t 0]) rfl (u8_newV _ _ _ (by rw[HT8.out];simp[be8]<;>omega)) (by unfold maxLen;omega) (by omega) ?_;intro D c4 w4 o4 g4 b4;have HO4:=zh o4;have HG4:=zh (grow_step HF.out g4 HB.out b4);clear o4 g4 b4)
      go_roundw
      case rel=>exact⟨t+1,by omega,by (rw[HT8.out];rfl),by (rw[HYT.out,List.length_append,u8s_append];exact HO4.out),HG4.out.2,HG4.out.1⟩
      case measure=>simp[intOf]<;>omega
     ·have HT8:=zh h8
      rw[show (56-8*(t:Int))=8 by omega]
      clear h8
      go_wp2_with (at_builtin;refine wpList_own_src _ rfl _ _ 29 29 rfl 5 (.int .u8 0) 1 1 Tryz.info5 Tryz.underlying29 rfl (.slice OA ys.length oc) ys.length (u8s ys) rfl (HO.out.alloc _) (u8s_one ys) (.slice (some ⟨wr.heap.size,0,none⟩) 1 1) 1 (u8s [(be8 n).getD t 0]) rfl (u8_newV _ _ _ (by rw[HT8.out];simp[be8]<;>omega)) (by unfold maxLen;omega) (by omega) ?_;intro D c4 w4 o4 g4 b4;have HO4:=zh o4;have HG4:=zh (grow_step HF.out g4 HB.out b4);clear o4 g4 b4)
      go_roundw
      case rel=>exact⟨t+1,by omega,by (rw[HT8.out];rfl),by (rw[HYT.out,List.length_append,u8s_append];exact HO4.out),HG4.out.2,HG4.out.1⟩
      case measure=>simp[intOf]<;>omega
     ·have HT8:=zh h8
      rw[show (56-8*(t:Int))=0 by omega]
      clear h8
      go_wp2_with (at_builtin;refine wpList_own_src _ rfl _ _ 29 29 rfl 5 (.int .u8 0) 1 1 Tryz.info5 Tryz.underlying29 rfl (.slice OA ys.length oc) ys.length (u8s ys) rfl (HO.out.alloc _) (u8s_one ys) (.slice (some ⟨wr.heap.size,0,none⟩) 1 1) 1 (u8s [(be8 n).getD t 0]) rfl (u8_newV _ _ _ (by rw[HT8.out];simp[be8]<;>omega)) (by unfold maxLen;omega) (by omega) ?_;intro D c4 w4 o4 g4 b4;have HO4:=zh o4;have HG4:=zh (grow_step HF.out g4 HB.out b4);clear o4 g4 b4)
      go_roundw
      case rel=>exact⟨t+1,by omega,by (rw[HT8.out];rfl),by (rw[HYT.out,List.length_append,u8s_append];exact HO4.out),HG4.out.2,HG4.out.1⟩
      case measure=>simp[intOf]<;>omega
  ·obtain rfl:j=l.length:=by omega
   rw[List.take_length]at HO HB ho1
   rw[List.take_length]
   have hml:(metaP k l).length<=801:=by rw[metaP_len];omega
   have KF:=zh (frame_any OA (metaP k l).length oc (metaP k l) wr (Own.bs HO.out) (by omega))
   go_wp2_with fail
   refine KF.out.mono ?_
   rintro e w4 ⟨hf4,g,cap,rfl,hg,hfb⟩
   have HF4:=zh (HF.out.trans hf4 fun _ _=>id)
   have HFB:=zh hfb
   have hsz:=HF.out.size
   have HG:=zh (show w.heap.size<=g by omega)
   clear hf4 hfb hg KF
   go_wp2_with fail
   go_ret
   refine⟨HF4.out,g,cap, ?_,HG.out,HFB.out⟩
   rw[metaF,Enc.frame_len]
   rfl
theorem int1_new(w:World)(n:Nat):IsInts (w.alloc (.cells #[.int .i64 (n:Int)] 3)) (some ⟨w.heap.size,0,none⟩) 1 1 (natsV [n]):=
 ⟨rfl,Nat.le_refl _,by unfold maxLen;omega,fun _=>⟨w.heap.size,0,rfl,fun j x hx=>by
  have hb:=Blk.new w 3 #[.int .i64 (n:Int)]
  rw[Nat.zero_add,hb.cell j]
  simp only[natsV,List.map_cons,List.map_nil]at hx
  cases j with
  | zero=>simp at hx;simp[hx]
  | succ j=>simp at hx⟩⟩
theorem framed_any(i:Nat)(hi:i<9223372036854775808)(A:Option Addr)(n c:Nat)(b:List UInt8)(w:World)(h:Bs w A n c b)(hn:n<=100000000):
  Calls Tryz.prog 78 #[.int .i64 i, .slice A n c] w fun e w'=>Fresh w w'/\∃g c',e= .returned (.slice (some ⟨g,0,none⟩) (It.put i b).enc.length c')/\w.heap.size<=g/\Bs w' (some ⟨g,0,none⟩) (It.put i b).enc.length c' (It.put i b).enc:=by
 have hbl:=h.1
 have KM:=zh (meta_any 114 (some ⟨w.heap.size,0,none⟩) 1 [i] (w.alloc (.cells #[.int .i64 (i:Int)] 3)) (int1_new w i) (by simp) (by simpa using hi))
 have H:=zh h
 clear h
 go_enter Tryz.func78,Tryz.ntmps78
 go_wp2_with fail
 refine KM.out.mono ?_
 rintro e w1 ⟨hf1,g,cap,rfl,hg,hfb⟩
 have HF1:=zh (((Touch.refl (fun _=>False) w).alloc _).trans hf1 fun _ _=>id)
 have KF:=zh (frame_any A n c b w1 (H.out.fresh HF1.out) (by omega))
 have HG:=zh (show w.heap.size<=g by rw[World.size_alloc]at hg;omega)
 have HB1:=zh hfb
 clear hf1 hg hfb KM
 go_wp2_with fail
 refine KF.out.mono ?_
 rintro e w2 ⟨hf2,g2,cap2,rfl,hg2,hfb2⟩
 have hth:=HB1.out.2.1
 have HB2:=zh (show Fb w2 g cap (metaF 114 [i]) from⟨fun j x hx=>hf2.cell (HB1.out.1 j x hx) id,fun j hj=>by
  obtain⟨h1,h2⟩:=hth j hj
  obtain⟨u,hu⟩:=Option.isSome_iff_exists.1 h1
  refine⟨by rw[hf2.cell hu id];rfl, ?_⟩
  rw[hf2.frozen (World.block_lt_of_cell? w1 _ hu) id]
  exact h2,HB1.out.2.2.1,HB1.out.2.2.2⟩)
 have hbs:=hfb2.bs
 rw[Enc.frame_len,hbl]at hbs
 have HS:=zh (Bs.src hbs (t:=29) (e':=5) Tryz.underlying29)
 have HF2:=zh (HF1.out.trans hf2 fun _ _=>id)
 have hml:(metaF 114 [i]).length=17:=by rw[metaF_len];rfl
 have HML:=zh hml
 clear hf2 hg2 hfb2 hth hbs KF HB1
 go_wp2_with (at_builtin;refine wpList_fb_src _ rfl _ _ 29 29 rfl 5 Tryz.info5 Tryz.underlying29 rfl HB2.out (.slice (some ⟨g2,0,none⟩) (n+8) cap2) (n+8) rfl HS.out (by omega) ?_;intro g3 c3 w3 h3 hg3 he3;have H3:=zh h3;have HG3:=zh hg3;have HE3:=zh he3;clear h3 hg3 he3)
 go_ret
 have he:(It.put i b).enc=metaF 114 [i]++Enc.frame b:=rfl
 have hlen:(It.put i b).enc.length=(metaF 114 [i]).length+(n+8):=by rw[he,List.length_append,Enc.frame_len,hbl]
 refine⟨HF2.out.grown HG3.out fun q hq=> .inl (by injection hq with hq;rw[<- hq];exact HG.out),g3,c3,by rw[hlen,hml];rfl, ?_,by rw[hlen,he];exact H3.out⟩
 rcases HE3.out with h | h
 ·rw[h];exact HG.out
 ·rw[h];exact HF2.out.size
section
open Go.Lib
variable {P:Program}(w:World)
theorem run_append_str_at(base:Nat)(t u ty e:TypeId)(i:TypeInfo)(ht:P.underlying t=some (.slice e))(hu:P.underlying u=some .string)(hi:P.info? e=some i)(hz:i.zero=some (.int .u8 0))
  (hsize:i.size=1) (hby:i.bytes=1)
  (v:Value) (n:Nat) (xs:List Value) (hown:w.ownsRow base e 1 v n xs) (s:ByteArray)
  (h63:n+s.size<=maxLen) (hbytes:n+s.size<=140737488355328) (hbase:base<=w.heap.size):
  ∃v' w',(Builtin.append_ #[t,u] ty #[v, .string s]).run P w= .ok v' w'/\w'.ownsRow base e 1 v' (n+s.size) (xs++strCells s)/\w.grownBy w' v.ownBlock/\
   (v'.ownBlock=v.ownBlock\/v'.ownBlock=some w.heap.size):=by
 have hsmall:n+s.size<=9223372036854775807:=by simp only[maxLen]at h63;omega
 have hxl:xs.length=n:=by simpa using hown.1
 have hlen:(xs++strCells s).length=(n+s.size)*1:=by rw[List.length_append,hxl,strCells_length,Nat.mul_one]
 have grown:∀(old:Nat),old<n+s.size->∀(row:Option Nat),
   (w.drew.alloc (.cells (xs.toArray++(strCells s).toArray++Builtin.zeroCells (Value.int .u8 0).cells (grownCap w (n+s.size) old e-(n+s.size))) e)).ownsRow base e 1
    (.slice (some ⟨w.heap.size,0,none⟩) (n+s.size) (grownCap w (n+s.size) old e)) (n+s.size) (xs++strCells s)/\
   w.grownBy (w.drew.alloc (.cells (xs.toArray++(strCells s).toArray++Builtin.zeroCells (Value.int .u8 0).cells (grownCap w (n+s.size) old e-(n+s.size))) e)) row:=by
  intro old ho row
  have hge:=grownCap_ge w (n+s.size) old e
  have hcm:grownCap w (n+s.size) old e<=maxLen:=grownCap_le_maxLen w (n+s.size) old e h63
  refine⟨⟨hlen, .inr ⟨w.heap.size,_,_,rfl,hbase,heap_alloc_new w.drew _,hge,hcm, ?_, ?_⟩⟩,⟨rfl,rfl,rfl,by simp,fun k hk _=>Below.heap_alloc w.drew _ k hk⟩⟩
  ·have hz1:(Value.int IntKind.u8 0).cells.size=1:=rfl
   simp only[Array.size_append,List.size_toArray,size_zeroCells,hz1,hxl,strCells_length]
   omega
  ·simp only[Array.toList_append,List.append_assoc]
   rw[<- List.append_assoc,<- hlen]
   exact List.take_left
 rcases hown.2 with⟨rfl,rfl⟩ | ⟨g,cap,cur,rfl,hbg,hg,hnc,hcm,hcs,htake⟩
 ·have hx:xs= []:=List.eq_nil_of_length_eq_zero hxl
  subst hx
  by_cases hm:s.size=0
  ·have hn:strCells s= []:=List.eq_nil_of_length_eq_zero (by rw[strCells_length];exact hm)
   refine⟨.slice none 0 0,w, ?_,by rw[hm,hn];exact World.ownsRow_nil w base e 1,⟨rfl,rfl,rfl,Nat.le_refl _,fun _ _ _=>rfl⟩, .inl rfl⟩
   have hf:=run_firstCells_string (P:=P) w 1 s
   rw[hm]at hf
   simp[Builtin.append_,run_underlying ht,run_underlying hu,sizeOf,typeInfo,hi,hsize,Builtin.lenOf,hm,hf]
  ·have hr:=run_append_nil_string (P:=P) w t u ty e i (.int .u8 0) ht hu hi hz s (by omega) (by omega) (by rw[hby];omega)
   have hgr:=grown 0 (by omega) (Value.ownBlock (.slice none 0 0))
   simp only[Nat.zero_add,List.nil_append,Array.empty_append]at hgr ⊢
   have e1:(s.data.map fun b=>Value.int .u8 b.toNat)=(strCells s).toArray:=by
    apply Array.ext'
    simp[strCells]
   rw[e1]at hr
   exact⟨_,_,hr,hgr.1,hgr.2, .inr rfl⟩
 ·by_cases hroom:n+s.size<=cap
  ·have hcs':cur.size=cap:=by simpa using hcs
   have hr:=run_append_room_string (P:=P) w t u ty e i ht hu hi hsize g n cap cur hg s hroom (by omega)
   refine⟨_,_,hr,⟨hlen, .inr ⟨g,cap,_,rfl,hbg,setRow_heap w g cur _ e _ hg,hroom,hcm, ?_, ?_⟩⟩,⟨rfl,rfl,rfl,by simp,fun k _ hk=>setRow_other w g k _ (fun e=>hk (by simp[Value.ownBlock,e]))⟩, .inl rfl⟩
   ·simp only[List.size_toArray,List.length_append,List.length_take,List.length_drop,Array.length_toList,strCells_length]
    omega
   ·have ht':cur.toList.take n=xs:=by simpa using htake
    rw[ht',<- hlen]
    exact List.take_left
  ·have holds:∀j u,xs[j]? =some u->w.cell? ((⟨g,0,none⟩:Addr).add j)=some u:=hown.cells (g:=g) rfl
   have hr:=run_append_grow_string (P:=P) w t u ty e i (.int .u8 0) ht hu hi hz ⟨g,0,none⟩ n cap xs (by rw[hsize];simpa using hxl) holds s (by omega) (by omega) (by rw[hby];exact growslice_fits (by omega) (by omega))
   have hgr:=grown cap (by omega) (Value.ownBlock (.slice (some ⟨g,0,none⟩) n cap))
   exact⟨_,_,hr,hgr.1,hgr.2, .inr rfl⟩
theorem wp_row_str{o:Oper}{a:Act}{K:Act->World->Prop}{Q:Exit->Act->World->Prop}(s x:Operand)(t u:TypeId)
  (ho:o.op= .call { callee:= .builtin .append,args:= #[s,x],argTypes:= #[t,u] })
  (hinfo:(P.info? 5).map (fun i=>(i.zero,i.size,i.bytes))=some (some (.int .u8 0),1,1)) (ht:P.underlying t=some (.slice 5)) (hu:P.underlying u=some .string)
  (v:Value) (xs:List UInt8) (hs:a.eval s=v) (hown:Row w v xs) (y:ByteArray) (hx:a.eval x= .string y) (hb:xs.length+y.size<=140737488355328)
  (h:∀A c' w',Row w' (.slice A (xs.length+y.size) c') (xs++y.data.toList)->w.grownBy w' v.ownBlock->((Value.slice A (xs.length+y.size) c').ownBlock=v.ownBlock\/(Value.slice A (xs.length+y.size) c').ownBlock=some w.heap.size)->K (a.put o.dst (.slice A (xs.length+y.size) c')) w'):o.wp P a w K Q:=by
 obtain⟨i,hi,hz,hs1,hb1⟩:=info_parts hinfo
 have hyl:y.size=y.data.toList.length:=by rw[Array.length_toList];rfl
 obtain⟨v',w',hr,h1,h2,h4⟩:=run_append_str_at (P:=P) w 0 t u o.type 5 i ht hu hi hz hs1 hb1 v xs.length (u8s xs) hown y (by unfold maxLen;omega) hb (Nat.zero_le _)
 have hrow:Row w' v' (xs++y.data.toList):=by
  unfold Row
  rw[List.length_append,u8s_append,<- hyl]
  exact h1
 obtain⟨A,c',hv,_⟩:=hrow.form
 rw[List.length_append,<- hyl]at hv
 subst hv
 unfold Oper.wp execOp
 simp only[ho,resolve,invoke,builtin,Sem.run_bind,Sem.run_pure,Result.andThen_ok,List.map_toArray,List.map_cons,List.map_nil,hs,hx,hr]
 exact h A c' w' hrow h2 h4
theorem wpList_row_str{ops:Array Oper}{rest:List Oper}{o:Oper}{a:Act}{Q:Exit->Act->World->Prop}(hgd:o.guard=none)(s x:Operand)(t u:TypeId)
  (ho:o.op= .call { callee:= .builtin .append,args:= #[s,x],argTypes:= #[t,u] })
  (hinfo:(P.info? 5).map (fun i=>(i.zero,i.size,i.bytes))=some (some (.int .u8 0),1,1)) (ht:P.underlying t=some (.slice 5)) (hu:P.underlying u=some .string)
  (v:Value) (xs:List UInt8) (hs:a.eval s=v) (hown:Row w v xs) (y:ByteArray) (hx:a.eval x= .string y) (hb:xs.length+y.size<=140737488355328)
  (h:∀A c' w',Row w' (.slice A (xs.length+y.size) c') (xs++y.data.toList)->w.grownBy w' v.ownBlock->((Value.slice A (xs.length+y.size) c').ownBlock=v.ownBlock\/(Value.slice A (xs.length+y.size) c').ownBlock=some w.heap.size)->wpList P ops Q rest (a.put o.dst (.slice A (xs.length+y.size) c')) w'):wpList P ops Q (o :: rest) a w:=
 wpList_plain hgd fun _ hK=>wp_row_str w s x t u ho hinfo ht hu v xs hs hown y hx hb fun A c' w' h1 h2 h3=>hK _ _ (h A c' w' h1 h2 h3)
end
section
variable {P:Program}(w:World)
theorem wp_row{o:Oper}{a:Act}{K:Act->World->Prop}{Q:Exit->Act->World->Prop}(s x:Operand)(t:TypeId)
  (ho:o.op= .call { callee:= .builtin .append,args:= #[s,x],argTypes:= #[t,t] })
  (hinfo:(P.info? 5).map (fun i=>(i.zero,i.size,i.bytes))=some (some (.int .u8 0),1,1)) (ht:P.underlying t=some (.slice 5))
  (v:Value) (xs:List UInt8) (hs:a.eval s=v) (hown:Row w v xs) (g:Nat) (m c:Nat) (ys:List UInt8) (hx:a.eval x= .slice (some ⟨g,0,none⟩) m c) (hl:ys.length=m)
  (hnews:∀j y,ys[j]? =some y->w.cell? ⟨g,j,none⟩=some (.int .u8 (y.toNat:Int))) (hb:xs.length+ys.length<=140737488355328)
  (h:∀A c' w',Row w' (.slice A (xs.length+ys.length) c') (xs++ys)->w.grownBy w' v.ownBlock->((Value.slice A (xs.length+ys.length) c').ownBlock=v.ownBlock\/(Value.slice A (xs.length+ys.length) c').ownBlock=some w.heap.size)->K (a.put o.dst (.slice A (xs.length+ys.length) c')) w'):o.wp P a w K Q:=by
 obtain⟨i,hi,hz,hs1,hb1⟩:=info_parts hinfo
 subst hl
 have hnews':∀j u,(u8s ys)[j]? =some u->w.cell? ((⟨g,0,none⟩:Addr).add j)=some u:=by
  intro j u hu
  rw[u8s_get]at hu
  obtain⟨y,hy,rfl⟩:=Option.map_eq_some_iff.1 hu
  have hadd:(⟨g,0,none⟩:Addr).add j=⟨g,j,none⟩:=by unfold Addr.add;split<;>simp_all
  rw[hadd]
  exact hnews j y hy
 obtain⟨v',w',hr,h1,h2,_,h4⟩:=run_append_own_at (P:=P) w 0 t o.type 5 i (.int .u8 0) 1 1 ht hi hz hs1 hb1 rfl (by decide) v xs.length (u8s xs) hown ⟨g,0,none⟩ ys.length c (u8s ys) (by rw[u8s_length];omega) hnews' (u8s_one ys) (by unfold maxLen;omega) (by omega) (Nat.zero_le _)
 have hrow:Row w' v' (xs++ys):=by
  unfold Row
  rw[List.length_append,u8s_append]
  exact h1
 obtain⟨A,c',hv,_⟩:=hrow.form
 rw[List.length_append]at hv
 subst hv
 unfold Oper.wp execOp
 simp only[ho,resolve,invoke,builtin,Sem.run_bind,Sem.run_pure,Result.andThen_ok,List.map_toArray,List.map_cons,List.map_nil,hs,hx,hr]
 exact h A c' w' hrow h2 h4
theorem wpList_row{ops:Array Oper}{rest:List Oper}{o:Oper}{a:Act}{Q:Exit->Act->World->Prop}(hgd:o.guard=none)(s x:Operand)(t:TypeId)
  (ho:o.op= .call { callee:= .builtin .append,args:= #[s,x],argTypes:= #[t,t] })
  (hinfo:(P.info? 5).map (fun i=>(i.zero,i.size,i.bytes))=some (some (.int .u8 0),1,1)) (ht:P.underlying t=some (.slice 5))
  (v:Value) (xs:List UInt8) (hs:a.eval s=v) (hown:Row w v xs) (g:Nat) (m c:Nat) (ys:List UInt8) (hx:a.eval x= .slice (some ⟨g,0,none⟩) m c) (hl:ys.length=m)
  (hnews:∀j y,ys[j]? =some y->w.cell? ⟨g,j,none⟩=some (.int .u8 (y.toNat:Int))) (hb:xs.length+ys.length<=140737488355328)
  (h:∀A c' w',Row w' (.slice A (xs.length+ys.length) c') (xs++ys)->w.grownBy w' v.ownBlock->((Value.slice A (xs.length+ys.length) c').ownBlock=v.ownBlock\/(Value.slice A (xs.length+ys.length) c').ownBlock=some w.heap.size)->wpList P ops Q rest (a.put o.dst (.slice A (xs.length+ys.length) c')) w'):wpList P ops Q (o :: rest) a w:=
 wpList_plain hgd fun _ hK=>wp_row w s x t ho hinfo ht v xs hs hown g m c ys hx hl hnews hb fun A c' w' h1 h2 h3=>hK _ _ (h A c' w' h1 h2 h3)
theorem step_row{ops:Array Oper}{o:Oper}{a:Act}{K:Act->World->Prop}{Q:Exit->Act->World->Prop}{E:Prop}(hgd:o.guard=none)(s x:Operand)(t:TypeId)
  (ho:o.op= .call { callee:= .builtin .append,args:= #[s,x],argTypes:= #[t,t] })
  (hinfo:(P.info? 5).map (fun i=>(i.zero,i.size,i.bytes))=some (some (.int .u8 0),1,1)) (ht:P.underlying t=some (.slice 5))
  (v:Value) (xs:List UInt8) (hs:a.eval s=v) (hown:Row w v xs) (g:Nat) (m c:Nat) (ys:List UInt8) (hx:a.eval x= .slice (some ⟨g,0,none⟩) m c) (hl:ys.length=m)
  (hnews:∀j y,ys[j]? =some y->w.cell? ⟨g,j,none⟩=some (.int .u8 (y.toNat:Int))) (hb:xs.length+ys.length<=140737488355328)
  (h:∀A c' w',Row w' (.slice A (xs.length+ys.length) c') (xs++ys)->w.grownBy w' v.ownBlock->((Value.slice A (xs.length+ys.length) c').ownBlock=v.ownBlock\/(Value.slice A (xs.length+ys.length) c').ownBlock=some w.heap.size)->K (a.put o.dst (.slice A (xs.length+ys.length) c')) w'):
  if Region.wanted o (yielded ops a.tmps)=true then Oper.wp P o a w K Q else E:=by
 have hw:Region.wanted o (yielded ops a.tmps)=true:=by simp[Region.wanted,hgd]
 rw[if_pos hw]
 exact wp_row w s x t ho hinfo ht v xs hs hown g m c ys hx hl hnews hb h
end
theorem new_u8(w:World)(e:TypeId)(n:Int)(y:UInt8)(h:n=(y.toNat:Int)):∀j z, [y][j]? =some z->(w.alloc (.cells #[.int .u8 n] e)).cell? ⟨w.heap.size,j,none⟩=some (.int .u8 (z.toNat:Int)):=by
 intro j z hz
 have hB:=Blk.new w e #[.int .u8 n]
 cases j with
 | zero=>simp only[List.getElem?_cons_zero,Option.some.injEq]at hz;subst hz;rw[hB.cell 0,h];rfl
 | succ j=>simp at hz
theorem new_u8d(w:World)(e:TypeId)(n:Int)(y:UInt8)(h:n=(y.toNat:Int)):∀j z, [y][j]? =some z->(w.alloc (.cells #[.int .u8 n] e)).drew.cell? ⟨w.heap.size,j,none⟩=some (.int .u8 (z.toNat:Int)):=new_u8 w e n y h
theorem ofNat_u8(n:Nat):(((UInt8.ofNat n).toNat:Nat):Int)=(n:Int) % 256:=by simp
def Pen(w:World)(bp:Nat)(v:Value)(xs:List UInt8):Prop:=Blk w bp 131 #[v]/\Row w v xs
def PenS(bp:Nat)(v:Value)(k:Nat):Prop:=k=bp\/v.ownBlock=some k
structure PenGo(bp:Nat)(v:Value)(w:World)(v':Value)(w':World):Prop where
 touch:Touch (PenS bp v) w w'
 own:v'.ownBlock=v.ownBlock\/∀k,v'.ownBlock=some k->w.heap.size<=k
theorem PenGo.refl(bp:Nat)(v:Value)(w:World):PenGo bp v w v w:=⟨Touch.refl _ _, .inl rfl⟩
theorem PenGo.subS{bp:Nat}{v v1:Value}{w w1:World}(h:PenGo bp v w v1 w1):∀i,i<w.heap.size->PenS bp v1 i->PenS bp v i:=by
 intro i hi hs
 rcases hs with hs | hs
 ·exact .inl hs
 ·rcases h.own with e | e
  ·exact .inr (by rw[<- e];exact hs)
  ·have:=e i hs;omega
theorem PenGo.trans{bp:Nat}{v v1 v2:Value}{w w1 w2:World}(h:PenGo bp v w v1 w1)(k:PenGo bp v1 w1 v2 w2):PenGo bp v w v2 w2:=by
 refine⟨h.touch.trans k.touch h.subS, ?_⟩
 rcases k.own with e | e
 ·rw[e];exact h.own
 ·exact .inr fun i hi=>Nat.le_trans h.touch.size (e i hi)
theorem pen_app{w w1 w2:World}{bp:Nat}{v:Value}{xs zs:List UInt8}{A:Option Addr}{n c:Nat}(hp:Pen w bp v xs)(ht:Touch (PenS bp v) w w1)(hB:Blk w1 bp 131 #[v])(hr:Row w2 (.slice A n c) zs)
  (hg:w1.grownBy w2 v.ownBlock) (ho:(Value.slice A n c).ownBlock=v.ownBlock\/(Value.slice A n c).ownBlock=some w1.heap.size):
  Pen (w2.setCell ⟨bp,0,none⟩ (.slice A n c)) bp (.slice A n c) zs/\PenGo bp v w (.slice A n c) (w2.setCell ⟨bp,0,none⟩ (.slice A n c)):=by
 have hne:v.ownBlock≠some bp:=hp.2.ne_blk hp.1 (by decide)
 have hB2:Blk w2 bp 131 #[v]:=hB.grown hg (fun e=>hne e.symm)
 have hne2:(Value.slice A n c).ownBlock≠some bp:=hr.ne_blk hB2 (by decide)
 refine⟨⟨?_,hr.far hne2 _⟩, ?_, ?_⟩
 ·have:=hB2.set_ 0 (.slice A n c)
  simpa using this
 ·exact(ht.grown hg (fun k hk=> .inr (.inr hk))).setCell (p:=⟨bp,0,none⟩) (.inr (.inl rfl)) _
 ·rcases ho with e | e
  ·exact .inl e
  ·refine .inr fun k hk=> ?_
   rw[e]at hk
   injection hk with hk
   have:=ht.size
   omega
def stop0:PanicEntry:={ v:= .iface 133 (.agg #[.int .i64 0]),recovered:=false }
def PenEnd(bp:Nat)(v:Value)(xs:List UInt8)(w:World)(r:Enc.Enc)(e:Ending)(w':World):Prop:=
 match r with
 | some ys=>e= .returned (.tuple #[])/\∃v',Pen w' bp v' (xs++ys)/\PenGo bp v w v' w'
 | none=>e= .panicked [stop0]/\Touch (PenS bp v) w w'
theorem number_no(bp:Nat)(v:Value)(xs:List UInt8)(n lo hi:Int)(w:World)(h:n<lo\/hi<n):
  Calls Tryz.prog 110 #[.pointer (some ⟨bp,0,none⟩), .int .i64 n, .int .i64 lo, .int .i64 hi] w (PenEnd bp v xs w none):=by
 rcases h with h | h
 ·go_enter Tryz.func110,Tryz.ntmps110
  go_wp2
  exact⟨rfl,rfl,Touch.refl _ _⟩
 ·go_enter Tryz.func110,Tryz.ntmps110
  go_wp2
  all_goals exact⟨rfl,rfl,Touch.refl _ _⟩
theorem shr_byte(n k:Nat):IntKind.u8.wrap ((n:Int) / 2 ^ (8*(k:Int)).toNat)=(((UInt8.ofNat (n / 2 ^ (8*k))).toNat:Nat):Int):=by
 rw[ofNat_u8,IntKind.wrap_u8,show (8*(k:Int)).toNat=8*k from by omega]
 simp only[Int.natCast_ediv,Int.natCast_pow,Int.cast_ofNat_Int]
theorem number_yes(bp:Nat)(v:Value)(xs:List UInt8)(n:Nat)(lo hi:Int)(w:World)(h1:lo<=(n:Int))(h2:(n:Int)<=hi)(h3:hi<=4503599627370496)
  (hp:Pen w bp v xs) (hb:xs.length<=140737488355000):
  Calls Tryz.prog 110 #[.pointer (some ⟨bp,0,none⟩), .int .i64 n, .int .i64 lo, .int .i64 hi] w (PenEnd bp v xs w (some (Enc.numB n))):=by
 have hc:=hp.1.cell 0
 have hf:=hp.1.frozen 0
 simp only[List.getElem?_toArray,List.getElem?_cons_zero]at hc
 have hns:=Enc.nsz_7 (n:=n) (by omega)
 have HP:=zh hp;clear hp
 go_enter Tryz.func110,Tryz.ntmps110
 go_wp2
 go_loop [8] (fun s=>∃k:Nat,k<=Enc.nsz n/\s= .int .i64 k) (fun s=>7-(intOf s).toNat)
 case atStart=>exact⟨0,by omega,rfl⟩
 case round=>
  obtain⟨k,hk,rfl⟩:=hrel
  have hiff:=Enc.lt_nsz n k
  by_cases hlt:k<Enc.nsz n
  ·have hpos:0<(n:Int) / 2 ^ (8*k):=by
    have:=hiff.1 hlt
    exact_mod_cast this
   clear hiff
   go_wp2
   go_round
   case rel=>exact⟨k+1,by omega,by go_num⟩
   case measure=>simp[intOf];omega
  ·have hpos:¬ 0<(n:Int) / 2 ^ (8*k):=by
    have:=fun h=>hlt (hiff.2 h)
    intro h;apply this;exact_mod_cast h
   obtain rfl:k=Enc.nsz n:=by omega
   clear hiff
   have hnu:((Enc.nsz n:Nat):Int)=(((UInt8.ofNat (Enc.nsz n)).toNat:Nat):Int):=by rw[ofNat_u8];omega
   have HNU:=zh hnu;clear hnu
   have hne:v.ownBlock≠some bp:=HP.out.2.ne_blk HP.out.1 (by decide)
   have HNE:=zh hne;clear hne
   go_wp2_with (at_builtin;(refine wpList_row _ rfl _ _ 29 rfl Tryz.info5 Tryz.underlying29 v xs rfl (HP.out.2.alloc _) w.heap.size 1 1 [UInt8.ofNat (Enc.nsz n)] rfl rfl (new_u8 w _ _ _ HNU.out) (by simp only[List.length_singleton];omega) ?_);intro A1 c1 w1 hr1 hg1 ho1;have hB1:=(HP.out.1.alloc (.cells #[.int .u8 (Enc.nsz n:Int)] 5)).grown hg1 (fun e=>HNE.out e.symm);have hc1:=hB1.cell 0;have hf1:=hB1.frozen 0;simp only[List.getElem?_toArray,List.getElem?_cons_zero]at hc1)
   have hpa:=pen_app HP.out ((Touch.refl _ w).alloc _) (HP.out.1.alloc _) hr1 hg1 ho1
   clear hf1 hc1 hB1 ho1 hg1 hr1
   generalize hwx:w1.setCell { block:=bp,off:=0 } (Value.slice A1 (xs.length+ [UInt8.ofNat (Enc.nsz n)].length) c1)=wx at*
   clear hwx
   go_loopw [8] (fun s wr=>∃j:Nat,j<=Enc.nsz n/\s= .int .i64 j/\∃(ys:List UInt8) (u:Value),xs++Enc.numB n=ys++Enc.be j n/\ys.length<=xs.length+9/\Pen wr bp u ys/\PenGo bp v w u wr) (fun s _=>(intOf s).toNat)
   case atStart=>exact⟨_,Nat.le_refl _,rfl,xs++ [UInt8.ofNat (Enc.nsz n)],_,by simp[Enc.numB],by simp,hpa.1,hpa.2⟩
   case round=>
    obtain⟨j,hj,rfl,ys,u,hys,hyl,hpu,hgu⟩:=hrel
    have hcu:=hpu.1.cell 0
    have hfu:=hpu.1.frozen 0
    simp only[List.getElem?_toArray,List.getElem?_cons_zero]at hcu
    have HPU:=zh hpu;clear hpu
    have HYS:=zh hys;clear hys
    rcases Nat.eq_zero_or_pos j with h0 | h0
    ·subst h0
     go_wp2
     go_end0
     refine⟨rfl,u, ?_,hgu⟩
     have h0:=HYS.out
     simp only[Enc.be,List.append_nil]at h0
     rw[h0]
     exact HPU.out
    ·obtain⟨k,rfl⟩:∃k,j=k+1:=⟨j-1,by omega⟩
     go_wp2
     have hcu2:∀o,(wr.alloc o).cell? ⟨bp,0,none⟩=some u:=fun o=>(HPU.out.1.alloc o).cell 0
     have hneu:u.ownBlock≠some bp:=HPU.out.2.ne_blk HPU.out.1 (by decide)
     have HNU2:=zh hneu;clear hneu
     have hmul:IntKind.i64.wrap (8*(k:Int))=8*(k:Int):=IntWalk.i64_in _ (by omega)
     have hsh:=shift_shr IntKind.i64 IntKind.i64 (n:Int) (8*(k:Int)) (by omega) (by simp[IntKind.bits];omega)
     simp only[show ((8:Int)*(k:Int)).toNat=8*k from by omega]at hsh
     go_region_law ((refine step_row _ rfl _ _ 29 rfl Tryz.info5 Tryz.underlying29 u ys rfl (by exact HPU.out.2.drew.alloc _) wr.heap.size 1 1 [UInt8.ofNat (n / 2 ^ (8*k))] rfl rfl ?_ (by simp only[List.length_singleton];omega) ?_;exact new_u8d _ _ _ _ (shr_byte n k);intro A2 c2 w2 hr2 hg2 ho2;have hB2:Blk w2 bp 131 #[u]:=(HPU.out.1.alloc _).drew.grown hg2 (fun e=>HNU2.out e.symm);have hc2:=hB2.cell 0;have hf2:=hB2.frozen 0;simp only[List.getElem?_toArray,List.getElem?_cons_zero]at hc2))
     all_goals
      have hpb:=pen_app HPU.out (((Touch.refl _ wr).alloc _).drew) (HPU.out.1.alloc _).drew hr2 hg2 ho2
      clear hf2 hc2 hB2 ho2 hg2 hr2
      go_roundw
      case rel=>
       repeat apply Exists.intro
       refine⟨⟨k,by omega,rfl,ys++ [UInt8.ofNat (n / 2 ^ (8*k))],_, ?_, ?_,hpb.1,hgu.trans hpb.2⟩,rfl⟩
       ·rw[HYS.out];simp[Enc.be]
       ·have h0:=congrArg List.length HYS.out
        simp only[List.length_append,Enc.numB_length,Enc.be_length]at h0
        simp only[List.length_append,List.length_singleton];omega
      case measure=>simp[intOf]<;>omega
theorem number_any(bp:Nat)(v:Value)(xs:List UInt8)(n lo hi:Int)(w:World)(h1:0<=lo)(h3:hi<=4503599627370496)(hp:Pen w bp v xs)(hb:xs.length<=140737488355000):
  Calls Tryz.prog 110 #[.pointer (some ⟨bp,0,none⟩), .int .i64 n, .int .i64 lo, .int .i64 hi] w (PenEnd bp v xs w (Enc.number n lo hi)):=by
 unfold Enc.number
 by_cases h:n<lo\/hi<n
 ·rw[if_pos h]
  exact number_no bp v xs n lo hi w h
 ·rw[if_neg h]
  obtain⟨m,rfl⟩:=Int.eq_ofNat_of_zero_le (show 0<=n by omega)
  rw[Int.toNat_natCast]
  exact number_yes bp v xs m lo hi w (by omega) (by omega) h3 hp hb
theorem PenEnd.ret{bp:Nat}{v:Value}{xs ys:List UInt8}{w w':World}{r:Enc.Enc}(hr:r=some ys)(h:∃v',Pen w' bp v' (xs++ys)/\PenGo bp v w v' w'):PenEnd bp v xs w r (.returned (.tuple #[])) w':=hr ▸ ⟨rfl,h⟩
theorem PenEnd.pan{bp:Nat}{v:Value}{xs:List UInt8}{w w':World}{r:Enc.Enc}(hr:r=none)(h:Touch (PenS bp v) w w'):PenEnd bp v xs w r (.panicked [stop0]) w':=hr ▸ ⟨rfl,h⟩
theorem PenEnd.cases{bp:Nat}{v:Value}{xs:List UInt8}{w w':World}{r:Enc.Enc}{e:Ending}(h:PenEnd bp v xs w r e w'):
  (r=none/\e= .panicked [stop0]/\Touch (PenS bp v) w w')\/(∃ys v',r=some ys/\e= .returned (.tuple #[])/\Pen w' bp v' (xs++ys)/\PenGo bp v w v' w'):=by
 cases r with
 | none=>exact .inl ⟨rfl,h.1,h.2⟩
 | some ys=>
  obtain⟨h1,v',h2,h3⟩:=h
  exact .inr ⟨ys,v',rfl,h1,h2,h3⟩
theorem plain_any(bp:Nat)(v:Value)(xs:List UInt8)(n:Int)(w:World)(hp:Pen w bp v xs)(hb:xs.length<=140737488355000):
  Calls Tryz.prog 74 #[.pointer (some ⟨bp,0,none⟩), .int .i64 n] w (PenEnd bp v xs w (Enc.plain n)):=by
 have HK:=zh (number_any bp v xs n 0 4503599627370496 w (by omega) (by omega) hp hb)
 clear hp
 go_enter Tryz.func74,Tryz.ntmps74
 go_wp2_with fail
 refine HK.out.mono ?_
 intro e w1 h
 rcases h.cases with⟨hr,rfl,ht⟩ | ⟨ys,v1,hr,rfl,hp1,hg1⟩
 ·exact⟨rfl,PenEnd.pan hr ht⟩
 ·have HR:=zh hr;clear hr h
  have HP1:=zh hp1;clear hp1
  have HG1:=zh hg1;clear hg1
  go_wp2_with fail
  go_end0
  exact PenEnd.ret HR.out ⟨v1,HP1.out,HG1.out⟩
theorem text_any(bp:Nat)(v:Value)(xs:List UInt8)(s:ByteArray)(w:World)(hp:Pen w bp v xs)(hb:xs.length+min s.size 1048576+400<=140737488355328)(hs:s.size<=maxLen):
  Calls Tryz.prog 75 #[.pointer (some ⟨bp,0,none⟩), .string s] w (PenEnd bp v xs w (Enc.text s.data.toList)):=by
 have hsl:s.data.toList.length=s.size:=by rw[Array.length_toList];rfl
 have HK:=zh (number_any bp v xs s.size 0 1048576 w (by omega) (by omega) hp (by omega))
 unfold maxLen at hs
 have HSL:=zh hsl;clear hp hsl
 go_enter Tryz.func75,Tryz.ntmps75
 go_wp2_with fail
 refine HK.out.mono ?_
 intro e w1 h
 rcases h.cases with⟨hr,rfl,ht⟩ | ⟨ys,v1,hr,rfl,hp1,hg1⟩
 ·refine⟨rfl,PenEnd.pan ?_ ht⟩
  unfold Enc.text
  rw[HSL.out,hr];rfl
 ·have hle:s.size<=1048576:=by
   unfold Enc.number at hr
   split at hr
   ·cases hr
   ·omega
  have hyl:=Enc.number_size (by omega) hr
  have HR:=zh hr;clear hr h
  have hc1:=hp1.1.cell 0
  have hf1:=hp1.1.frozen 0
  simp only[List.getElem?_toArray,List.getElem?_cons_zero]at hc1
  have HP1:=zh hp1;clear hp1
  have HG1:=zh hg1;clear hg1
  have hne:v1.ownBlock≠some bp:=HP1.out.2.ne_blk HP1.out.1 (by decide)
  have HNE:=zh hne;clear hne
  go_wp2_with (at_builtin;refine wpList_row_str _ rfl _ _ 29 9 rfl Tryz.info5 Tryz.underlying29 Tryz.underlying9 v1 (xs++ys) rfl HP1.out.2 s rfl (by simp only[List.length_append];omega) ?_;intro A2 c2 w2 hr2 hg2 ho2;have hB2:=HP1.out.1.grown hg2 (fun e=>HNE.out e.symm);have hc2:=hB2.cell 0;have hf2:=hB2.frozen 0;simp only[List.getElem?_toArray,List.getElem?_cons_zero]at hc2)
  have hpb:=pen_app HP1.out (Touch.refl _ w1) HP1.out.1 hr2 hg2 ho2
  clear hf2 hc2 hB2 ho2 hg2 hr2 hc1 hf1
  go_end0
  simp only[List.length_append]at hpb
  refine PenEnd.ret (ys:=ys++s.data.toList) ?_ ⟨_,by rw[<- List.append_assoc];exact hpb.1,HG1.out.trans hpb.2⟩
  unfold Enc.text
  rw[HSL.out,HR.out];rfl
theorem catAll_none{l:List Enc.Enc}(h:none∈l):Enc.catAll l=none:=by
 induction l with
 | nil=>cases h
 | cons a l ih=>
  rcases List.mem_cons.1 h with e | e
  ·subst e;rfl
  ·simp only[Enc.catAll,ih e,Enc.cat_none_r]
theorem text_size{s y:List UInt8}(h:Enc.text s=some y):y.length<=1048584:=by
 unfold Enc.text at h
 cases hn:Enc.number s.length 0 1048576 with
 | none=>rw[hn]at h;cases h
 | some b=>
  have h1:=Enc.number_size (by omega) hn
  rw[hn]at h
  simp only[Enc.cat_some,Option.map_some,Option.some.injEq]at h
  unfold Enc.number at hn
  split at hn
  ·cases hn
  ·subst h;simp only[List.length_append];omega
theorem catch_idle(p q:Addr)(w:World):
  CallsD Tryz.prog 109 #[.pointer (some p), .pointer (some q)] .returning w fun e u' w'=>e= .returned (.tuple #[])/\u'= .returning/\w'=w:=by
 refine callsD_of_wpS Tryz.func109 rfl fun c₀ cs hu=> ?_
 apply wpS_seq
 apply wpS_region
 simp[wpOpsS,go_sem,recoverD,hu,Tryz.ntmps109,Exit.thenS]
 refine wpS_of_wp ?_
 have heq:∀w,(binOp .eql 20 .nilIface .nilIface).run Tryz.prog w= .ok (.bool true) w:=fun _=>by kernel_rfl
 go_wp2
 cases c₀
 simp_all [bodyPostS,results,Tryz.results109]
theorem catch_stop(pb qb:Nat)(v:Value)(n:Int)(older:List PanicEntry)(w:World)(hp:Blk w pb 29 #[v])(hq:Blk w qb 40 #[.int .i64 n]):
  CallsD Tryz.prog 109 #[.pointer (some ⟨pb,0,none⟩), .pointer (some ⟨qb,0,none⟩)] (.panicking (stop0 :: older)) w fun e u' w'=>
   e= .returned (.tuple #[])/\u'= .panicking ({ stop0 with recovered:=true } :: older)/\Touch (fun k=>k=pb\/k=qb) w w'/\Blk w' pb 29 #[.slice none 0 0]/\Blk w' qb 40 #[.int .i64 2]:=by
 have hne:pb≠qb:=hp.ne_ hq (by decide)
 have hc1:∀o,(w.alloc o).cell? ⟨pb,0,none⟩=some v:=fun o=>(hp.alloc o).cell 0
 have hf1:∀o,(w.alloc o).frozen? ⟨pb,0,none⟩=false:=fun o=>(hp.alloc o).frozen 0
 have hc2:∀o,(w.alloc o).cell? ⟨qb,0,none⟩=some (.int .i64 n):=fun o=>(hq.alloc o).cell 0
 have hf2:∀o,(w.alloc o).frozen? ⟨qb,0,none⟩=false:=fun o=>(hq.alloc o).frozen 0
 refine callsD_of_wpS Tryz.func109 rfl fun c₀ cs hu=> ?_
 apply wpS_seq
 apply wpS_region
 simp[wpOpsS,go_sem,recoverD,hu,Tryz.ntmps109,Exit.thenS,stop0]
 refine wpS_of_wp ?_
 have heq:∀w,(binOp .eql 20 (.iface 133 (.agg #[.int .i64 0])) .nilIface).run Tryz.prog w= .ok (.bool false) w:=fun _=>by kernel_rfl
 have hta:∀w,(Instr.typeAssert (.iface 133 (.agg #[.int .i64 0])) 20 133 true).run Tryz.prog w= .ok (.tuple #[.agg #[.int .i64 0], .bool true]) w:=fun _=>by kernel_rfl
 have HP:=zh hp;clear hp
 have HQ:=zh hq;clear hq
 go_wp2
 have HW:Touch (fun k=>k=pb\/k=qb) w (((w.alloc (Obj.cells #[Value.int IntKind.i64 0] 133)).setCell { block:=pb,off:=0 } (Value.slice none 0 0)).setCell { block:=qb,off:=0 } (Value.int IntKind.i64 2))/\
   Blk (((w.alloc (Obj.cells #[Value.int IntKind.i64 0] 133)).setCell { block:=pb,off:=0 } (Value.slice none 0 0)).setCell { block:=qb,off:=0 } (Value.int IntKind.i64 2)) pb 29 #[.slice none 0 0]/\
   Blk (((w.alloc (Obj.cells #[Value.int IntKind.i64 0] 133)).setCell { block:=pb,off:=0 } (Value.slice none 0 0)).setCell { block:=qb,off:=0 } (Value.int IntKind.i64 2)) qb 40 #[.int .i64 2]:=
  ⟨(((Touch.refl _ w).alloc _).setCell (p:=⟨pb,0,none⟩) (.inr (.inl rfl)) _).setCell (p:=⟨qb,0,none⟩) (.inr (.inr rfl)) _,
   ((HP.out.alloc _).set_ 0 _).far (p:=⟨qb,0,none⟩) hne _,((HQ.out.alloc _).far (p:=⟨pb,0,none⟩) hne.symm _).set_ 0 _⟩
 clear hc1 hf1 hc2 hf2
 generalize (((w.alloc (Obj.cells #[Value.int IntKind.i64 0] 133)).setCell { block:=pb,off:=0 } (Value.slice none 0 0)).setCell { block:=qb,off:=0 } (Value.int IntKind.i64 2))=W at*
 exact⟨rfl,_,rfl,_,results_none rfl _ _ _,rfl,rfl,HW⟩
def EncEnd(w:World)(r:Enc.Enc)(e:Ending)(w':World):Prop:=
 match r with
 | some ys=>∃A c,e= .returned (.tuple #[.slice A ys.length c, .int .i64 0])/\Row w' (.slice A ys.length c) ys/\(∀k,(Value.slice A ys.length c).ownBlock=some k->w.heap.size<=k)/\Fresh w w'
 | none=>e= .returned (.tuple #[.slice none 0 0, .int .i64 2])/\Fresh w w'
theorem written_any(fid:Nat)(caps:Array Value)(r:Enc.Enc)(w:World)(hent:∀(args:Array Value) (w:World),(callFunc fid args).run Tryz.prog w= .ok (.enter fid args) w)
  (hf:∀w1 bp,Fresh w w1->w.heap.size<bp->Pen w1 bp (.slice none 0 0) []->Calls Tryz.prog fid (#[.pointer (some ⟨bp,0,none⟩)]++caps) w1 (PenEnd bp (.slice none 0 0) [] w1 r)):
  Calls Tryz.prog 72 #[.func (.func fid) #[] caps] w (EncEnd w r):=by
 have hmf:∀(fn:Fn) (first cap:Array Value) (w:World),(Instr.makeFunc fn first cap).run Tryz.prog w= .ok (.func fn first cap) w:=fun _ _ _ _=>rfl
 have HF:=zh hf;clear hf
 go_enter_defers Tryz.func72,Tryz.ntmps72
 go_wp2_with fail
 have hfr:Fresh w (((w.alloc (Obj.cells #[Value.slice none 0 0] 29)).alloc (Obj.cells #[Value.int IntKind.i64 0] 40)).alloc (Obj.cells #[Value.slice none 0 0] 131)):=(((Touch.refl _ w).alloc _).alloc _).alloc _
 have hB1:=((Blk.new w 29 #[Value.slice none 0 0]).alloc (Obj.cells #[Value.int IntKind.i64 0] 40)).alloc (Obj.cells #[Value.slice none 0 0] 131)
 have hB2:=(Blk.new (w.alloc (Obj.cells #[Value.slice none 0 0] 29)) 40 #[Value.int IntKind.i64 0]).alloc (Obj.cells #[Value.slice none 0 0] 131)
 have hB3:=Blk.new ((w.alloc (Obj.cells #[Value.slice none 0 0] 29)).alloc (Obj.cells #[Value.int IntKind.i64 0] 40)) 131 #[Value.slice none 0 0]
 simp only[World.size_alloc]at hB1 hB2 hB3
 have hsz:w.heap.size+1+1+1=(((w.alloc (Obj.cells #[Value.slice none 0 0] 29)).alloc (Obj.cells #[Value.int IntKind.i64 0] 40)).alloc (Obj.cells #[Value.slice none 0 0] 131)).heap.size:=by simp
 generalize (((w.alloc (Obj.cells #[Value.slice none 0 0] 29)).alloc (Obj.cells #[Value.int IntKind.i64 0] 40)).alloc (Obj.cells #[Value.slice none 0 0] 131))=w1 at*
 refine(HF.out w1 (w.heap.size+1+1) hfr (by omega) ⟨hB3,Row.nil_ _⟩).mono ?_
 have hnS:∀k,k<w.heap.size+1+1->¬PenS (w.heap.size+1+1) (.slice none 0 0) k:=by
  intro k hk hs
  rcases hs with hs | hs
  ·omega
  ·simp[Value.ownBlock]at hs
 intro e w2 h
 rcases h.cases with⟨hr,rfl,ht⟩ | ⟨ys,v1,hr,rfl,hp1,hg1⟩
 ·have hB1':=hB1.touch ht (hnS _ (by omega))
  have hB2':=hB2.touch ht (hnS _ (by omega))
  refine leaves_cons (f:=109) (args:= #[.pointer (some ⟨w.heap.size,0,none⟩), .pointer (some ⟨w.heap.size+1,0,none⟩)]) (by simp) (by simp[go_sem]) ?_
  refine(catch_stop (w.heap.size) (w.heap.size+1) (.slice none 0 0) 0 [] w2 hB1' hB2').mono ?_
  rintro e u' w3 ⟨rfl,rfl,ht3,hb1,hb2⟩
  have hc1:=hb1.cell 0
  have hc2:=hb2.cell 0
  have hfin:Fresh w w3:=(hfr.trans ht (fun i hi hs=>hnS i (by omega) hs)).trans ht3 (fun i hi hs=>by rcases hs with hs | hs<;>omega)
  have HFIN:EncEnd w r (.returned (.tuple #[.slice none 0 0, .int .i64 2])) w3:=by rw[hr];exact⟨rfl,hfin⟩
  simp only[List.getElem?_toArray,List.getElem?_cons_zero]at hc1 hc2
  simpa [Leaves,settle,results,Tryz.results72,go_sem,hc1,hc2] using HFIN
 ·have hB1':=hB1.touch hg1.touch (hnS _ (by omega))
  have hB2':=hB2.touch hg1.touch (hnS _ (by omega))
  have hsz2:=hg1.touch.size
  have hfin:Fresh w w2:=hfr.trans hg1.touch (fun i hi hs=>hnS i (by omega) hs)
  have hnew:∀k,v1.ownBlock=some k->w.heap.size+1+1+1<=k:=by
   intro k hk
   rcases hg1.own with e | e
   ·rw[e]at hk;simp[Value.ownBlock]at hk
   ·have:=e k hk;omega
  obtain⟨A,c,rfl,_⟩:=hp1.2.form
  have hfin2:∀u,Fresh w ((w2.setCell ⟨w.heap.size,0,none⟩ (.slice A ([]++ys).length c)).setCell ⟨w.heap.size+1,0,none⟩ u):=fun u=>(hfin.setCell (p:=⟨w.heap.size,0,none⟩) (.inl (Nat.le_refl _)) _).setCell (p:=⟨w.heap.size+1,0,none⟩) (.inl (by simp)) _
  have hrow2:∀u,Row ((w2.setCell ⟨w.heap.size,0,none⟩ (.slice A ([]++ys).length c)).setCell ⟨w.heap.size+1,0,none⟩ u) (.slice A ([]++ys).length c) ys:=fun u=>
   (hp1.2.far (p:=⟨w.heap.size,0,none⟩) (fun e=>by have:=hnew _ e;simp at this;omega) _).far (p:=⟨w.heap.size+1,0,none⟩) (fun e=>by have:=hnew _ e;simp at this;omega) _
  have HR:=zh hr
  have HFIN:=zh hfin2
  have HROW:=zh hrow2
  have HNEW:=zh hnew
  have hc1:=hB1'.cell 0
  have hc2:=hB2'.cell 0
  have hc3:=hp1.1.cell 0
  have hf1:=hB1'.frozen 0
  have hf2:=hB2'.frozen 0
  simp only[List.getElem?_toArray,List.getElem?_cons_zero]at hc1 hc2 hc3
  clear hr h hfin2 hrow2 hnew hB1 hB2 hB3 hfr hfin hg1 hp1 hB1' hB2' hnS hmf hent
  go_wp2_with fail
  refine leaves_cons (f:=109) (args:= #[.pointer (some ⟨w.heap.size,0,none⟩), .pointer (some ⟨w.heap.size+1,0,none⟩)]) (by simp) (by simp[go_sem]) ?_
  refine(catch_idle _ _ _).mono ?_
  rintro e u' w3 ⟨rfl,rfl,rfl⟩
  have HEND:EncEnd w r (.returned (.tuple #[.slice A ys.length c, .int .i64 0])) ((w2.setCell ⟨w.heap.size,0,none⟩ (.slice A ys.length c)).setCell ⟨w.heap.size+1,0,none⟩ (.int .i64 0)):=by
   rw[HR.out]
   exact⟨A,c,rfl,HROW.out _,fun k hk=>by have:=HNEW.out k hk;omega,HFIN.out _⟩
  simpa [Leaves,settle,results,Tryz.results72,go_sem,hc1,hc2] using HEND
theorem EncEnd.of_alloc{w:World}{o:Obj}{r:Enc.Enc}{e:Ending}{w':World}(h:EncEnd (w.alloc o) r e w'):EncEnd w r e w':=by
 have ht:Fresh w (w.alloc o):=(Touch.refl _ w).alloc o
 cases r with
 | none=>exact⟨h.1,ht.trans h.2 fun _ _=>id⟩
 | some ys=>
  obtain⟨A,c,h1,h2,h3,h4⟩:=h
  exact⟨A,c,h1,h2,fun k hk=>by have:=h3 k hk;simp at this;omega,ht.trans h4 fun _ _=>id⟩
theorem EncEnd.cases{w:World}{r:Enc.Enc}{e:Ending}{w':World}(h:EncEnd w r e w'):
  (r=none/\e= .returned (.tuple #[.slice none 0 0, .int .i64 2])/\Fresh w w')\/
  (∃ys A c,r=some ys/\e= .returned (.tuple #[.slice A ys.length c, .int .i64 0])/\Row w' (.slice A ys.length c) ys/\(∀k,(Value.slice A ys.length c).ownBlock=some k->w.heap.size<=k)/\Fresh w w'):=by
 cases r with
 | none=>exact .inl ⟨rfl,h.1,h.2⟩
 | some ys=>
  obtain⟨A,c,h1,h2,h3,h4⟩:=h
  exact .inr ⟨ys,A,c,rfl,h1,h2,h3,h4⟩
theorem EncEnd.no{w w':World}{r:Enc.Enc}(hr:r=none)(h:Fresh w w'):EncEnd w r (.returned (.tuple #[.slice none 0 0, .int .i64 2])) w':=hr ▸ ⟨rfl,h⟩
theorem EncEnd.yes{w w':World}{r:Enc.Enc}{ys:List UInt8}{A:Option Addr}{c:Nat}(hr:r=some ys)(h1:Row w' (.slice A ys.length c) ys)(h2:∀k,(Value.slice A ys.length c).ownBlock=some k->w.heap.size<=k)(h:Fresh w w'):
  EncEnd w r (.returned (.tuple #[.slice A ys.length c, .int .i64 0])) w':=hr ▸ ⟨A,c,rfl,h1,h2,h⟩
theorem numberE1_any(bp be:Nat)(n:Int)(w:World)(hp:Pen w bp (.slice none 0 0) [])(he:Blk w be 3 #[.int .i64 n]):
  Calls Tryz.prog 139 #[.pointer (some ⟨bp,0,none⟩), .pointer (some ⟨be,0,none⟩)] w (PenEnd bp (.slice none 0 0) [] w (Enc.numberE n)):=by
 have hne:be≠bp:=he.ne_ hp.1 (by decide)
 have HNE:=zh hne
 have hnS:∀(v:Value) (ys:List UInt8) (w':World),Row w' v ys->Blk w' be 3 #[.int .i64 n]->¬PenS bp v be:=by
  intro v ys w' hr hb hs
  rcases hs with hs | hs
  ·exact HNE.out hs
  ·exact hr.ne_blk hb (by decide) hs
 have HNS:=zh hnS
 clear hne hnS
 have HP0:=zh hp;clear hp
 have HE0:=zh he;clear he
 have HG0:Hid (PenGo bp (.slice none 0 0) w (.slice none 0 0) w):=PenGo.refl _ _ _
 have HA0:Hid (Enc.nil0=some ([]:List UInt8)):=zh rfl
 go_enter Tryz.func139,Tryz.ntmps139
 have hc0_0:w.cell? ⟨be,0,none⟩=some (.int .i64 n):=HE0.out.cell 0
 go_wp2_with fail
 refine(plain_any bp (.slice none 0 0) [] n w HP0.out (by simp only[List.length_nil];omega)).mono ?_
 intro e w1 h
 rcases h.cases with⟨hr,rfl,ht⟩ | ⟨y0,v1,hr,rfl,hp,hg⟩
 ·exact⟨rfl,PenEnd.pan (by show Enc.numberE n=none;unfold Enc.numberE;rw[HA0.out,show Enc.plain n=none from hr];rfl) (HG0.out.touch.trans ht HG0.out.subS)⟩
 have hl0:=Enc.plain_size hr
 replace hr:Enc.plain n=some y0:=hr
 obtain⟨a1,ha⟩:∃a,a= []++y0:=⟨_,rfl⟩
 have hal1:a1.length=0+y0.length:=by rw[ha,List.length_append,List.length_nil]
 have HA1:=zh (show Enc.cat (Enc.nil0) (Enc.plain n)=some a1 by rw[HA0.out,hr,ha];rfl)
 have hab1:a1.length<=8:=by omega
 rw[<- ha]at hp
 have HP1:=zh hp
 have HG1:=zh (HG0.out.trans hg)
 have HE1:=zh (HE0.out.touch hg.touch (HNS.out _ _ _ HP0.out.2 HE0.out))
 clear hp hg hr ha h hl0 hal1
 clear hc0_0
 go_wp2_with fail
 go_end0
 exact PenEnd.ret (ys:=a1) (by show Enc.numberE n= _;unfold Enc.numberE;exact HA1.out) ⟨v1,by rw[List.nil_append];exact HP1.out,HG1.out⟩
theorem numberE_any(n:Int)(w:World):Calls Tryz.prog 108 #[.int .i64 n] w (EncEnd w (Enc.numberE n)):=by
 have hmf:∀(fn:Fn) (first cap:Array Value) (w:World),(Instr.makeFunc fn first cap).run Tryz.prog w= .ok (.func fn first cap) w:=fun _ _ _ _=>rfl
 have HK:=zh (written_any 139 #[.pointer (some ⟨w.heap.size,0,none⟩)] (Enc.numberE n) (w.alloc (.cells #[.int .i64 n] 3)) (fun args w=>by simp[go_sem])
  (fun w1 bp hf _ hp=>by simpa using numberE1_any bp w.heap.size n w1 hp ((Blk.new w _ _).touch hf id)))
 go_enter Tryz.func108,Tryz.ntmps108
 go_wp2_with fail
 refine HK.out.mono ?_
 intro e w1 h
 rcases h.of_alloc.cases with⟨hr,rfl,ht⟩ | ⟨ys,A,c,hr,rfl,hrow,hnew,ht⟩
 ·have HR:=zh hr;clear hr h
  have HT:=zh ht;clear ht
  go_wp2_with fail
  go_ret2
  exact EncEnd.no HR.out HT.out
 ·have HR:=zh hr;clear hr h
  have HT:=zh ht;clear ht
  have HROW:=zh hrow;clear hrow
  have HNEW:=zh hnew;clear hnew
  go_wp2_with fail
  go_ret2
  exact EncEnd.yes HR.out HROW.out HNEW.out HT.out
end Go.Proofs.YtjehlgblkfofpaaGreat