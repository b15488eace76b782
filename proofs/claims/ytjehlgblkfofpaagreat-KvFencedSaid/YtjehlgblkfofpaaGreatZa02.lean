/- The claims' texts, several in one: Own, Keep, Map, Disk, Mb. Conditions stand with each theorem. -/
import Derived.Test.YtjehlgblkfofpaaGreatZa01
import Derived.Deep.Upon
import Derived.Laws.OwnMore
import Derived.Laws.BytesArg
import Derived.WalkSpells
import Derived.Maps.OwnSet
import Derived.Maps.OwnOps
set_option maxHeartbeats 1000000
set_option maxRecDepth 20000
namespace Go.Proofs.YtjehlgblkfofpaaGreat
open Go.RowKit
theorem alloc_size(w:World)(o:Obj):(w.alloc o).heap.size=w.heap.size+1:=by simp
theorem add_flat(b o j:Nat):(⟨b,o,none⟩:Addr).add j=⟨b,o+j,none⟩:=by unfold Addr.add;split<;>simp_all
def Own(w:World)(e:TypeId)(size:Nat)(v:Value)(n:Nat)(xs:List Value):Prop:=
 xs.length=n*size/\((v= .slice none 0 0/\n=0)\/
  ∃g cap cur,v= .slice (some ⟨g,0,none⟩) n cap/\w.heap[g]? =some (.cells cur e (0,0))/\n<=cap/\cap<=maxLen/\cap*size<=cur.size/\cur.toList.take (n*size)=xs)
section
variable {w w':World}{e:TypeId}{size n:Nat}{v:Value}{xs:List Value}
theorem Own.ofRow{base:Nat}(h:w.ownsRow base e size v n xs):Own w e size v n xs:=by
 refine⟨h.1, ?_⟩
 rcases h.2 with h | ⟨g,cap,cur,rfl,_,hg,h1,h2,h3,h4⟩
 ·exact .inl h
 ·exact .inr ⟨g,cap,cur,rfl,hg,h1,h2,by omega,h4⟩
theorem Own.nil_(w:World)(e:TypeId)(size:Nat):Own w e size (.slice none 0 0) 0 []:=⟨by simp, .inl ⟨rfl,rfl⟩⟩
theorem Own.lt(h:Own w e size v n xs):∀k,v.ownBlock=some k->k<w.heap.size:=by
 intro k hk
 rcases h.2 with⟨rfl,_⟩ | ⟨g,cap,cur,rfl,hg,_⟩
 ·simp[Value.ownBlock]at hk
 ·simp only[Value.ownBlock,Option.some.injEq]at hk
  subst hk
  exact(Array.getElem?_eq_some_iff.1 hg).1
theorem Own.heap(h:Own w e size v n xs)(hb:∀k,v.ownBlock=some k->w'.heap[k]? =w.heap[k]?):Own w' e size v n xs:=by
 refine⟨h.1, ?_⟩
 rcases h.2 with h | ⟨g,cap,cur,rfl,hg,rest⟩
 ·exact .inl h
 ·exact .inr ⟨g,cap,cur,rfl,(hb g rfl).trans hg,rest⟩
theorem Own.touch{S:Nat->Prop}(h:Own w e size v n xs)(hb:Touch S w w')(hn:∀k,v.ownBlock=some k->¬S k):Own w' e size v n xs:=
 h.heap fun k hk=>hb.block k (h.lt k hk) (hn k hk)
theorem Own.alloc(h:Own w e size v n xs)(o:Obj):Own (w.alloc o) e size v n xs:=h.heap fun k hk=>Below.heap_alloc w o k (h.lt k hk)
theorem Own.drew(h:Own w e size v n xs):Own w.drew e size v n xs:=h
theorem Own.drewN(h:Own w e size v n xs)(j:Nat):Own (w.drewN j) e size v n xs:=h
theorem Own.far(h:Own w e size v n xs){p:Addr}(hp:v.ownBlock≠some p.block)(u:Value):Own (w.setCell p u) e size v n xs:=
 h.heap fun k hk=>Below.heap_setCell w p u k (fun e=>hp (by rw[hk,e]))
theorem Own.grown{row:Option Nat}(h:Own w e size v n xs)(hg:w.grownBy w' row)(hn:∀k,v.ownBlock=some k->some k≠row):Own w' e size v n xs:=
 h.heap fun k hk=>hg.block k (h.lt k hk) (hn k hk)
theorem Own.ne_blk{g:Nat}{t:TypeId}{cs:Array Value}(h:Own w e size v n xs)(hg:Blk w g t cs)(hne:e≠t):v.ownBlock≠some g:=by
 rcases h.2 with⟨rfl,_⟩ | ⟨g',cap,cur,rfl,hh,_⟩
 ·simp[Value.ownBlock]
 ·intro he
  have:g'=g:=by simpa [Value.ownBlock] using he
  subst this
  exact Blk.ne_ (t:=e) hh hg hne rfl
theorem Own.form(h:Own w e size v n xs):∃A c,v= .slice A n c/\n<=c/\c<=maxLen/\((A=none/\n=0/\c=0)\/∃g,A=some ⟨g,0,none⟩):=by
 rcases h.2 with⟨rfl,rfl⟩ | ⟨g,cap,cur,rfl,_,h1,h2,_⟩
 ·exact⟨none,0,rfl,Nat.le_refl _,by simp[maxLen], .inl ⟨rfl,rfl,rfl⟩⟩
 ·exact⟨_,cap,rfl,h1,h2, .inr ⟨g,rfl⟩⟩
theorem Own.parts{g c:Nat}(h:Own w e size (.slice (some ⟨g,0,none⟩) n c) n xs):∃cur,w.heap[g]? =some (.cells cur e (0,0))/\n<=c/\c<=maxLen/\c*size<=cur.size/\cur.toList.take (n*size)=xs:=by
 rcases h.2 with⟨h,_⟩ | ⟨g',cap,cur,hv,rest⟩
 ·cases h
 ·injection hv with h1 h2 h3
  injection h1 with h1
  injection h1 with h1
  subst h1 h3
  exact⟨cur,rest⟩
theorem Own.cell{g c:Nat}(h:Own w e size (.slice (some ⟨g,0,none⟩) n c) n xs){j:Nat}(hj:j<n*size):w.cell? ⟨g,j,none⟩=xs[j]? :=by
 obtain⟨cur,hg,h1,h2,h3,h4⟩:=h.parts
 rw[cell_of_row w g j cur e (0,0) hg,<- h4,List.getElem?_take,if_pos hj]
 simp
theorem Own.frozen{g c:Nat}(h:Own w e size (.slice (some ⟨g,0,none⟩) n c) n xs)(j:Nat):w.frozen? ⟨g,j,none⟩=false:=by
 obtain⟨cur,hg,_⟩:=h.parts
 exact frozen_of_row w g j cur e hg
theorem Own.stored{g c:Nat}(h:Own w e size (.slice (some ⟨g,0,none⟩) n c) n xs)(j:Nat)(u:Value):Own (w.setCell ⟨g,j,none⟩ u) e size (.slice (some ⟨g,0,none⟩) n c) n (xs.set j u):=by
 obtain⟨cur,hg,h1,h2,h3,h4⟩:=h.parts
 refine⟨by rw[List.length_set];exact h.1, .inr ⟨g,c,cur.setIfInBounds j u,rfl, ?_,h1,h2,by simpa using h3, ?_⟩⟩
 ·simp[World.setCell,Array.getElem?_modify,hg]
 ·rw[Array.toList_setIfInBounds,List.take_set,h4]
theorem Own.cut{g c:Nat}(h:Own w e size (.slice (some ⟨g,0,none⟩) n c) n xs){k c':Nat}(hk:k<=n)(hc:k<=c')(hc':c'<=c):Own w e size (.slice (some ⟨g,0,none⟩) k c') k (xs.take (k*size)):=by
 obtain⟨cur,hg,h1,h2,h3,h4⟩:=h.parts
 have hks:k*size<=n*size:=Nat.mul_le_mul_right _ hk
 refine⟨by rw[List.length_take,h.1];omega, .inr ⟨g,c',cur,rfl,hg,hc,Nat.le_trans hc' h2,Nat.le_trans (Nat.mul_le_mul_right _ hc') h3, ?_⟩⟩
 rw[<- h4,List.take_take,Nat.min_eq_left hks]
theorem Own.src{P:Program}{t e':TypeId}(h:Own w e size v n xs)(ht:P.underlying t=some (.slice e'))(h1:∀u∈xs,u.oneCell'=true):Src P size t v n xs w:=by
 rcases h.2 with⟨rfl,hn⟩ | ⟨g,cap,cur,rfl,hg,h2,h3,h4,h5⟩
 ·subst hn
  have:xs= []:=List.eq_nil_of_length_eq_zero (by have:=h.1;omega)
  subst this
  exact Src.ofNil w ht 0
 ·refine Src.ofSlice w ht _ _ _ _ h.1 (fun j u hu=> ?_) h1
  have hj:j<n*size:=by have:=(List.getElem?_eq_some_iff.1 hu).1;have:=h.1;omega
  rw[add_flat,Nat.zero_add,h.cell hj]
  exact hu
end
theorem tape_setCells(g:Nat):∀(vs:List Value) (o:Nat) (w:World),(w.setCells g o vs).tape=w.tape
 | [],_,_=>rfl
 | v :: r,o,w=>by rw[World.setCells,tape_setCells g r];rfl
theorem size_setCells(g:Nat):∀(vs:List Value) (o:Nat) (w:World),(w.setCells g o vs).heap.size=w.heap.size
 | [],_,_=>rfl
 | v :: r,o,w=>by rw[World.setCells,size_setCells g r];simp[World.setCell]
theorem heap_setCells_self(g:Nat)(e:TypeId)(f:Nat×Nat):∀(vs:List Value) (o:Nat) (w:World) (cur:Array Value),w.heap[g]? =some (.cells cur e f)->o+vs.length<=cur.size->
  (w.setCells g o vs).heap[g]? =some (.cells (cur.toList.take o++vs++cur.toList.drop (o+vs.length)).toArray e f)
 | [],o,w,cur,hg,_=>by
  rw[World.setCells,hg]
  simp
 | v :: r,o,w,cur,hg,hs=>by
  simp only[List.length_cons]at hs
  have h1:(w.setCell ⟨g,o,none⟩ v).heap[g]? =some (.cells (cur.setIfInBounds o v) e f):=by
   simp[World.setCell,Array.getElem?_modify,hg]
  rw[World.setCells,heap_setCells_self g e f r (o+1) _ _ h1 (by simp;omega)]
  congr 3
  have hl:o<cur.toList.length:=by simp;omega
  rw[Array.toList_setIfInBounds,List.set_eq_take_append_cons_drop,if_pos hl]
  have e1:(cur.toList.take o).length=o:=by simp;omega
  have e2:(cur.toList.take o).drop (o+1+r.length)= []:=List.drop_eq_nil_of_le (by omega)
  rw[List.take_append,List.drop_append,e1,List.take_of_length_le (l:=cur.toList.take o) (by omega),e2]
  rw[show o+1-o=1 by omega,show o+1+r.length-o=r.length+1 by omega]
  simp only[List.take_succ_cons,List.take_zero,List.drop_succ_cons,List.nil_append,List.append_assoc,List.cons_append,List.drop_drop,List.length_cons]
  rw[show o+1+r.length=o+(r.length+1) by omega]
section
variable {P:Program}
theorem run_own_src(w:World)(t tx ty e:TypeId)(i:TypeInfo)(z:Value)(size bytes:Nat)(ht:P.underlying t=some (.slice e))(hi:P.info? e=some i)(hz:i.zero=some z)(hsize:i.size=size)(hby:i.bytes=bytes)(hzs:z.cells.size=size)
  (v:Value) (n:Nat) (xs:List Value) (hown:Own w e size v n xs) (h1:∀u∈xs,u.oneCell'=true) (x:Value) (m:Nat) (news:List Value) (hs:Src P size tx x m news w) (h63:n+m<=maxLen) (hbytes:(n+m)*bytes<=140737488355328):
  ∃B c' w',(Builtin.append_ #[t,tx] ty #[v,x]).run P w= .ok (.slice B (n+m) c') w'/\Own w' e size (.slice B (n+m) c') (n+m) (xs++news)/\w.grownBy w' v.ownBlock/\
   ((Value.slice B (n+m) c').ownBlock=v.ownBlock\/(Value.slice B (n+m) c').ownBlock=some w.heap.size):=by
 subst hsize
 subst hby
 have hlen:(xs++news).length=(n+m)*i.size:=by rw[List.length_append,hown.1,hs.newsLen,Nat.add_mul]
 have hm63:((n+m:Nat):Int)<=9223372036854775807:=by unfold maxLen at h63;omega
 have grow:∀(A:Option Addr) (c:Nat),c<n+m->(Builtin.firstCells i.size n (.slice A n c)).run P w.drew= .ok xs.toArray w.drew->
   ∃B c' w',(Builtin.append_ #[t,tx] ty #[.slice A n c,x]).run P w= .ok (.slice B (n+m) c') w'/\Own w' e i.size (.slice B (n+m) c') (n+m) (xs++news)/\w.grownBy w' (Value.slice A n c).ownBlock/\
    ((Value.slice B (n+m) c').ownBlock=(Value.slice A n c).ownBlock\/(Value.slice B (n+m) c').ownBlock=some w.heap.size):=by
  intro A c hc hold
  have hrun:=run_append_grow_src (P:=P) w t tx ty e i z ht hi hz A n c xs hold x m news hs hc hm63 (growslice_fits hc hbytes)
  have hge:=grownCap_ge w (n+m) c e
  have hcm:=grownCap_le_maxLen w (n+m) c e h63
  refine⟨_,_,_,hrun,⟨hlen, .inr ⟨w.heap.size,_,_,rfl,heap_alloc_new w.drew _,hge,hcm, ?_, ?_⟩⟩,⟨rfl,rfl,rfl,by simp,fun k hk _=>Below.heap_alloc w.drew _ k hk⟩, .inr rfl⟩
  ·rw[Array.size_append,List.size_toArray,hlen,size_zeroCells,hzs,<- Nat.add_mul]
   exact Nat.le_of_eq (by congr 1;omega)
  ·rw[Array.toList_append,<- hlen]
   exact List.take_left
 by_cases h0:m=0
 ·subst h0
  have hn:news= []:=List.eq_nil_of_length_eq_zero (by have:=hs.newsLen;omega)
  subst hn
  obtain⟨A,c,rfl,hle,_⟩:=hown.form
  exact⟨A,c,w,run_append_nothing w t tx ty e i ht hi A n c hle x hs,by simpa using hown,⟨rfl,rfl,rfl,Nat.le_refl _,fun _ _ _=>rfl⟩, .inl rfl⟩
 ·rcases hown.2 with⟨rfl,rfl⟩ | ⟨g,cap,cur,rfl,hg,hnc,hcm,hcs,htake⟩
  ·have hx:xs= []:=List.eq_nil_of_length_eq_zero (by have:=hown.1;omega)
   subst hx
   exact grow none 0 (by omega) (run_firstCells_none w.drew i.size 0 0 0)
  ·by_cases hroom:n+m<=cap
   ·have hr:(n+m)*i.size<=cap*i.size:=Nat.mul_le_mul_right _ hroom
    rw[Nat.add_mul]at hr
    have hfit:n*i.size+news.length<=cur.size:=by rw[hs.newsLen];omega
    have hrun:=run_append_room_src (P:=P) w t tx ty e i ht hi g 0 n cap x m news hs hroom (fun j hj=>by
     rw[cell_of_row w g _ cur e (0,0) hg,Array.getElem?_eq_getElem (by omega)];rfl) (fun j _=>frozen_of_row w g _ cur e hg)
    rw[Nat.zero_add]at hrun
    refine⟨_,_,_,hrun,⟨hlen, .inr ⟨g,cap,_,rfl,heap_setCells_self g e (0,0) news (n*i.size) w cur hg hfit,hroom,hcm, ?_, ?_⟩⟩,⟨?_, ?_, ?_, ?_,fun k hk hne=> ?_⟩, .inl rfl⟩
    ·simp only[List.size_toArray,List.length_append,List.length_take,List.length_drop,Array.length_toList]
     omega
    ·rw[htake,<- hlen]
     exact List.take_left
    ·exact World.os_setCells w g _ news
    ·exact tape_setCells g news _ w
    ·exact World.output_setCells w g _ news
    ·exact Nat.le_of_eq (size_setCells g news _ w).symm
    ·exact World.heap_setCells_other w g _ news hk (fun e=>hne (by rw[e];rfl))
   ·have hold:=(hown.src (P:=P) (t:=t) ht h1).cellsD
    exact grow _ cap (by omega) hold
theorem wp_own_src(w:World){o:Oper}{a:Act}{K:Act->World->Prop}{Q:Exit->Act->World->Prop}(s x:Operand)(t tx:TypeId)
  (ho:o.op= .call { callee:= .builtin .append,args:= #[s,x],argTypes:= #[t,tx] })
  (e:TypeId) (z:Value) (size bytes:Nat) (hinfo:(P.info? e).map (fun i=>(i.zero,i.size,i.bytes))=some (some z,size,bytes)) (ht:P.underlying t=some (.slice e)) (hzs:z.cells.size=size)
  (v:Value) (n:Nat) (xs:List Value) (hv:a.eval s=v) (hown:Own w e size v n xs) (h1:∀u∈xs,u.oneCell'=true) (y:Value) (m:Nat) (news:List Value) (hx:a.eval x=y) (hs:Src P size tx y m news w) (h63:n+m<=maxLen) (hbytes:(n+m)*bytes<=140737488355328)
  (h:∀B c' w',Own w' e size (.slice B (n+m) c') (n+m) (xs++news)->w.grownBy w' v.ownBlock->((Value.slice B (n+m) c').ownBlock=v.ownBlock\/(Value.slice B (n+m) c').ownBlock=some w.heap.size)->K (a.put o.dst (.slice B (n+m) c')) w'):o.wp P a w K Q:=by
 obtain⟨i,hi,hz,hs1,hb1⟩:=info_parts hinfo
 obtain⟨B,c',w',hr,h2,h3,h4⟩:=run_own_src (P:=P) w t tx o.type e i z size bytes ht hi hz hs1 hb1 hzs v n xs hown h1 y m news hs h63 hbytes
 unfold Oper.wp execOp
 simp only[ho,resolve,invoke,builtin,Sem.run_bind,Sem.run_pure,Result.andThen_ok,List.map_toArray,List.map_cons,List.map_nil,hv,hx,hr]
 exact h B c' w' h2 h3 h4
theorem wpList_own_src(w:World){ops:Array Oper}{rest:List Oper}{o:Oper}{a:Act}{Q:Exit->Act->World->Prop}(hgd:o.guard=none)(s x:Operand)(t tx:TypeId)
  (ho:o.op= .call { callee:= .builtin .append,args:= #[s,x],argTypes:= #[t,tx] })
  (e:TypeId) (z:Value) (size bytes:Nat) (hinfo:(P.info? e).map (fun i=>(i.zero,i.size,i.bytes))=some (some z,size,bytes)) (ht:P.underlying t=some (.slice e)) (hzs:z.cells.size=size)
  (v:Value) (n:Nat) (xs:List Value) (hv:a.eval s=v) (hown:Own w e size v n xs) (h1:∀u∈xs,u.oneCell'=true) (y:Value) (m:Nat) (news:List Value) (hx:a.eval x=y) (hs:Src P size tx y m news w) (h63:n+m<=maxLen) (hbytes:(n+m)*bytes<=140737488355328)
  (h:∀B c' w',Own w' e size (.slice B (n+m) c') (n+m) (xs++news)->w.grownBy w' v.ownBlock->((Value.slice B (n+m) c').ownBlock=v.ownBlock\/(Value.slice B (n+m) c').ownBlock=some w.heap.size)->wpList P ops Q rest (a.put o.dst (.slice B (n+m) c')) w'):wpList P ops Q (o :: rest) a w:=
 wpList_plain hgd fun _ hK=>wp_own_src w s x t tx ho e z size bytes hinfo ht hzs v n xs hv hown h1 y m news hx hs h63 hbytes fun B c' w' h2 h3 h4=>hK _ _ (h B c' w' h2 h3 h4)
theorem step_own_src(w:World){ops:Array Oper}{o:Oper}{a:Act}{K:Act->World->Prop}{Q:Exit->Act->World->Prop}{E:Prop}(hgd:o.guard=none)(s x:Operand)(t tx:TypeId)
  (ho:o.op= .call { callee:= .builtin .append,args:= #[s,x],argTypes:= #[t,tx] })
  (e:TypeId) (z:Value) (size bytes:Nat) (hinfo:(P.info? e).map (fun i=>(i.zero,i.size,i.bytes))=some (some z,size,bytes)) (ht:P.underlying t=some (.slice e)) (hzs:z.cells.size=size)
  (v:Value) (n:Nat) (xs:List Value) (hv:a.eval s=v) (hown:Own w e size v n xs) (h1:∀u∈xs,u.oneCell'=true) (y:Value) (m:Nat) (news:List Value) (hx:a.eval x=y) (hs:Src P size tx y m news w) (h63:n+m<=maxLen) (hbytes:(n+m)*bytes<=140737488355328)
  (h:∀B c' w',Own w' e size (.slice B (n+m) c') (n+m) (xs++news)->w.grownBy w' v.ownBlock->((Value.slice B (n+m) c').ownBlock=v.ownBlock\/(Value.slice B (n+m) c').ownBlock=some w.heap.size)->K (a.put o.dst (.slice B (n+m) c')) w'):
  if Region.wanted o (yielded ops a.tmps)=true then Oper.wp P o a w K Q else E:=by
 have hw:Region.wanted o (yielded ops a.tmps)=true:=by simp[Region.wanted,hgd]
 rw[if_pos hw]
 exact wp_own_src w s x t tx ho e z size bytes hinfo ht hzs v n xs hv hown h1 y m news hx hs h63 hbytes h
end
def Raw(w:World)(v:Value)(xs:List UInt8):Prop:=Own w 5 1 v xs.length (u8s xs)
theorem Raw.bs{w:World}{A:Option Addr}{n c:Nat}{xs:List UInt8}(hl:xs.length=n)(h:Raw w (.slice A n c) xs):Bs w A n c xs:=by
 subst hl
 unfold Raw at h
 obtain⟨A',c',hv,hle,hm,hA⟩:=h.form
 injection hv with e1 _ e3
 subst e1 e3
 refine⟨rfl,hle,hm,fun h0=> ?_⟩
 rcases hA with⟨_,h2,_⟩ | ⟨g,rfl⟩
 ·omega
 ·refine⟨g,0,rfl,fun j x hx=> ?_⟩
  have hj:j<xs.length:=(List.getElem?_eq_some_iff.1 hx).1
  have:=h.cell (j:=j) (by omega)
  rw[Nat.zero_add,this,u8s_get,hx]
  rfl
theorem Bs.src{P:Program}{w:World}{A:Option Addr}{n c:Nat}{xs:List UInt8}{t e':TypeId}(h:Bs w A n c xs)(ht:P.underlying t=some (.slice e')):Src P 1 t (.slice A n c) n (u8s xs) w:=by
 have hl:=h.1
 subst hl
 by_cases h0:xs= []
 ·subst h0
  cases A with
  | none=>exact Src.ofNil w ht c
  | some a=>exact Src.ofSlice w ht a 0 c [] (by simp) (by simp) (by simp)
 ·obtain⟨b,o,rfl,hc⟩:=h.2.2.2 (List.length_pos_iff.2 h0)
  refine Src.ofSlice w ht _ _ _ _ (by rw[u8s_length];omega) (fun j u hu=> ?_) (u8s_one xs)
  rw[u8s_get]at hu
  obtain⟨y,hy,rfl⟩:=Option.map_eq_some_iff.1 hu
  rw[add_flat]
  exact hc j y hy
theorem Tryz.info5:(Tryz.prog.info? 5).map (fun i=>(i.zero,i.size,i.bytes))=some (some (.int .u8 0),1,1):=by kernel_rfl
theorem run_convert_Bs{P:Program}{w:World}{A:Option Addr}{n c:Nat}{xs:List UInt8}(src dst:TypeId)(hs:P.underlying src=some (.slice 5))(he:P.underlying 5=some (.int .u8))(hd:P.underlying dst=some .string)
  (h:Bs w A n c xs):(convert src dst (.slice A n c)).run P w= .ok (.string ⟨xs.toArray⟩) w:=by
 have hl:=h.1
 have hnil:xs= []->∀ad,(convert src dst (.slice (some ad) n c)).run P w= .ok (.string ⟨xs.toArray⟩) w:=by
  intro e ad
  subst e
  have hn:n=0:=by simpa using hl.symm
  subst hn
  rw[run_convert_bytes_string w src dst _ _ 0 c hs he hd,run_bytesToString w _ 0 c [] (by simp[loadCells,loadCellsFrom])]
  rfl
 rcases Nat.eq_zero_or_pos n with h0 | h0
 ·have e:xs= []:=List.eq_nil_of_length_eq_zero (by omega)
  cases A with
  | none=>
   subst e
   exact run_convert_bytes_nil w src 5 hs he n c dst hd
  | some ad=>exact hnil e ad
 ·obtain⟨b,o,rfl⟩:=h.at_ h0
  have:=run_convert_bytes_arg (P:=P) w src 5 hs he b o n c (xs.map fun x=>(x.toNat:Int)) (by simpa using hl) (by
   intro i hi
   rw[h.cellAt hi]
   have hi':i<xs.length:=by omega
   simp[List.getD_eq_getElem?_getD,hi']) dst hd
  rw[this]
  congr 2
  simp[strOfNums,Function.comp_def]
section
variable {P:Program}{w:World}
theorem run_row_bs(t ty:TypeId)(hinfo:(P.info? 5).map (fun i=>(i.zero,i.size,i.bytes))=some (some (.int .u8 0),1,1))(ht:P.underlying t=some (.slice 5))
  (v:Value) (xs:List UInt8) (hown:Row w v xs) (A:Option Addr) (m c:Nat) (ys:List UInt8) (hs:Bs w A m c ys) (hb:xs.length+ys.length<=140737488355328):
  ∃B c' w',(Builtin.append_ #[t,t] ty #[v, .slice A m c]).run P w= .ok (.slice B (xs.length+ys.length) c') w'/\Row w' (.slice B (xs.length+ys.length) c') (xs++ys)/\w.grownBy w' v.ownBlock/\
   ((Value.slice B (xs.length+ys.length) c').ownBlock=v.ownBlock\/(Value.slice B (xs.length+ys.length) c').ownBlock=some w.heap.size):=by
 obtain⟨i,hi,hz,hs1,hb1⟩:=info_parts hinfo
 have hl:=hs.1
 subst hl
 by_cases h0:ys= []
 ·subst h0
  obtain⟨B,c',hv,hle,hcm,_⟩:=hown.form
  subst hv
  have hsrc:Src P i.size t (.slice A 0 c) 0 [] w:=by
   cases A with
   | none=>exact Src.ofNil w ht c
   | some a=>exact Src.ofSlice w ht a 0 c [] (by simp) (by simp) (by simp)
  refine⟨B,c',w, ?_, ?_,⟨rfl,rfl,rfl,Nat.le_refl _,fun _ _ _=>rfl⟩, .inl rfl⟩
  ·exact run_append_nothing w t t ty 5 i ht hi B xs.length c' hle _ hsrc
  ·simp only[List.append_nil,List.length_nil,Nat.add_zero];exact hown
 ·have hpos:0<ys.length:=List.length_pos_iff.2 h0
  obtain⟨b,o,rfl,hc⟩:=hs.2.2.2 hpos
  have hnews':∀j u,(u8s ys)[j]? =some u->w.cell? ((⟨b,o,none⟩:Addr).add j)=some u:=by
   intro j u hu
   rw[u8s_get]at hu
   obtain⟨y,hy,rfl⟩:=Option.map_eq_some_iff.1 hu
   rw[add_flat]
   exact hc j y hy
  obtain⟨v',w',hr,h1,h2,_,h4⟩:=run_append_own_at (P:=P) w 0 t ty 5 i (.int .u8 0) 1 1 ht hi hz hs1 hb1 rfl (by decide) v xs.length (u8s xs) hown ⟨b,o,none⟩ ys.length c (u8s ys) (by rw[u8s_length];omega) hnews' (u8s_one ys) (by unfold maxLen;omega) (by omega) (Nat.zero_le _)
  have hrow:Row w' v' (xs++ys):=by
   unfold Row
   rw[List.length_append,u8s_append]
   exact h1
  obtain⟨B,c',hv,_⟩:=hrow.form
  rw[List.length_append]at hv
  subst hv
  exact⟨B,c',w',hr,hrow,h2,h4⟩
theorem wp_row_bs{o:Oper}{a:Act}{K:Act->World->Prop}{Q:Exit->Act->World->Prop}(s x:Operand)(t:TypeId)
  (ho:o.op= .call { callee:= .builtin .append,args:= #[s,x],argTypes:= #[t,t] })
  (hinfo:(P.info? 5).map (fun i=>(i.zero,i.size,i.bytes))=some (some (.int .u8 0),1,1)) (ht:P.underlying t=some (.slice 5))
  (v:Value) (xs:List UInt8) (hs:a.eval s=v) (hown:Row w v xs) (A:Option Addr) (m c:Nat) (ys:List UInt8) (hx:a.eval x= .slice A m c) (hbs:Bs w A m c ys) (hb:xs.length+ys.length<=140737488355328)
  (h:∀B c' w',Row w' (.slice B (xs.length+ys.length) c') (xs++ys)->w.grownBy w' v.ownBlock->((Value.slice B (xs.length+ys.length) c').ownBlock=v.ownBlock\/(Value.slice B (xs.length+ys.length) c').ownBlock=some w.heap.size)->K (a.put o.dst (.slice B (xs.length+ys.length) c')) w'):o.wp P a w K Q:=by
 obtain⟨B,c',w',hr,h1,h2,h3⟩:=run_row_bs (w:=w) t o.type hinfo ht v xs hown A m c ys hbs hb
 unfold Oper.wp execOp
 simp only[ho,resolve,invoke,builtin,Sem.run_bind,Sem.run_pure,Result.andThen_ok,List.map_toArray,List.map_cons,List.map_nil,hs,hx,hr]
 exact h B c' w' h1 h2 h3
theorem wpList_row_bs{ops:Array Oper}{rest:List Oper}{o:Oper}{a:Act}{Q:Exit->Act->World->Prop}(hgd:o.guard=none)(s x:Operand)(t:TypeId)
  (ho:o.op= .call { callee:= .builtin .append,args:= #[s,x],argTypes:= #[t,t] })
  (hinfo:(P.info? 5).map (fun i=>(i.zero,i.size,i.bytes))=some (some (.int .u8 0),1,1)) (ht:P.underlying t=some (.slice 5))
  (v:Value) (xs:List UInt8) (hs:a.eval s=v) (hown:Row w v xs) (A:Option Addr) (m c:Nat) (ys:List UInt8) (hx:a.eval x= .slice A m c) (hbs:Bs w A m c ys) (hb:xs.length+ys.length<=140737488355328)
  (h:∀B c' w',Row w' (.slice B (xs.length+ys.length) c') (xs++ys)->w.grownBy w' v.ownBlock->((Value.slice B (xs.length+ys.length) c').ownBlock=v.ownBlock\/(Value.slice B (xs.length+ys.length) c').ownBlock=some w.heap.size)->wpList P ops Q rest (a.put o.dst (.slice B (xs.length+ys.length) c')) w'):wpList P ops Q (o :: rest) a w:=
 wpList_plain hgd fun _ hK=>wp_row_bs s x t ho hinfo ht v xs hs hown A m c ys hx hbs hb fun B c' w' h1 h2 h3=>hK _ _ (h B c' w' h1 h2 h3)
end
theorem Row.lit{w:World}(xs:List UInt8)(cs:Array Value)(hcs:cs.toList=u8s xs)(hl:xs.length<=1000):Row (w.alloc (.cells cs 5)) (.slice (some ⟨w.heap.size,0,none⟩) xs.length xs.length) xs:=by
 have h:=World.ownsRow_lit (base:=0) (e:=5) (size:=1) w cs xs.length (Nat.zero_le _) (by unfold maxLen;omega) (by have:=congrArg List.length hcs;rw[u8s_length]at this;simpa using this)
 unfold Row
 rw[<- hcs]
 exact h
end Go.Proofs.YtjehlgblkfofpaaGreat
namespace Go.Proofs.YtjehlgblkfofpaaGreat
open Go.RowKit Go.Maps
def pR(v:Value):Option (DataW Unit×List MemPlace):=
 match v with
 | .pointer (some ⟨g,0,none⟩)=>some (.lit (.int .i64 g), [])
 | .pointer none=>some (.nil, [])
 | _=>none
theorem pR_some(g:Nat):pR (.pointer (some ⟨g,0,none⟩))=some (.lit (.int .i64 g), []):=rfl
theorem pR_none:pR (.pointer none)=some (.nil, []):=rfl
theorem pR_inv{v:Value}{g:Nat}{ps:List MemPlace}(h:pR v=some (.lit (.int .i64 g),ps)):v= .pointer (some ⟨g,0,none⟩):=by
 unfold pR at h
 split at h
 ·simp only[Option.some.injEq,Prod.mk.injEq,DataW.lit.injEq,Lit.int.injEq,true_and]at h
  have: _=g:=Int.ofNat.inj h.1
  subst this
  rfl
 ·simp at h
 ·cases h
theorem pR_nil{v:Value}{ps:List MemPlace}(h:pR v=some (.nil,ps)):v= .pointer none:=by
 unfold pR at h
 split at h
 ·simp at h
 ·rfl
 ·cases h
def ents(es:List (Int×Nat)):List (Lit×DataW Unit):=es.map fun p=>(.int .i64 p.1, .lit (.int .i64 p.2))
def insE(n:Int)(g:Nat):List (Int×Nat)->List (Int×Nat)
 | []=> [(n,g)]
 | p :: r=>if n<p.1 then (n,g) :: p :: r else p :: insE n g r
theorem ents_ins(n:Int)(g:Nat)(es:List (Int×Nat)):ents (insE n g es)=DataW.insert (.int .i64 n, .lit (.int .i64 g)) (ents es):=by
 induction es with
 | nil=>rfl
 | cons p r ih=>
  unfold insE
  show ents (if _ then _ else _)=DataW.insert _ ((Lit.int .i64 p.1,DataW.lit (.int .i64 p.2)) :: ents r)
  unfold DataW.insert
  by_cases h:n<p.1
  ·rw[if_pos h,if_pos (by simpa [Lit.before] using h)]
   rfl
  ·rw[if_neg h,if_neg (by simpa [Lit.before] using h),<- ih]
   rfl
theorem ents_filter(n:Int)(es:List (Int×Nat)):(ents es).filter (fun p=> !p.1.sameKey (.int .i64 n))=ents (es.filter fun p=>decide (p.1≠n)):=by
 induction es with
 | nil=>rfl
 | cons p r ih=>
  show List.filter _ ((Lit.int .i64 p.1,DataW.lit (.int .i64 p.2)) :: ents r)= _
  by_cases h:p.1=n
  ·rw[List.filter_cons_of_neg (by simp[Lit.sameKey,h]),List.filter_cons_of_neg (by simp[h]),ih]
  ·rw[List.filter_cons_of_pos (by simp[Lit.sameKey,h]),List.filter_cons_of_pos (by simp[h]),ih]
   rfl
theorem ents_at(n:Int)(es:List (Int×Nat))(z:DataW Unit):(DataW.map (ents es)).atKey (.int .i64 n) z=match es.find? (fun p=>decide (p.1=n)) with | some p=> .lit (.int .i64 p.2) | none=>z:=by
 have h:(ents es).find? (fun p=>p.1.sameKey (.int .i64 n))=(es.find? (fun p=>decide (p.1=n))).map fun p=>(.int .i64 p.1, .lit (.int .i64 p.2)):=by
  unfold ents
  rw[List.find?_map]
  congr 2
  funext p
  simp[Lit.sameKey]
 unfold DataW.atKey
 simp only[h]
 cases es.find? (fun p=>decide (p.1=n))<;>rfl
def IMap(w:World)(b:Nat)(es:List (Int×Nat)):Prop:=w.ownsMap Tryz.prog 3 pR b es.length (.map (ents es))
section
variable {w w':World}{b:Nat}{es:List (Int×Nat)}
theorem IMap.lt(h:IMap w b es):b<w.heap.size:=World.ownsMap.lt h
theorem IMap.heap(h:IMap w b es)(hb:w'.heap[b]? =w.heap[b]?):IMap w' b es:=by
 obtain⟨es',clock,h1,rest⟩:=h
 exact⟨es',clock,hb.trans h1,rest⟩
theorem IMap.new(w:World):IMap (w.alloc (.map #[] 0)) w.heap.size []:=World.ownsMap_made w _ _ _
theorem IMap.norm{n:Nat}{es:List (Int×Nat)}(h:w.ownsMap Tryz.prog 3 pR b n (.map (ents es))):IMap w b es:=by
 obtain⟨es',clock,hb,F,hs,hD⟩:=h
 refine⟨es',clock,hb,F, ?_,hD⟩
 injection hD with hD
 have:=congrArg List.length hD
 rw[length_sorted,List.length_map]at this
 unfold ents at this
 rw[List.length_map]at this
 simpa using Nat.le_of_eq this.symm
theorem key_int:Keyed Tryz.prog 3:=int_keyed (q:= .i64) Tryz.underlying3
theorem keyOf_int{n:Int}(h:(Lit.int .i64 n).wf=true):keyOf Tryz.prog 3 (.int .i64 n)=some (.int .i64 n):=keyOf_int_mk Tryz.underlying3 h
theorem zeroFile(w:World):(zeroValue 107).run Tryz.prog w= .ok (.pointer none) w:=by kernel_rfl
def entV(es:List (Int×Nat))(n:Int):Value:=match es.find? (fun p=>decide (p.1=n)) with | some p=> .pointer (some ⟨p.2,0,none⟩) | none=> .pointer none
theorem IMap.look(h:IMap w b es){n:Int}(hn:(Lit.int .i64 n).wf=true):(Instr.lookup 85 (.map (some b)) (.int .i64 n) false).run Tryz.prog w= .ok (entV es n) w:=by
 obtain⟨v,ps,hrun,hv⟩:=World.ownsMap.lookup (H:=Unit) h key_int Tryz.underlying85 (zeroFile w) pR_none (keyOf_int hn)
 rw[hrun]
 rw[ents_at]at hv
 unfold entV
 cases hf:es.find? (fun p=>decide (p.1=n)) with
 | some p=>rw[hf]at hv;rw[pR_inv hv]
 | none=>rw[hf]at hv;rw[pR_nil hv]
theorem IMap.put(h:IMap w b es){n:Int}(hn:(Lit.int .i64 n).wf=true)(g:Nat)(hm:es.length<maxLen):
  ∃w',(Instr.mapUpdate 85 (.map (some b)) (.int .i64 n) (.pointer (some ⟨g,0,none⟩))).run Tryz.prog w= .ok () w'/\IMap w' b (insE n g (es.filter fun p=>decide (p.1≠n)))/\w.grownBy w' (some b):=by
 obtain⟨w',hrun,hown,hg⟩:=World.ownsMap.update (H:=Unit) h key_int Tryz.underlying85 hm (keyOf_int hn) (pR_some g)
 refine⟨w',hrun,IMap.norm (n:=es.length+1) ?_,hg⟩
 rw[ents_ins,<- ents_filter]
 exact hown
theorem IMap.del(h:IMap w b es){n:Int}(hn:(Lit.int .i64 n).wf=true)(ty:TypeId):
  ∃w',(Builtin.delete_ #[85,3] ty #[.map (some b), .int .i64 n]).run Tryz.prog w= .ok (.tuple #[]) w'/\IMap w' b (es.filter fun p=>decide (p.1≠n))/\w.mapTurned w' b:=by
 obtain⟨w',hrun,hown,hg⟩:=World.ownsMap.drop (H:=Unit) h key_int Tryz.underlying85 (keyOf_int hn) ty
 refine⟨w',hrun,IMap.norm (n:=es.length) ?_,hg⟩
 rw[<- ents_filter]
 exact hown
end
end Go.Proofs.YtjehlgblkfofpaaGreat
namespace Go.Proofs.YtjehlgblkfofpaaGreat
open Go.RowKit
theorem ret_int{k:IntKind}{a b:Int}(h:a=b):Ending.returned (.int k a)= .returned (.int k b):=by rw[h]
structure FR where
 n:Int
 raw:List UInt8
 kept:Nat
 g:Nat
 v:Value
def FR.fl(f:FR):Fl:=⟨f.n,f.raw,f.kept⟩
def fltCells(l:List (Int×Int)):List Value:=l.flatMap fun f=> [.int .i64 f.1, .int .i64 f.2]
theorem fltCells_one(l:List (Int×Int)):∀u∈fltCells l,u.oneCell'=true:=by
 intro u hu
 obtain⟨x,_,hx⟩:=List.mem_flatMap.1 hu
 simp at hx
 rcases hx with rfl | rfl<;>rfl
structure FileAt(w:World)(f:FR):Prop where
 blk:Blk w f.g 151 #[f.v, .int .i64 f.kept]
 row:Raw w f.v f.raw
 le:f.kept<=f.raw.length
 some_:f.raw≠ []
 key:(Lit.int .i64 f.n).wf=true
theorem FileAt.heap{w w':World}{f:FR}(h:FileAt w f)(hg:w'.heap[f.g]? =w.heap[f.g]?)(hv:∀k,f.v.ownBlock=some k->w'.heap[k]? =w.heap[k]?):FileAt w' f:=
 ⟨hg.trans h.blk,Own.heap h.row hv,h.le,h.some_,h.key⟩
theorem FileAt.addr{w:World}{f:FR}(h:FileAt w f):∃b c,f.v= .slice (some ⟨b,0,none⟩) f.raw.length c/\f.raw.length<=c/\c<=maxLen:=by
 obtain⟨A,c,hv,h1,h2,h3⟩:=Own.form h.row
 rcases h3 with⟨_,h4,_⟩ | ⟨g,rfl⟩
 ·exact absurd (List.eq_nil_of_length_eq_zero h4) h.some_
 ·exact⟨g,c,hv,h1,h2⟩
structure DK(w:World)(bd bm:Nat)(fv:Value)(fs:List FR)(d:Dk):Prop where
 fls:d.fs=fs.map FR.fl
 blk:Blk w bd 88 #[.map (some bm), .int .i64 d.ops,fv, .bool d.stopped, .int .i64 d.stop]
 map:IMap w bm (fs.map fun f=>(f.n,f.g))
 flt:Own w 90 2 fv d.faults.length (fltCells d.faults)
 file:∀f∈fs,FileAt w f
 apart:fs.Pairwise fun a b=>a.n<b.n/\a.g≠b.g/\a.v.ownBlock≠b.v.ownBlock
def foot(bd bm:Nat)(fv:Value)(fs:List FR)(k:Nat):Prop:=k=bd\/k=bm\/fv.ownBlock=some k\/∃f∈fs,k=f.g\/f.v.ownBlock=some k
theorem DK.lt{w:World}{bd bm:Nat}{fv:Value}{fs:List FR}{d:Dk}(h:DK w bd bm fv fs d):∀k,foot bd bm fv fs k->k<w.heap.size:=by
 rintro k (rfl | rfl | hk | ⟨f,hf,rfl | hk⟩)
 ·exact h.blk.lt
 ·exact h.map.lt
 ·exact h.flt.lt k hk
 ·exact(h.file f hf).blk.lt
 ·exact Own.lt (h.file f hf).row k hk
theorem DK.touch{w w':World}{bd bm:Nat}{fv:Value}{fs:List FR}{d:Dk}{S:Nat->Prop}(h:DK w bd bm fv fs d)(hb:Touch S w w')(hn:∀k,foot bd bm fv fs k->¬S k):DK w' bd bm fv fs d:=by
 have hk:∀k,foot bd bm fv fs k->w'.heap[k]? =w.heap[k]? :=fun k hk=>hb.block k (h.lt k hk) (hn k hk)
 exact⟨h.fls,(hk bd (.inl rfl)).trans h.blk,h.map.heap (hk bm (.inr (.inl rfl))),h.flt.heap fun k e=>hk k (.inr (.inr (.inl e))),
  fun f hf=>(h.file f hf).heap (hk _ (.inr (.inr (.inr ⟨f,hf, .inl rfl⟩)))) fun k e=>hk k (.inr (.inr (.inr ⟨f,hf, .inr e⟩))),h.apart⟩
theorem DK.fresh{w w':World}{bd bm:Nat}{fv:Value}{fs:List FR}{d:Dk}(h:DK w bd bm fv fs d)(hb:Fresh w w'):DK w' bd bm fv fs d:=h.touch hb fun _ _=>id
def Disk(w:World)(S:Nat->Prop)(bd:Nat)(d:Dk):Prop:=∃bm fv fs,DK w bd bm fv fs d/\(∀k,foot bd bm fv fs k->S k)/\∀k,S k->k<w.heap.size
theorem Disk.touch{w w':World}{S T:Nat->Prop}{bd:Nat}{d:Dk}(h:Disk w S bd d)(hb:Touch T w w')(hn:∀k,S k->¬T k):Disk w' S bd d:=by
 obtain⟨bm,fv,fs,h1,h2,h3⟩:=h
 exact⟨bm,fv,fs,h1.touch hb fun k hk=>hn k (h2 k hk),h2,fun k hk=>Nat.lt_of_lt_of_le (h3 k hk) hb.size⟩
theorem Disk.fresh{w w':World}{S:Nat->Prop}{bd:Nat}{d:Dk}(h:Disk w S bd d)(hb:Fresh w w'):Disk w' S bd d:=h.touch hb fun _ _=>id
def more(S:Nat->Prop)(w w':World)(k:Nat):Prop:=S k\/(w.heap.size<=k/\k<w'.heap.size)
theorem DK.disk{w w':World}{S:Nat->Prop}{bd bm:Nat}{fv:Value}{fs:List FR}{d:Dk}(h:DK w' bd bm fv fs d)(h1:∀k,foot bd bm fv fs k->S k\/w.heap.size<=k)(h2:∀k,S k->k<w.heap.size)(hs:w.heap.size<=w'.heap.size):Disk w' (more S w w') bd d:=
 ⟨bm,fv,fs,h,fun k hk=>(h1 k hk).elim .inl fun e=> .inr ⟨e,h.lt k hk⟩,fun k hk=>hk.elim (fun e=>Nat.lt_of_lt_of_le (h2 k e) hs) (·.2)⟩
theorem find_fr(fs:List FR)(n:Int):(fs.map fun f=>(f.n,f.g)).find? (fun p=>decide (p.1=n))=(fs.find? fun f=>decide (f.n=n)).map fun f=>(f.n,f.g):=by
 rw[List.find?_map]
 rfl
theorem find_fl(fs:List FR)(n:Int):Fl.at_ (fs.map FR.fl) n=(fs.find? fun f=>decide (f.n=n)).map FR.fl:=by
 unfold Fl.at_
 rw[List.find?_map]
 rfl
theorem entV_some{fs:List FR}{n:Int}{f:FR}(h:fs.find? (fun f=>decide (f.n=n))=some f):entV (fs.map fun f=>(f.n,f.g)) n= .pointer (some ⟨f.g,0,none⟩):=by
 unfold entV
 rw[find_fr,h]
 rfl
theorem entV_none{fs:List FR}{n:Int}(h:fs.find? (fun f=>decide (f.n=n))=none):entV (fs.map fun f=>(f.n,f.g)) n= .pointer none:=by
 unfold entV
 rw[find_fr,h]
 rfl
theorem find_mem{fs:List FR}{n:Int}{f:FR}(h:fs.find? (fun f=>decide (f.n=n))=some f):f∈fs/\f.n=n:=⟨List.mem_of_find?_eq_some h,by simpa using List.find?_some h⟩
theorem clone_any(A:Option Addr)(n c:Nat)(xs:List UInt8)(w:World)(h:Bs w A n c xs)(hb:n<=140737488355000):
  Calls Tryz.prog 79 #[.slice A n c] w fun e w'=>Fresh w w'/\∃B c',e= .returned (.slice B n c')/\Row w' (.slice B n c') xs/\(∀a,B=some a->w.heap.size<=a.block):=by
 have q22:∀(w:World) (a:Option Addr) (n c n' c':Nat),(binOp .eql 29 (.slice a n c) (.slice none n' c')).run Tryz.prog w= .ok (.bool a.isNone) w:=fun w a n c n' c'=>Lib.run_eql_slice_nil w _ _ a n c n' c' Tryz.underlying29
 have hm:=h.2.2.1
 have hnc:=h.2.1
 unfold maxLen at hm
 obtain rfl:=h.1
 cases A with
 | none=>
  have hl:xs= []:=by
   rcases Nat.eq_zero_or_pos xs.length with h0 | h0
   ·exact List.eq_nil_of_length_eq_zero h0
   ·obtain⟨b,o,e⟩:=h.at_ h0
    cases e
  have HL:=zh hl
  clear h hl
  go_enter Tryz.func79,Tryz.ntmps79
  go_wp2_with fail
  go_ret
  refine⟨Touch.refl _ _,none,0, ?_, ?_,fun _ h=>by cases h⟩
  ·rw[HL.out];rfl
  ·rw[HL.out];exact Row.nil_ _
 | some a=>
  have H:=zh h
  clear h
  go_enter Tryz.func79,Tryz.ntmps79
  go_wp2_with (at_builtin;refine wpList_row_bs rfl _ _ 29 rfl Tryz.info5 Tryz.underlying29 (.slice (some ⟨w.heap.size,0,none⟩) 0 0) [] rfl (Row.lit [] #[] rfl (by simp)) (some a) xs.length c xs rfl (H.out.alloc _) (by simp only[List.length_nil];omega) ?_;intro B1 c1 w1 r1 g1 o1;simp only[List.length_nil,Nat.zero_add,List.nil_append]at r1 g1 o1)
  have hT1:Fresh w w1:=((Touch.refl _ w).alloc _).grown g1 (fun k hk=> .inl (by simp only[Value.ownBlock,Option.some.injEq]at hk;omega))
  have hN1:∀a,B1=some a->w.heap.size<=a.block:=by
   rintro a rfl
   rcases o1 with h | h
   ·simp only[Value.ownBlock,Option.some.injEq]at h
    omega
   ·simp only[Value.ownBlock,alloc_size,Option.some.injEq]at h
    omega
  clear o1 g1
  have R1:=zh r1
  clear r1
  go_wp2_with fail
  go_ret
  exact⟨hT1,B1,c1,rfl,R1.out,hN1⟩
theorem newDisk_any(w:World):Calls Tryz.prog 37 #[] w fun e w'=>Fresh w w'/\∃bd,e= .returned (.pointer (some ⟨bd,0,none⟩))/\Disk w' (fun k=>w.heap.size<=k/\k<w'.heap.size) bd Dk.new:=by
 have hmm:= @run_makeMap Tryz.prog
 go_enter Tryz.func37,Tryz.ntmps37
 go_wp2_with fail
 go_ret
 refine⟨((Touch.refl _ w).alloc _).alloc _,w.heap.size+1,by simp,w.heap.size, .slice none 0 0, [],⟨rfl, ?_, ?_,Own.nil_ _ _ _,by simp,List.Pairwise.nil⟩, ?_,fun k hk=>hk.2⟩
 ·have:=Blk.new (w.alloc (.map #[] 0)) 88 #[.map (some w.heap.size), .int .i64 0, .slice none 0 0, .bool false, .int .i64 0]
  rw[alloc_size]at this
  exact this
 ·exact(IMap.new w).heap (Below.heap_alloc _ _ _ (by simp))
 ·rintro k (rfl | rfl | hk | ⟨f,hf,_⟩)
  ·simp
  ·exact⟨Nat.le_refl _,by simp only[alloc_size];omega⟩
  ·cases hk
  ·cases hf
theorem ops_any(w:World)(bd bm:Nat)(fv:Value)(fs:List FR)(d:Dk)(h:DK w bd bm fv fs d):Calls Tryz.prog 59 #[.pointer (some ⟨bd,0,none⟩)] w fun e w'=>w=w'/\e= .returned (.int .i64 d.ops):=by
 have hc:=h.blk.cell 1
 simp only[List.getElem?_toArray,List.getElem?_cons_zero,List.getElem?_cons_succ]at hc
 clear h
 go_enter Tryz.func59,Tryz.ntmps59
 go_wp2_with fail
 go_ret
 exact⟨rfl,rfl⟩
theorem later_any(w:World)(bd bm:Nat)(fv:Value)(fs:List FR)(d:Dk)(after:Int)(h:DK w bd bm fv fs d)(ho:d.ops<=9223372036854775807)(ha:after<=9223372036854775807):Calls Tryz.prog 38 #[.pointer (some ⟨bd,0,none⟩), .int .i64 after] w fun e w'=>w=w'/\e= .returned (.int .i64 (d.later after)):=by
 have hc:=h.blk.cell 1
 simp only[List.getElem?_toArray,List.getElem?_cons_zero,List.getElem?_cons_succ]at hc
 have hl:d.later after=if 9223372036854775807-(d.ops:Int)<max after 0 then-1 else d.ops+max after 0:=rfl
 generalize d.ops=o at*
 generalize d.later after=l at*
 clear h
 by_cases h0:after<0
 ·have hmx:max after 0=0:=by omega
  rw[hmx,if_neg (by omega)]at hl
  have H:=zh hl
  clear hl hmx
  go_enter Tryz.func38,Tryz.ntmps38
  go_wp2_with fail
  go_ret
  exact⟨rfl,ret_int (by rw[H.out];simp)⟩
 ·have hmx:max after 0=after:=by omega
  rw[hmx]at hl
  by_cases h1:9223372036854775807-(o:Int)<after
  ·rw[if_pos h1]at hl
   have H:=zh hl
   clear hl hmx
   go_enter Tryz.func38,Tryz.ntmps38
   go_wp2_with fail
   go_ret
   exact⟨rfl,ret_int H.out.symm⟩
  ·rw[if_neg h1]at hl
   have H:=zh hl
   clear hl hmx
   go_enter Tryz.func38,Tryz.ntmps38
   go_wp2_with fail
   go_ret
   exact⟨rfl,ret_int H.out.symm⟩
theorem kept_any(w:World)(bd bm:Nat)(fv:Value)(fs:List FR)(d:Dk)(n:Int)(h:DK w bd bm fv fs d)(hn:(Lit.int .i64 n).wf=true):Calls Tryz.prog 148 #[.pointer (some ⟨bd,0,none⟩), .int .i64 n] w fun e w'=>w=w'/\e= .returned (.int .i64 (d.kept n)):=by
 have hc:=h.blk.cell 0
 simp only[List.getElem?_toArray,List.getElem?_cons_zero]at hc
 have hlk:=h.map.look hn
 have hk:d.kept n=match (fs.find? fun f=>decide (f.n=n)).map FR.fl with | some f=>f.kept | none=>0:=by unfold Dk.kept;rw[h.fls,find_fl];rfl
 cases hf:fs.find? (fun f=>decide (f.n=n)) with
 | none=>
  rw[entV_none hf]at hlk
  rw[hf]at hk
  have HK:=zh hk
  clear h hk hf
  go_enter Tryz.func148,Tryz.ntmps148
  go_wp2_with fail
  go_ret
  exact⟨rfl,by rw[HK.out];rfl⟩
 | some f=>
  rw[entV_some hf]at hlk
  rw[hf]at hk
  have hc2:=(h.file f (find_mem hf).1).blk.cell 1
  simp only[List.getElem?_toArray,List.getElem?_cons_zero,List.getElem?_cons_succ]at hc2
  have HK:=zh hk
  clear h hk hf
  go_enter Tryz.func148,Tryz.ntmps148
  go_wp2_with fail
  go_ret
  exact⟨rfl,by rw[HK.out];rfl⟩
theorem read_any(w:World)(bd bm:Nat)(fv:Value)(fs:List FR)(d:Dk)(n:Int)(h:DK w bd bm fv fs d)(hn:(Lit.int .i64 n).wf=true)(hb:∀f∈fs,f.raw.length<=140737488355000):
  Calls Tryz.prog 88 #[.pointer (some ⟨bd,0,none⟩), .int .i64 n] w fun e w'=>Fresh w w'/\∃B c,e= .returned (.slice B (d.read n).length c)/\Row w' (.slice B (d.read n).length c) (d.read n)/\∀a,B=some a->w.heap.size<=a.block:=by
 have hc:=h.blk.cell 0
 simp only[List.getElem?_toArray,List.getElem?_cons_zero]at hc
 have hlk:=h.map.look hn
 have hk:d.read n=match (fs.find? fun f=>decide (f.n=n)).map FR.fl with | some f=>f.raw | none=> []:=by unfold Dk.read;rw[h.fls,find_fl];rfl
 cases hf:fs.find? (fun f=>decide (f.n=n)) with
 | none=>
  rw[entV_none hf]at hlk
  rw[hf]at hk
  have hk:d.read n= []:=hk
  rw[hk]
  clear h hk hf
  go_enter Tryz.func88,Tryz.ntmps88
  go_wp2_with fail
  go_ret
  exact⟨Touch.refl _ _,none,0,rfl,Row.nil_ _,fun _ h=>by cases h⟩
 | some f=>
  rw[entV_some hf]at hlk
  rw[hf]at hk
  have hk:d.read n=f.raw:=hk
  rw[hk]
  have hF:=h.file f (find_mem hf).1
  have hc2:=hF.blk.cell 0
  simp only[List.getElem?_toArray,List.getElem?_cons_zero]at hc2
  obtain⟨b,c,hv,h1,h2⟩:=hF.addr
  rw[hv]at hc2
  have hrow:=hF.row
  rw[hv]at hrow
  have HC:=zh (clone_any _ _ _ _ w (Raw.bs rfl hrow) (hb f (find_mem hf).1))
  clear h hk hf hb hF hv hrow
  go_enter Tryz.func88,Tryz.ntmps88
  go_wp2_with fail
  refine HC.out.mono ?_
  rintro e w1 ⟨hf1,B,c1,rfl,hr1,hn1⟩
  have R1:=zh hr1
  clear hr1 HC
  go_wp2_with fail
  go_ret
  exact⟨hf1,B,c1,rfl,R1.out,hn1⟩
end Go.Proofs.YtjehlgblkfofpaaGreat
namespace Go.Proofs.YtjehlgblkfofpaaGreat
open Go.RowKit Go.Maps
def bR(v:Value):Option (DataW Unit×List MemPlace):=
 match v with
 | .bool b=>some (.lit (.bool b), [])
 | _=>none
theorem bR_inv{v:Value}{b:Bool}{ps:List MemPlace}(h:bR v=some (.lit (.bool b),ps)):v= .bool b:=by
 unfold bR at h
 split at h
 ·simp only[Option.some.injEq,Prod.mk.injEq,DataW.lit.injEq,Lit.bool.injEq]at h
  rw[h.1]
 ·cases h
def entB(es:List Int):List (Lit×DataW Unit):=es.map fun n=>(.int .i64 n, .lit (.bool true))
def insB(n:Int):List Int->List Int
 | []=> [n]
 | p :: r=>if n<p then n :: p :: r else p :: insB n r
theorem insB_mem(n m:Int):∀es,m∈insB n es↔m=n\/m∈es
 | []=>by simp[insB]
 | p :: r=>by
  unfold insB
  split
  ·simp
  ·rw[List.mem_cons,insB_mem n m r,List.mem_cons]
   constructor
   ·rintro(h | h | h)
    ·exact .inr (.inl h)
    ·exact .inl h
    ·exact .inr (.inr h)
   ·rintro(h | h | h)
    ·exact .inr (.inl h)
    ·exact .inl h
    ·exact .inr (.inr h)
theorem insB_len(n:Int):∀es:List Int,(insB n es).length=es.length+1
 | []=>rfl
 | p :: r=>by
  unfold insB
  split
  ·rfl
  ·rw[List.length_cons,insB_len n r,List.length_cons]
theorem entB_ins(n:Int)(es:List Int):entB (insB n es)=DataW.insert (.int .i64 n, .lit (.bool true)) (entB es):=by
 induction es with
 | nil=>rfl
 | cons p r ih=>
  unfold insB
  show entB (if _ then _ else _)=DataW.insert _ ((Lit.int .i64 p,DataW.lit (.bool true)) :: entB r)
  unfold DataW.insert
  by_cases h:n<p
  ·rw[if_pos h,if_pos (by simpa [Lit.before] using h)]
   rfl
  ·rw[if_neg h,if_neg (by simpa [Lit.before] using h),<- ih]
   rfl
theorem entB_filter(n:Int)(es:List Int):(entB es).filter (fun p=> !p.1.sameKey (.int .i64 n))=entB (es.filter fun p=>decide (p≠n)):=by
 induction es with
 | nil=>rfl
 | cons p r ih=>
  show List.filter _ ((Lit.int .i64 p,DataW.lit (.bool true)) :: entB r)= _
  by_cases h:p=n
  ·rw[List.filter_cons_of_neg (by simp[Lit.sameKey,h]),List.filter_cons_of_neg (by simp[h]),ih]
  ·rw[List.filter_cons_of_pos (by simp[Lit.sameKey,h]),List.filter_cons_of_pos (by simp[h]),ih]
   rfl
theorem entB_at(n:Int)(es:List Int):(DataW.map (entB es)).atKey (.int .i64 n) (.lit (.bool false))= .lit (.bool (decide (n∈es))):=by
 induction es with
 | nil=>rfl
 | cons p r ih=>
  have h1:(DataW.map (entB (p :: r))).atKey (.int .i64 n) (.lit (.bool false))=if (Lit.int .i64 p).sameKey (.int .i64 n)=true then (.lit (.bool true):DataW Unit) else (DataW.map (entB r)).atKey (.int .i64 n) (.lit (.bool false)):=by
   unfold DataW.atKey
   simp only[entB,List.map_cons,List.find?_cons]
   cases (Lit.int .i64 p).sameKey (.int .i64 n)<;>rfl
  rw[h1,ih]
  by_cases h:p=n
  ·rw[if_pos (by simp[Lit.sameKey,h])]
   subst h
   simp
  ·rw[if_neg (by simp[Lit.sameKey,h])]
   have:¬n=p:=fun e=>h e.symm
   simp[this]
def BSet(w:World)(b:Nat)(l:List Int):Prop:=∃es:List Int,w.ownsMap Tryz.prog 3 bR b es.length (.map (entB es))/\(∀m,m∈es↔m∈l)/\es.length<=l.length
section
variable {w w':World}{b:Nat}{l:List Int}
theorem BSet.lt(h:BSet w b l):b<w.heap.size:=by obtain⟨_,h,_⟩:=h;exact World.ownsMap.lt h
theorem BSet.heap(h:BSet w b l)(hb:w'.heap[b]? =w.heap[b]?):BSet w' b l:=by
 obtain⟨es,⟨es',clock,h1,rest⟩,h2⟩:=h
 exact⟨es,⟨es',clock,hb.trans h1,rest⟩,h2⟩
theorem BSet.touch{S:Nat->Prop}(h:BSet w b l)(ht:Touch S w w')(hn:¬S b):BSet w' b l:=h.heap (ht.block b h.lt hn)
theorem BSet.new(w:World):BSet (w.alloc (.map #[] 0)) w.heap.size []:=⟨[],World.ownsMap_made w _ _ _,fun _=>Iff.rfl,Nat.le_refl _⟩
theorem BSet.ne_blk{g:Nat}{t:TypeId}{cs:Array Value}(h:BSet w b l)(hg:Blk w g t cs):b≠g:=by
 obtain⟨es,⟨es',clock,hb,_⟩,_⟩:=h
 rintro rfl
 have:=hb.symm.trans hg
 injection this with this
 cases this
theorem zeroBool(w:World):(zeroValue 4).run Tryz.prog w= .ok (.bool false) w:=by kernel_rfl
theorem BSet.look(h:BSet w b l){n:Int}(hn:(Lit.int .i64 n).wf=true):(Instr.lookup 217 (.map (some b)) (.int .i64 n) false).run Tryz.prog w= .ok (.bool (decide (n∈l))) w:=by
 obtain⟨es,h,hm,_⟩:=h
 obtain⟨v,ps,hrun,hv⟩:=World.ownsMap.lookup (H:=Unit) h key_int Tryz.underlying217 (zeroBool w) (by rfl:bR (.bool false)=some (.lit (.bool false), [])) (keyOf_int hn)
 rw[hrun]
 rw[entB_at]at hv
 rw[bR_inv hv]
 exact congrArg (fun x=>Result.ok (Value.bool x) w) (decide_eq_decide.2 (hm n))
theorem BSet.put(h:BSet w b l){n:Int}(hn:(Lit.int .i64 n).wf=true)(hm:l.length<maxLen):
  ∃w',(Instr.mapUpdate 217 (.map (some b)) (.int .i64 n) (.bool true)).run Tryz.prog w= .ok () w'/\BSet w' b (n :: l)/\w.grownBy w' (some b):=by
 obtain⟨es,h,hmem,hle⟩:=h
 obtain⟨w',hrun,hown,hg⟩:=World.ownsMap.update (H:=Unit) h key_int Tryz.underlying217 (by omega) (keyOf_int hn) (by rfl:bR (.bool true)=some (.lit (.bool true), []))
 refine⟨w',hrun,⟨insB n (es.filter fun p=>decide (p≠n)), ?_,fun m=> ?_, ?_⟩,hg⟩
 ·have hown:w'.ownsMap Tryz.prog 3 bR b (es.length+1) (.map (entB (insB n (es.filter fun p=>decide (p≠n))))):=by
   rw[entB_ins,<- entB_filter]
   exact hown
  obtain⟨es',clock,hb,F,hs,hD⟩:=hown
  refine⟨es',clock,hb,F, ?_,hD⟩
  injection hD with hD
  have:=congrArg List.length hD
  rw[length_sorted,List.length_map]at this
  unfold entB at this
  rw[List.length_map]at this
  simpa using Nat.le_of_eq this.symm
 ·rw[insB_mem,List.mem_filter,List.mem_cons,hmem]
  constructor
  ·rintro(h | h)
   ·exact .inl h
   ·exact .inr h.1
  ·rintro(h | h)
   ·exact .inl h
   ·by_cases e:m=n
    ·exact .inl e
    ·exact .inr ⟨h,by simpa using e⟩
 ·rw[insB_len,List.length_cons]
  have:=List.length_filter_le (fun p=>decide (p≠n)) es
  omega
end
end Go.Proofs.YtjehlgblkfofpaaGreat