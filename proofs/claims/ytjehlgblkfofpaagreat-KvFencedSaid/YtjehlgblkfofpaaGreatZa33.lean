/- The claims' texts, several in one: Oz. Conditions stand with each theorem. -/
import Derived.Test.YtjehlgblkfofpaaGreatZa02
import Derived.Deep.RegionHeld
import Derived.Deep.RegionLaw
namespace Go.Proofs.YtjehlgblkfofpaaGreat
open Go.RowKit
def Oz(w:World)(e:TypeId)(size:Nat)(v:Value)(n:Nat)(xs:List Value):Prop:=Own w e size v n xs\/∃A,v= .slice A 0 0/\n=0/\xs= []
section
variable {P:Program}{w w':World}{e:TypeId}{size n:Nat}{v:Value}{xs:List Value}
theorem run_cp_src(w:World)(t tx ty e:TypeId)(i:TypeInfo)(z:Value)(size bytes:Nat)(ht:P.underlying t=some (.slice e))(hi:P.info? e=some i)(hz:i.zero=some z)(hsize:i.size=size)(hby:i.bytes=bytes)(hzs:z.cells.size=size)
  (A:Option Addr) (x:Value) (m:Nat) (news:List Value) (hs:Src P size tx x m news w) (h63:m<=maxLen) (hbytes:m*bytes<=140737488355328):
  ∃B c' w',(Builtin.append_ #[t,tx] ty #[.slice A 0 0,x]).run P w= .ok (.slice B m c') w'/\Oz w' e size (.slice B m c') m news/\w.grownBy w' none/\
   ((Value.slice B m c').ownBlock=(Value.slice A 0 0).ownBlock\/((Value.slice B m c').ownBlock=some w.heap.size/\w.heap.size<w'.heap.size)):=by
 subst hsize
 subst hby
 by_cases h0:m=0
 ·subst h0
  have hn:news= []:=List.eq_nil_of_length_eq_zero (by have:=hs.newsLen;omega)
  subst hn
  exact⟨A,0,w,run_append_nothing w t tx ty e i ht hi A 0 0 (Nat.le_refl _) x hs, .inr ⟨A,rfl,rfl,rfl⟩,⟨rfl,rfl,rfl,Nat.le_refl _,fun _ _ _=>rfl⟩, .inl rfl⟩
 ·have hlen:news.length=m*i.size:=hs.newsLen
  have hm63:((0+m:Nat):Int)<=9223372036854775807:=by unfold maxLen at h63;omega
  have hold:(Builtin.firstCells i.size 0 (.slice A 0 0)).run P w.drew= .ok ([]:List Value).toArray w.drew:=by
   cases A with
   | none=>exact run_firstCells_none w.drew i.size 0 0 0
   | some a=>exact(Src.ofSlice w ht a 0 0 [] (by simp) (by simp) (by simp):Src P i.size t _ 0 [] w).cellsD
  have hrun:=run_append_grow_src (P:=P) w t tx ty e i z ht hi hz A 0 0 [] hold x m news hs (by omega) hm63 (growslice_fits (by omega) (by rw[Nat.zero_add];exact hbytes))
  have hge:=grownCap_ge w (0+m) 0 e
  have hcm:=grownCap_le_maxLen w (0+m) 0 e (by rw[Nat.zero_add];exact h63)
  rw[Nat.zero_add]at hrun hge hcm
  rw[List.nil_append]at hrun
  refine⟨_,_,_,hrun, .inl ⟨hlen, .inr ⟨w.heap.size,_,_,rfl,heap_alloc_new w.drew _,hge,hcm, ?_, ?_⟩⟩,⟨rfl,rfl,rfl,by simp,fun k hk _=>Below.heap_alloc w.drew _ k hk⟩, .inr ⟨rfl,by simp⟩⟩
  ·rw[Array.size_append,List.size_toArray,hlen,size_zeroCells,hzs,<- Nat.add_mul]
   exact Nat.le_of_eq (by congr 1;omega)
  ·rw[Array.toList_append,<- hlen]
   exact List.take_left
theorem step_cp_src(w:World){ops:Array Oper}{o:Oper}{a:Act}{K:Act->World->Prop}{Q:Exit->Act->World->Prop}{E:Prop}(hgd:o.guard=none)(s x:Operand)(t tx:TypeId)
  (ho:o.op= .call { callee:= .builtin .append,args:= #[s,x],argTypes:= #[t,tx] })
  (e:TypeId) (z:Value) (size bytes:Nat) (hinfo:(P.info? e).map (fun i=>(i.zero,i.size,i.bytes))=some (some z,size,bytes)) (ht:P.underlying t=some (.slice e)) (hzs:z.cells.size=size)
  (A:Option Addr) (hv:a.eval s= .slice A 0 0) (y:Value) (m:Nat) (news:List Value) (hx:a.eval x=y) (hs:Src P size tx y m news w) (h63:m<=maxLen) (hbytes:m*bytes<=140737488355328)
  (h:∀B c' w',Oz w' e size (.slice B m c') m news->Fresh w w'->((Value.slice B m c').ownBlock=(Value.slice A 0 0).ownBlock\/((Value.slice B m c').ownBlock=some w.heap.size/\w.heap.size<w'.heap.size))->K (a.put o.dst (.slice B m c')) w'):
  if Region.wanted o (yielded ops a.tmps)=true then Oper.wp P o a w K Q else E:=by
 have hw:Region.wanted o (yielded ops a.tmps)=true:=by simp[Region.wanted,hgd]
 rw[if_pos hw]
 obtain⟨i,hi,hz,hs1,hb1⟩:=info_parts hinfo
 obtain⟨B,c',w',hr,h2,h3,h4⟩:=run_cp_src (P:=P) w t tx o.type e i z size bytes ht hi hz hs1 hb1 hzs A y m news hs h63 hbytes
 unfold Oper.wp execOp
 simp only[ho,resolve,invoke,builtin,Sem.run_bind,Sem.run_pure,Result.andThen_ok,List.map_toArray,List.map_cons,List.map_nil,hv,hx,hr]
 exact h B c' w' h2 ((Touch.refl _ w).grown h3 fun k hk=>by cases hk) h4
theorem Oz.touch{S:Nat->Prop}(h:Oz w e size v n xs)(hb:Touch S w w')(hn:∀k,v.ownBlock=some k->¬S k):Oz w' e size v n xs:=h.imp (fun h=>h.touch hb hn) id
theorem Oz.form(h:Oz w e size v n xs):∃A c,v= .slice A n c/\n<=c/\c<=maxLen/\(n=0\/∃g,A=some ⟨g,0,none⟩):=by
 rcases h with h | ⟨A,rfl,rfl,_⟩
 ·obtain⟨A,c,rfl,h1,h2,h3⟩:=h.form
  exact⟨A,c,rfl,h1,h2,h3.imp (fun h=>h.2.1) id⟩
 ·exact⟨A,0,rfl,Nat.le_refl _,Nat.zero_le _, .inl rfl⟩
theorem Oz.src{P:Program}{t e':TypeId}(h:Oz w e size v n xs)(ht:P.underlying t=some (.slice e'))(h1:∀u∈xs,u.oneCell'=true):Src P size t v n xs w:=by
 rcases h with h | ⟨A,rfl,rfl,rfl⟩
 ·exact h.src ht h1
 ·cases A with
  | none=>exact Src.ofNil w ht 0
  | some a=>exact Src.ofSlice w ht a 0 0 [] (by simp) (by simp) (by simp)
theorem Oz.fresh(h:Oz w e size v n xs)(hb:Fresh w w'):Oz w' e size v n xs:=h.imp (fun h=>h.touch hb fun _ _=>id) id
theorem Oz.own(h:Oz w e size v n xs)(h0:0<n):Own w e size v n xs:=by
 rcases h with h | ⟨_,_,h,_⟩
 ·exact h
 ·omega
end
end Go.Proofs.YtjehlgblkfofpaaGreat