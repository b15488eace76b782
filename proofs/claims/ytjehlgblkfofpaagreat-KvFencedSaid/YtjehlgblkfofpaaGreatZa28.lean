/- The claims' texts, several in one: Srs. Conditions stand with each theorem. -/
import Derived.Test.YtjehlgblkfofpaaGreatZa18
import Derived.Test.YtjehlgblkfofpaaGreatZa27
import Derived.Shelf.SlSortCmp.NoneTotal
set_option maxRecDepth 20000
namespace Go.Proofs.YtjehlgblkfofpaaGreat
open Go.RowKit Go.Sort
instance:Inhabited Seg:=⟨⟨0,0,0,0,false,0,0,0⟩⟩
theorem segC_ones(s:Seg):∀u∈segC s,u.oneCell'=true:=by
 intro u hu
 simp only[segC,List.mem_cons,List.not_mem_nil,or_false]at hu
 rcases hu with rfl | rfl | rfl | rfl | rfl | rfl | rfl | rfl<;>rfl
def cfG(a b:Seg):Int:=Lib.compareInt (a.number:Int) (b.number:Int)
theorem ltOf_cfG(a b:Seg):ltOf cfG a b=decide (a.number<b.number):=by
 unfold ltOf cfG Lib.compareInt
 by_cases h:a.number<b.number
 ·rw[if_pos (by omega),decide_eq_true h]
  rfl
 ·rw[if_neg (by omega),decide_eq_false h]
  split<;>rfl
theorem swoG:SWO (ltOf cfG) where
 irrefl x:=by rw[ltOf_cfG];simp
 trans x y z h1 h2:=by rw[ltOf_cfG] at*;have h1:=of_decide_eq_true h1;have h2:=of_decide_eq_true h2;exact decide_eq_true (by omega)
 ntrans x y z h1 h2:=by rw[ltOf_cfG] at*;have h1:=of_decide_eq_false h1;have h2:=of_decide_eq_false h2;exact decide_eq_false (by omega)
theorem segcmp_any(a b:Seg)(W:World):Calls Tryz.prog 85 #[.agg (segC a).toArray, .agg (segC b).toArray] W fun e w'=>e= .returned (.int .i64 (cfG a b))/\∃q os',w'=Sort.grow (W.drewN q) os':=by
 have KC:=zh (fun V=>Tryz.cmp_Compare_int (a.number:Int) (b.number:Int) V)
 unfold segC
 go_enter Tryz.func85,Tryz.ntmps85
 go_wp2_with fail
 refine(KC.out _).mono ?_
 rintro e w2 ⟨rfl,rfl⟩
 go_wp2_with fail
 go_ret
 exact⟨rfl,0, #[.cells (segC a).toArray 145, .cells (segC b).toArray 145],rfl⟩
theorem segLays_any(blk off size:Nat)(w:World):CmpLays Tryz.prog 85 #[] segC 8 cfG blk off size w:=
 fun _ _ _ _ x y=>segcmp_any x y _
theorem sorted_seg{d:Array Seg}(h:SortedIn (ltOf cfG) 0 d.size d):d.toList.Pairwise fun a b=>a.number<=b.number:=by
 rw[List.pairwise_iff_getElem]
 intro i j hi hj hij
 have:=h i j (Nat.zero_le _) hij (by simpa using hj)
 rw[ltOf_cfG,getElem!_pos d i (by simpa using hi),getElem!_pos d j (by simpa using hj)]at this
 simpa using this
section
variable {α:Type} [Inhabited α]
theorem flatK_list(enc:α->List Value)(k:Nat)(hk:∀x,(enc x).length=k)(d:Array α):(flatK enc k d).toList=d.toList.flatMap enc:=by
 apply List.ext_getElem?
 intro t
 by_cases ht:t<d.size*k
 ·have k0:0<k:=by
   rcases Nat.eq_zero_or_pos k with h | h
   ·subst h;simp at ht
   ·exact h
  have hi:t / k<d.size:=Nat.div_lt_of_lt_mul (by rwa [Nat.mul_comm]at ht)
  have hr:t % k<k:=Nat.mod_lt _ k0
  have h1:d.toList[t / k]? =some d[t / k]! :=by rw[Array.getElem?_toList,getElem!_pos d _ hi];exact Array.getElem?_eq_getElem hi
  have h2:=flat_at enc k hk d.toList (t / k) (t % k) _ h1 hr
  have e:t / k*k+t % k=t:=by rw[Nat.mul_comm];exact Nat.div_add_mod t k
  rw[e]at h2
  have h3:(flatK enc k d)[t]? =some (flatK enc k d)[t]! :=by rw[getElem!_pos _ t (by simpa using ht)];exact Array.getElem?_eq_getElem _
  rw[h2,Array.getElem?_toList,h3,get_flatK enc k d t ht,getElem!_pos (enc _) (t % k) (by rw[hk];exact hr)]
  exact(List.getElem?_eq_getElem _).symm
 ·rw[List.getElem?_eq_none (by simp;omega),List.getElem?_eq_none (by rw[flat_length enc k hk];simp;omega)]
variable {w:World}{e:TypeId}{g cap n size:Nat}
theorem heap_put(enc:α->Value){m:Nat}{os:Array Obj}{cur:Array Value}{fr:Nat×Nat}(d:Array α)(hb:w.heap[g]? =some (.cells cur e fr)):
  (grow (putRow enc (Sort.ahead w m) g 0 d) os).heap[g]? =some (.cells (putCells enc 0 d cur) e fr):=by
 have hg:g<w.heap.size:=(Array.getElem?_eq_some_iff.1 hb).1
 rw[heap_grow_old _ _ (by simpa using hg)]
 simp[putRow,mapBlock,Sort.ahead,Array.getElem?_modify,hb,onCells]
theorem touch_put(enc:α->Value){m:Nat}{os:Array Obj}(d:Array α):Touch (fun k=>k=g) w (grow (putRow enc (Sort.ahead w m) g 0 d) os):=by
 refine⟨rfl,rfl,rfl,by simp,fun k hk hne=> ?_⟩
 rw[heap_grow_old _ _ (by simpa using hk)]
 have:g≠k:=fun e=>hne e.symm
 simp[putRow,mapBlock,Sort.ahead,Array.getElem?_modify,this]
theorem take_put(enc:α->Value)(cur:Array Value)(d:Array α)(h:d.size<=cur.size):(putCells enc 0 d cur).toList.take d.size=d.toList.map enc:=by
 apply List.ext_getElem?
 intro j
 by_cases hj:j<d.size
 ·rw[List.getElem?_take_of_lt hj,Array.getElem?_toList]
  simp[putCells,hj,show j<cur.size by omega]
 ·rw[List.getElem?_take_eq_none (by omega),List.getElem?_eq_none (by simp;omega)]
theorem Own.putRow_(enc:α->Value){xs:List Value}{m:Nat}{os:Array Obj}(h:Own w e size (.slice (some ⟨g,0,none⟩) n cap) n xs)(d:Array α)(hd:d.size=n*size):
  Own (grow (putRow enc (Sort.ahead w m) g 0 d) os) e size (.slice (some ⟨g,0,none⟩) n cap) n (d.toList.map enc):=by
 obtain⟨cur,hg,h1,h2,h3,h4⟩:=h.parts
 have hle:d.size<=cur.size:=by rw[hd];exact Nat.le_trans (Nat.mul_le_mul_right _ h1) h3
 refine⟨by simp[hd], .inr ⟨g,cap,_,rfl,heap_put enc d hg,h1,h2,by simpa [putCells] using h3, ?_⟩⟩
 rw[<- hd]
 exact take_put enc cur d hle
theorem Own.holds_(enc:α->Value){d:Array α}(h:Own w e size (.slice (some ⟨g,0,none⟩) n cap) n (d.toList.map enc))(hd:d.size=n*size):Holds enc w g 0 d:=by
 intro j hj
 refine⟨?_, ?_⟩
 ·rw[Nat.zero_add,h.cell (by omega)]
  simp[hj]
 ·rw[Nat.zero_add]
  exact h.frozen j
end
theorem permIn_list{α:Type} [Inhabited α] {d d':Array α}(h:PermIn 0 d.size d d'):d'.toList.Perm d.toList:=by
 obtain⟨h1,_,h3⟩:=h
 have e1:d'.extract 0 d.size=d':=by rw[<- h1];simp
 have e2:d.extract 0 d.size=d:=by simp
 rw[e1,e2]at h3
 exact h3
theorem sortseg_any{w:World}{sv:Value}{sgs:List Seg}(h:Own w 145 8 sv sgs.length (segsC sgs))(hl:sgs.length<=1000000000):
  Calls Tryz.prog 84 #[sv, .func (.func 85) #[] #[]] w fun e w'=>e= .returned (.tuple #[])/\Touch (fun k=>sv.ownBlock=some k) w w'/\
   ∃sgs',Own w' 145 8 sv sgs'.length (segsC sgs')/\sgs'.Perm sgs/\sgs'.Pairwise fun a b=>a.number<=b.number:=by
 have hlt:=h.lt
 obtain⟨A,c,rfl,h1,h2,hA⟩:=h.form
 rcases hA with⟨rfl,h0,rfl⟩ | ⟨g,rfl⟩
 ·have:sgs= []:=List.eq_nil_of_length_eq_zero h0
  subst this
  exact(AnyF.slices_SortFunc_none Tryz.sortSeg none 0 _ w).mono fun _ _ ⟨he,hw⟩=>⟨he,by rw[hw];exact Touch.refl _ _, [],by rw[hw];exact h, .refl _,List.Pairwise.nil⟩
 ·have hfl:(flatK segC 8 sgs.toArray).toList=segsC sgs:=by rw[flatK_list segC 8 segC_len];rfl
  have hH:HoldsK segC 8 w g 0 sgs.toArray:=Own.holds_ (size:=8) id (d:=flatK segC 8 sgs.toArray) (by rw[hfl,List.map_id_fun];exact h) (by simp)
  have eg:∀args w,(callFunc 85 args).run Tryz.prog w= .ok (.enter 85 args) w:=enters_of Tryz.func85 (by kernel_rfl) rfl
  have hcon:=AnyQ.slices_SortFunc Tryz.sortSeg 8 Tryz.isAgg145 Tryz.sizeOf145 segC segC_len segC_ones cfG swoG 85 #[] g 0 c sgs.toArray w eg (segLays_any g 0 _ w) hH (hlt g rfl) (by simp;omega)
  have hsz:sgs.toArray.size=sgs.length:=rfl
  rw[hsz]at hcon
  refine hcon.mono fun e w' ⟨he,d',n,os,hp,hs,hw⟩=>⟨he, ?_,d'.toList, ?_, ?_, ?_⟩
  ·rw[hw]
   exact(touch_put id (g:=g) (flatK segC 8 d')).mono fun k _ hk=>by rw[hk];rfl
  ·have hd:d'.toList.length=sgs.length:=by have:=hp.1;simpa using this
   rw[hw,hd]
   have:=Own.putRow_ id (m:=n) (os:=os) h (flatK segC 8 d') (by rw[size_flatK];simpa using congrArg (·*8) hd)
   rw[List.map_id_fun,flatK_list segC 8 segC_len]at this
   exact this
  ·have:=permIn_list (d:=sgs.toArray) (d':=d') hp
   simpa using this
  ·refine sorted_seg ?_
   rw[hp.1]
   exact hs
end Go.Proofs.YtjehlgblkfofpaaGreat