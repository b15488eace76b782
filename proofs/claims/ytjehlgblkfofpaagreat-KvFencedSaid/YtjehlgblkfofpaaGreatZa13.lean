/- The claims' texts, several in one: Krow. Conditions stand with each theorem. -/
import Derived.Test.YtjehlgblkfofpaaGreatZa08
import Derived.Test.YtjehlgblkfofpaaGreatZa12
import Derived.Test.YtjehlgblkfofpaaGreatZa01
set_option maxRecDepth 20000
namespace Go.Proofs.YtjehlgblkfofpaaGreat
open Go.RowKit
def keysV(l:KL):List Value:=l.map fun x=> .string ⟨x.1.toArray⟩
theorem keysV_len(l:KL):(keysV l).length=l.length:=by simp[keysV]
theorem keysV_get(l:KL)(j:Nat):(keysV l)[j]? =(l[j]?).map fun x=>Value.string ⟨x.1.toArray⟩:=by simp[keysV]
theorem keysV_one(l:KL):∀u∈keysV l,u.oneCell'=true:=by
 intro u hu
 obtain⟨x,_,rfl⟩:=List.mem_map.1 hu
 rfl
section
variable {w:World}{kv:Value}{l:KL}
theorem search_any(h:Own w 9 1 kv l.length (keysV l))(hs:KSort l)(hl:l.length<=1000000000)(k:List UInt8):
  Calls Tryz.prog 57 #[kv, .string ⟨k.toArray⟩] w fun e w'=>e= .returned (.tuple #[.int .i64 (kpos k l:Nat), .bool (kget k l).isSome])/\∃q,w'=w.drewN q:=by
 obtain⟨A,c,rfl,hc1,hc2,hA⟩:=h.form
 by_cases h0:l= []
 ·subst h0
  refine(Any2.slices_BinarySearch_string_empty Tryz.bsStr A c ⟨k.toArray⟩ w).mono ?_
  rintro e w' ⟨rfl,rfl⟩
  exact⟨rfl,0,rfl⟩
 ·obtain⟨g,rfl⟩:∃g,A=some ⟨g,0,none⟩:=by
   rcases hA with⟨_,h1,_⟩ | hA
   ·exact absurd (List.length_eq_zero_iff.1 h1) h0
   ·exact hA
  obtain⟨Sx,hSx⟩:∃Sx:Nat->ByteArray,Sx=fun j=>match l[j]? with | some x=>⟨x.1.toArray⟩ | none=>⟨k.toArray⟩:=⟨_,rfl⟩
  have hcell:∀j,j<l.length->w.cell? ⟨g,0+j,none⟩=some (.string (Sx j)):=by
   intro j hj
   rw[Nat.zero_add,h.cell (j:=j) (by omega),keysV_get,hSx]
   simp[List.getElem?_eq_getElem hj]
  have hpos:Lib.bsGo (fun t=>Op.bytesLess (Sx t).toList (⟨k.toArray⟩:ByteArray).toList) l.length 0 l.length=kpos k l:=by
   refine Lib.bsGo_spec _ (kpos k l) (fun t ht=> ?_) (fun t ht=> ?_) l.length 0 l.length (by omega) (Nat.zero_le _) (kpos_le l)
   ·have hlt:t<l.length:=Nat.lt_of_lt_of_le ht (kpos_le l)
    have:=kpos_lt ht _ (List.getElem?_eq_getElem hlt)
    rw[hSx]
    dsimp only
    rw[List.getElem?_eq_getElem hlt]
    dsimp only
    rw[bytesLess_eq,Lib.toList_data,Lib.toList_data]
    simpa using this
   ·rw[hSx]
    dsimp only
    cases hh:l[t]? with
    | none=>
     dsimp only
     rw[bytesLess_eq]
     simp[slt_irr]
    | some x=>
     have:=kpos_ge hs ht _ hh
     dsimp only
     rw[bytesLess_eq,Lib.toList_data,Lib.toList_data]
     simpa using this
  refine(Any2.slices_BinarySearch_string Tryz.bsStr g 0 l.length c Sx ⟨k.toArray⟩ w (by omega) hcell).mono ?_
  rintro e w' ⟨rfl,hq⟩
  refine⟨?_,hq⟩
  rw[hpos]
  have hb:decide (kpos k l<l.length/\Sx (kpos k l)=⟨k.toArray⟩)=(kget k l).isSome:=by
   cases hg:kget k l with
   | some v=>
    have hp:=(kget_pos hs).1 hg
    have hlt:=(List.getElem?_eq_some_iff.1 hp).1
    refine decide_eq_true ⟨hlt, ?_⟩
    rw[hSx]
    dsimp only
    rw[hp]
   | none=>
    refine decide_eq_false ?_
    rintro⟨hlt,he⟩
    rw[hSx]at he
    dsimp only at he
    rw[List.getElem?_eq_getElem hlt]at he
    dsimp only at he
    have hk:l[kpos k l].1=k:=by
     have:=congrArg (fun b:ByteArray=>b.data.toList) he
     simpa using this
    have:=(kget_pos (k:=k) (v:=l[kpos k l].2) hs).2 (by rw[List.getElem?_eq_getElem hlt];congr 1;exact Prod.ext hk rfl)
    rw[hg]at this
    cases this
  rw[hb]
def RowEnd(w:World)(kv:Value)(m:Nat)(us:List Value)(e:Ending)(w':World):Prop:=
 ∃B c',e= .returned (.slice B m c')/\Own w' 9 1 (.slice B m c') m us/\Touch (fun q=>kv.ownBlock=some q) w w'/\∀q,(Value.slice B m c').ownBlock=some q->kv.ownBlock=some q\/w.heap.size<=q
theorem shape_blk{w:World}{b:Nat}{t:TypeId}{cs:Array Value}(h:w.heap[b]? =some (.cells cs t (0,0))):w.shape? b=some (t,cs.size):=by simp[World.shape?,h]
theorem insert_any(h:Own w 9 1 kv l.length (keysV l))(hl:l.length<=1000000000){i:Nat}(hi:i<=l.length)(k:List UInt8){vb:Nat}(hv:Blk w vb 9 #[.string ⟨k.toArray⟩])(hvb:kv.ownBlock≠some vb):
  Calls Tryz.prog 99 #[kv, .int .i64 i, .slice (some ⟨vb,0,none⟩) 1 1] w (RowEnd w kv (l.length+1) ((keysV l).take i++ [.string ⟨k.toArray⟩]++(keysV l).drop i)):=by
 obtain⟨A,c,rfl,hc1,hc2,hA⟩:=h.form
 have hvs:∀j v, [Value.string ⟨k.toArray⟩][j]? =some v->w.cell? ⟨vb,0+j,none⟩=some v:=fun j v hj=>by
  cases j with
  | zero=>rw[<- hj];exact hv.cell 0
  | succ j=>simp at hj
 have h1v:∀v∈ [Value.string ⟨k.toArray⟩],v.oneCell'=true:=by
  intro v hh
  rw[List.mem_singleton]at hh
  subst hh
  rfl
 have hm2:=hc2
 unfold maxLen at hm2
 by_cases hn:i=l.length
 ·subst hn
  have hus:(keysV l).take l.length++ [.string ⟨k.toArray⟩]++(keysV l).drop l.length=keysV l++ [.string ⟨k.toArray⟩]:=by
   rw[<- keysV_len l,List.take_length,List.drop_length,List.append_nil]
  rw[hus]
  by_cases hroom:l.length+1<=c
  ·obtain⟨g,rfl⟩:∃g,A=some ⟨g,0,none⟩:=by
    rcases hA with⟨_,_,h3⟩ | hA
    ·omega
    ·exact hA
   obtain⟨cur,hg,q1,q2,q3,q4⟩:=h.parts
   refine(Any2.slices_Insert_string_end_room Tryz.insStr g 0 l.length c vb 0 1 1 [.string ⟨k.toArray⟩] w (by decide) hroom (by omega) rfl
    (fun j hj=>by rw[show 0+l.length+j=l.length by omega,cell_of_row w g _ cur _ (0,0) hg,Array.getElem?_eq_getElem (by omega)];rfl) (fun j hj=>frozen_of_row w g _ cur _ hg) hvs h1v).mono ?_
   rintro e w' ⟨rfl,rfl⟩
   refine⟨_,_,rfl,⟨by simp[keysV_len], .inr ⟨g,c,_,rfl,heap_setCells_self g _ (0,0) [.string ⟨k.toArray⟩] (0+l.length) w cur hg (by simp only[List.length_singleton];omega),hroom,hc2, ?_, ?_⟩⟩,touch_setCells (S:=fun q=>(Value.slice (some ⟨g,0,none⟩) l.length c).ownBlock=some q) (Touch.refl _ w) rfl _ _,fun q hq=> .inl hq⟩
   ·simp only[List.size_toArray,List.length_append,List.length_take,List.length_drop,Array.length_toList,List.length_singleton]
    omega
   ·have e1:cur.toList.take l.length=keysV l:=by rw[<- q4,Nat.mul_one]
    rw[Nat.zero_add,e1,Nat.mul_one]
    show List.take (l.length+1) (keysV l++ [.string ⟨k.toArray⟩]++ _)= _
    rw[List.take_left' (by simp[keysV_len])]
  ·refine(Any2.slices_Insert_string_end_grow Tryz.insStr A l.length c vb 0 1 1 (keysV l) [.string ⟨k.toArray⟩] w (by decide) hc1 (by omega) (by omega) (keysV_len l) rfl
    (fun e=>by
     rcases hA with⟨_,h2,_⟩ | ⟨g,hA⟩
     ·exact h2
     ·rw[hA]at e;cases e)
    (fun a ha j v hj=>by
     rcases hA with⟨h2,_⟩ | ⟨g,hA⟩
     ·rw[h2]at ha;cases ha
     ·rw[hA]at ha
      injection ha with ha
      subst ha
      subst hA
      have hjl:=(List.getElem?_eq_some_iff.1 hj).1
      rw[keysV_len]at hjl
      rw[add_flat,Nat.zero_add,h.cell (j:=j) (by omega)]
      exact hj) hvs h1v).mono ?_
   rintro e w' ⟨rfl,rfl⟩
   rw[show Tryz.insStr_ren.t 9=9 from rfl]
   have hge:=grownCap_ge w (l.length+1) c 9
   have hcm:=grownCap_le_maxLen w (l.length+1) c 9 (by unfold maxLen;omega)
   refine⟨_,_,rfl,⟨by simp[keysV_len], .inr ⟨w.heap.size,_,_,rfl,heap_alloc_new w.drew _,hge,hcm, ?_, ?_⟩⟩,((Touch.refl _ w).drew).alloc _,fun q hq=> .inr (by simp[Value.ownBlock]at hq;omega)⟩
   ·rw[Array.size_append,List.size_toArray,size_zeroCells]
    simp only[List.length_append,keysV_len,List.length_singleton]
    show _<=l.length+1+(grownCap w (l.length+1) c 9-(l.length+1))*1
    omega
   ·rw[Array.toList_append,List.take_append_of_le_length (by simp[keysV_len]),List.take_of_length_le (by simp[keysV_len])]
 ·have hlt:i<l.length:=by omega
  obtain⟨g,rfl⟩:∃g,A=some ⟨g,0,none⟩:=by
   rcases hA with⟨_,h2,_⟩ | hA
   ·omega
   ·exact hA
  have hcs:∀j v,(keysV l)[j]? =some v->w.cell? ⟨g,0+j,none⟩=some v:=fun j v hj=>by
   have hjl:=(List.getElem?_eq_some_iff.1 hj).1
   rw[keysV_len]at hjl
   rw[Nat.zero_add,h.cell (j:=j) (by omega)]
   exact hj
  have hdl:((keysV l).drop i).length=l.length-i:=by rw[List.length_drop,keysV_len]
  have htl:((keysV l).take i).length=i:=by rw[List.length_take,keysV_len];omega
  by_cases hroom:l.length+1<=c
  ·obtain⟨cur,hg,q1,q2,q3,q4⟩:=h.parts
   have hne:vb≠g:=fun e=>hvb (by rw[e];rfl)
   refine(Any2.slices_Insert_string_shift Tryz.insStr g 0 l.length c i vb 0 1 1 (keysV l) [.string ⟨k.toArray⟩] w hlt (by decide) hroom (by omega) hne (keysV_len l) rfl hcs
    (fun j hj=>by rw[Nat.zero_add,cell_of_row w g _ cur _ (0,0) hg,Array.getElem?_eq_getElem (by omega)];rfl) (fun j hj=>frozen_of_row w g _ cur _ hg) hvs (keysV_one l) h1v
    _ _ _ _ (shape_blk hv) (shape_blk hg) (by omega) (hv.frozen 0) (hv.frozen _)).mono ?_
   rintro e w' ⟨rfl,rfl⟩
   have hg1:w.drew.heap[g]? =some (.cells cur 9 (0,0)):=hg
   have hg2:=heap_setCells_self g _ (0,0) ((keysV l).drop i) (0+(i+1)) w.drew cur hg1 (by rw[hdl];omega)
   have hs2:(cur.toList.take (0+(i+1))++(keysV l).drop i++cur.toList.drop (0+(i+1)+((keysV l).drop i).length)).toArray.size=cur.size:=by
    simp only[List.size_toArray,List.length_append,List.length_take,List.length_drop,Array.length_toList,keysV_len]
    omega
   have hg3:=heap_setCells_self g _ (0,0) [Value.string ⟨k.toArray⟩] (0+i) _ _ hg2 (by rw[hs2];simp only[List.length_singleton];omega)
   refine⟨_,_,rfl,⟨by simp only[List.length_append,htl,hdl,List.length_singleton];omega, .inr ⟨g,c,_,rfl,hg3,hroom,hc2, ?_, ?_⟩⟩,touch_setCells (S:=fun q=>(Value.slice (some ⟨g,0,none⟩) l.length c).ownBlock=some q) (touch_setCells (S:=fun q=>(Value.slice (some ⟨g,0,none⟩) l.length c).ownBlock=some q) ((Touch.refl _ w).drew) rfl _ _) rfl _ _,fun q hq=> .inl hq⟩
   ·simp only[List.size_toArray,List.length_append,List.length_take,List.length_drop,Array.length_toList,List.length_singleton,keysV_len]
    omega
   ·have e1:cur.toList.take l.length=keysV l:=by rw[<- q4,Nat.mul_one]
    have e2:cur.toList.take i=(keysV l).take i:=by rw[<- e1,List.take_take,Nat.min_eq_left (by omega)]
    simp only[Nat.zero_add,List.length_singleton,Nat.mul_one]
    have e3:(cur.toList.take (i+1)++(keysV l).drop i++cur.toList.drop (i+1+((keysV l).drop i).length)).take i=(keysV l).take i:=by
     rw[List.append_assoc,List.take_append_of_le_length (by rw[List.length_take,Array.length_toList];omega),List.take_take,Nat.min_eq_left (by omega),e2]
    have e4:(cur.toList.take (i+1)++(keysV l).drop i++cur.toList.drop (i+1+((keysV l).drop i).length)).drop (i+1)=(keysV l).drop i++cur.toList.drop (i+1+((keysV l).drop i).length):=by
     rw[List.append_assoc,List.drop_left' (by rw[List.length_take,Array.length_toList];omega)]
    rw[e3,e4,<- List.append_assoc,List.take_left' (by simp only[List.length_append,htl,hdl,List.length_singleton];omega)]
  ·refine(Any2.slices_Insert_string_grow Tryz.insStr g 0 l.length c i vb 0 1 1 (keysV l) [.string ⟨k.toArray⟩] w hlt (by decide) hc1 (by omega) (by omega) (keysV_len l) rfl hcs hvs (keysV_one l) h1v).mono ?_
   rintro e w' ⟨rfl,rfl⟩
   rw[show Tryz.insStr_ren.t 9=9 from rfl]
   have hge:=grownCap_ge w (l.length+1) c 9
   have hcm:=grownCap_le_maxLen w (l.length+1) c 9 (by unfold maxLen;omega)
   obtain⟨cur,hcur⟩:∃cur,cur=((keysV l).take i).toArray++Builtin.zeroCells (Value.string ⟨#[]⟩).cells (l.length+1-i)++Builtin.zeroCells (Value.string ⟨#[]⟩).cells (grownCap w (l.length+1) c 9-(l.length+1)):=⟨_,rfl⟩
   have hcsz:cur.size=grownCap w (l.length+1) c 9:=by
    rw[hcur,Array.size_append,Array.size_append,size_zeroCells,size_zeroCells,List.size_toArray,htl]
    show i+(l.length+1-i)*1+(grownCap w (l.length+1) c 9-(l.length+1))*1= _
    omega
   have hctk:cur.toList.take i=(keysV l).take i:=by
    rw[hcur]
    simp only[Array.toList_append,List.append_assoc]
    rw[List.take_append_of_le_length (by rw[htl];exact Nat.le_refl _),List.take_of_length_le (by rw[htl];exact Nat.le_refl _)]
   rw[<- hcur]
   have hg0:(w.alloc (.cells cur 9)).heap[w.heap.size]? =some (.cells cur 9 (0,0)):=heap_alloc_new w _
   have hg2:=heap_setCells_self w.heap.size _ (0,0) [Value.string ⟨k.toArray⟩] i (w.alloc (.cells cur 9)).drew cur hg0 (by simp only[List.length_singleton];omega)
   have hs2:(cur.toList.take i++ [Value.string ⟨k.toArray⟩]++cur.toList.drop (i+ [Value.string ⟨k.toArray⟩].length)).toArray.size=cur.size:=by
    simp only[List.size_toArray,List.length_append,List.length_take,List.length_drop,Array.length_toList,List.length_singleton]
    omega
   have hg3:=heap_setCells_self w.heap.size _ (0,0) ((keysV l).drop i) (i+1) (((w.alloc (.cells cur 9)).drew.setCells w.heap.size i [Value.string ⟨k.toArray⟩]).drew) _ hg2 (by rw[hs2,hdl];omega)
   have hnew:Touch (fun q=>(Value.slice (some ⟨g,0,none⟩) l.length c).ownBlock=some q\/q=w.heap.size) w (((w.alloc (.cells cur 9)).drew.setCells w.heap.size i [Value.string ⟨k.toArray⟩]).drew.setCells w.heap.size (i+1) ((keysV l).drop i)):=
    touch_setCells ((touch_setCells (((Touch.refl _ w).alloc _).drew) (.inr rfl) _ _).drew) (.inr rfl) _ _
   refine⟨_,_,rfl,⟨by simp only[List.length_append,htl,hdl,List.length_singleton];omega, .inr ⟨w.heap.size,_,_,rfl,hg3,hge,hcm, ?_, ?_⟩⟩, ?_,fun q hq=> .inr (by simp[Value.ownBlock]at hq;omega)⟩
   ·simp only[List.size_toArray,List.length_append,List.length_take,List.length_drop,Array.length_toList,List.length_singleton,keysV_len]
    omega
   ·have e3:(cur.toList.take i++ [Value.string ⟨k.toArray⟩]++cur.toList.drop (i+ [Value.string ⟨k.toArray⟩].length)).take (i+1)=(keysV l).take i++ [Value.string ⟨k.toArray⟩]:=by
     rw[hctk,List.take_left' (by simp only[List.length_append,htl,List.length_singleton])]
    simp only[Nat.mul_one]
    rw[e3,List.take_left' (by simp only[List.length_append,htl,hdl,List.length_singleton];omega)]
   ·exact hnew.mono fun q hq hx=>hx.elim id fun e=>by omega
theorem keydel_any(h:Own w 9 1 kv l.length (keysV l)){i:Nat}(hi:i<l.length):
  Calls Tryz.prog 98 #[kv, .int .i64 i, .int .i64 ((i:Int)+1)] w (RowEnd w kv (l.length-1) ((keysV l).take i++(keysV l).drop (i+1))):=by
 obtain⟨A,c,rfl,hc1,hc2,hA⟩:=h.form
 obtain⟨g,rfl⟩:∃g,A=some ⟨g,0,none⟩:=by
  rcases hA with⟨_,h2,_⟩ | hA
  ·omega
  ·exact hA
 have hm2:=hc2
 unfold maxLen at hm2
 obtain⟨cur,hg,q1,q2,q3,q4⟩:=h.parts
 obtain⟨Sx,hSx⟩:∃Sx:Nat->ByteArray,Sx=fun j=>match l[j]? with | some x=>⟨x.1.toArray⟩ | none=>⟨#[]⟩:=⟨_,rfl⟩
 have hcell:∀j,j<l.length->w.cell? ⟨g,0+j,none⟩=some (.string (Sx j)):=by
  intro j hj
  rw[Nat.zero_add,h.cell (j:=j) (by omega),keysV_get,hSx]
  simp[List.getElem?_eq_getElem hj]
 have hstr:(Lib.strsOf Sx l.length).map encStr=keysV l:=by
  refine List.ext_getElem? fun j=> ?_
  rw[keysV_get,hSx]
  by_cases hj:j<l.length
  ·simp[Lib.strsOf,encStr,hj]
  ·simp[Lib.strsOf,hj]
 refine(Any.slices_Delete_string_cells Tryz.delStr g 0 l.length c i (i+1) Sx w hc1 (by omega) (Nat.le_succ i) (by omega) hcell (fun j _=>frozen_of_row w g _ cur _ hg)).mono ?_
 rintro e w' ⟨rfl,q,rfl⟩
 have hds:(((Lib.strsOf Sx l.length).take i++(Lib.strsOf Sx l.length).drop (i+1)++List.replicate (i+1-i) []).map encStr)=(keysV l).take i++(keysV l).drop (i+1)++ [.string ⟨#[]⟩]:=by
  rw[List.map_append,List.map_append,List.map_take,List.map_drop,hstr,show i+1-i=1 by omega]
  rfl
 rw[hds,show l.length-(i+1-i)=l.length-1 by omega]
 have hdl:((keysV l).drop (i+1)).length=l.length-(i+1):=by rw[List.length_drop,keysV_len]
 have htl:((keysV l).take i).length=i:=by rw[List.length_take,keysV_len];omega
 have hg1:(w.drewN q).heap[g]? =some (.cells cur 9 (0,0)):=hg
 have hg2:=heap_setCells_self g _ (0,0) ((keysV l).take i++(keysV l).drop (i+1)++ [.string ⟨#[]⟩]) 0 (w.drewN q) cur hg1 (by simp only[List.length_append,htl,hdl,List.length_singleton];omega)
 refine⟨_,_,rfl,⟨by simp only[List.length_append,htl,hdl];omega, .inr ⟨g,c,_,rfl,hg2,by omega,hc2, ?_, ?_⟩⟩,touch_setCells (S:=fun q=>(Value.slice (some ⟨g,0,none⟩) l.length c).ownBlock=some q) ((Touch.refl _ w).drewN q) rfl _ _,fun q hq=> .inl hq⟩
 ·simp only[List.size_toArray,List.length_append,List.length_take,List.length_drop,Array.length_toList,List.length_singleton,keysV_len]
  omega
 ·simp only[List.take_zero,List.nil_append,Nat.mul_one]
  rw[List.append_assoc,List.take_left' (by simp only[List.length_append,htl,hdl];omega)]
end
end Go.Proofs.YtjehlgblkfofpaaGreat