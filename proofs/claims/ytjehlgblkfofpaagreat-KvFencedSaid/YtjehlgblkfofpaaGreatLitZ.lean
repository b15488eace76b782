/- A batch laid just ahead of a call, at a play of a store; what nothing hinders. Conditions stand with each. -/
import Derived.Test.YtjehlgblkfofpaaGreatZa39
namespace Go.Proofs.YtjehlgblkfofpaaGreat
open Go.RowKit
section
variable {w w' w0 w1 W:World}{bp bd:Nat}{F:Nat->Prop}{a:KA}{q q':KP}{i n T:Nat}{P:KS->Prop}
theorem KX.sq(h:KX w0 w bp bd F a q q.f q.has q.cm):SQ w bd a q:=⟨h.km.sd,h.km.alk⟩
theorem RaR.calm{g:Int}(h:RaR q g q')(hv:KInv q i n T P)(hi:i<=880)(hT:T<=40000000)(hc:q.Calm)(h1:q.f<g)(h2:g<=4503599627370496):q'.Calm/\q'.f=g/\q'.maybe= []:=by
 rcases h with⟨_,h⟩ | ⟨_,_,ys,hy,rfl⟩
 ·exact absurd ⟨h1,h2⟩ h
 ·have hyl:ys.length<=8:=by
   have hf0:=hv.f0.1
   obtain⟨ys',e1,e2⟩:=plain_ok (n:=g) (by omega) h2
   rw[hy]at e1
   injection e1 with e1
   rw[e1]
   exact e2
  obtain⟨d1,d2,d3,d4,d5,d6,d7⟩:=hc.call (b:=102 :: ys) (nx:=(g,q.has)) hv.pv (by omega) (by omega) (by rw[List.length_cons];omega)
  exact⟨d1,d3,d6⟩
theorem KX.no_commit(h:KX w0 w bp bd F a q q.f q.has q.cm)(hv:KInv q i n T P)(hi:i<=880)(hT:T<=40000000)(hn:n<=60){g:Int}(hg:g≠q.f)(l:List Dec.Op){cs:Array Value}(hcs:cs.toList=opsV l){nn:Nat}(hnn:l.length=nn)(hnb:nn<=1000)(hr:l.all rightB=true)(hw:opwt l<=4256)(W0:World)(hf:Fresh w W0)(W':World)(hW':Fresh (W0.alloc (.cells cs 31)) W'):
  Calls Tryz.prog 15 #[.pointer (some ⟨a.bs,0,none⟩), .int .i64 g, .slice (some ⟨W0.heap.size,0,none⟩) nn nn] W' fun e w'=>e= .returned (.int .i64 5)/\Fresh w w':=by
 have hf2:Fresh w W':=(hf.alloc _).trans hW' fun _ _=>id
 have hs3:=hW'.size
 have hs:=hf.size
 have hs2:(W0.alloc (.cells cs 31)).heap.size=W0.heap.size+1:=World.size_alloc _ _
 have hlen:(opsV l).length=nn*3:=by rw[opsV_length,hnn]
 obtain⟨t1,t2⟩:=hv.few_ hn
 refine(commit_no (h.sq.fresh hf2) hv (by omega) (by omega) (by omega) (by omega) hg ((vs_cells hcs hlen hnb).fresh hW') (fun a9 ha h0=> ?_) hr hnb hw).mono ?_
 ·injection ha with ha
  subst ha
  refine⟨fun e=> ?_,by rw[hs2]at hs3;exact hs3⟩
  have h9:W0.heap.size<w.heap.size:=h.sq.lt _ e
  omega
 ·rintro e w' ⟨rfl,hf3⟩
  exact⟨rfl,hf2.trans hf3 fun _ _=>id⟩
theorem KX.commit_lit(h:KX w0 w bp bd F a q q.f q.has q.cm)(hv:KInv q i n T P)(hi:i<=880)(hT:T<=40000000)(hn:n<=60)(l:List Dec.Op){cs:Array Value}(hcs:cs.toList=opsV l){nn:Nat}(hnn:l.length=nn)(hnb:nn<=1000)(hr:l.all rightB=true)(hw:opwt l<=4256)(W0:World)(hf:Fresh w W0)(W':World)(hW':Fresh (W0.alloc (.cells cs 31)) W'):
  Calls Tryz.prog 25 #[.pointer (some ⟨bp,0,none⟩), .int .i64 q.f, .slice (some ⟨W0.heap.size,0,none⟩) nn nn] W' fun x w'=>x= .returned (.bool true)/\∃q',(∃a',KX w0 w' bp bd F a' q' q'.f q'.has q'.cm)/\KInv q' (i+1) (n+1) (T+5000) Any/\CoR q q.f l q':=by
 have hf2:Fresh w W':=(hf.alloc _).trans hW' fun _ _=>id
 have hs3:=hW'.size
 have hs:=hf.size
 have hs2:(W0.alloc (.cells cs 31)).heap.size=W0.heap.size+1:=World.size_alloc _ _
 have hlen:(opsV l).length=nn*3:=by rw[opsV_length,hnn]
 obtain⟨t1,t2⟩:=hv.few_ hn
 refine commit_pg (h.fresh hf2) hv (by omega) (by omega) (by omega) (by omega) q.f _ nn nn l ((vs_cells hcs hlen hnb).fresh hW') (fun a9 ha h0=> ?_) (by omega) (fun x hx=>by have:=right_len hr x hx;omega) (by omega) fun _=>hw
 injection ha with ha
 subst ha
 refine⟨fun e=> ?_,by rw[hs2]at hs3;exact hs3⟩
 have h9:W0.heap.size<w.heap.size:=h.sq.lt _ e
 omega
end
end Go.Proofs.YtjehlgblkfofpaaGreat
