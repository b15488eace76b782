/- The claims' texts, several in one: Frame. Conditions stand with each theorem. -/
import Derived.Test.YtjehlgblkfofpaaGreatZa39
import Derived.Deep.Slices
import Derived.ProofKit
import Derived.OpenShut
import Derived.ShutString
import Derived.ChangeOld
import Derived.Below
namespace Go.Proofs.YtjehlgblkfofpaaGreat
open Go.ChangeShapes Go.WideShapes Go.ChangeAt Go.RowKit
open Go.ChangeMaps (open_string shut_string)
theorem own:ownKnob Tryz.prog.godebug=none:=by kernel_rfl
theorem laidOut:laidOutB Tryz.prog=true:=by kernel_rfl
def IsRow(k:IntKind)(w:World)(a:Option Addr)(len cap:Nat)(zs:List Int):Prop:=
 (a=none/\len=0/\cap=0/\zs= [])\/
 ∃x,a=some x/\len<=cap/\cap<=maxLen/\zs.length=cap/\(∀i,i<zs.length->w.cell? (x.add i)=some (.int k (zs.getD i 0)))/\∀n∈zs,(Lit.int k n).wf=true
theorem IsRow.ints{w:World}{a:Option Addr}{len cap:Nat}{zs:List Int}(h:IsRow .i64 w a len cap zs):
  IsInts w a len cap (zs.take len)/\(∀x∈zs.take len,-9223372036854775808<=x/\x<=9223372036854775807)/\∀x,a=some x->0<len->x.block<w.heap.size:=by
 rcases h with⟨rfl,rfl,rfl,rfl⟩ | ⟨x,rfl,hl,hm,hz,hcell,hwf⟩
 ·exact⟨⟨rfl,Nat.le_refl _,by decide,fun h=>by omega⟩,(fun x hx=>by simp at hx),fun x hx=>by cases hx⟩
 ·refine⟨⟨by rw[List.length_take];omega,hl,hm,fun h0=> ?_⟩,fun y hy=> ?_, ?_⟩
  ·obtain⟨b,off,spot⟩:=x
   have hc:=hcell 0 (by omega)
   have hspot:spot=none:=by simpa [Addr.add] using World.cell?_spot hc
   subst hspot
   refine⟨b,off,rfl,fun j y hy=> ?_⟩
   have hj:j<len:=by
    rcases Nat.lt_or_ge j len with h | h
    ·exact h
    ·rw[List.getElem?_eq_none (by rw[List.length_take];omega)]at hy;cases hy
   have hcj:=hcell j (by omega)
   rw[add_flat]at hcj
   rw[hcj]
   rw[List.getElem?_take,if_pos hj,List.getElem?_eq_getElem (by omega)]at hy
   simp only[Option.some.injEq]at hy
   rw[<- hy,List.getD_eq_getElem?_getD,List.getElem?_eq_getElem (by omega)]
   rfl
  ·have hw:=hwf y (List.mem_of_mem_take hy)
   simp only[Lit.wf,Bool.and_eq_true,decide_eq_true_eq]at hw
   exact hw
  ·rintro y e h0
   injection e with e
   subst e
   have:=block_lt_of_cell (hcell 0 (by omega))
   simpa [Addr.add] using this
end Go.Proofs.YtjehlgblkfofpaaGreat