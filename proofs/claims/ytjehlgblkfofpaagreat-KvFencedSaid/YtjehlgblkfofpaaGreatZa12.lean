/- The claims' texts, several in one: Kshelf. Conditions stand with each theorem. -/
import Derived.Shelf.SlGeneric
import Derived.Shelf.Spec.SlicesInsertGrow
import Derived.Shelf.Spec.SlicesInsert
import Derived.Shelf.Spec.SearchS
import Derived.Shelf.Slices.Cells
import Derived.Shelf.Slices.Empties
import Derived.Shelf.Strings.Prefix
import Derived.Shelf.SlicesQ.IndexFunc
import Derived.Shelf.SlicesE.Clone
import Derived.Ground.NamesProg
import Derived.Ground.Names2Prog
import Derived.Ground.SlgfProg
import Derived.Ground.SlgnProg
import Derived.Test.YtjehlgblkfofpaaGreatProg
namespace Go.Proofs.YtjehlgblkfofpaaGreat
open Go.Shelf
def Tryz.insStr_ren:Go.Shelf.Ren:=⟨fun | 22=>99 | 29=>132 | 30=>133 | 36=>160 | 17=>180 | n=>n,fun | 24=>58 | 9=>9 | 3=>3 | 4=>4 | 0=>0 | n=>n,fun | n=>n⟩
theorem Tryz.insStr:Go.Proofs.Lays2.n22 Tryz.prog Tryz.insStr_ren:={
 mixed:=by kernel_rfl
 f17:=Tryz.func180.trans (congrArg some (by kernel_rfl))
 f22:=Tryz.func99.trans (congrArg some (by kernel_rfl))
 f29:=Tryz.func132.trans (congrArg some (by kernel_rfl))
 f30:=Tryz.func133.trans (congrArg some (by kernel_rfl))
 f36:=Tryz.func160.trans (congrArg some (by kernel_rfl))
 t0:=Tryz.underlying0
 a0:=Tryz.isAgg0
 z0:=Tryz.sizeOf0
 v0:=Tryz.zeroValue0
 t3:=Tryz.underlying3
 a3:=Tryz.isAgg3
 z3:=Tryz.sizeOf3
 v3:=Tryz.zeroValue3
 t4:=Tryz.underlying4
 a4:=Tryz.isAgg4
 z4:=Tryz.sizeOf4
 v4:=Tryz.zeroValue4
 t9:=Tryz.underlying9
 a9:=Tryz.isAgg9
 z9:=Tryz.sizeOf9
 v9:=Tryz.zeroValue9
 t24:=Tryz.underlying58
 a24:=Tryz.isAgg58
 z24:=Tryz.sizeOf58
 v24:=Tryz.zeroValue58
 i9:=by kernel_rfl }
def Tryz.delStr_ren:Go.Shelf.Ren:=⟨fun | 24=>98 | n=>n,fun | 24=>58 | 9=>9 | 3=>3 | 4=>4 | 0=>0 | n=>n,fun | n=>n⟩
theorem Tryz.delStr:Go.Proofs.Lays2.n24 Tryz.prog Tryz.delStr_ren:={
 mixed:=by kernel_rfl
 f24:=Tryz.func98.trans (congrArg some (by kernel_rfl))
 t0:=Tryz.underlying0
 a0:=Tryz.isAgg0
 z0:=Tryz.sizeOf0
 v0:=Tryz.zeroValue0
 t3:=Tryz.underlying3
 a3:=Tryz.isAgg3
 z3:=Tryz.sizeOf3
 v3:=Tryz.zeroValue3
 t4:=Tryz.underlying4
 a4:=Tryz.isAgg4
 z4:=Tryz.sizeOf4
 v4:=Tryz.zeroValue4
 t9:=Tryz.underlying9
 a9:=Tryz.isAgg9
 z9:=Tryz.sizeOf9
 v9:=Tryz.zeroValue9
 t24:=Tryz.underlying58
 a24:=Tryz.isAgg58
 z24:=Tryz.sizeOf58
 v24:=Tryz.zeroValue58
 i9:=by kernel_rfl }
def Tryz.bsStr_ren:Go.Shelf.Ren:=⟨fun | 26=>57 | 33=>100 | 34=>101 | 38=>134 | n=>n,fun | 24=>58 | 9=>9 | 3=>3 | 4=>4 | 40=>172 | 0=>0 | n=>n,fun | n=>n⟩
theorem Tryz.bsStr:Go.Proofs.Lays2.n26 Tryz.prog Tryz.bsStr_ren:={
 mixed:=by kernel_rfl
 f26:=Tryz.func57.trans (congrArg some (by kernel_rfl))
 f33:=Tryz.func100.trans (congrArg some (by kernel_rfl))
 f34:=Tryz.func101.trans (congrArg some (by kernel_rfl))
 f38:=Tryz.func134.trans (congrArg some (by kernel_rfl))
 t0:=Tryz.underlying0
 a0:=Tryz.isAgg0
 z0:=Tryz.sizeOf0
 v0:=Tryz.zeroValue0
 t3:=Tryz.underlying3
 a3:=Tryz.isAgg3
 z3:=Tryz.sizeOf3
 v3:=Tryz.zeroValue3
 t4:=Tryz.underlying4
 a4:=Tryz.isAgg4
 z4:=Tryz.sizeOf4
 v4:=Tryz.zeroValue4
 t9:=Tryz.underlying9
 a9:=Tryz.isAgg9
 z9:=Tryz.sizeOf9
 v9:=Tryz.zeroValue9
 t24:=Tryz.underlying58
 a24:=Tryz.isAgg58
 z24:=Tryz.sizeOf58
 v24:=Tryz.zeroValue58
 t40:=Tryz.underlying172
 a40:=Tryz.isAgg172
 z40:=Tryz.sizeOf172
 v40:=Tryz.zeroValue172 }
def Tryz.cloneOps_ren:Go.Shelf.Ren:=⟨fun | 41=>47 | n=>n,fun | 22=>28 | 23=>31 | 4=>4 | n=>n,fun | n=>n⟩
theorem Tryz.cloneOps:Go.Proofs.SlLaysE0.n41 Tryz.prog Tryz.cloneOps_ren:={
 mixed:=by kernel_rfl
 f41:=⟨Tryz.f47.name,by decide,Tryz.func47.trans (congrArg some (by kernel_rfl))⟩
 t4:=Tryz.underlying4
 a4:=Tryz.isAgg4
 z4:=Tryz.sizeOf4
 v4:=Tryz.zeroValue4
 t22:=Tryz.underlying28
 a22:=Tryz.isAgg28
 z22:=Tryz.sizeOf28
 v22:=Tryz.zeroValue28 }
end Go.Proofs.YtjehlgblkfofpaaGreat