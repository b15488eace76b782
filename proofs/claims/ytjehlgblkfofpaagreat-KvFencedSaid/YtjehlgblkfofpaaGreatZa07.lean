/- The claims' texts, several in one: Byt. Conditions stand with each theorem. -/
import Derived.Test.YtjehlgblkfofpaaGreatZa01
import Derived.Test.YtjehlgblkfofpaaGreatZa05
namespace Go.Proofs.YtjehlgblkfofpaaGreat
open Go.RowKit
theorem Tryz.bytes_Join_many(b o n c:Nat)(vs:List Value)(ls:List (List UInt8))(sv:Value)(sep:List UInt8)(w:World)(hn:ls.length=n)(h2:2<=n)(hP:Lib.PartsAt w ⟨b,o,none⟩ vs ls)(hcap:n<=c)(hS:Lib.HoldsBytes w sv sep)(hn47:n<=140737488355328)(hlen:Lib.lens ls+sep.length*(n-1)<=140737488355328):
  Calls Tryz.prog 143 #[.slice (some ⟨b,o,none⟩) n c,sv] w fun e w'=>∃v',e= .returned v'/\Lib.FreshBytes w.heap.size w' v' (Lib.join ls sep)/\Below w.heap.size w w':=Any.bytes_Join_many Tryz.laysSlJ14 b o n c vs ls sv sep w hn h2 hP hcap hS hn47 hlen
end Go.Proofs.YtjehlgblkfofpaaGreat