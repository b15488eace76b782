/- A mail's and an envelope's value. -/
import Derived.Test.YtdfhdanfigpbpaaPlainM
import Derived.Test.YtdfhdanfigpbpaaBase
namespace Go.Proofs.Ytdfhdanfigpbpaa
open Go.RowKit

def mlV (m : Dec.Ml) : Value := .agg #[.int .i64 m.k, .string ⟨m.to.toArray⟩, .string ⟨m.fr.toArray⟩, .string ⟨m.node.toArray⟩, .string ⟨m.name.toArray⟩, .string ⟨m.tx.toArray⟩, .int .i64 m.st]
def enV (e : Dec.En) : Value := .agg #[.int .i64 e.k, .int .i64 e.f, .int .i64 e.t, .int .i64 e.q, .int .i64 e.m.k, .string ⟨e.m.to.toArray⟩, .string ⟨e.m.fr.toArray⟩, .string ⟨e.m.node.toArray⟩, .string ⟨e.m.name.toArray⟩, .string ⟨e.m.tx.toArray⟩, .int .i64 e.m.st]
end Go.Proofs.Ytdfhdanfigpbpaa
