/- A region that draws its order, whose operations only read and whose callees make memory of their own at most: one walk. Conditions stand with each. -/
import Derived.Test.YtlcmnihpfpmajaaGreatPgkZ
import Derived.BigQuiet
namespace Go.Proofs.YtlcmnihpfpmajaaGreat
open Go.RowKit
/-- a world that came out of another one by reads and new blocks -/
structure FrOf (w : World) where
  W : World
  h : Fresh w W
instance (w : World) : Inhabited (FrOf w) := ⟨⟨w, Touch.refl _ w⟩⟩
theorem wp_region_fresh {P : Program} {id : Nat} {Q : Exit → Act → World → Prop} {a : Act} {w : World} {l : List Oper} (hm : P.follows .mixedOrders = true) (hB : Region.lexB .any l.toArray = true)
    (h : wpQuiet P l.toArray (fun w' => ∃ p : FrOf w, w' = p.W) (fun a' => ∀ w', (∃ p : FrOf w, w' = p.W) → Q .normal a' w') l a) : (Code.region id l.toArray true).wp P Q a w :=
  wp_region_quiet (C := fun w' => ∃ p : FrOf w, w' = p.W) hm hB ⟨⟨_, (Touch.refl (fun _ => False) w).drew⟩, rfl⟩ (by simpa using h)
theorem Calls.fr_of {P : Program} {f : FuncId} {args : Array Value} {w : World} {p : FrOf w} {v : Value} (h : Calls P f args p.W fun e w' => e = .returned v ∧ Fresh p.W w') : Calls P f args p.W fun e w' => e = .returned v ∧ ∃ p' : FrOf w, w' = p'.W :=
  h.mono fun _ w' ⟨he, hf⟩ => ⟨he, ⟨w', p.h.trans hf fun _ _ => id⟩, rfl⟩
end Go.Proofs.YtlcmnihpfpmajaaGreat
