/- All, the net's iterator. Conditions stand with each. -/
import Derived.Test.YthmjnlkdoepmjaaNet2
namespace Go.Proofs.Ythmjnlkdoepmjaa
open Go.RowKit

set_option maxRecDepth 20000 in
theorem allW_any (bn : Nat) (w : World) : Calls Try.prog 49 #[.pointer (some ⟨bn, 0, none⟩)] w fun e w' =>
    e = .returned (.func (.func 71) #[] #[.pointer (some ⟨w.heap.size, 0, none⟩)]) ∧ w' = w.alloc (.cells #[.pointer (some ⟨bn, 0, none⟩)] 60) := by
  go_enter Try.func49, Try.ntmps49
  go_wp2_with fail
  refine bodyPost_ret (v := .func (.func 71) #[] #[.pointer (some ⟨w.heap.size, 0, none⟩)]) (by simp [results, Try.results49, go_sem]) rfl ?_
  exact ⟨rfl, rfl⟩
end Go.Proofs.Ythmjnlkdoepmjaa
