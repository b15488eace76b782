/- The contract of wakes: it answers true. No condition. -/
import Derived.Test.YtdfhdanfigpbpaaIntact
import Derived.Test.YtdfhdanfigpbpaaRefRs
import Derived.Test.YtdfhdanfigpbpaaRefWs
import Derived.Lib.SlBytesConst
namespace Go.Proofs.Ytdfhdanfigpbpaa
open Go.RowKit

theorem wakes_enc : Enc.event 15 [] [120] 2 = some [1, 15, 0, 1, 1, 120, 1, 4] := by decide
theorem wakes_dec : Dec.whole (Dec.event [1, 15, 0, 1, 1, 120, 1, 4] 0) 8 = .ok ⟨15, [], [120], 2⟩ := by rfl
theorem wakes_sum : Enc.sum [49, 50, 51, 52, 53, 54, 55, 56, 57] = 3421780262 := by kernel_rfl

def digits : List UInt8 := [49, 50, 51, 52, 53, 54, 55, 56, 57]
def digitCells : Array Value := #[.int .u8 49, .int .u8 50, .int .u8 51, .int .u8 52, .int .u8 53, .int .u8 54, .int .u8 55, .int .u8 56, .int .u8 57]
theorem digits_bs (w : World) : Bs (w.alloc (.cells digitCells 5 (9, 10))) (some ⟨w.heap.size, 0, none⟩) 9 9 digits := by
  refine ⟨rfl, Nat.le_refl _, by decide, fun _ => ⟨w.heap.size, 0, rfl, fun j x hx => ?_⟩⟩
  have hh : (w.alloc (.cells digitCells 5 (9, 10))).heap[w.heap.size]? = some (.cells digitCells 5 (9, 10)) := heap_alloc_new w _
  rw [cell_of_row _ _ _ _ _ _ hh]
  have h1 : digitCells = (u8s digits).toArray := rfl
  rw [h1, List.getElem?_toArray, Nat.zero_add, u8s_get, hx]
  rfl

set_option maxRecDepth 20000 in
set_option maxHeartbeats 1000000 in
theorem wakes_any (w : World) : Calls Try.prog 22 #[] w fun e w' => e = .returned (.bool true) ∧ Fresh w w' := by
  go_enter Try.func22, Try.ntmps22
  go_wp2_with fail
  refine (event_any 15 2 ⟨#[]⟩ ⟨#[120]⟩ w (by decide) (by decide)).mono ?_
  intro e w1 h
  rcases h.cases with ⟨hr, _⟩ | ⟨ys, A, c, hr, rfl, hrow, hnew, hf⟩
  · have hr' : (some [1, 15, 0, 1, 1, 120, 1, 4] : Option (List UInt8)) = none := wakes_enc.symm.trans hr
    cases hr'
  · obtain rfl : [1, 15, 0, 1, 1, 120, 1, 4] = ys := Option.some.inj (wakes_enc.symm.trans hr)
    have HR := Lib.hid hrow; have HN := Lib.hid hnew; have HF := Lib.hid hf
    clear hrow hnew hf hr h
    go_wp2_with fail
    have hrd := event_read A 8 c [1, 15, 0, 1, 1, 120, 1, 4] w1 HR.out.bs (fun a ha _ => HR.out.lt a.block (by rw [ha]; rfl))
    rw [wakes_dec] at hrd
    refine hrd.mono ?_
    rintro e w2 ⟨rfl, hf2⟩
    have HF2 := Lib.hid hf2
    clear hf2 hrd
    unfold evV
    have hcv := Lib.run_convert_bytes_const (P := Try.prog) (w2.alloc (.cells #[.int .i64 15, .string ⟨#[]⟩, .string ⟨#[120]⟩, .int .i64 2] 23)) 24 5 digitCells 9 9 Try.underlying24 Try.underlying5
    rw [alloc_size] at hcv
    have hds := digits_bs (w2.alloc (.cells #[.int .i64 15, .string ⟨#[]⟩, .string ⟨#[120]⟩, .int .i64 2] 23))
    rw [alloc_size] at hds
    have HS := Lib.hid (sum_any _ 9 9 digits _ hds)
    have HW := Lib.hid ((((HF.out.trans HF2.out (fun _ _ => id)).alloc (.cells #[.int .i64 15, .string ⟨#[]⟩, .string ⟨#[120]⟩, .int .i64 2] 23)).alloc (.cells digitCells 5 (9, 10))))
    unfold digitCells at hcv HS HW
    clear hds
    go_wp2_with fail
    refine HS.out.mono ?_
    rintro e w3 ⟨rfl, rfl⟩
    rw [show Enc.sum digits = 3421780262 from wakes_sum]
    go_wp2_with fail
    go_ret
    exact ⟨rfl, HW.out⟩
end Go.Proofs.Ytdfhdanfigpbpaa
