/- The contract of Intact: what Lend lent is found intact, and is overwritten. Conditions: what was lent, and the bytes, can be read. -/
import Derived.Test.YtdfhdanfigpbpaaKeep
namespace Go.Proofs.Ytdfhdanfigpbpaa
open Go.RowKit

theorem bytes_append (xs ys : List UInt8) : (⟨xs.toArray⟩ : ByteArray) ++ ⟨ys.toArray⟩ = ⟨(xs ++ ys).toArray⟩ := by
  apply ByteArray.ext
  simp
theorem bytes_toList (zs : List UInt8) : (⟨zs.toArray⟩ : ByteArray).toList = zs := by simp [ByteArray.toList_eq]
theorem str_beq (xs ys : List UInt8) : ((⟨xs.toArray⟩ : ByteArray).toList == (⟨ys.toArray⟩ : ByteArray).toList) = decide (xs = ys) := by
  have h : ∀ zs : List UInt8, (⟨zs.toArray⟩ : ByteArray).toList = zs := by intro zs; simp [ByteArray.toList_eq]
  rw [h, h]
  by_cases e : xs = ys <;> simp [e]

set_option maxRecDepth 20000 in
set_option maxHeartbeats 1000000 in
theorem intact_any (A B : Option Addr) (n c cb : Nat) (xs : List UInt8) (w : World) (h : Bs w A n c xs) (hl : Lent w B n cb xs) (hb : n ≤ 140737488355000) :
    Calls Try.prog 21 #[.slice B n cb, .slice A n c] w fun e w' => e = .returned (.bool true) ∧ Touch (fun k => (Value.slice B n cb).ownBlock = some k) w w' := by
  obtain rfl := h.1
  have hm := (Row.bs hl.2).2.1
  have hm2 := (Row.bs hl.2).2.2.1
  unfold maxLen at hm2
  have hcv1 := run_convert_Bs (P := Try.prog) 24 9 Try.underlying24 Try.underlying5 Try.underlying9 (Row.bs hl.2)
  have hcv2 := run_convert_Bs (P := Try.prog) 24 9 Try.underlying24 Try.underlying5 Try.underlying9 h
  have heq : (xs ++ marks == ((⟨xs.toArray⟩ : ByteArray) ++ ⟨#[201, 202, 203, 204]⟩).toList) = true := by
    rw [show (⟨#[201, 202, 203, 204]⟩ : ByteArray) = ⟨marks.toArray⟩ from rfl, bytes_append, bytes_toList]
    simp
  obtain ⟨g, rfl⟩ : ∃ g, B = some ⟨g, 0, none⟩ := by
    obtain ⟨A', c', hv, _, _, hg⟩ := hl.2.form
    obtain ⟨g, hg⟩ := hg (by simp [marks])
    injection hv with h1 h2 h3
    exact ⟨g, h1.trans hg⟩
  have H := Lib.hid hl
  have HEQ := Lib.hid heq
  clear hl h heq
  go_enter Try.func21, Try.ntmps21
  go_wp2_with fail
  go_loopw [7] (fun i wr => ∃ j : Nat, j ≤ xs.length + 4 ∧ i = .int .i64 j ∧ (∃ ys, ys.length = xs.length + 4 ∧ Row wr (.slice (some ⟨g, 0, none⟩) (xs.length + 4) cb) ys) ∧ Touch (fun k => (Value.slice (some ⟨g, 0, none⟩) xs.length cb).ownBlock = some k) w wr) (fun i _ => xs.length + 4 - (intOf i).toNat)
  case atStart => exact ⟨0, by omega, rfl, ⟨xs ++ marks, by simp [marks], H.out.2⟩, Touch.refl _ _⟩
  case round =>
    obtain ⟨j, hj, rfl, ⟨ys, hyl, hr⟩, ht⟩ := hrel
    by_cases hlt : j < xs.length + 4
    · have hr' : wr.ownsRow 0 5 1 (.slice (some ⟨g, 0, none⟩) (xs.length + 4) cb) (xs.length + 4) (u8s ys) := by unfold Row at hr; rw [hyl] at hr; exact hr
      have hcell := hr'.cellAt j (by omega)
      have hfro := hr'.frozenAt j
      rw [u8s_get, List.getElem?_eq_getElem (by omega)] at hcell
      simp only [Option.map_some] at hcell
      have HST := Lib.hid (hr'.stored j (.int .u8 ((85 : UInt8).toNat : Int))).1
      have HT := Lib.hid (ht.setCell (p := ⟨g, j, none⟩) (.inr rfl) (.int .u8 ((85 : UInt8).toNat : Int)))
      clear hr hr' ht
      go_wp2_with fail
      refine ⟨⟨j + 1, by omega, by simp, ⟨ys.set j 85, by rw [List.length_set, hyl], ?_⟩, HT.out⟩, by simp [intOf] <;> omega⟩
      have h1 := HST.out
      unfold Row
      rw [List.length_set, hyl, show u8s (ys.set j 85) = (u8s ys).set j (.int .u8 ((85 : UInt8).toNat : Int)) from List.map_set]
      exact h1
    · have : j = xs.length + 4 := by omega
      subst this
      have HT := Lib.hid ht
      clear ht hr
      go_wp2_with fail
      go_ret
      exact ⟨congrArg (fun b => Ending.returned (.bool b)) HEQ.out, HT.out⟩
end Go.Proofs.Ytdfhdanfigpbpaa
