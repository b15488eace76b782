/- keep.Within; the law's hosts. Conditions stand with each. -/
import Derived.Test.YtnbpmlbhigchnaaGreatDoorInts
import Derived.Deep.Cut
namespace Go.Proofs.YtnbpmlbhigchnaaGreatDoor
open Go.RowKit

theorem emod_tmod (i m : Int) (h0 : 0 < m) : i % m = if i.tmod m < 0 then i.tmod m + m else i.tmod m := by
  have h1 := Int.tmod_eq_emod (a := i) (b := m)
  have h2 := Int.emod_nonneg i (show m ≠ 0 by omega)
  have h3 := Int.emod_lt_of_pos i h0
  by_cases h : 0 ≤ i ∨ m ∣ i
  · rw [if_pos h] at h1
    rw [if_neg (by omega)]
    omega
  · rw [if_neg h] at h1
    rw [if_pos (by omega)]
    omega
set_option maxRecDepth 20000 in
theorem within_any (i m : Int) (w : World) (h0 : 0 < m) (h1 : m ≤ 1000) :
    Calls Tryz.prog 16 #[.int .i64 i, .int .i64 m] w fun e w' => w' = w ∧ e = .returned (.int .i64 (i % m)) := by
  have hz : m ≠ 0 := by omega
  have hlt : i.tmod m < m := Int.tmod_lt_of_pos i h0
  have hgt : -m < i.tmod m := by
    have := Int.tmod_lt_of_pos (-i) h0
    rw [Int.neg_tmod] at this
    omega
  have hwr : IntKind.i64.wrap (i.tmod m) = i.tmod m := IntWalk.i64_in _ (by omega)
  have HEM := Lib.hid (emod_tmod i m h0)
  by_cases hn : i.tmod m < 0
  · have hwa : IntKind.i64.wrap (i.tmod m + m) = i.tmod m + m := IntWalk.i64_in _ (by omega)
    go_enter Tryz.func16, Tryz.ntmps16
    go_wp2_with fail
    go_ret
    have h2 := HEM.out
    rw [if_pos hn] at h2
    rw [h2]
    exact ⟨rfl, rfl⟩
  · go_enter Tryz.func16, Tryz.ntmps16
    go_wp2_with fail
    go_ret
    have h2 := HEM.out
    rw [if_neg (by omega)] at h2
    rw [h2]
    exact ⟨rfl, rfl⟩

/-- the law's hosts: each once, in range, out of the first twelve -/
def addH (out : List Int) (x : Int) : List Int := if out.contains (x % 16) then out else out ++ [x % 16]
def hostsZ (l : List Int) : List Int := (l.take 12).foldl addH []
theorem addH_ok {out : List Int} {x : Int} (h : out.Nodup ∧ out.all okHost = true) : (addH out x).Nodup ∧ (addH out x).all okHost = true := by
  unfold addH
  split
  · exact h
  · rename_i hc
    refine ⟨?_, ?_⟩
    · rw [List.nodup_append]
      refine ⟨h.1, by simp, ?_⟩
      intro a ha b hb e
      simp only [List.mem_cons, List.not_mem_nil, or_false] at hb
      rw [e, hb] at ha
      exact hc (by simpa using ha)
    · rw [List.all_append, h.2]
      have h1 := Int.emod_nonneg x (show (16 : Int) ≠ 0 by decide)
      have h2 := Int.emod_lt_of_pos x (show (0 : Int) < 16 by decide)
      simp [okHost, h1, h2]
theorem fold_ok (l : List Int) : ∀ out : List Int, (out.Nodup ∧ out.all okHost = true) → ((l.foldl addH out).Nodup ∧ (l.foldl addH out).all okHost = true) := by
  induction l with
  | nil => exact fun _ h => h
  | cons x l ih => exact fun out h => ih _ (addH_ok h)
theorem hostsZ_ok (l : List Int) : (hostsZ l).Nodup ∧ (hostsZ l).all okHost = true := fold_ok _ _ ⟨List.nodup_nil, rfl⟩
theorem addH_len (out : List Int) (x : Int) : (addH out x).length ≤ out.length + 1 := by
  unfold addH
  split
  · omega
  · simp
theorem fold_len (l : List Int) : ∀ out : List Int, (l.foldl addH out).length ≤ out.length + l.length := by
  induction l with
  | nil => simp
  | cons x l ih =>
    intro out
    have h1 := ih (addH out x)
    have h2 := addH_len out x
    rw [List.foldl_cons, List.length_cons]
    omega
theorem hostsZ_len (l : List Int) : (hostsZ l).length ≤ 12 := by
  have := fold_len (l.take 12) []
  unfold hostsZ
  rw [List.length_take, List.length_nil] at this
  omega

end Go.Proofs.YtnbpmlbhigchnaaGreatDoor
