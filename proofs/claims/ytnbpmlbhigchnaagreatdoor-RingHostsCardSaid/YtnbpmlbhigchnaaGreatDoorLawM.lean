/- The law RingMoves, walked; what goes and comes with a host. Condition: numbers as an int holds them. -/
import Derived.Test.YtnbpmlbhigchnaaGreatDoorHosts
namespace Go.Proofs.YtnbpmlbhigchnaaGreatDoor
open Go.RowKit

theorem spots_filter (p : Int → Bool) (l : List Int) (n : Nat) : spotsOf (l.filter p) n = (spotsOf l n).filter fun s => p s.2 := by
  induction l with
  | nil => rfl
  | cons a l ih =>
    have e : spotsOf (a :: l) n = (List.range n).map (spotK a) ++ spotsOf l n := rfl
    rw [e, List.filter_append, ← ih, List.filter_cons]
    cases h : p a with
    | true =>
      have : ((List.range n).map (spotK a)).filter (fun s => p s.2) = (List.range n).map (spotK a) := by
        rw [List.filter_eq_self]
        intro s hs
        obtain ⟨k, _, rfl⟩ := List.mem_map.1 hs
        exact h
      rw [this, if_pos rfl]
      rfl
    | false =>
      have : ((List.range n).map (spotK a)).filter (fun s => p s.2) = [] := by
        rw [List.filter_eq_nil_iff]
        intro s hs
        obtain ⟨k, _, rfl⟩ := List.mem_map.1 hs
        rw [show (spotK a k).2 = a from rfl, h]
        simp
      rw [this]
      rfl
theorem keys_filter {K L : List Key} {l : List Int} {n : Nat} (p : Int → Bool) (hk : SortK K) (hl : SortK L) (pk : K.Perm (spotsOf l n)) (pl : L.Perm (spotsOf (l.filter p) n)) : L = K.filter fun s => p s.2 := by
  refine SortK.uniq hl (hk.filter _) (pl.trans ?_)
  rw [spots_filter]
  exact (pk.filter _).symm
theorem spots_ne {l : List Int} {n : Nat} {K : List Key} (pk : K.Perm (spotsOf l n)) (hl : l ≠ []) (hn : 1 ≤ n) : K ≠ [] := by
  intro e
  rw [e] at pk
  have := pk.length_eq
  rw [spotsOf_len] at this
  have h1 : 0 < l.length := List.length_pos_iff.2 hl
  have := Nat.mul_pos h1 (show 0 < n by omega)
  simp only [List.length_nil] at *
  omega
/-- whose a shard is, without one host -/
theorem moves {K L : List Key} {l : List Int} {n : Nat} (gone : Int) (hk : SortK K) (hl : SortK L) (pk : K.Perm (spotsOf l n)) (pl : L.Perm (spotsOf (l.filter fun h => h != gone) n)) (hne : L ≠ []) (bs : List UInt8) :
    ∃ x y : Int, hostOf K bs = .tuple #[.int .i64 x, .bool true] ∧ hostOf L bs = .tuple #[.int .i64 y, .bool true] ∧ y ≠ gone ∧ (x ≠ gone → x = y) := by
  have e := keys_filter (fun h => h != gone) hk hl pk pl
  have hK : K ≠ [] := by intro h; rw [h] at e; exact hne (by rw [e]; rfl)
  obtain ⟨s, hs⟩ := nextK_some (shardP bs) hK
  obtain ⟨t, ht⟩ := nextK_some (shardP bs) hne
  refine ⟨s.2, t.2, hostOf_some hs, hostOf_some ht, ?_, fun hx => ?_⟩
  · have := nextK_mem ht
    rw [e] at this
    have := (List.mem_filter.1 this).2
    simpa using this
  · have := nextK_filter (p := fun s => s.2 != gone) hs (by simpa using hx)
    rw [← e, ht] at this
    injection this with this
    rw [this]
theorem okNew_mk {l : List Int} {p : Int} (h : l.Nodup ∧ l.all okHost = true) (h1 : 1 ≤ p) (h2 : p ≤ 64) : okNew l p = true := by
  simp only [okNew, Bool.and_eq_true, decide_eq_true_eq]
  exact ⟨⟨⟨h1, h2⟩, h.2⟩, h.1⟩
theorem RN.few {w0 w : World} {bn : Nat} {hv sv : Value} {hs l : List Int} {sps : List Sp} {n : Nat} (_ : RN w0 w bn hv sv hs sps) (hp : (sps.map Sp.key).Perm (spotsOf l n)) (hl : l.length ≤ 1000) (hn : n ≤ 64) : sps.length ≤ 1000000000 := by
  have := hp.length_eq
  rw [List.length_map, spotsOf_len] at this
  have := Nat.mul_le_mul hl hn
  omega
theorem Own.vs_ {w : World} {A : Option Addr} {n c : Nat} {l : List Int} (h : Own w 3 1 (.slice A n c) n (iV l)) : Vs w 1 A n c (iV l) := (Own.ints h).vs

end Go.Proofs.YtnbpmlbhigchnaaGreatDoor
