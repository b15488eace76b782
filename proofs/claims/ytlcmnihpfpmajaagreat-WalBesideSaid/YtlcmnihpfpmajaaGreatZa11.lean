/- The wal claims' texts, several in one: Files. Conditions stand with each theorem. -/
import Derived.Test.YtlcmnihpfpmajaaGreatZa08
import Derived.Test.YtlcmnihpfpmajaaGreatZa10
/- The disk's Files: the numbers of its files, rising. Conditions stand with it. -/
namespace Go.Proofs.YtlcmnihpfpmajaaGreat
open Go.RowKit Go.Maps Go.Sort Go.Shelf

theorem Tryz.sortsA (m : Nat) : AnyZI.SortsIn Tryz.prog Tryz.sortedA_ren Fence.wide m :=
  ⟨fun blk off cap ss W hH hblk hsz => callsIn_wide.2 (AnyM.slices_Sort_int Tryz.sortA blk off cap ss W hH hblk hsz),
   fun p cap W => callsIn_wide.2 (AnyM.slices_Sort_int_none Tryz.sortA p cap W)⟩

theorem intKeys_ents (es : List (Int × Nat)) : intKeys (DataW.map (ents es)) = es.map (·.1) := by
  show (ents es).map (fun p => Go.intOf p.1) = _
  unfold ents
  rw [List.map_map]
  rfl
theorem size_ents (es : List (Int × Nat)) : Maps.size (DataW.map (ents es)) = es.length := by
  unfold ents
  rw [Maps.size_eq, List.length_map]
theorem sort_rising {ss l : List Int} (h : ss.Perm l) (hl : l.Pairwise (· < ·)) : ss.mergeSort (fun x y => decide (x ≤ y)) = l := by
  have tr : ∀ a b c : Int, leI a b = true → leI b c = true → leI a c = true := fun a b c h1 h2 => by simp only [leI, decide_eq_true_eq] at *; exact Int.le_trans h1 h2
  have to : ∀ a b : Int, (leI a b || leI b a) = true := fun a b => by simp only [leI, Bool.or_eq_true, decide_eq_true_eq]; exact Int.le_total a b
  refine List.Perm.eq_of_pairwise (le := fun a b => leI a b = true) (fun a b _ _ h1 h2 => ?_) (List.pairwise_mergeSort tr to ss) (hl.imp fun {a b} h => by simp only [leI, decide_eq_true_eq]; exact Int.le_of_lt h) ((List.mergeSort_perm ss leI).trans h)
  simp only [leI, decide_eq_true_eq] at h1 h2
  exact Int.le_antisymm h1 h2

set_option maxHeartbeats 1000000 in
set_option maxRecDepth 20000 in
theorem files_any (w : World) (bd bm : Nat) (fv : Value) (fs : List FR) (d : Dk) (h : DK w bd bm fv fs d) (hn : fs.length ≤ 1000000000000) :
    Calls Tryz.prog 38 #[.pointer (some ⟨bd, 0, none⟩)] w fun e w' => ∃ v, e = .returned v ∧ w'.ownsRow w.heap.size 3 1 v fs.length ((fs.map FR.n).map (Value.int .i64)) ∧ Fresh w w' := by
  refine (callsIn_wide (n := 6)).1 ?_
  have hown := h.map
  have hbl := hown.lt
  have hsz : Maps.size (DataW.map (ents (fs.map fun f => (f.n, f.g))) : DataW Unit) = fs.length := by rw [size_ents, List.length_map]
  have hky : intKeys (DataW.map (ents (fs.map fun f => (f.n, f.g))) : DataW Unit) = fs.map FR.n := by rw [intKeys_ents, List.map_map]; rfl
  have hseq : SeqGives Fence.wide 2 Tryz.prog 74 #[.pointer (some ⟨w.heap.size, 0, none⟩)] encZ (fun ss => ss.Perm (intKeys (DataW.map (ents (fs.map fun f => (f.n, f.g))) : DataW Unit))) (Maps.size (DataW.map (ents (fs.map fun f => (f.n, f.g))) : DataW Unit)) (w.alloc (.cells #[.map (some bm)] 78)) :=
    AnyZI.keys_gives (ρ := Tryz.keysA_ren) { Tryz.keysA with } Fence.wide _ trivial rfl (by omega) w.heap.size bm _ _ _ (by simp) (by simp) (by
      obtain ⟨es, clock, hb, Ft, hs, hD⟩ := hown
      exact ⟨es, clock, (Below.heap_alloc _ _ bm hbl).trans hb, Ft, hs, hD⟩)
  rw [hky, hsz] at hseq
  have cK : ∀ mb W, CallsIn Fence.wide 5 Tryz.prog 60 #[.map mb] W fun e w' => e = .returned (.func (.func 74) #[] #[.pointer (some ⟨W.heap.size, 0, none⟩)]) ∧ w' = W.alloc (.cells #[.map mb] 78) := fun mb W => AnyZI.keys_in Tryz.keysA Fence.wide 5 trivial rfl mb W
  have cS := AnyZI.sorted_in Tryz.sortedA Fence.wide 5 trivial trivial trivial trivial rfl (by omega) (Tryz.sortsA _) (enters_of Tryz.func73 (by kernel_rfl) rfl) 74 #[.pointer (some ⟨w.heap.size, 0, none⟩)] trivial (enters_of Tryz.func74 (by kernel_rfl) rfl) _ _ (by unfold maxLen; omega) (by omega) _ hseq
  change CallsIn _ _ Tryz.prog 59 _ _ _ at cS
  have hfK : Fence.wide.fn 60 := trivial
  have hfS : Fence.wide.fn 59 := trivial
  have hc : w.cell? ⟨bd, 0, none⟩ = some (.map (some bm)) := h.blk.cell 0
  have HAP := Lib.hid (show (fs.map FR.n).Pairwise (· < ·) from List.pairwise_map.2 (h.apart.imp fun h => h.1))
  clear h hown
  refine callsIn_of_wp Tryz.func38 rfl trivial ?_ rfl
  simp only [Tryz.ntmps38, List.size_toArray, List.length_cons, List.length_nil, Nat.reduceAdd, Nat.reduceSub, Array.replicate_succ, Array.replicate_zero, List.push_toArray, List.append_toArray, List.nil_append, List.cons_append]
  gi_wp2_with (first
    | (gi_at_call 60; refine (cK _ _).mono ?_; rintro e w' ⟨rfl, rfl⟩)
    | (gi_at_call 59; refine cS.mono ?_; rintro e w' ⟨v, ss, rfl, hS, hrow, hnil, hb⟩))
  go_ret
  have hlen : ss.length = fs.length := by rw [hS.length_eq, List.length_map]
  rw [sort_rising hS HAP.out, hlen] at hrow
  exact ⟨v, rfl, ownsRow_base_a hrow (by simp), Touch.ofBelow (((Below.refl _ w).alloc (Nat.le_refl _) _).trans (hb.mono (by simp))) _⟩
end Go.Proofs.YtlcmnihpfpmajaaGreat
