/- A ring in memory: its block, its row of hosts, its row of spots; what the appends of New leave. Conditions stand with each. -/
import Derived.Test.YtnbpmlbhigchnaaGreatDoorSort
namespace Go.Proofs.YtnbpmlbhigchnaaGreatDoor
open Go.RowKit Ieee Go.Sort

theorem Tryz.info3 : (Tryz.prog.info? 3).map (fun i => (i.zero, i.size, i.bytes)) = some (some (.int .i64 0), 1, 8) := by kernel_rfl
theorem Tryz.info60 : (Tryz.prog.info? 60).map (fun i => (i.zero, i.size, i.bytes)) = some (some (.agg #[.complex .f64 0 0, .int .i64 0]), 2, 24) := by kernel_rfl

structure RG (w : World) (bn : Nat) (hv sv : Value) (hs : List Int) (sps : List Sp) : Prop where
  blk : Blk w bn 55 #[hv, sv]
  hrow : Own w 3 1 hv hs.length (iV hs)
  srow : Own w 60 2 sv sps.length (spC sps)
def rfoot (bn : Nat) (hv sv : Value) (k : Nat) : Prop := k = bn ∨ hv.ownBlock = some k ∨ sv.ownBlock = some k
theorem Own.ne_own {w : World} {e e' : TypeId} {s s' n n' : Nat} {v v' : Value} {xs xs' : List Value} (h : Own w e s v n xs) (h' : Own w e' s' v' n' xs') (hne : e ≠ e') : ∀ k, v.ownBlock = some k → v'.ownBlock ≠ some k := by
  intro k hk
  rcases h.2 with ⟨rfl, _⟩ | ⟨g, cap, cur, rfl, hg, _⟩
  · simp [Value.ownBlock] at hk
  · simp only [Value.ownBlock, Option.some.injEq] at hk
    subst hk
    exact h'.ne_blk (t := e) (cs := cur) hg (Ne.symm hne)
section
variable {w w' W W2 : World} {bn : Nat} {hv sv : Value} {hs : List Int} {sps : List Sp}
theorem RG.touch {S : Nat → Prop} (h : RG w bn hv sv hs sps) (hb : Touch S w w') (hn : ∀ k, rfoot bn hv sv k → ¬ S k) : RG w' bn hv sv hs sps :=
  ⟨h.blk.touch hb (hn bn (.inl rfl)), h.hrow.touch hb fun k hk => hn k (.inr (.inl hk)), h.srow.touch hb fun k hk => hn k (.inr (.inr hk))⟩
theorem RG.fresh (h : RG w bn hv sv hs sps) (hb : Fresh w w') : RG w' bn hv sv hs sps := h.touch hb fun _ _ => id
theorem RG.lt (h : RG w bn hv sv hs sps) : ∀ k, rfoot bn hv sv k → k < w.heap.size := by
  rintro k (rfl | hk | hk)
  · exact h.blk.lt
  · exact h.hrow.lt k hk
  · exact h.srow.lt k hk

/-- a ring that the call has made since w0 -/
structure RN (w0 w : World) (bn : Nat) (hv sv : Value) (hs : List Int) (sps : List Sp) : Prop where
  rg : RG w bn hv sv hs sps
  fresh : Fresh w0 w
  new : ∀ k, rfoot bn hv sv k → w0.heap.size ≤ k
theorem RN.on {w0 : World} (h : RN w0 w bn hv sv hs sps) (hf : Fresh w w') : RN w0 w' bn hv sv hs sps := ⟨h.rg.fresh hf, h.fresh.trans hf fun _ _ => id, h.new⟩
theorem RN.host {w0 : World} {x : Int} {D : Option Addr} {c4 : Nat} (h : RN w0 W bn hv sv hs sps) (hg : (W.alloc (.cells #[.int .i64 x] 3)).grownBy W2 hv.ownBlock)
    (ho : Own W2 3 1 (.slice D (hs.length + 1) c4) (hs.length + 1) (iV hs ++ [.int .i64 x]))
    (hd : (Value.slice D (hs.length + 1) c4).ownBlock = hv.ownBlock ∨ (Value.slice D (hs.length + 1) c4).ownBlock = some (W.alloc (.cells #[.int .i64 x] 3)).heap.size) :
    RN w0 (W2.setCell ⟨bn, 0, none⟩ (.slice D (hs.length + 1) c4)) bn (.slice D (hs.length + 1) c4) sv (hs ++ [x]) sps := by
  have hsz := h.fresh.size
  have hb2 : Blk W2 bn 55 #[hv, sv] := (h.rg.blk.alloc _).grown hg fun e => h.rg.hrow.ne_blk h.rg.blk (by decide) e.symm
  have hs2 : Own W2 60 2 sv sps.length (spC sps) := (h.rg.srow.alloc _).grown hg fun k hk e => h.rg.srow.ne_own h.rg.hrow (by decide) k hk e.symm
  have hF : Fresh w0 W2 := (h.fresh.alloc _).grown hg fun k hk => .inl (h.new k (.inr (.inl hk)))
  refine ⟨⟨?_, ?_, ?_⟩, hF.setCell (p := ⟨bn, 0, none⟩) (.inl (h.new bn (.inl rfl))) _, ?_⟩
  · simpa using hb2.set_ 0 (.slice D (hs.length + 1) c4)
  · have e : (hs ++ [x]).length = hs.length + 1 := by simp
    rw [e, show iV (hs ++ [x]) = iV hs ++ [.int .i64 x] by simp [iV]]
    exact ho.far (p := ⟨bn, 0, none⟩) (ho.ne_blk hb2 (by decide)) _
  · exact hs2.far (p := ⟨bn, 0, none⟩) (hs2.ne_blk hb2 (by decide)) _
  · rintro k (e | e | e)
    · exact h.new k (.inl e)
    · rcases hd with h1 | h1
      · exact h.new k (.inr (.inl (h1.symm.trans e)))
      · rw [e] at h1
        injection h1 with h1
        rw [h1, World.size_alloc]
        omega
    · exact h.new k (.inr (.inr e))
theorem RN.spot {w0 : World} {x : Sp} {m : Int} {D : Option Addr} {c4 : Nat} (h : RN w0 W bn hv sv hs sps) (hg : (W.alloc (.cells #[.complex .f64 x.x x.y, .int .i64 m] 60)).grownBy W2 sv.ownBlock)
    (ho : Own W2 60 2 (.slice D (sps.length + 1) c4) (sps.length + 1) (spC sps ++ [.complex .f64 x.x x.y, .int .i64 m]))
    (hd : (Value.slice D (sps.length + 1) c4).ownBlock = sv.ownBlock ∨ (Value.slice D (sps.length + 1) c4).ownBlock = some (W.alloc (.cells #[.complex .f64 x.x x.y, .int .i64 m] 60)).heap.size) (hm : x.h = m) :
    RN w0 (W2.setCell ⟨bn, 1, none⟩ (.slice D (sps.length + 1) c4)) bn hv (.slice D (sps.length + 1) c4) hs (sps ++ [x]) := by
  subst hm
  have hsz := h.fresh.size
  have hb2 : Blk W2 bn 55 #[hv, sv] := (h.rg.blk.alloc _).grown hg fun e => h.rg.srow.ne_blk h.rg.blk (by decide) e.symm
  have hs2 : Own W2 3 1 hv hs.length (iV hs) := (h.rg.hrow.alloc _).grown hg fun k hk e => h.rg.hrow.ne_own h.rg.srow (by decide) k hk e.symm
  have hF : Fresh w0 W2 := (h.fresh.alloc _).grown hg fun k hk => .inl (h.new k (.inr (.inr hk)))
  refine ⟨⟨?_, ?_, ?_⟩, hF.setCell (p := ⟨bn, 1, none⟩) (.inl (h.new bn (.inl rfl))) _, ?_⟩
  · simpa using hb2.set_ 1 (.slice D (sps.length + 1) c4)
  · exact hs2.far (p := ⟨bn, 1, none⟩) (hs2.ne_blk hb2 (by decide)) _
  · have e : (sps ++ [x]).length = sps.length + 1 := by simp
    rw [e, show spC (sps ++ [x]) = spC sps ++ [.complex .f64 x.x x.y, .int .i64 x.h] by simp [spC, Sp.enc]]
    exact ho.far (p := ⟨bn, 1, none⟩) (ho.ne_blk hb2 (by decide)) _
  · rintro k (e | e | e)
    · exact h.new k (.inl e)
    · exact h.new k (.inr (.inl e))
    · rcases hd with h1 | h1
      · exact h.new k (.inr (.inr (h1.symm.trans e)))
      · rw [e] at h1
        injection h1 with h1
        rw [h1, World.size_alloc]
        omega
/-- both rows sorted -/
theorem RN.sorted {w0 W3 : World} {hs' : List Int} {sps' : List Sp} (h : RN w0 W bn hv sv hs sps) (h1 : Touch (fun k => hv.ownBlock = some k) W W2) (o1 : Own W2 3 1 hv hs.length (iV hs')) (hl : hs'.length = hs.length)
    (h2 : Touch (fun k => sv.ownBlock = some k) W2 W3) (o2 : Own W3 60 2 sv sps'.length (spC sps')) : RN w0 W3 bn hv sv hs' sps' := by
  have hb2 : Blk W2 bn 55 #[hv, sv] := h.rg.blk.touch h1 fun e => h.rg.hrow.ne_blk h.rg.blk (by decide) e
  have hs2 : Own W2 60 2 sv sps.length (spC sps) := h.rg.srow.touch h1 fun k hk e => h.rg.srow.ne_own h.rg.hrow (by decide) k hk e
  refine ⟨⟨hb2.touch h2 fun e => hs2.ne_blk hb2 (by decide) e, ?_, o2⟩, ?_, h.new⟩
  · rw [hl]
    exact o1.touch h2 fun k hk e => o1.ne_own hs2 (by decide) k hk e
  · have a := h.fresh.trans h1 fun i hi e => by have := h.new i (.inr (.inl e)); omega
    exact a.trans h2 fun i hi e => by have := h.new i (.inr (.inr e)); omega
theorem RN.halfway {w0 : World} (h : RN w0 W bn hv sv hs sps) (h1 : Touch (fun k => hv.ownBlock = some k) W W2) : Blk W2 bn 55 #[hv, sv] ∧ Own W2 60 2 sv sps.length (spC sps) :=
  ⟨h.rg.blk.touch h1 fun e => h.rg.hrow.ne_blk h.rg.blk (by decide) e, h.rg.srow.touch h1 fun k hk e => h.rg.srow.ne_own h.rg.hrow (by decide) k hk e⟩
end
theorem int_new (w : World) (x : Int) : Src Tryz.prog 1 22 (.slice (some ⟨w.heap.size, 0, none⟩) 1 1) 1 [.int .i64 x] (w.alloc (.cells #[.int .i64 x] 3)) := by
  refine Src.ofSlice _ Tryz.underlying22 _ _ _ _ rfl (fun j u hu => ?_) (by intro u hu; simp at hu; rw [hu]; rfl)
  have hb := Blk.new w 3 #[.int .i64 x]
  rw [add_flat, Nat.zero_add, hb.cell j, ← hu]
  simp
theorem spot_new (w : World) (x : Sp) (m : Int) : Src Tryz.prog 2 53 (.slice (some ⟨w.heap.size, 0, none⟩) 1 1) 1 [.complex .f64 x.x x.y, .int .i64 m] (w.alloc (.cells #[.complex .f64 x.x x.y, .int .i64 m] 60)) := by
  refine Src.ofSlice _ Tryz.underlying53 _ _ _ _ rfl (fun j u hu => ?_) (by intro u hu; simp at hu; rcases hu with rfl | rfl <;> rfl)
  have hb := Blk.new w 60 #[.complex .f64 x.x x.y, .int .i64 m]
  rw [add_flat, Nat.zero_add, hb.cell j, ← hu]
  simp

/-- a spot's name: host/H/K -/
def nameZ (h k : Nat) : List UInt8 := [104, 111, 115, 116, 47] ++ Lib.decDigits h ++ [47] ++ Lib.decDigits k
def spotK (h : Int) (k : Nat) : Key := (pointZ (nameZ h.toNat k), h)
def spotsOf (l : List Int) (n : Nat) : List Key := l.flatMap fun h => (List.range n).map (spotK h)
theorem spotsOf_append (a b : List Int) (n : Nat) : spotsOf (a ++ b) n = spotsOf a n ++ spotsOf b n := by simp [spotsOf]
theorem spotsOf_len (l : List Int) (n : Nat) : (spotsOf l n).length = l.length * n := by
  unfold spotsOf
  induction l with
  | nil => simp
  | cons a l ih => rw [List.flatMap_cons, List.length_append, ih]; simp [Nat.add_mul]; omega
def okHost (h : Int) : Bool := decide (0 ≤ h) && decide (h < 16)
/-- may a ring be made? -/
def okNew (l : List Int) (p : Int) : Bool := decide (1 ≤ p) && decide (p ≤ 64) && l.all okHost && decide l.Nodup
theorem dec_len {n : Nat} (h : n < 100) : (Lib.decDigits n).length ≤ 2 := by
  by_cases h1 : n < 10
  · rw [Lib.decDigits_one h1]; simp
  · rw [Lib.decDigits_two h1 h]; simp
theorem itoa_small (i : Nat) (hi : i < 100) (w : World) : Calls Tryz.prog 19 #[.int .i64 i] w fun e w' => e = .returned (.string ⟨(Lib.decDigits i).toArray⟩) ∧ w' = w := Any.strconv_Itoa_small Tryz.itoaSmall i hi w
/-- what New leaves -/
def NewEnd (w : World) (l : List Int) (p : Int) (e : Ending) (w' : World) : Prop :=
  (okNew l p = true → ∃ bn hv sv sps, e = .returned (.tuple #[.pointer (some ⟨bn, 0, none⟩), .int .i64 0]) ∧ RN w w' bn hv sv (sortI l) sps ∧ SortK (sps.map Sp.key) ∧ (sps.map Sp.key).Perm (spotsOf l p.toNat)) ∧
  (okNew l p = false → e = .returned (.tuple #[.pointer none, .int .i64 1]) ∧ Fresh w w')
theorem NewEnd.bad {w w' : World} {l : List Int} {p : Int} (h : okNew l p = false) (hf : Fresh w w') : NewEnd w l p (.returned (.tuple #[.pointer none, .int .i64 1])) w' := ⟨fun h' => absurd (h.symm.trans h') (by decide), fun _ => ⟨rfl, hf⟩⟩
theorem okNew_bad {l : List Int} {p : Int} {j : Nat} {x : Int} (h : l[j]? = some x) (hb : okHost x = false ∨ x ∈ l.take j) : okNew l p = false := by
  have hm : x ∈ l := List.mem_of_getElem? h
  rcases hb with hb | hb
  · have : l.all okHost = false := by
      rw [List.all_eq_false]
      exact ⟨x, hm, by rw [hb]; simp⟩
    simp [okNew, this]
  · have : ¬ l.Nodup := by
      intro hn
      obtain ⟨i, hi⟩ := List.mem_iff_getElem?.1 hb
      have hij : i < j := by
        have := (List.getElem?_eq_some_iff.1 hi).1
        rw [List.length_take] at this
        omega
      rw [List.getElem?_take_of_lt hij] at hi
      have h1 := (List.getElem?_eq_some_iff.1 hi)
      have h2 := (List.getElem?_eq_some_iff.1 h)
      obtain ⟨a1, a2⟩ := h1
      obtain ⟨b1, b2⟩ := h2
      have := (List.pairwise_iff_getElem.1 hn) i j a1 b1 hij
      exact this (by rw [a2, b2])
    simp [okNew, this]
end Go.Proofs.YtnbpmlbhigchnaaGreatDoor
