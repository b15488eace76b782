/- The walk of the law RingNext, its plain part: the text of a number below 100; what a range over the spots keeps; leaving with marks. Conditions stand with each. -/
import Derived.Test.YtnbpmlbhigchnaaGreatDoorTold
namespace Go.Proofs.YtnbpmlbhigchnaaGreatDoor
open Go.RowKit

/-- the marks of ranges that are done -/
def markD (D : Nat) : Deferred := { target := .collected D, args := #[] }
theorem leaves_marks {F : Fence} {n : Nat} {P : Program} {fn : Func} {tmps : Array Value} {R : Ending → World → Prop} {w : World} (hlast : ∀ V, Below w.heap.size w V → LeavesInM F n P fn tmps R [] .returning V) :
    ∀ (Ds : List Nat) (V : World), Ds.Nodup → (∀ D ∈ Ds, w.heap.size ≤ D ∧ V.heap[D]? = some (.deferred (some []))) → Below w.heap.size w V → LeavesInM F n P fn tmps R (Ds.map markD) .returning V
  | [], V, _, _, hb => hlast V hb
  | D :: Ds, V, hn, hd, hb => by
    have hD := hd D (List.mem_cons_self ..)
    have hne : D ∉ Ds := (List.nodup_cons.1 hn).1
    refine ⟨by simp, .inl ⟨D, _, rfl, run_takeDeferred hD.2, leaves_marks hlast Ds _ (List.nodup_cons.1 hn).2 (fun E hE => ?_) ?_⟩⟩
    · have hE2 := hd E (List.mem_cons_of_mem _ hE)
      exact ⟨hE2.1, (World.putObj_heap_other (fun e => hne (by rw [e] at hE; exact hE))).trans hE2.2⟩
    · exact hb.trans (belowK_b (w := w) (Nat.le_refl _) _ D _ _ hD.1 hD.2 rfl rfl)

/-- the frame of a round whose loop variables are plain slots -/
def flatA {α : Type} (a : Act) (ps : Array Tmp) (encs : α → Array Value) (sets : α → List (Tmp × Value)) (x : α) : Act :=
  { tmps := (sets x).foldl (fun t p => t.setIfInBounds p.1 p.2) ((ps.zip (encs x)).foldl (fun t (p, v) => t.setIfInBounds p v) a.tmps), defers := [] }
theorem range_flat {α : Type} {F : Fence} {n : Nat} {P : Program} {g : Operand} {ps : Array Tmp} {assign body : Code} {Q : Exit → Act → World → Prop} {a : Act} {w : World}
    (hro : F.round = none) (h1 : 1 ≤ n) {gf : Nat} {lb : Array Value} (hg : a.eval g = .func (.func gf) #[] lb) (hFg : F.fn gf) (eg : ∀ args w, (callFunc gf args).run P w = .ok (.enter gf args) w)
    {encs : α → Array Value} {Ok : List α → α → World → Prop} {Kp : World → World → Prop} {S Sp : List α → Prop} {N : Nat} (hseq : SeqO F (n - 1) P gf lb encs Ok Kp S Sp N w)
    (hOk : ∀ (pre : List α) (x : α) (W : World) (l : Nat) (o o' : Obj), Ok pre x W → W.heap[l]? = some o → o.isCells = false → Ok pre x (W.putObj l o'))
    (hOkF : ∀ (pre : List α) (x : α) (W W1 : World), Ok pre x W → Fresh W W1 → Ok pre x W1) (sets : α → List (Tmp × Value)) (hKf : ∀ {A B : World}, Fresh A B → Kp A B)
    (hKt : ∀ {A B C : World}, Kp A B → Kp B C → Kp A C) (hKb : ∀ (W : World) (l : Nat) (o o' : Obj), w.heap.size ≤ l → W.heap[l]? = some o → o.isCells = false → o.isWalk = false → Kp W (W.putObj l o')) (hps : ∀ x, (encs x).size = ps.size)
    (I : List α → World → Prop) (hI : OwnFrom w.heap.size I) (h0 : I [] w)
    (hassign : ∀ (l : Nat) (x : α) (W : World) (K : Act → World → Prop), (∀ a₁, a₁ = flatA a ps encs sets x → K a₁ W) →
      assign.wpIn (F.inRound l) (n - 1 - 1) P (Exit.then K (fun _ _ _ => False)) { tmps := (ps.zip (encs x)).foldl (fun t (p, v) => t.setIfInBounds p v) a.tmps, defers := [] } W)
    (hbody : ∀ (l : Nat) (pre : List α) (x : α) (a₁ : Act) (W : World), a₁ = flatA a ps encs sets x → I pre W → Ok pre x W → pre.length < N → body.wpIn (F.inRound l) (n - 1 - 1) P
      (ownPostK Kp I (fun _ _ _ => False) (pre ++ [x]) W) a₁ W)
    (hdone : ∀ (D : Nat) (xs : List α) (W : World), w.heap.size ≤ D → S xs → I xs W → W.heap[D]? = some (.deferred (some [])) → Q .normal { a with defers := { target := .collected D, args := #[] } :: a.defers } W) :
    (Code.rangeFunc g ps assign body).wpIn F n P Q a w :=
  range_ok hro h1 hg hFg eg hseq hOk hOkF (fun x b _ => b = flatA a ps encs sets x) (fun _ _ _ _ _ _ h _ _ => h) hKf hKt hKb hps I (fun _ _ => False) hI (fun _ _ _ _ h _ _ => h) h0
    (fun l _ x W K _ hK => hassign l x W K fun a₁ ha => hK a₁ W (Touch.refl _ W) ha)
    (fun l pre x a₁ W hi hok hr hlt => wpIn_mono (hbody l pre x a₁ W hr hi hok hlt) (by
      rintro e a3 W3 hp
      cases e with
      | normal => exact hp
      | ret => exact hp.2.elim
      | exit id => exact hp.2.elim
      | goto t => exact hp.2.elim
      | panic ch => exact hp.elim
      | outgrown => exact hp.elim)) hdone (fun _ _ _ _ _ h _ => h.elim)

/-- what the range has found behind a part of the spots -/
def firstH (pre : List Sp) : Int := match pre.head? with
  | none => -1
  | some s => s.h
def wantH (z : Int × Int) (pre : List Sp) : Int × Bool := match pre.find? fun s => !befZ s.z z with
  | none => (0, false)
  | some s => (s.h, true)
theorem firstH_snoc (pre : List Sp) (x : Sp) (hp : ∀ s ∈ pre, 0 ≤ s.h) : firstH (pre ++ [x]) = if firstH pre < 0 then x.h else firstH pre := by
  cases pre with
  | nil => rfl
  | cons a l =>
    have := hp a (List.mem_cons_self ..)
    show a.h = if a.h < 0 then x.h else a.h
    rw [if_neg (by omega)]
theorem wantH_snoc (z : Int × Int) (pre : List Sp) (x : Sp) : wantH z (pre ++ [x]) = if (wantH z pre).2 then wantH z pre else if befZ x.z z then wantH z pre else (x.h, true) := by
  unfold wantH
  rw [List.find?_append]
  cases pre.find? fun s => !befZ s.z z with
  | some s => rfl
  | none =>
    cases h : befZ x.z z with
    | true => simp [h]
    | false => simp [h]
theorem wantH_next (sps : List Sp) (z : Int × Int) (hne : sps ≠ []) : ∃ s, nextK (sps.map Sp.key) z = some s ∧ s.2 = if (wantH z sps).2 then (wantH z sps).1 else firstH sps := by
  have hf : (sps.map Sp.key).find? (fun s => !befZ s.1 z) = (sps.find? fun y => !befZ y.z z).map Sp.key := by
    rw [List.find?_map]
    rfl
  unfold nextK wantH
  rw [hf]
  cases h : sps.find? fun y => !befZ y.z z with
  | some s => exact ⟨s.key, rfl, rfl⟩
  | none =>
    cases sps with
    | nil => exact absurd rfl hne
    | cons a l => exact ⟨a.key, rfl, rfl⟩

/-- the four boxes of a round of the law, and what lies below them -/
structure NV (B : Nat) (w V : World) (b q x y : Nat) (wv fv : Int) (bv : Bool) : Prop where
  box : Blk V b 45 #[.complex .f64 x y]
  want : Blk V q 3 #[.int .i64 wv]
  first : Blk V (q + 1) 3 #[.int .i64 fv]
  found : Blk V (q + 1 + 1) 4 #[.bool bv]
  bel : Below B w V
  lt : b < q
  le : B ≤ b
def SQ (q k : Nat) : Prop := k = q ∨ k = q + 1 ∨ k = q + 1 + 1
/-- a body's step: it writes into the boxes alone -/
def QS (q : Nat) (V V' : World) : Prop := KeepsOthers V V' ∧ NKp (SQ q) V V'
theorem QS.refl (q : Nat) (V : World) : QS q V V := ⟨⟨Nat.le_refl _, fun _ _ h _ => h⟩, fun _ _ _ _ h => h⟩
theorem QS.set {q : Nat} {V V' : World} (h : QS q V V') (k : Nat) (hk : SQ q k) (u : Value) : QS q V (V'.setCell ⟨k, 0, none⟩ u) :=
  ⟨h.1.trans (KeepsOthers.setCell _ _ _), h.2.trans_ (NKp.touch ((Touch.refl (SQ q) V').setCell (p := ⟨k, 0, none⟩) (.inr hk) u))⟩
section
variable {B : Nat} {w V V' : World} {b q x y : Nat} {wv fv : Int} {bv : Bool}
theorem NV.toWant (h : NV B w V b q x y wv fv bv) (u : Int) : NV B w (V.setCell ⟨q, 0, none⟩ (.int .i64 u)) b q x y u fv bv :=
  ⟨h.box.far (p := ⟨q, 0, none⟩) (by have := h.lt; show b ≠ q; omega) _, by simpa using h.want.set_ 0 (.int .i64 u), h.first.far (p := ⟨q, 0, none⟩) (by show q + 1 ≠ q; omega) _, h.found.far (p := ⟨q, 0, none⟩) (by show q + 1 + 1 ≠ q; omega) _, h.bel.setCell (p := ⟨q, 0, none⟩) (by have := h.lt; have := h.le; show B ≤ q; omega) _, h.lt, h.le⟩
theorem NV.toFirst (h : NV B w V b q x y wv fv bv) (u : Int) : NV B w (V.setCell ⟨q + 1, 0, none⟩ (.int .i64 u)) b q x y wv u bv :=
  ⟨h.box.far (p := ⟨q + 1, 0, none⟩) (by have := h.lt; show b ≠ q + 1; omega) _, h.want.far (p := ⟨q + 1, 0, none⟩) (by show q ≠ q + 1; omega) _, by simpa using h.first.set_ 0 (.int .i64 u), h.found.far (p := ⟨q + 1, 0, none⟩) (by show q + 1 + 1 ≠ q + 1; omega) _, h.bel.setCell (p := ⟨q + 1, 0, none⟩) (by have := h.lt; have := h.le; show B ≤ q + 1; omega) _, h.lt, h.le⟩
theorem NV.toFound (h : NV B w V b q x y wv fv bv) (u : Bool) : NV B w (V.setCell ⟨q + 1 + 1, 0, none⟩ (.bool u)) b q x y wv fv u :=
  ⟨h.box.far (p := ⟨q + 1 + 1, 0, none⟩) (by have := h.lt; show b ≠ q + 1 + 1; omega) _, h.want.far (p := ⟨q + 1 + 1, 0, none⟩) (by show q ≠ q + 1 + 1; omega) _, h.first.far (p := ⟨q + 1 + 1, 0, none⟩) (by show q + 1 ≠ q + 1 + 1; omega) _, by simpa using h.found.set_ 0 (.bool u), h.bel.setCell (p := ⟨q + 1 + 1, 0, none⟩) (by have := h.lt; have := h.le; show B ≤ q + 1 + 1; omega) _, h.lt, h.le⟩
theorem NV.fresh (h : NV B w V b q x y wv fv bv) (hf : Fresh V V') : NV B w V' b q x y wv fv bv :=
  ⟨h.box.touch hf id, h.want.touch hf id, h.first.touch hf id, h.found.touch hf id, h.bel.trans (hf.bel.mono (Nat.le_trans h.le (Nat.le_of_lt h.box.lt))), h.lt, h.le⟩
end
theorem NV.own {B D : Nat} {w : World} {b q x y : Nat} {z : Int × Int} (hB : B ≤ w.heap.size) (hD : B ≤ D) : OwnFrom D (fun pre V => NV B w V b q x y (wantH z pre).1 (firstH pre) (wantH z pre).2) := fun _ W W' row hs hg hr =>
  ⟨hs.box.own_ hg fun r e => (hr r e).2, hs.want.own_ hg fun r e => (hr r e).2, hs.first.own_ hg fun r e => (hr r e).2, hs.found.own_ hg fun r e => (hr r e).2,
   ownFrom_below (β := Unit) hB hD () W W' row hs.bel hg hr, hs.lt, hs.le⟩
/-- hosts of a ring's spots are from 0 up -/
theorem spots_pos {al : List Int} {n : Nat} {sps : List Sp} (hok : al.all okHost = true) (hp : (sps.map Sp.key).Perm (spotsOf al n)) : ∀ s ∈ sps, 0 ≤ s.h := by
  intro s hs
  have h1 : s.key ∈ spotsOf al n := hp.mem_iff.1 (List.mem_map_of_mem hs)
  unfold spotsOf at h1
  obtain ⟨h, hh, h2⟩ := List.mem_flatMap.1 h1
  obtain ⟨k, _, h3⟩ := List.mem_map.1 h2
  have h4 : s.h = h := by have := congrArg Prod.snd h3; exact this.symm
  have h5 := List.all_eq_true.1 hok h hh
  simp only [okHost, Bool.and_eq_true, decide_eq_true_eq] at h5
  omega

theorem bytes_two (w : World) (a b : UInt8) : Bs (w.alloc (.cells #[.int .u8 (a.toNat : Int), .int .u8 (b.toNat : Int)] 5)) (some ⟨w.heap.size, 0, none⟩) 2 2 [a, b] := by
  refine ⟨rfl, Nat.le_refl _, by unfold maxLen; omega, fun _ => ⟨w.heap.size, 0, rfl, fun j x hx => ?_⟩⟩
  rw [(Blk.new w 5 #[.int .u8 (a.toNat : Int), .int .u8 (b.toNat : Int)]).cell, Nat.zero_add]
  match j with
  | 0 => simp at hx; subst hx; rfl
  | 1 => simp at hx; subst hx; rfl
  | j + 2 => simp at hx
theorem dig_u8 {m : Nat} (h : m < 100) : (((UInt8.ofNat (48 + m)).toNat : Nat) : Int) = 48 + (m : Int) := by
  rw [UInt8.toNat_ofNat']
  omega

end Go.Proofs.YtnbpmlbhigchnaaGreatDoor
