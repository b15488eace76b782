/- The law of a range over a function whose rounds lay what they are told into a box of their own. Conditions stand with it. -/
import Derived.Test.YthmjnlkdoepmjaaTn
namespace Go.Proofs.Ythmjnlkdoepmjaa
open Go.RowKit

/-- the frame of a round: what was told, and the slots that the assignments write -/
def boxed {α : Type} (a : Act) (ps : Array Tmp) (encs : α → Array Value) (sets : α → Nat → List (Tmp × Value)) (x : α) (bx : Nat) : Act :=
  { tmps := (sets x bx).foldl (fun t p => t.setIfInBounds p.1 p.2) ((ps.zip (encs x)).foldl (fun t (p, v) => t.setIfInBounds p v) a.tmps), defers := [] }

theorem range_box {α : Type} {F : Fence} {n : Nat} {P : Program} {g : Operand} {ps : Array Tmp} {assign body : Code} {Q : Exit → Act → World → Prop} {a : Act} {w : World}
    (hro : F.round = none) (h1 : 1 ≤ n) {gf : Nat} {lb : Array Value} (hg : a.eval g = .func (.func gf) #[] lb) (hFg : F.fn gf) (eg : ∀ args w, (callFunc gf args).run P w = .ok (.enter gf args) w)
    {encs : α → Array Value} {Ok : List α → α → World → Prop} {Kp : World → World → Prop} {S Sp : List α → Prop} {N : Nat} (hseq : SeqO F (n - 1) P gf lb encs Ok Kp S Sp N w)
    (hOk : ∀ (pre : List α) (x : α) (W : World) (l : Nat) (o o' : Obj), Ok pre x W → W.heap[l]? = some o → o.isCells = false → Ok pre x (W.putObj l o'))
    (hOkF : ∀ (pre : List α) (x : α) (W W1 : World), Ok pre x W → Fresh W W1 → Ok pre x W1) (bt : TypeId) (bc : α → Array Value) (sets : α → Nat → List (Tmp × Value)) (hKf : ∀ {A B : World}, Fresh A B → Kp A B)
    (hKt : ∀ {A B C : World}, Kp A B → Kp B C → Kp A C) (hKb : ∀ (W : World) (l : Nat) (o o' : Obj), w.heap.size ≤ l → W.heap[l]? = some o → o.isCells = false → o.isWalk = false → Kp W (W.putObj l o')) (hps : ∀ x, (encs x).size = ps.size)
    (I : List α → World → Prop) (Ix : List α → World → Prop) (hI : OwnFrom w.heap.size I) (hIx : OwnFrom w.heap.size Ix) (h0 : I [] w)
    (hassign : ∀ (l : Nat) (pre : List α) (x : α) (W : World) (K : Act → World → Prop), Ok pre x W → (∀ bx a₁ W₁, a₁ = boxed a ps encs sets x bx → Fresh W W₁ → Blk W₁ bx bt (bc x) → K a₁ W₁) →
      assign.wpIn (F.inRound l) (n - 1 - 1) P (Exit.then K (fun _ _ _ => False)) { tmps := (ps.zip (encs x)).foldl (fun t (p, v) => t.setIfInBounds p v) a.tmps, defers := [] } W)
    (hbody : ∀ (l : Nat) (pre : List α) (x : α) (bx : Nat) (a₁ : Act) (W : World), a₁ = boxed a ps encs sets x bx → I pre W → Ok pre x W → Blk W bx bt (bc x) → pre.length < N → body.wpIn (F.inRound l) (n - 1 - 1) P
      (ownPostK Kp I (fun c xs W' => c = .ret ∧ Ix xs W') (pre ++ [x]) W) a₁ W)
    (hdone : ∀ (D : Nat) (xs : List α) (W : World), w.heap.size ≤ D → S xs → I xs W → W.heap[D]? = some (.deferred (some [])) → Q .normal { a with defers := { target := .collected D, args := #[] } :: a.defers } W)
    (hstop : ∀ (D : Nat) (pre : List α) (W : World), w.heap.size ≤ D → Sp pre → Ix pre W → W.heap[D]? = some (.deferred (some [])) → Code.ret.wpIn F n P Q { a with defers := { target := .collected D, args := #[] } :: a.defers } W) :
    (Code.rangeFunc g ps assign body).wpIn F n P Q a w :=
  range_ok hro h1 hg hFg eg hseq hOk hOkF (fun x b V => ∃ bx, b = boxed a ps encs sets x bx ∧ Blk V bx bt (bc x))
    (fun x b V l o o' h hl hc => by obtain ⟨bx, e, hb⟩ := h; exact ⟨bx, e, hb.own_ (grownBy_putObj' V l o') (putHr hl hc)⟩) hKf hKt hKb hps I Ix hI hIx h0
    (fun l pre x W K hok hK => hassign l pre x W K hok fun bx a₁ W₁ ha hf hb => hK a₁ W₁ hf ⟨bx, ha, hb⟩)
    (fun l pre x a₁ W hi hok hr hlt => by obtain ⟨bx, e, hb⟩ := hr; exact hbody l pre x bx a₁ W e hi hok hb hlt) hdone hstop
/-- the cells of a parcel's box -/
def pcBox (x : PcY) : Array Value := #[.int .i64 x.2.a, .int .i64 x.2.b, x.2.v]
end Go.Proofs.Ythmjnlkdoepmjaa
