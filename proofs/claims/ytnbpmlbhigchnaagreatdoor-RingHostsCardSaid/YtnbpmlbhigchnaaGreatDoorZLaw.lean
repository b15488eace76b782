/- The walk of the law RingHosts. Conditions: numbers as an int holds them; the library's table of powers of ten. -/
import Derived.Test.YtnbpmlbhigchnaaGreatDoorZHost
import Derived.BigRegion
import Derived.BigQuiet
import Derived.Deep.RegionHeld3
import Derived.Deep.RegionHeld
namespace Go.Proofs.YtnbpmlbhigchnaaGreatDoor
open Go.RowKit Ieee Go.Sort
attribute [local go_sem] Oper.semAt_some

theorem IsInts.takeZ {w : World} {A : Option Addr} {n c k : Nat} {xs : List Int} (h : IsInts w A n c xs) (hk : k ≤ n) : IsInts w A k c (xs.take k) := by
  obtain ⟨h1, h2, h3, h4⟩ := h
  refine ⟨by rw [List.length_take]; omega, by omega, h3, fun h0 => ?_⟩
  obtain ⟨b, o, e, hc⟩ := h4 (by omega)
  refine ⟨b, o, e, fun j x hx => hc j x ?_⟩
  have : j < k := by
    have := (List.getElem?_eq_some_iff.1 hx).1
    rw [List.length_take] at this
    omega
  rwa [List.getElem?_take_of_lt this] at hx
theorem Below.fresh {w w' : World} (h : Below w.heap.size w w') : Fresh w w' := Touch.ofBelow h _

/-- a world that came out of another one by reads and new blocks -/
structure FrOf (w : World) where
  W : World
  h : Fresh w W
instance (w : World) : Inhabited (FrOf w) := ⟨⟨w, Touch.refl _ w⟩⟩
theorem wp_region_fresh {P : Program} {id : Nat} {Q : Exit → Act → World → Prop} {a : Act} {w : World} {l : List Oper} (hm : P.follows .mixedOrders = true) (hB : Region.lexB .any l.toArray = true)
    (h : wpQuiet P l.toArray (fun w' => ∃ p : FrOf w, w' = p.W) (fun a' => ∀ w', (∃ p : FrOf w, w' = p.W) → Q .normal a' w') l a) : (Code.region id l.toArray true).wp P Q a w :=
  wp_region_quiet (C := fun w' => ∃ p : FrOf w, w' = p.W) hm hB ⟨⟨_, (Touch.refl (fun _ => False) w).drew⟩, rfl⟩ (by simpa using h)
theorem Calls.fr_of {P : Program} {f : FuncId} {args : Array Value} {w : World} {p : FrOf w} {v : Value} (h : Calls P f args p.W fun e w' => e = .returned v ∧ Fresh p.W w') : Calls P f args p.W fun e w' => e = .returned v ∧ ∃ p' : FrOf w, w' = p'.W :=
  h.mono fun _ w' ⟨he, hf⟩ => ⟨he, ⟨w', p.h.trans hf fun _ _ => id⟩, rfl⟩
theorem hostOf_form (K : List Key) (bs : List UInt8) : ∃ (a : Int) (ok : Bool), hostOf K bs = .tuple #[.int .i64 a, .bool ok] := by
  unfold hostOf
  cases nextK K (shardP bs) with
  | none => exact ⟨0, false, rfl⟩
  | some s => exact ⟨s.2, true, rfl⟩
theorem itoaF (x : Int) (h1 : -9223372036854775808 ≤ x) (h2 : x ≤ 9223372036854775807) (W : World) (hT : Lib.TabIs Tryz.prog W "internal/strconv.uint64pow10" .u64 Lib.pow10Tab) :
    Calls Tryz.prog 19 #[.int .i64 x] W fun e w' => e = .returned (.string ⟨(Lib.itoa x).toArray⟩) ∧ Fresh W w' := by
  refine (Any.strconv_Itoa Tryz.itoaAny x h1 h2 W hT).mono ?_
  rintro e w' ⟨rfl, k, os, rfl⟩
  exact ⟨rfl, Fresh.grow_ W k os⟩
theorem FV.cmpE {x y : Nat} {a b : Int} (hx : FV x a) (hy : FV y b) (ha : a.natAbs < 2 ^ 53) (hb : b.natAbs < 2 ^ 53) : FloatKind.f64.format.order x y = some (compare a b) := hx.order hy ha hb
theorem neq_z {x y u v : Nat} {z q : Int × Int} (hx : FV x z.1) (hy : FV y z.2) (hu : FV u q.1) (hv : FV v q.2) (hz : InZ z) (hq : InZ q) (t : TypeId) (w : World) :
    (binOp .neq t (.complex .f64 x y) (.complex .f64 u v)).run Tryz.prog w = .ok (.bool (!decide (z = q))) w := by
  rw [run_neq_complex, hx.cmpE hu hz.lt.1 hq.lt.1, hy.cmpE hv hz.lt.2 hq.lt.2]
  have e : ((some (compare z.1 q.1) == some Ordering.eq) && (some (compare z.2 q.2) == some Ordering.eq)) = decide (z = q) := by
    have h1 : (some (compare z.1 q.1) == some Ordering.eq) = decide (z.1 = q.1) := by rw [← cmp_eq]; rfl
    have h2 : (some (compare z.2 q.2) == some Ordering.eq) = decide (z.2 = q.2) := by rw [← cmp_eq]; rfl
    rw [h1, h2]
    obtain ⟨a, b⟩ := z
    obtain ⟨c, d⟩ := q
    by_cases h : a = c <;> by_cases h' : b = d <;> simp [h, h']
  rw [e]
/-- the code behind so many statements -/
def sdrop : Nat → Code → Code
  | 0, c => c
  | n + 1, .seq _ b => sdrop n b
  | _ + 1, c => c
noncomputable def hB (k : Nat) : Code := sdrop k (Tryz.f3.body.getD .skip)
/-- the rings, the boxes, the row of shards -/
structure HE (w : World) (bn bq qb : Nat) (hv sv lv : Value) (D SA : Option Addr) (dc sc : Nat) (hs sh : List Int) (sps : List Sp) (stop : Int) (W : World) : Prop where
  fw : Fresh w W
  rg : RG W bn hv sv hs sps
  qg : QG W bq lv (.slice D hs.length dc) (sps.map Sp.key) hs
  res : Blk W (w.heap.size + 1) 4 #[.bool false]
  stp : Blk W (w.heap.size + 1 + 1) 3 #[.int .i64 stop]
  box : Blk W qb 29 #[.pointer (some ⟨bq, 0, none⟩)]
  ints : IsInts W SA sh.length sc sh
  hl : hs.length ≤ 20
  sl : sps.length ≤ 1280
  new : ∀ k, rfoot bn hv sv k → w.heap.size + 1 + 1 < k
section
variable {w W W' : World} {bn bq qb : Nat} {hv sv lv : Value} {D SA : Option Addr} {dc sc : Nat} {hs sh : List Int} {sps : List Sp} {stop : Int}
theorem HE.fresh (h : HE w bn bq qb hv sv lv D SA dc sc hs sh sps stop W) (hW : Fresh W W') : HE w bn bq qb hv sv lv D SA dc sc hs sh sps stop W' :=
  ⟨h.fw.trans hW fun _ _ => id, h.rg.fresh hW, h.qg.fresh hW, h.res.touch hW id, h.stp.touch hW id, h.box.touch hW id, h.ints.touch hW fun _ _ _ => id, h.hl, h.sl, h.new⟩
/-- what the range keeps -/
def NB (w : World) (sm : Nat) (pre : List Sp) (V : World) : Prop := (Blk V w.heap.size 3 #[.int .i64 (pre.length : Int)] ∧ pre.length ≤ sm) ∧ Below w.heap.size w V
theorem NB.own_ {w w2 : World} {sm : Nat} (h2 : w.heap.size ≤ w2.heap.size) : OwnFrom w2.heap.size (NB w sm) :=
  OwnFrom.and (Own.from (fun _ _ _ _ hs hg hr => ⟨hs.1.own_ hg hr, hs.2⟩) _) (ownFrom_below (Nat.le_refl _) h2)
def NX (w : World) (_ : List Sp) (V : World) : Prop := Blk V (w.heap.size + 1) 4 #[.bool true] ∧ Below w.heap.size w V
theorem NX.own_ {w w2 : World} (h2 : w.heap.size ≤ w2.heap.size) : OwnFrom w2.heap.size (NX w) :=
  OwnFrom.and (Own.from (fun _ _ _ _ hs hg hr => hs.own_ hg hr) _) (ownFrom_below (Nat.le_refl _) h2)
end
theorem range_flat2 {α : Type} {F : Fence} {n : Nat} {P : Program} {g : Operand} {ps : Array Tmp} {assign body : Code} {Q : Exit → Act → World → Prop} {a : Act} {w : World}
    (hro : F.round = none) (h1 : 1 ≤ n) {gf : Nat} {lb : Array Value} (hg : a.eval g = .func (.func gf) #[] lb) (hFg : F.fn gf) (eg : ∀ args w, (callFunc gf args).run P w = .ok (.enter gf args) w)
    {encs : α → Array Value} {Ok : List α → α → World → Prop} {Kp : World → World → Prop} {S Sp : List α → Prop} {N : Nat} (hseq : SeqO F (n - 1) P gf lb encs Ok Kp S Sp N w)
    (hOk : ∀ (pre : List α) (x : α) (W : World) (l : Nat) (o o' : Obj), Ok pre x W → W.heap[l]? = some o → o.isCells = false → Ok pre x (W.putObj l o'))
    (hOkF : ∀ (pre : List α) (x : α) (W W1 : World), Ok pre x W → Fresh W W1 → Ok pre x W1) (sets : α → List (Tmp × Value)) (hKf : ∀ {A B : World}, Fresh A B → Kp A B)
    (hKt : ∀ {A B C : World}, Kp A B → Kp B C → Kp A C) (hKb : ∀ (W : World) (l : Nat) (o o' : Obj), w.heap.size ≤ l → W.heap[l]? = some o → o.isCells = false → o.isWalk = false → Kp W (W.putObj l o')) (hps : ∀ x, (encs x).size = ps.size)
    (I Ix : List α → World → Prop) (hI : OwnFrom w.heap.size I) (hIx : OwnFrom w.heap.size Ix) (h0 : I [] w)
    (hassign : ∀ (l : Nat) (x : α) (W : World) (K : Act → World → Prop), (∀ a₁, a₁ = flatA a ps encs sets x → K a₁ W) →
      assign.wpIn (F.inRound l) (n - 1 - 1) P (Exit.then K (fun _ _ _ => False)) { tmps := (ps.zip (encs x)).foldl (fun t (p, v) => t.setIfInBounds p v) a.tmps, defers := [] } W)
    (hbody : ∀ (l : Nat) (pre : List α) (x : α) (a₁ : Act) (W : World), a₁ = flatA a ps encs sets x → I pre W → Ok pre x W → pre.length < N → body.wpIn (F.inRound l) (n - 1 - 1) P
      (ownPostK Kp I (fun c xs W' => c = .ret ∧ Ix xs W') (pre ++ [x]) W) a₁ W)
    (hdone : ∀ (D : Nat) (xs : List α) (W : World), w.heap.size ≤ D → S xs → I xs W → W.heap[D]? = some (.deferred (some [])) → Q .normal { a with defers := { target := .collected D, args := #[] } :: a.defers } W)
    (hstop : ∀ (D : Nat) (pre : List α) (W : World), w.heap.size ≤ D → Sp pre → Ix pre W → W.heap[D]? = some (.deferred (some [])) → Code.ret.wpIn F n P Q { a with defers := { target := .collected D, args := #[] } :: a.defers } W) :
    (Code.rangeFunc g ps assign body).wpIn F n P Q a w :=
  range_ok hro h1 hg hFg eg hseq hOk hOkF (fun x b _ => b = flatA a ps encs sets x) (fun _ _ _ _ _ _ h _ _ => h) hKf hKt hKb hps I Ix hI hIx h0
    (fun l _ x W K _ hK => hassign l x W K fun a₁ ha => hK a₁ W (Touch.refl _ W) ha)
    (fun l pre x a₁ W hi hok hr hlt => hbody l pre x a₁ W hr hi hok hlt) hdone hstop
theorem region_round_fr {F : Fence} {n : Nat} {P : Program} {Q : Exit → Act → World → Prop} {id : Nat} {a : Act} {w : World} {ol : List Oper} (l : Nat) (hro : F.round = none) (hd : ∀ o ∈ ol, ∀ c, o.op ≠ .defer c) (hm : P.follows .mixedOrders = true) (hB : Region.lexB .any ol.toArray = true)
    (h : wpQuietIn F n P ol.toArray (fun w' => ∃ p : FrOf w, w' = p.W) (fun a' => ∀ w', (∃ p : FrOf w, w' = p.W) → Q .normal a' w') ol a) : (Code.region id ol.toArray true).wpIn (F.inRound l) n P Q a w := by
  simp only [Region.lexB, Bool.and_eq_true] at hB
  refine wpIn_region_any hm (anyIn_round l hro hd _ _ _ _ ?_)
  refine wpAnyIn_of_quiet (C := fun w' => ∃ p : FrOf w, w' = p.W) (Q := fun a' => ∀ w', (∃ p : FrOf w, w' = p.W) → Q .normal a' w') hro (fun _ w' hw' h => h w' hw') _ _ _ _ ⟨⟨_, (Touch.refl (fun _ => False) w).drew⟩, rfl⟩ ?_
  have := wpAnyQIn_lex (F := F) (n := n) (C := fun w' => ∃ p : FrOf w, w' = p.W) (md := .any) hB.1 ol 0 (Array.replicate ol.length false) a (by simp) (by simpa using hB.2) h
  simpa using this
theorem wide_fn (f : FuncId) : Fence.wide.fn f = True := rfl
theorem wide_asked (P : Program) (o : Oper) (a : Act) (C : World → Prop) : o.askedIn Fence.wide P a C = True := eq_true fun _ _ _ _ => trivial
attribute [local go_sem] wide_fn wide_asked
theorem CallsIn.fr_of {F : Fence} {n : Nat} {P : Program} {f : FuncId} {args : Array Value} {w : World} {p : FrOf w} {v : Value} (h : CallsIn F n P f args p.W fun e w' => e = .returned v ∧ Fresh p.W w') : CallsIn F n P f args p.W fun e w' => e = .returned v ∧ ∃ p' : FrOf w, w' = p'.W :=
  h.mono fun _ w' ⟨he, hf⟩ => ⟨he, ⟨w', p.h.trans hf fun _ _ => id⟩, rfl⟩
theorem blk_ne_ {w : World} {a b : Nat} {t t' : TypeId} {cs cs' : Array Value} (h : Blk w a t cs) (h' : Blk w b t' cs') (hne : t ≠ t') : a ≠ b := by
  intro e
  subst e
  have h1 := h.symm.trans h'
  simp only [Option.some.injEq, Obj.cells.injEq] at h1
  exact hne h1.2.1
def shead : Code → Code
  | .seq a _ => a
  | c => c
noncomputable def hR (k : Nat) : Code := shead (hB k)
theorem wp_hB {k : Nat} {Q : Exit → Act → World → Prop} {a : Act} {w : World} (e : hB k = .seq (hR k) (hB (k + 1))) (h : (hR k).wp Tryz.prog (Exit.then ((hB (k + 1)).wp Tryz.prog Q) Q) a w) : (hB k).wp Tryz.prog Q a w := by
  rw [e]
  exact wp_seq h

set_option maxRecDepth 200000 in
set_option maxHeartbeats 16000000 in
theorem hosts_t12 {u0 u1 u3 u4 u5 u7 u9 u11 u12 u13 u14 u15 u16 u17 u18 u19 u20 u21 u22 u23 u24 u25 u26 u27 u28 u29 u30 u31 u32 u33 u34 u35 u36 u37 u38 u39 u40 u41 u42 u43 u44 u45 u46 u47 u48 u49 u50 u51 u52 u53 u54 u55 u56 u57 u58 u59 u60 u61 u62 u63 u64 u65 u66 u67 u68 u69 u70 u71 u72 u73 u74 u75 u76 u77 u78 u79 u80 u81 u82 u83 u84 u85 u86 u87 u88 u89 u90 u91 u92 u93 u94 u95 u96 u97 u98 u99 u100 u101 u102 u103 u104 u105 u106 u107 u108 u109 u110 u111 u112 u113 u114 u115 u116 u117 u118 u119 u120 u121 u122 u123 u124 u125 u126 u127 u128 u129 u130 u131 u132 u133 u134 u135 u136 u137 u138 u139 u140 u141 u142 u143 u144 u145 u146 u147 u148 u149 u150 u151 u152 u153 u154 u155 u156 u157 u158 u159 u160 u161 u162 u163 u164 u165 u166 u167 u168 u169 u170 u171 u172 u173 u174 u175 u176 u177 u178 u179 u180 u181 u182 u183 u184 u185 u186 u187 u188 u189 u190 u191 u192 u193 : Value} {w wr : World} {bn bq qb : Nat} {hv sv lv : Value} {D SA : Option Addr} {dc sc : Nat} {hs sh : List Int} {sps : List Sp} {stop : Int} (h : HE w bn bq qb hv sv lv D SA dc sc hs sh sps stop wr) :
    Code.wp Tryz.prog (hB 12) (bodyPostM Fence.wide 3 Tryz.prog Tryz.f3 fun e w' => e = .returned (.bool true) ∧ Fresh w w') { tmps := #[u0, u1, .pointer (some ⟨w.heap.size + 1, 0, none⟩), u3, u4, u5, .pointer (some ⟨w.heap.size + 1 + 1, 0, none⟩), u7, .pointer (some ⟨bn, 0, none⟩), u9, .pointer (some ⟨qb, 0, none⟩), u11, u12, u13, u14, u15, u16, u17, u18, u19, u20, u21, u22, u23, u24, u25, u26, u27, u28, u29, u30, u31, u32, u33, u34, u35, u36, u37, u38, u39, u40, u41, u42, u43, u44, u45, u46, u47, u48, u49, u50, u51, u52, u53, u54, u55, u56, u57, u58, u59, u60, u61, u62, u63, u64, u65, u66, u67, u68, u69, u70, u71, u72, u73, u74, u75, u76, u77, u78, u79, u80, u81, u82, u83, u84, u85, u86, u87, u88, u89, u90, u91, u92, u93, u94, u95, u96, u97, u98, u99, u100, u101, u102, u103, u104, u105, u106, u107, u108, u109, u110, u111, u112, u113, u114, u115, u116, u117, u118, u119, u120, u121, u122, u123, u124, u125, u126, u127, u128, u129, u130, u131, u132, u133, u134, u135, u136, u137, u138, u139, u140, u141, u142, u143, u144, u145, u146, u147, u148, u149, u150, u151, u152, u153, u154, u155, u156, u157, u158, u159, u160, u161, u162, u163, u164, u165, u166, u167, u168, u169, u170, u171, u172, u173, u174, u175, u176, u177, u178, u179, u180, u181, u182, u183, u184, u185, u186, u187, u188, u189, u190, u191, u192, u193], defers := [] } wr := by
  conv => arg 2; whnf
  have KW := Lib.hid (fun W => wakes_any W)
  obtain ⟨W8, hW8⟩ : ∃ W8, W8 = wr.alloc (.cells #[.int .i64 0] 3) := ⟨_, rfl⟩
  have hf8 : Fresh wr W8 := by rw [hW8]; exact (Touch.refl _ wr).alloc _
  have hb8 : Blk W8 wr.heap.size 3 #[.int .i64 0] := by rw [hW8]; exact Blk.new _ _ _
  have H := Lib.hid h; have HW8 := Lib.hid hW8; have HF8 := Lib.hid hf8; have HB8 := Lib.hid hb8
  clear h hW8 hf8 hb8
  go_upto_region 23 with fail
  rw [← HW8.out]
  go_wp2_with fail
  refine (allR_any bn W8).mono ?_
  rintro e w9 ⟨rfl, hw9⟩
  have HF9 := Lib.hid (show Fresh W8 w9 by rw [hw9]; exact (Touch.refl _ _).alloc _)
  have HA := Lib.hid (show Blk w9 W8.heap.size 25 #[.pointer (some ⟨bn, 0, none⟩)] by rw [hw9]; exact Blk.new _ _ _)
  clear hw9
  have HR9 := Lib.hid (((H.out.fresh HF8.out).fresh HF9.out).rg)
  obtain ⟨sm, hsm⟩ : ∃ sm : Nat, (sm : Int) = stop % 200 := ⟨(stop % 200).toNat, by have := Int.emod_nonneg stop (show (200 : Int) ≠ 0 by decide); omega⟩
  have hsm2 : sm < 200 := by have := Int.emod_lt_of_pos stop (show (0 : Int) < 200 by decide); omega
  have HSM := Lib.hid hsm
  have hz : wr.heap.size < W8.heap.size := HB8.out.lt
  have hz9 : wr.heap.size ≤ w9.heap.size := Nat.le_trans HF8.out.size HF9.out.size
  have hz8 : W8.heap.size ≤ w9.heap.size := HF9.out.size
  have hz0 : w.heap.size + 1 + 1 < wr.heap.size := H.out.stp.lt
  clear hsm
  go_wp2_with fail
  refine wpIn_wide (n := 3).1 ?_
  refine range_flat2 (F := Fence.wide) (n := 3) rfl (by decide) (gf := 34) (lb := #[.pointer (some ⟨W8.heap.size, 0, none⟩)]) rfl trivial (enters_of Tryz.func34 (by kernel_rfl) rfl)
    (ring_told 2 W8.heap.size bn hv sv _ sps (fun k => k = wr.heap.size ∨ k = w.heap.size + 1) w9 (by decide) HA.out HR9.out (by have := H.out.sl; omega)
      (fun k hk => by rcases hk with e | e <;> omega)
      (fun k hk hs => by have h1 := H.out.new k hk; have h2 := H.out.rg.lt k hk; rcases hs with e | e <;> omega))
    (fun _ _ _ _ _ _ h _ _ => h) (fun _ _ _ _ h _ => h) (fun x => [(19, .complex .f64 x.x x.y), (20, .int .i64 x.h)])
    (fun h => NKp.fresh h) (fun h1 h2 => h1.trans_ h2) (fun V l o o' _ hl hc _ => NKp.put V l o o' hl hc) (fun _ => rfl)
    (NB wr sm) (NX w) (NB.own_ hz9) (NX.own_ (by omega)) ⟨⟨by have := HB8.out.touch HF9.out id; exact this, Nat.zero_le _⟩, Fresh.bel (HF8.out.trans HF9.out fun _ _ => id)⟩ ?assign ?body ?done ?stop
  case assign =>
    intro l x V K hK
    have HK := Lib.hid hK
    clear hK
    simp only [spEnc, List.zip_toArray, List.size_toArray, List.zip_cons_cons, List.zip_nil_left]
    gi_wp2
    exact HK.out _ (by simp [flatA, spEnc])
  case body =>
    rintro l pre s a1 V rfl ⟨⟨hn, hle⟩, hbl⟩ ⟨htk, hxk⟩ hlt2
    have hfV : Fresh wr V := Touch.ofBelow hbl _
    have HV := H.out.fresh hfV
    obtain ⟨k, hk⟩ : ∃ k, k = pre.length := ⟨_, rfl⟩
    rw [← hk] at hn hle hxk hlt2
    have hkey : (sps.map Sp.key)[k]? = some (s.z, s.h) := by rw [List.getElem?_map, hxk]; rfl
    have hkl : k < (sps.map Sp.key).length := (List.getElem?_eq_some_iff.1 hkey).1
    obtain ⟨nk, hnk⟩ : ∃ nk, nk = (sps.map Sp.key).length := ⟨_, rfl⟩
    have hnkl : nk ≤ 1280 := by rw [hnk, List.length_map]; exact HV.sl
    obtain ⟨A, c, hlv, hc1, hc2, hA⟩ := HV.qg.lrow.form
    obtain ⟨g, rfl⟩ : ∃ g, A = some ⟨g, 0, none⟩ := by
      rcases hA with ⟨_, h0, _⟩ | hA
      · omega
      · exact hA
    subst hlv
    rw [← hnk] at hkl
    have hrow : ∀ j, j < 3 → (V).cell? ⟨g, k * 3 + j, none⟩ = (kV (s.z, s.h))[j]? := fun j hj => by
      rw [HV.qg.lrow.cell (j := k * 3 + j) (by have := hkl; rw [hnk] at this; omega)]
      exact flat_at kV 3 kV_len (sps.map Sp.key) k j (s.z, s.h) hkey hj
    have e0 := fun r : FrOf V => (r.h.cell (hn.cell 0) id : r.W.cell? ⟨wr.heap.size, 0, none⟩ = some (.int .i64 (k : Int)))
    have e1 := fun r : FrOf V => (r.h.cell (HV.box.cell 0) id : r.W.cell? ⟨qb, 0, none⟩ = some (.pointer (some ⟨bq, 0, none⟩)))
    have e2 := fun r : FrOf V => (r.h.cell (HV.qg.blk.cell 0) id : r.W.cell? ⟨bq, 0, none⟩ = some (.slice (some ⟨g, 0, none⟩) (sps.map Sp.key).length c))
    rw [← hnk] at e2
    have e3 := fun r : FrOf V => (r.h.cell (hrow 0 (by decide)) id : r.W.cell? ⟨g, k * 3, none⟩ = some (.int .i64 s.z.1))
    have e4 := fun r : FrOf V => (r.h.cell (hrow 1 (by decide)) id : r.W.cell? ⟨g, k * 3 + 1, none⟩ = some (.int .i64 s.z.2))
    have e5 := fun r : FrOf V => (r.h.cell (hrow 2 (by decide)) id : r.W.cell? ⟨g, k * 3 + 2, none⟩ = some (.int .i64 s.h))
    have d1 : decide ((nk : Int) ≤ (k : Int)) = false := decide_eq_false (by omega)
    have d2 : decide (nk ≤ k) = false := decide_eq_false (by omega)
    have d3 : (k : Int) < (nk : Int) := by omega
    have d4 : ¬ (nk : Int) ≤ (k : Int) := by omega
    have KZ := Lib.hid (fun W => show CallsIn Fence.wide 0 Tryz.prog 15 #[.agg #[.int .i64 s.z.1, .int .i64 s.z.2]] W _ from (callsIn_wide (n := 0)).2 (refz_any s.z W))
    have kne : ∀ (t : TypeId) (W : World), (binOp .neq t (.complex .f64 s.x s.y) (.complex .f64 (floatOfInt .f64 s.z.1) (floatOfInt .f64 s.z.2))).run Tryz.prog W = .ok (.bool false) W := fun t W => by
      have h := neq_z (u := fE s.z.1) (v := fE s.z.2) s.hx s.hy (.inl rfl) (.inl rfl) s.hz s.hz t W
      rw [show (!decide (s.z = s.z)) = false by simp] at h
      exact h
    have HVV := Lib.hid HV; have HN := Lib.hid hn; have HBL := Lib.hid hbl; have HTK := Lib.hid htk; have HXK := Lib.hid hxk; have HK := Lib.hid hk; have HLE := Lib.hid hle; have HFV := Lib.hid hfV
    clear hfV HV hk hn hle hxk hlt2 hkey hnk hc1 hc2 hA hrow htk hbl
    simp only [flatA, spEnc, List.zip_toArray, List.size_toArray, List.zip_cons_cons, List.zip_nil_left]
    gi_wp2
    refine region_round_fr l rfl (by simp) (by kernel_rfl) (by kernel_rfl) ?_
    repeat (gi_big_quiet_step (first | (gi_at_call 15; exact CallsIn.fr_of (KZ.out _))))
    refine wpQuietIn_nil ?_
    rintro V1 ⟨p1, hV1⟩
    have hf1 : Fresh V V1 := by rw [hV1]; exact p1.h
    clear hV1 p1 e0 e1 e2 e3 e4 e5 kne KZ
    have c0 : V1.cell? ⟨wr.heap.size, 0, none⟩ = some (.int .i64 (k : Int)) := (HN.out.touch hf1 id).cell 0
    have f0 : V1.frozen? ⟨wr.heap.size, 0, none⟩ = false := (HN.out.touch hf1 id).frozen 0
    have hwk : IntKind.i64.wrap ((k : Int) + 1) = (k : Int) + 1 := IntWalk.i64_in _ (by omega)
    obtain ⟨V2, hV2⟩ : ∃ V2, V2 = V1.setCell ⟨wr.heap.size, 0, none⟩ (.int .i64 ((k : Int) + 1)) := ⟨_, rfl⟩
    have hn2 : Blk V2 wr.heap.size 3 #[.int .i64 ((k : Int) + 1)] := by
      rw [hV2]
      have := (HN.out.touch hf1 id).set_ 0 (.int .i64 ((k : Int) + 1))
      simpa using this
    have hf2 : Touch (fun q => q = wr.heap.size) V V2 := by rw [hV2]; exact (show Touch (fun q => q = wr.heap.size) V V1 from hf1.mono fun _ _ e => e.elim).setCell (p := ⟨wr.heap.size, 0, none⟩) (.inr rfl) _
    have hs2 : Blk V2 (w.heap.size + 1 + 1) 3 #[.int .i64 stop] := HVV.out.stp.touch hf2 (by omega)
    have hk2 : KeepsOthers V V2 := by rw [hV2]; exact (keepsF hf1).trans (KeepsOthers.setCell _ _ _)
    have HN2 := Lib.hid hn2; have HF2 := Lib.hid hf2; have HK2 := Lib.hid hk2; have HV2 := Lib.hid hV2
    have hws : IntKind.i64.wrap (1 + stop % 200) = 1 + stop % 200 := IntWalk.i64_in _ (by have := HSM.out; omega)
    have e0 := fun r : FrOf V2 => (r.h.cell (hn2.cell 0) id : r.W.cell? ⟨wr.heap.size, 0, none⟩ = some (.int .i64 ((k : Int) + 1)))
    have e1 := fun r : FrOf V2 => (r.h.cell (hs2.cell 0) id : r.W.cell? ⟨w.heap.size + 1 + 1, 0, none⟩ = some (.int .i64 stop))
    have KWI := Lib.hid (fun W => (callsIn_wide (n := 0)).2 ((within_any stop 200 W (by decide) (by decide)).mono fun e w' q => (⟨q.2, by rw [q.1]; exact Touch.refl _ _⟩ : e = _ ∧ Fresh W w')))
    clear hf1 hf2 hn2 hs2 hk2 hV2
    by_cases hst : k = sm
    · have hst2 : (((k : Int) + 1) == 1 + stop % 200) = true := by have := HSM.out; simp; omega
      have hst3 : decide ((k : Int) + 1 = 1 + stop % 200) = true := by have := HSM.out; simp; omega
      have HST := Lib.hid hst
      clear hst
      gi_wp2
      rw [← HV2.out]
      refine region_round_fr l rfl (by simp) (by kernel_rfl) (by kernel_rfl) ?_
      repeat (gi_big_quiet_step (first | (gi_at_call 16; exact CallsIn.fr_of (KWI.out _))))
      refine wpQuietIn_nil ?_
      rintro V3 ⟨p3, hV3⟩
      have hf3 : Fresh V2 V3 := by rw [hV3]; exact p3.h
      have HF3 := Lib.hid hf3
      clear hV3 p3 e0 e1 hf3 KWI
      have KWA := Lib.hid (show CallsIn (Fence.wide.inRound l) 0 Tryz.prog 7 #[] V3 _ from (callsIn_wide (n := 0)).2 (KW.out V3))
      gi_wp2
      first | refine ⟨trivial, KWA.out.mono ?_⟩ | refine KWA.out.mono ?_ | refine ⟨by decide, KWA.out.mono ?_⟩
      rintro e V4 ⟨rfl, hf4⟩
      have hr2 : Blk V2 (w.heap.size + 1) 4 #[.bool false] := HVV.out.res.touch HF2.out (by omega)
      have hr4 : Blk V4 (w.heap.size + 1) 4 #[.bool false] := (hr2.touch HF3.out id).touch hf4 id
      have c4 : V4.cell? ⟨w.heap.size + 1, 0, none⟩ = some (.bool false) := hr4.cell 0
      have f4 : V4.frozen? ⟨w.heap.size + 1, 0, none⟩ = false := hr4.frozen 0
      have HF4 := Lib.hid (show Fresh V2 V4 from HF3.out.trans hf4 fun _ _ => id)
      have HR4 := Lib.hid hr4
      clear hf4 hr2 hr4 KWA
      gi_wp2
      refine ⟨(HK2.out.trans (keepsF HF4.out)).trans (KeepsOthers.setCell _ _ _), rfl, ?_, ?_⟩
      · have := HR4.out.set_ 0 (.bool true)
        simpa using this
      · have h1 : Fresh wr V4 := HFV.out.trans (HF2.out.trans HF4.out fun _ _ => False.elim) fun q hq e => by omega
        exact Fresh.bel ((H.out.fw.trans h1 fun _ _ => id).setCell (p := ⟨w.heap.size + 1, 0, none⟩) (.inl (Nat.le_succ _)) _)
    · have hst2 : (((k : Int) + 1) == 1 + stop % 200) = false := by have := HSM.out; simp; omega
      have hst3 : decide ((k : Int) + 1 = 1 + stop % 200) = false := by have := HSM.out; simp; omega
      have HST := Lib.hid hst
      clear hst
      gi_wp2
      rw [← HV2.out]
      refine region_round_fr l rfl (by simp) (by kernel_rfl) (by kernel_rfl) ?_
      repeat (gi_big_quiet_step (first | (gi_at_call 16; exact CallsIn.fr_of (KWI.out _))))
      refine wpQuietIn_nil ?_
      rintro V3 ⟨p3, hV3⟩
      have hf3 : Fresh V2 V3 := by rw [hV3]; exact p3.h
      have HF3 := Lib.hid hf3
      clear hV3 p3 e0 e1 hf3 KWI
      gi_wp2
      have h23 : Touch (fun q => q = wr.heap.size) V V3 := HF2.out.trans HF3.out fun _ _ => False.elim
      refine ⟨HK2.out.trans (keepsF HF3.out), NKp.touch (h23.mono fun _ _ e => .inl e), ⟨?_, ?_⟩, ?_⟩
      · rw [List.length_append, List.length_singleton, ← HK.out]
        exact HN2.out.touch HF3.out id
      · rw [List.length_append, List.length_singleton, ← HK.out]
        have h1 := HLE.out
        have h2 := HST.out
        omega
      · exact Fresh.bel (HFV.out.trans h23 fun q hq e => by omega)
  case done =>
    rintro D2 ys V hD rfl ⟨⟨hn, hle⟩, hbl⟩ hKD
    have hfV : Fresh wr V := Touch.ofBelow hbl _
    have HV := H.out.fresh hfV
    have KHs := Lib.hid (show ∀ W, Fresh V W → Calls Tryz.prog 8 #[.pointer (some ⟨bn, 0, none⟩)] W fun e w' => Fresh W w' ∧ ∃ B c', e = .returned (.slice B hs.length c') ∧ IsInts w' B hs.length c' hs from fun W hW => by
      refine (hostsR_any bn hv sv hs ys W (HV.fresh hW).rg (by have := HV.hl; omega)).mono ?_
      rintro e w' ⟨h1, B, c', h2, h3, _⟩
      exact ⟨h1, B, c', h2, Own.ints h3⟩)
    obtain ⟨A, c, hlv, hc1, hc2, hA⟩ := HV.qg.lrow.form
    subst hlv
    obtain ⟨nk, hnk⟩ : ∃ nk, nk = ys.length := ⟨_, rfl⟩
    have n1 : qb ≠ w.heap.size + 1 := blk_ne_ HV.box HV.res (by decide)
    have n2 : bq ≠ w.heap.size + 1 := blk_ne_ HV.qg.blk HV.res (by decide)
    have HC := Lib.hid (show ∀ W, Touch (fun q => q = w.heap.size + 1) V W → W.cell? ⟨wr.heap.size, 0, none⟩ = some (.int .i64 (nk : Int)) ∧ W.cell? ⟨qb, 0, none⟩ = some (.pointer (some ⟨bq, 0, none⟩)) ∧ W.cell? ⟨bq, 0, none⟩ = some (.slice A nk c) ∧ W.cell? ⟨bq, 1, none⟩ = some (.slice D hs.length dc) from fun W hW => by
      refine ⟨?_, hW.cell (HV.box.cell 0) n1, ?_, hW.cell (HV.qg.blk.cell 1) n2⟩
      · rw [hnk]; exact hW.cell (hn.cell 0) (by show wr.heap.size ≠ _; omega)
      · have := hW.cell (HV.qg.blk.cell 0) n2
        rw [List.length_map, ← hnk] at this
        exact this)
    have HT2 := Lib.hid (show ∀ W, Fresh V W → Touch (fun q => q = w.heap.size + 1) V W from fun W hW => hW.mono fun _ _ e => e.elim)
    have HQI := Lib.hid (show ∀ W, Fresh V W → IsInts W D hs.length dc hs from fun W hW => (Own.ints HV.qg.hrow).touch hW fun _ _ _ => id)
    have HRS := Lib.hid HV.res
    have HKD := Lib.hid hKD; have HFW := Lib.hid HV.fw
    have HDD := Lib.hid (show w.heap.size ≤ D2 by omega)
    have HDV := Lib.hid (show D2 < V.heap.size from (Array.getElem?_eq_some_iff.1 hKD).1)
    clear hfV HV hn hle hbl hKD hc1 hc2 hA hnk hD
    go_upto_region 31 with fail
    refine wp_region_noPanic ?_
    go_region_held (fun W => W.cell? ⟨wr.heap.size, 0, none⟩ = some (.int .i64 (nk : Int)) ∧ W.cell? ⟨qb, 0, none⟩ = some (.pointer (some ⟨bq, 0, none⟩)) ∧ W.cell? ⟨bq, 0, none⟩ = some (.slice A nk c) ∧ W.cell? ⟨bq, 1, none⟩ = some (.slice D hs.length dc))
      (first | exact HC.out _ (HT2.out _ ((Touch.refl _ V).drew)) | exact HC.out _ (HT2.out _ HF3.out) | assumption | exact HC.out _ (HT2.out _ (HF3.out.drewN _)) | exact HC.out _ (HT2.out _ HF5.out) | exact HC.out _ ((HT2.out _ HF5.out).setCell (p := ⟨w.heap.size + 1, 0, none⟩) (.inr rfl) _))
      (first
        | (go_at_call 8; refine (KHs.out _ ((Touch.refl _ V).drew)).mono ?_; rintro e w3 ⟨hf3, B3, c3, rfl, hi3⟩; have HF3 := Lib.hid (show Fresh V w3 from ((Touch.refl _ V).drew).trans hf3 fun _ _ => id); have HI3 := Lib.hid hi3; clear hf3 hi3)
        | (go_at_call 6; refine (ints_any _ _ _ _ _ _ hs HI3.out (HQI.out _ HF3.out)).mono ?_; rintro e w4 ⟨rfl, q4, rfl⟩)
        | (go_at_call 7; refine (KW.out _).mono ?_; rintro e w5 ⟨rfl, hf5⟩; have HF5 := Lib.hid (show Fresh V w5 from (HF3.out.drewN _).trans hf5 fun _ _ => id); have y5 : w5.cell? ⟨w.heap.size + 1, 0, none⟩ = some (.bool false) := (HRS.out.touch HF5.out id).cell 0; have yf5 : w5.frozen? ⟨w.heap.size + 1, 0, none⟩ = false := (HRS.out.touch HF5.out id).frozen 0; clear hf5))
    refine NoPanic.normal ?_
    go_wp2_with fail
    have hK' := (KeepsOthers.setCell w5 ⟨w.heap.size + 1, 0, none⟩ (.bool true)).same D2 _ (HF5.out.heap HKD.out id) rfl
    refine ⟨by simp, .inl ⟨_, _, rfl, run_takeDeferred hK', ?_⟩⟩
    have hc5 := cell_kept (World.cell?_setCell_same' w5 ⟨w.heap.size + 1, 0, none⟩ (.bool true) (by rw [y5]; rfl)) (grownBy_putObj' _ D2 (.deferred none)) (fun r e => by cases e; exact ⟨_, hK', rfl⟩)
    refine ⟨.bool true, ?_, rfl, Touch.ofBelow ((Fresh.bel ((HFW.out.trans HF5.out fun _ _ => id).setCell (p := ⟨w.heap.size + 1, 0, none⟩) (.inl (Nat.le_succ _)) _)).trans (belowK_b (w := w) (Nat.le_refl _) _ D2 _ _ HDD.out hK' rfl rfl)) _⟩
    simp [results, Tryz.results3, go_sem, hc5]
  case stop =>
    rintro D2 pre V hD hs2 ⟨hr, hbl⟩ hKD
    have c40 : V.cell? ⟨w.heap.size + 1, 0, none⟩ = some (.bool true) := hr.cell 0
    have HBL := Lib.hid hbl; have HKD := Lib.hid hKD
    have HDD := Lib.hid (show w.heap.size ≤ D2 by omega)
    clear hbl hKD hD hs2 hr
    refine wpIn_wide.2 ?_
    go_wp2_with fail
    refine ⟨by simp, .inl ⟨_, _, rfl, run_takeDeferred HKD.out, ?_⟩⟩
    have hc5 := cell_kept c40 (grownBy_putObj' _ D2 (.deferred none)) (fun r e => by cases e; exact ⟨_, HKD.out, rfl⟩)
    refine ⟨.bool true, ?_, rfl, Touch.ofBelow (HBL.out.trans (belowK_b (w := w) (Nat.le_refl _) _ D2 _ _ HDD.out HKD.out rfl rfl)) _⟩
    simp [results, Tryz.results3, go_sem, hc5]
set_option maxRecDepth 200000 in
set_option maxHeartbeats 16000000 in
theorem hosts_t11 {u0 u1 u3 u4 u7 u9 u11 u12 u13 u14 u15 u16 u17 u18 u19 u20 u21 u22 u23 u24 u25 u26 u27 u28 u29 u30 u31 u32 u33 u34 u35 u36 u37 u38 u39 u40 u41 u42 u43 u44 u45 u46 u47 u48 u49 u50 u51 u52 u53 u54 u55 u56 u57 u58 u59 u60 u61 u62 u63 u64 u65 u66 u67 u68 u69 u70 u71 u72 u73 u74 u75 u76 u77 u78 u79 u80 u81 u82 u83 u84 u85 u86 u87 u88 u89 u90 u91 u92 u93 u94 u95 u96 u97 u98 u99 u100 u101 u102 u103 u104 u105 u106 u107 u108 u109 u110 u111 u112 u113 u114 u115 u116 u117 u118 u119 u120 u121 u122 u123 u124 u125 u126 u127 u128 u129 u130 u131 u132 u133 u134 u135 u136 u137 u138 u139 u140 u141 u142 u143 u144 u145 u146 u147 u148 u149 u150 u151 u152 u153 u154 u155 u156 u157 u158 u159 u160 u161 u162 u163 u164 u165 u166 u167 u168 u169 u170 u171 u172 u173 u174 u175 u176 u177 u178 u179 u180 u181 u182 u183 u184 u185 u186 u187 u188 u189 u190 u191 u192 u193 : Value} {w w8 : World} {bn bq qb : Nat} {hv sv lv : Value} {D SA : Option Addr} {dc sc : Nat} {hs sh : List Int} {sps : List Sp} {stop : Int} (h : HE w bn bq qb hv sv lv D SA dc sc hs sh sps stop w8)
    (hsw : ∀ x ∈ sh, -9223372036854775808 ≤ x ∧ x ≤ 9223372036854775807) (hT : ∀ W, Fresh w W → Lib.TabIs Tryz.prog W "internal/strconv.uint64pow10" .u64 Lib.pow10Tab) :
    Code.wp Tryz.prog (hB 11) (bodyPostM Fence.wide 3 Tryz.prog Tryz.f3 fun e w' => e = .returned (.bool true) ∧ Fresh w w') { tmps := #[u0, u1, .pointer (some ⟨w.heap.size + 1, 0, none⟩), u3, u4, .slice SA sh.length sc, .pointer (some ⟨w.heap.size + 1 + 1, 0, none⟩), u7, .pointer (some ⟨bn, 0, none⟩), u9, .pointer (some ⟨qb, 0, none⟩), u11, u12, u13, u14, u15, u16, u17, u18, u19, u20, u21, u22, u23, u24, u25, u26, u27, u28, u29, u30, u31, u32, u33, u34, u35, u36, u37, u38, u39, u40, u41, u42, u43, u44, u45, u46, u47, u48, u49, u50, u51, u52, u53, u54, u55, u56, u57, u58, u59, u60, u61, u62, u63, u64, u65, u66, u67, u68, u69, u70, u71, u72, u73, u74, u75, u76, u77, u78, u79, u80, u81, u82, u83, u84, u85, u86, u87, u88, u89, u90, u91, u92, u93, u94, u95, u96, u97, u98, u99, u100, u101, u102, u103, u104, u105, u106, u107, u108, u109, u110, u111, u112, u113, u114, u115, u116, u117, u118, u119, u120, u121, u122, u123, u124, u125, u126, u127, u128, u129, u130, u131, u132, u133, u134, u135, u136, u137, u138, u139, u140, u141, u142, u143, u144, u145, u146, u147, u148, u149, u150, u151, u152, u153, u154, u155, u156, u157, u158, u159, u160, u161, u162, u163, u164, u165, u166, u167, u168, u169, u170, u171, u172, u173, u174, u175, u176, u177, u178, u179, u180, u181, u182, u183, u184, u185, u186, u187, u188, u189, u190, u191, u192, u193], defers := [] } w8 := by
  have H := Lib.hid h; have HSW := Lib.hid hsw; have HT := Lib.hid hT
  clear h hsw hT
  refine wp_hB rfl ?_
  conv => arg 2; whnf
  go_wp2_with fail
  go_loopw [13] (fun i wr => ∃ j : Nat, j ≤ sh.length ∧ j ≤ 12 ∧ i = .int .i64 (j : Int) ∧ Fresh w8 wr) (fun i _ => sh.length - (intOf i).toNat)
  case atStart => exact ⟨0, Nat.zero_le _, Nat.zero_le _, rfl, Touch.refl _ _⟩
  case round =>
    obtain ⟨j, hj, hj2, rfl, hf⟩ := hrel
    have HFR := Lib.hid hf
    have HE1 := Lib.hid (H.out.fresh hf)
    clear hf
    by_cases hlt : j < sh.length ∧ j < 12
    · obtain ⟨hl1, hl2⟩ := hlt
      obtain ⟨x, hx⟩ : ∃ x, sh[j]? = some x := ⟨_, List.getElem?_eq_getElem hl1⟩
      obtain ⟨b, o, rfl, hc⟩ := HE1.out.ints.2.2.2 (by omega)
      have hxr := HSW.out x (List.mem_of_getElem? hx)
      have hil := itoa_len x hxr.1 hxr.2
      obtain ⟨a, ok, hof⟩ := hostOf_form (sps.map Sp.key) (Lib.itoa x)
      have KHA := Lib.hid (show ∀ W, Fresh wr W → Calls Tryz.prog 10 #[.pointer (some ⟨bn, 0, none⟩), .int .i64 x] W fun e w' => e = .returned (.tuple #[.int .i64 a, .bool ok]) ∧ Fresh W w' from fun W hW => by
        have := host_any bn hv sv hs sps x (Lib.itoa x) hil W (HE1.out.fresh hW).rg (by have := HE1.out.sl; omega) (itoaF x hxr.1 hxr.2 W (HT.out W (HE1.out.fresh hW).fw))
        rwa [hof] at this)
      have KHB := Lib.hid (show ∀ W, Fresh wr W → Calls Tryz.prog 11 #[.pointer (some ⟨bq, 0, none⟩), .int .i64 x] W fun e w' => e = .returned (.tuple #[.int .i64 a, .bool ok]) ∧ Fresh W w' from fun W hW => by
        have := refhost_any bq lv (.slice D hs.length dc) hs (sps.map Sp.key) x hxr.1 hxr.2 W (HE1.out.fresh hW).qg (by rw [List.length_map]; have := HE1.out.sl; omega)
        rwa [hof] at this)
      obtain ⟨L, hL⟩ : ∃ L, L = shardsOf (sps.map Sp.key) x 16 := ⟨_, rfl⟩
      obtain ⟨nL, hnL⟩ : ∃ nL, nL = L.length := ⟨_, rfl⟩
      have KSA := Lib.hid (show ∀ W, Fresh wr W → Calls Tryz.prog 12 #[.pointer (some ⟨bn, 0, none⟩), .int .i64 x, .int .i64 16] W fun e w' => ∃ B c', e = .returned (.slice B nL c') ∧ Fresh W w' ∧ IsInts w' B nL c' L from fun W hW => by
        refine (shards_any bn hv sv hs sps x 16 (by omega) W (HE1.out.fresh hW).rg (by have := HE1.out.sl; omega)).mono ?_
        rintro e w' ⟨hf, B, c', rfl, ho, _⟩
        rw [← hL, ← hnL] at ho
        exact ⟨B, c', by rw [← hL, ← hnL], hf, Own.ints ho⟩)
      have KSB := Lib.hid (show ∀ W, Fresh wr W → Calls Tryz.prog 13 #[.pointer (some ⟨bq, 0, none⟩), .int .i64 x, .int .i64 16] W fun e w' => ∃ B c', e = .returned (.slice B nL c') ∧ Fresh W w' ∧ IsInts w' B nL c' L from fun W hW => by
        refine (refshards_any bq lv (.slice D hs.length dc) hs (sps.map Sp.key) x W (HE1.out.fresh hW).qg (by rw [List.length_map]; have := HE1.out.sl; omega)).mono ?_
        rintro e w' ⟨hf, B, c', rfl, ho, _⟩
        rw [← hL, ← hnL] at ho
        exact ⟨B, c', by rw [← hL, ← hnL], hf, Own.ints ho⟩)
      have HC := Lib.hid (show ∀ W, Fresh wr W → Fresh wr W ∧ W.cell? ⟨b, o + j, none⟩ = some (.int .i64 x) ∧ W.cell? ⟨qb, 0, none⟩ = some (.pointer (some ⟨bq, 0, none⟩)) from fun W hW => ⟨hW, hW.cell (hc j x hx) id, hW.cell (HE1.out.box.cell 0) id⟩)
      have hkd : decide ((j : Int) < (sh.length : Int)) = true := decide_eq_true (by omega)
      have hkd2 : decide ((j : Int) < 12) = true := decide_eq_true (by omega)
      have hwk : IntKind.i64.wrap ((j : Int) + 1) = (j : Int) + 1 := IntWalk.i64_in _ (by omega)
      have hji : (j : Int) < (sh.length : Int) := by omega
      have x0 : wr.cell? ⟨b, o + j, none⟩ = some (.int .i64 x) := hc j x hx
      clear hx hc hxr hil hof hL hnL
      go_wp2_with fail
      refine (KHA.out wr (Touch.refl _ _)).mono ?_
      rintro e w9 ⟨rfl, hf9⟩
      have HF9 := Lib.hid hf9
      clear hf9 x0 KHA
      go_upto_region 19 with fail
      have e0 := fun r : FrOf w9 => (HC.out r.W (HF9.out.trans r.h fun _ _ => id)).2.1
      have e1 := fun r : FrOf w9 => (HC.out r.W (HF9.out.trans r.h fun _ _ => id)).2.2
      refine wp_region_fresh (by kernel_rfl) (by kernel_rfl) ?_
      repeat (go_big_quiet_step (first | (go_at_call 11; exact Calls.fr_of (KHB.out _ (HF9.out.trans (FrOf.h _) fun _ _ => id)))))
      refine wpQuiet_nil ?_
      rintro w10 ⟨p10, hw10⟩
      have HF10 := Lib.hid (show Fresh wr w10 by rw [hw10]; exact HF9.out.trans p10.h fun _ _ => id)
      clear hw10 p10 e0 e1 KHB
      go_upto_region 20 with fail
      refine wp_region_noPanic ?_
      go_region_held (fun W => Fresh wr W ∧ W.cell? ⟨b, o + j, none⟩ = some (.int .i64 x) ∧ W.cell? ⟨qb, 0, none⟩ = some (.pointer (some ⟨bq, 0, none⟩)))
        (first | exact HC.out _ (HF10.out.drew) | exact HC.out _ HFA.out | exact HC.out _ HFB.out | assumption | exact HC.out _ (HFA.out.drewN _) | exact HC.out _ (HFB.out.drewN _))
        (first
          | (go_at_call 12; refine (KSA.out _ (And.left (by assumption))).mono ?_; rintro e wa ⟨BA, ca, rfl, hfa, hia⟩; have HFA := Lib.hid (show Fresh wr wa from Touch.trans (And.left (by assumption)) hfa fun _ _ => id); have HGA := Lib.hid hfa; have HIA := Lib.hid hia; clear hfa hia)
          | (go_at_call 13; refine (KSB.out _ (And.left (by assumption))).mono ?_; rintro e wb ⟨BB, cb, rfl, hfb, hib⟩; have HFB := Lib.hid (show Fresh wr wb from Touch.trans (And.left (by assumption)) hfb fun _ _ => id); have HGB := Lib.hid hfb; have HIB := Lib.hid hib; clear hfb hib)
          | (go_at_call 6; refine (ints_any _ _ _ _ _ _ L (by first | exact HIA.out | exact HIA.out.touch HGB.out fun _ _ _ => id) (by first | exact HIB.out | exact HIB.out.touch HGA.out fun _ _ _ => id)).mono ?_; rintro e w4 ⟨rfl, q4, rfl⟩))
      all_goals
        refine NoPanic.normal ?_
        go_wp2_with fail
        go_roundw
        case rel => exact ⟨j + 1, by omega, by omega, by go_num, HFR.out.trans (by first | exact HFB.out.drewN _ | exact HFA.out.drewN _) fun _ _ => id⟩
        case measure => simp [intOf] <;> omega
    · go_wp2_with fail
      all_goals exact hosts_t12 HE1.out
set_option maxRecDepth 200000 in
set_option maxHeartbeats 16000000 in
theorem hosts_t5 {u0 u1 u10 u11 u12 u13 u14 u15 u16 u17 u18 u19 u20 u21 u22 u23 u24 u25 u26 u27 u28 u29 u30 u31 u32 u33 u34 u35 u36 u37 u38 u39 u40 u41 u42 u43 u44 u45 u46 u47 u48 u49 u50 u51 u52 u53 u54 u55 u56 u57 u58 u59 u60 u61 u62 u63 u64 u65 u66 u67 u68 u69 u70 u71 u72 u73 u74 u75 u76 u77 u78 u79 u80 u81 u82 u83 u84 u85 u86 u87 u88 u89 u90 u91 u92 u93 u94 u95 u96 u97 u98 u99 u100 u101 u102 u103 u104 u105 u106 u107 u108 u109 u110 u111 u112 u113 u114 u115 u116 u117 u118 u119 u120 u121 u122 u123 u124 u125 u126 u127 u128 u129 u130 u131 u132 u133 u134 u135 u136 u137 u138 u139 u140 u141 u142 u143 u144 u145 u146 u147 u148 u149 u150 u151 u152 u153 u154 u155 u156 u157 u158 u159 u160 u161 u162 u163 u164 u165 u166 u167 u168 u169 u170 u171 u172 u173 u174 u175 u176 u177 u178 u179 u180 u181 u182 u183 u184 u185 u186 u187 u188 u189 u190 u191 u192 u193 : Value} {w w2 w3 : World} {bn : Nat} {hv sv : Value} {LA I SA : Option Addr} {lc ic sc : Nat} {m sh : List Int} {sps : List Sp} {points stop : Int} (hF : Fresh w w3) (hM : IsInts w3 LA m.length lc m) (hI : IsInts w3 I m.length ic m)
    (hR : Blk w3 (w.heap.size + 1) 4 #[.bool false]) (hS : Blk w3 (w.heap.size + 1 + 1) 3 #[.int .i64 stop]) (hSh : IsInts w3 SA sh.length sc sh) (hRN : RN w2 w3 bn hv sv (sortI m) sps) (hsk : SortK (sps.map Sp.key)) (hpk : (sps.map Sp.key).Perm (spotsOf m points.toNat))
    (hm20 : m.length ≤ 20) (hok : okNew m points = true) (hw2 : w.heap.size + 1 + 1 < w2.heap.size) (hsw : ∀ x ∈ sh, -9223372036854775808 ≤ x ∧ x ≤ 9223372036854775807) (hT : ∀ W, Fresh w W → Lib.TabIs Tryz.prog W "internal/strconv.uint64pow10" .u64 Lib.pow10Tab) :
    Code.wp Tryz.prog (hB 5) (bodyPostM Fence.wide 3 Tryz.prog Tryz.f3 fun e w' => e = .returned (.bool true) ∧ Fresh w w') { tmps := #[u0, u1, .pointer (some ⟨w.heap.size + 1, 0, none⟩), .slice LA m.length lc, .int .i64 points, .slice SA sh.length sc, .pointer (some ⟨w.heap.size + 1 + 1, 0, none⟩), .slice I m.length ic, .pointer (some ⟨bn, 0, none⟩), .int .i64 0, u10, u11, u12, u13, u14, u15, u16, u17, u18, u19, u20, u21, u22, u23, u24, u25, u26, u27, u28, u29, u30, u31, u32, u33, u34, u35, u36, u37, u38, u39, u40, u41, u42, u43, u44, u45, u46, u47, u48, u49, u50, u51, u52, u53, u54, u55, u56, u57, u58, u59, u60, u61, u62, u63, u64, u65, u66, u67, u68, u69, u70, u71, u72, u73, u74, u75, u76, u77, u78, u79, u80, u81, u82, u83, u84, u85, u86, u87, u88, u89, u90, u91, u92, u93, u94, u95, u96, u97, u98, u99, u100, u101, u102, u103, u104, u105, u106, u107, u108, u109, u110, u111, u112, u113, u114, u115, u116, u117, u118, u119, u120, u121, u122, u123, u124, u125, u126, u127, u128, u129, u130, u131, u132, u133, u134, u135, u136, u137, u138, u139, u140, u141, u142, u143, u144, u145, u146, u147, u148, u149, u150, u151, u152, u153, u154, u155, u156, u157, u158, u159, u160, u161, u162, u163, u164, u165, u166, u167, u168, u169, u170, u171, u172, u173, u174, u175, u176, u177, u178, u179, u180, u181, u182, u183, u184, u185, u186, u187, u188, u189, u190, u191, u192, u193], defers := [] } w3 := by
  have hp12 : 1 ≤ points ∧ points ≤ 64 ∧ m.all okHost = true := by
    simp only [okNew, Bool.and_eq_true, decide_eq_true_eq] at hok
    exact ⟨hok.1.1.1, hok.1.1.2, hok.1.2⟩
  obtain ⟨hp1, hp2, hall⟩ := hp12
  have HOK := Lib.hid hok; have HM := Lib.hid hM; have HI := Lib.hid hI; have HF := Lib.hid hF; have HR := Lib.hid hR; have HS := Lib.hid hS; have HSH := Lib.hid hSh; have HSW := Lib.hid hsw; have HT := Lib.hid hT
  have KR := Lib.hid (refnew_any LA lc m points w3 hM (by omega))
  have HSL := Lib.hid (show sps.length ≤ 1280 from by
    have h1 := hpk.length_eq
    rw [List.length_map, spotsOf_len] at h1
    have := Nat.mul_le_mul hm20 (show points.toNat ≤ 64 by omega)
    omega)
  have HRN := Lib.hid hRN; have HSK := Lib.hid hsk; have HPK := Lib.hid hpk
  clear hok hM hI hF hR hS hSh hsw hT hRN hsk hpk
  refine wp_hB rfl ?_
  conv => arg 2; whnf
  go_wp2_with fail
  refine KR.out.mono ?_
  intro e w4 hend
  obtain ⟨bq, lv, qv, ks, rfl, hQN, hqs, hqp⟩ := hend.1 HOK.out
  have hks : ks = sps.map Sp.key := SortK.uniq hqs HSK.out (hqp.trans HPK.out.symm)
  subst hks
  obtain ⟨W4, hW4⟩ : ∃ W4, W4 = w4.alloc (.cells #[.pointer (some ⟨bq, 0, none⟩)] 29) := ⟨_, rfl⟩
  have hF34 : Fresh w3 W4 := by rw [hW4]; exact hQN.fresh.alloc _
  have hQ4 : Blk W4 w4.heap.size 29 #[.pointer (some ⟨bq, 0, none⟩)] := by rw [hW4]; exact Blk.new _ _ _
  have hQG : QG W4 bq lv qv (sps.map Sp.key) (sortI m) := by rw [hW4]; exact hQN.rg.fresh ((Touch.refl _ w4).alloc _)
  obtain ⟨hs, hhs⟩ : ∃ hs, hs = sortI m := ⟨_, rfl⟩
  have hhl : hs.length ≤ 20 := by rw [hhs, (sortI_perm m).length_eq]; exact hm20
  have hrn : RN w2 w3 bn hv sv hs sps := by rw [hhs]; exact HRN.out
  rw [← hhs] at hQG
  obtain ⟨D, dc, hqv, hdc1, hdc2, hD⟩ := hQG.hrow.form
  subst hqv
  have HE4 := Lib.hid (show HE w bn bq w4.heap.size hv sv lv D SA dc sc hs sh sps stop W4 from
    ⟨HF.out.trans hF34 fun _ _ => id, hrn.rg.fresh hF34, hQG, HR.out.touch hF34 id, HS.out.touch hF34 id, hQ4, HSH.out.touch hF34 fun _ _ _ => id, hhl, HSL.out, fun k hk => by have := hrn.new k hk; omega⟩)
  have HI4 := Lib.hid (HI.out.touch hF34 fun _ _ _ => id)
  have HM4 := Lib.hid (HM.out.touch hF34 fun _ _ _ => id)
  have HW4 := Lib.hid hW4
  clear hend hQN hqs hqp KR hW4 hF34 hQ4 hQG hhs hrn hD
  go_wp2_with fail
  rw [← HW4.out]
  refine wp_hB rfl ?_
  conv => arg 2; whnf
  have c4 : W4.cell? ⟨w4.heap.size, 0, none⟩ = some (.pointer (some ⟨bq, 0, none⟩)) := HE4.out.box.cell 0
  go_wp2_with fail
  refine (ints_any W4 I LA m.length ic lc m HI4.out HM4.out).mono ?_
  rintro e w5 ⟨rfl, q5, rfl⟩
  clear c4
  go_wp2_with fail
  refine wp_hB rfl ?_
  conv => arg 2; whnf
  go_wp2_with fail
  refine wp_hB rfl ?_
  conv => arg 2; whnf
  obtain ⟨W5, hW5⟩ : ∃ W5, W5 = W4.drewN q5 := ⟨_, rfl⟩
  have HE5 := Lib.hid (show HE w bn bq w4.heap.size hv sv lv D SA dc sc hs sh sps stop W5 from by rw [hW5]; exact HE4.out.fresh ((Touch.refl _ _).drewN q5))
  have KH := Lib.hid (hostsR_any bn hv sv hs sps W5 HE5.out.rg (by omega))
  rw [← hW5]
  clear hW5
  go_wp2_with fail
  refine KH.out.mono ?_
  rintro e w6 ⟨hf6, H, hc, rfl, ho6, hn6⟩
  have HE6 := Lib.hid (HE5.out.fresh hf6)
  have HO6 := Lib.hid ho6; have HN6 := Lib.hid hn6; have HF6 := Lib.hid hf6
  have c40 : w6.cell? ⟨w4.heap.size, 0, none⟩ = some (.pointer (some ⟨bq, 0, none⟩)) := HE6.out.box.cell 0
  have c41 : w6.cell? ⟨bq, 1, none⟩ = some (.slice D hs.length dc) := HE6.out.qg.blk.cell 1
  clear hf6 ho6 hn6 KH
  go_wp2_with fail
  refine wp_hB rfl ?_
  conv => arg 2; whnf
  go_wp2_with fail
  refine (ints_any w6 H D hs.length hc dc hs (Own.ints HO6.out) (Own.ints HE6.out.qg.hrow)).mono ?_
  rintro e w7 ⟨rfl, q7, rfl⟩
  clear c40 c41
  go_wp2_with fail
  refine wp_hB rfl ?_
  conv => arg 2; whnf
  go_wp2_with fail
  refine (spoilInts_any (w6.drewN q7) H hs.length hc hs (HO6.out.drewN q7) (by omega)).mono ?_
  rintro e w8 ⟨rfl, ht8⟩
  have HE8 := Lib.hid (show HE w bn bq w4.heap.size hv sv lv D SA dc sc hs sh sps stop w8 from HE5.out.fresh ((HF6.out.drewN q7).trans ht8 fun k hk hx => by have := HN6.out k hx; omega))
  clear ht8
  go_wp2_with fail
  exact hosts_t11 HE8.out HSW.out HT.out
set_option maxRecDepth 200000 in
set_option maxHeartbeats 16000000 in
theorem hosts_t5f {u0 u1 u5 u6 u10 u11 u12 u13 u14 u15 u16 u17 u18 u19 u20 u21 u22 u23 u24 u25 u26 u27 u28 u29 u30 u31 u32 u33 u34 u35 u36 u37 u38 u39 u40 u41 u42 u43 u44 u45 u46 u47 u48 u49 u50 u51 u52 u53 u54 u55 u56 u57 u58 u59 u60 u61 u62 u63 u64 u65 u66 u67 u68 u69 u70 u71 u72 u73 u74 u75 u76 u77 u78 u79 u80 u81 u82 u83 u84 u85 u86 u87 u88 u89 u90 u91 u92 u93 u94 u95 u96 u97 u98 u99 u100 u101 u102 u103 u104 u105 u106 u107 u108 u109 u110 u111 u112 u113 u114 u115 u116 u117 u118 u119 u120 u121 u122 u123 u124 u125 u126 u127 u128 u129 u130 u131 u132 u133 u134 u135 u136 u137 u138 u139 u140 u141 u142 u143 u144 u145 u146 u147 u148 u149 u150 u151 u152 u153 u154 u155 u156 u157 u158 u159 u160 u161 u162 u163 u164 u165 u166 u167 u168 u169 u170 u171 u172 u173 u174 u175 u176 u177 u178 u179 u180 u181 u182 u183 u184 u185 u186 u187 u188 u189 u190 u191 u192 u193 : Value} {w w3 : World} {LA I : Option Addr} {lc ic : Nat} {m : List Int} {points : Int} (hF : Fresh w w3) (hM : IsInts w3 LA m.length lc m) (hI : IsInts w3 I m.length ic m)
    (hR : Blk w3 (w.heap.size + 1) 4 #[.bool false]) (hm20 : m.length ≤ 20) (hok : okNew m points = false) :
    Code.wp Tryz.prog (hB 5) (bodyPostM Fence.wide 3 Tryz.prog Tryz.f3 fun e w' => e = .returned (.bool true) ∧ Fresh w w') { tmps := #[u0, u1, .pointer (some ⟨w.heap.size + 1, 0, none⟩), .slice LA m.length lc, .int .i64 points, u5, u6, .slice I m.length ic, .pointer none, .int .i64 1, u10, u11, u12, u13, u14, u15, u16, u17, u18, u19, u20, u21, u22, u23, u24, u25, u26, u27, u28, u29, u30, u31, u32, u33, u34, u35, u36, u37, u38, u39, u40, u41, u42, u43, u44, u45, u46, u47, u48, u49, u50, u51, u52, u53, u54, u55, u56, u57, u58, u59, u60, u61, u62, u63, u64, u65, u66, u67, u68, u69, u70, u71, u72, u73, u74, u75, u76, u77, u78, u79, u80, u81, u82, u83, u84, u85, u86, u87, u88, u89, u90, u91, u92, u93, u94, u95, u96, u97, u98, u99, u100, u101, u102, u103, u104, u105, u106, u107, u108, u109, u110, u111, u112, u113, u114, u115, u116, u117, u118, u119, u120, u121, u122, u123, u124, u125, u126, u127, u128, u129, u130, u131, u132, u133, u134, u135, u136, u137, u138, u139, u140, u141, u142, u143, u144, u145, u146, u147, u148, u149, u150, u151, u152, u153, u154, u155, u156, u157, u158, u159, u160, u161, u162, u163, u164, u165, u166, u167, u168, u169, u170, u171, u172, u173, u174, u175, u176, u177, u178, u179, u180, u181, u182, u183, u184, u185, u186, u187, u188, u189, u190, u191, u192, u193], defers := [] } w3 := by
  have HOK := Lib.hid hok; have HM := Lib.hid hM; have HI := Lib.hid hI; have HF := Lib.hid hF; have HR := Lib.hid hR
  have KR := Lib.hid (refnew_any LA lc m points w3 hM (by omega))
  clear hok hM hI hF hR
  refine wp_hB rfl ?_
  conv => arg 2; whnf
  go_wp2_with fail
  refine KR.out.mono ?_
  intro e w4 hend
  obtain ⟨rfl, hf4⟩ := hend.2 HOK.out
  obtain ⟨W4, hW4⟩ : ∃ W4, W4 = w4.alloc (.cells #[.pointer none] 29) := ⟨_, rfl⟩
  have hF34 : Fresh w3 W4 := by rw [hW4]; exact hf4.alloc _
  have HQ4 := Lib.hid (show Blk W4 w4.heap.size 29 #[.pointer none] by rw [hW4]; exact Blk.new _ _ _)
  have HI4 := Lib.hid (HI.out.touch hF34 fun _ _ _ => id)
  have HM4 := Lib.hid (HM.out.touch hF34 fun _ _ _ => id)
  have HF34 := Lib.hid hF34
  have HW4 := Lib.hid hW4
  have c4 : W4.cell? ⟨w4.heap.size, 0, none⟩ = some (.pointer none) := HQ4.out.cell 0
  clear hend hf4 KR hW4 hF34
  go_wp2_with fail
  rw [← HW4.out]
  refine wp_hB rfl ?_
  conv => arg 2; whnf
  go_wp2_with fail
  refine (ints_any W4 I LA m.length ic lc m HI4.out HM4.out).mono ?_
  rintro e w5 ⟨rfl, q5, rfl⟩
  clear c4
  go_wp2_with fail
  refine wp_hB rfl ?_
  conv => arg 2; whnf
  go_wp2_with fail
  refine (wakes_any _).mono ?_
  rintro e w6 ⟨rfl, hf6⟩
  have hF6 : Fresh w3 w6 := (HF34.out.drewN q5).trans hf6 fun _ _ => id
  have hr6 := HR.out.touch hF6 id
  have c6 : w6.cell? ⟨w.heap.size + 1, 0, none⟩ = some (.bool false) := hr6.cell 0
  have f6 : w6.frozen? ⟨w.heap.size + 1, 0, none⟩ = false := hr6.frozen 0
  have HFW := Lib.hid ((HF.out.trans hF6 fun _ _ => id).setCell (p := ⟨w.heap.size + 1, 0, none⟩) (.inl (Nat.le_succ _)) (.bool true))
  have HR6 := Lib.hid (hr6.set_ 0 (.bool true))
  clear hf6 hr6 hF6
  go_wp2_with fail
  have e6 := HR6.out.cell 0
  simp at e6
  refine ⟨.bool true, ?_, rfl, HFW.out⟩
  simp [results, Tryz.results3, go_sem, e6]
set_option maxRecDepth 200000 in
set_option maxHeartbeats 16000000 in
theorem hosts_t3 {u0 u1 u7 u8 u9 u10 u11 u12 u13 u14 u15 u16 u17 u18 u19 u20 u21 u22 u23 u24 u25 u26 u27 u28 u29 u30 u31 u32 u33 u34 u35 u36 u37 u38 u39 u40 u41 u42 u43 u44 u45 u46 u47 u48 u49 u50 u51 u52 u53 u54 u55 u56 u57 u58 u59 u60 u61 u62 u63 u64 u65 u66 u67 u68 u69 u70 u71 u72 u73 u74 u75 u76 u77 u78 u79 u80 u81 u82 u83 u84 u85 u86 u87 u88 u89 u90 u91 u92 u93 u94 u95 u96 u97 u98 u99 u100 u101 u102 u103 u104 u105 u106 u107 u108 u109 u110 u111 u112 u113 u114 u115 u116 u117 u118 u119 u120 u121 u122 u123 u124 u125 u126 u127 u128 u129 u130 u131 u132 u133 u134 u135 u136 u137 u138 u139 u140 u141 u142 u143 u144 u145 u146 u147 u148 u149 u150 u151 u152 u153 u154 u155 u156 u157 u158 u159 u160 u161 u162 u163 u164 u165 u166 u167 u168 u169 u170 u171 u172 u173 u174 u175 u176 u177 u178 u179 u180 u181 u182 u183 u184 u185 u186 u187 u188 u189 u190 u191 u192 u193 : Value} {w W1 : World} {LA SA : Option Addr} {lc sc : Nat} {m sh : List Int} {points stop : Int} (hM : IsInts W1 LA m.length lc m) (hF : Fresh w W1) (hR : Blk W1 (w.heap.size + 1) 4 #[.bool false]) (hS : Blk W1 (w.heap.size + 1 + 1) 3 #[.int .i64 stop])
    (hSh : IsInts W1 SA sh.length sc sh) (hsw : ∀ x ∈ sh, -9223372036854775808 ≤ x ∧ x ≤ 9223372036854775807) (hT : ∀ W, Fresh w W → Lib.TabIs Tryz.prog W "internal/strconv.uint64pow10" .u64 Lib.pow10Tab) (hm20 : m.length ≤ 20) :
    Code.wp Tryz.prog (hB 3) (bodyPostM Fence.wide 3 Tryz.prog Tryz.f3 fun e w' => e = .returned (.bool true) ∧ Fresh w w') { tmps := #[u0, u1, .pointer (some ⟨w.heap.size + 1, 0, none⟩), .slice LA m.length lc, .int .i64 points, .slice SA sh.length sc, .pointer (some ⟨w.heap.size + 1 + 1, 0, none⟩), u7, u8, u9, u10, u11, u12, u13, u14, u15, u16, u17, u18, u19, u20, u21, u22, u23, u24, u25, u26, u27, u28, u29, u30, u31, u32, u33, u34, u35, u36, u37, u38, u39, u40, u41, u42, u43, u44, u45, u46, u47, u48, u49, u50, u51, u52, u53, u54, u55, u56, u57, u58, u59, u60, u61, u62, u63, u64, u65, u66, u67, u68, u69, u70, u71, u72, u73, u74, u75, u76, u77, u78, u79, u80, u81, u82, u83, u84, u85, u86, u87, u88, u89, u90, u91, u92, u93, u94, u95, u96, u97, u98, u99, u100, u101, u102, u103, u104, u105, u106, u107, u108, u109, u110, u111, u112, u113, u114, u115, u116, u117, u118, u119, u120, u121, u122, u123, u124, u125, u126, u127, u128, u129, u130, u131, u132, u133, u134, u135, u136, u137, u138, u139, u140, u141, u142, u143, u144, u145, u146, u147, u148, u149, u150, u151, u152, u153, u154, u155, u156, u157, u158, u159, u160, u161, u162, u163, u164, u165, u166, u167, u168, u169, u170, u171, u172, u173, u174, u175, u176, u177, u178, u179, u180, u181, u182, u183, u184, u185, u186, u187, u188, u189, u190, u191, u192, u193], defers := [] } W1 := by
  have hl2 := hM.2.2.1
  unfold maxLen at hl2
  have HM := Lib.hid hM; have HF := Lib.hid hF; have HR := Lib.hid hR; have HS := Lib.hid hS; have HSH := Lib.hid hSh; have HSW := Lib.hid hsw; have HT := Lib.hid hT
  clear hM hF hR hS hSh hsw hT
  have KSRC := Lib.hid (IsInts.src (HM.out.touch (show Fresh W1 _ from (Touch.refl _ W1).alloc (.cells #[] 3)) fun _ _ _ => id) (t := 22) (e' := 3) Tryz.underlying22)
  refine wp_hB rfl ?_
  conv => arg 2; whnf
  go_wp2_with (at_builtin; refine wpList_own_src _ rfl _ _ 22 22 rfl 3 (.int .i64 0) 1 8 Tryz.info3 Tryz.underlying22 rfl (.slice (some ⟨W1.heap.size, 0, none⟩) 0 0) 0 [] rfl (Own.lit0' W1 3 1) (by simp) (.slice LA m.length lc) m.length (intsV m) rfl KSRC.out (by unfold maxLen; omega) (by omega) ?_; intro I ic w2 o2 g2 b2; simp only [Nat.zero_add, List.nil_append] at o2 g2 b2 ⊢; have HO2 := Lib.hid o2; have HG2 := Lib.hid (grow_step (Touch.refl _ W1) g2 (fun q hq => by simp only [Value.ownBlock, Option.some.injEq] at hq; omega) b2); clear o2 g2 b2)
  have HI2 := Lib.hid (Own.ints HO2.out)
  have HF2 := Lib.hid (HF.out.trans HG2.out.1 fun _ _ => id)
  have HR2 := Lib.hid (HR.out.touch HG2.out.1 id)
  have HS2 := Lib.hid (HS.out.touch HG2.out.1 id)
  have HSH2 := Lib.hid (HSH.out.touch HG2.out.1 fun _ _ _ => id)
  have HM2 := Lib.hid (HM.out.touch HG2.out.1 fun _ _ _ => id)
  clear KSRC HR HS HF HO2 HG2
  refine wp_hB rfl ?_
  conv => arg 2; whnf
  go_wp2_with fail
  refine (new_any I ic m points w2 HI2.out.vs (by omega)).mono ?_
  intro e w3 hend
  cases hok : okNew m points with
  | false =>
    obtain ⟨rfl, hf3⟩ := hend.2 hok
    have HOK := Lib.hid hok; have HF3 := Lib.hid hf3
    clear hend hok hf3
    go_wp2_with fail
    exact hosts_t5f (HF2.out.trans HF3.out fun _ _ => id) (HM2.out.touch HF3.out fun _ _ _ => id) (HI2.out.touch HF3.out fun _ _ _ => id) (HR2.out.touch HF3.out id) hm20 HOK.out
  | true =>
    obtain ⟨bn, hv, sv, sps, rfl, hRN, hsk, hpk⟩ := hend.1 hok
    have HOK := Lib.hid hok; have HRN := Lib.hid hRN; have HSK := Lib.hid hsk; have HPK := Lib.hid hpk; have HF3 := Lib.hid hRN.fresh
    clear hend hok hRN hsk hpk
    go_wp2_with fail
    exact hosts_t5 (HF2.out.trans HF3.out fun _ _ => id) (HM2.out.touch HF3.out fun _ _ _ => id) (HI2.out.touch HF3.out fun _ _ _ => id) (HR2.out.touch HF3.out id) (HS2.out.touch HF3.out id) (HSH2.out.touch HF3.out fun _ _ _ => id) HRN.out HSK.out HPK.out hm20 HOK.out HS2.out.lt HSW.out HT.out
set_option maxRecDepth 200000 in
set_option maxHeartbeats 16000000 in
theorem hosts_t2 {u0 u1 u7 u8 u9 u10 u11 u12 u13 u14 u15 u16 u17 u18 u19 u20 u21 u22 u23 u24 u25 u26 u27 u28 u29 u30 u31 u32 u33 u34 u35 u36 u37 u38 u39 u40 u41 u42 u43 u44 u45 u46 u47 u48 u49 u50 u51 u52 u53 u54 u55 u56 u57 u58 u59 u60 u61 u62 u63 u64 u65 u66 u67 u68 u69 u70 u71 u72 u73 u74 u75 u76 u77 u78 u79 u80 u81 u82 u83 u84 u85 u86 u87 u88 u89 u90 u91 u92 u93 u94 u95 u96 u97 u98 u99 u100 u101 u102 u103 u104 u105 u106 u107 u108 u109 u110 u111 u112 u113 u114 u115 u116 u117 u118 u119 u120 u121 u122 u123 u124 u125 u126 u127 u128 u129 u130 u131 u132 u133 u134 u135 u136 u137 u138 u139 u140 u141 u142 u143 u144 u145 u146 u147 u148 u149 u150 u151 u152 u153 u154 u155 u156 u157 u158 u159 u160 u161 u162 u163 u164 u165 u166 u167 u168 u169 u170 u171 u172 u173 u174 u175 u176 u177 u178 u179 u180 u181 u182 u183 u184 u185 u186 u187 u188 u189 u190 u191 u192 u193 : Value} {w W1 : World} {LA SA : Option Addr} {lc sc : Nat} {l sh : List Int} {points stop : Int} (hL : IsInts W1 LA l.length lc l) (hF : Fresh w W1) (hR : Blk W1 (w.heap.size + 1) 4 #[.bool false]) (hS : Blk W1 (w.heap.size + 1 + 1) 3 #[.int .i64 stop])
    (hSh : IsInts W1 SA sh.length sc sh) (hsw : ∀ x ∈ sh, -9223372036854775808 ≤ x ∧ x ≤ 9223372036854775807) (hT : ∀ W, Fresh w W → Lib.TabIs Tryz.prog W "internal/strconv.uint64pow10" .u64 Lib.pow10Tab) :
    Code.wp Tryz.prog (hB 2) (bodyPostM Fence.wide 3 Tryz.prog Tryz.f3 fun e w' => e = .returned (.bool true) ∧ Fresh w w') { tmps := #[u0, u1, .pointer (some ⟨w.heap.size + 1, 0, none⟩), .slice LA l.length lc, .int .i64 points, .slice SA sh.length sc, .pointer (some ⟨w.heap.size + 1 + 1, 0, none⟩), u7, u8, u9, u10, u11, u12, u13, u14, u15, u16, u17, u18, u19, u20, u21, u22, u23, u24, u25, u26, u27, u28, u29, u30, u31, u32, u33, u34, u35, u36, u37, u38, u39, u40, u41, u42, u43, u44, u45, u46, u47, u48, u49, u50, u51, u52, u53, u54, u55, u56, u57, u58, u59, u60, u61, u62, u63, u64, u65, u66, u67, u68, u69, u70, u71, u72, u73, u74, u75, u76, u77, u78, u79, u80, u81, u82, u83, u84, u85, u86, u87, u88, u89, u90, u91, u92, u93, u94, u95, u96, u97, u98, u99, u100, u101, u102, u103, u104, u105, u106, u107, u108, u109, u110, u111, u112, u113, u114, u115, u116, u117, u118, u119, u120, u121, u122, u123, u124, u125, u126, u127, u128, u129, u130, u131, u132, u133, u134, u135, u136, u137, u138, u139, u140, u141, u142, u143, u144, u145, u146, u147, u148, u149, u150, u151, u152, u153, u154, u155, u156, u157, u158, u159, u160, u161, u162, u163, u164, u165, u166, u167, u168, u169, u170, u171, u172, u173, u174, u175, u176, u177, u178, u179, u180, u181, u182, u183, u184, u185, u186, u187, u188, u189, u190, u191, u192, u193], defers := [] } W1 := by
  have hl1 := hL.2.1
  have hl2 := hL.2.2.1
  unfold maxLen at hl2
  have HL := Lib.hid hL; have HF := Lib.hid hF; have HR := Lib.hid hR; have HS := Lib.hid hS; have HSH := Lib.hid hSh; have HSW := Lib.hid hsw; have HT := Lib.hid hT
  clear hL hF hR hS hSh hsw hT
  refine wp_hB rfl ?_
  conv => arg 2; whnf
  by_cases h20 : 20 < l.length
  · have e1 : (20 : Int) < (l.length : Int) := by omega
    have hm := HL.out.takeZ (k := 20) (by omega)
    have E2 := Lib.hid (show (l.take 20).length = 20 by rw [List.length_take]; omega)
    have HM := Lib.hid (show IsInts W1 LA (l.take 20).length lc (l.take 20) by rw [E2.out]; exact hm)
    clear hm
    go_wp2_with fail
    have := E2.out
    rw [← show (l.take 20).length = 20 from E2.out]
    exact hosts_t3 HM.out HF.out HR.out HS.out HSH.out HSW.out HT.out (by omega)
  · have e1 : ¬ (20 : Int) < (l.length : Int) := by omega
    go_wp2_with fail
    exact hosts_t3 HL.out HF.out HR.out HS.out HSH.out HSW.out HT.out (by omega)
set_option maxRecDepth 200000 in
set_option maxHeartbeats 16000000 in
theorem law_hosts (LA SA : Option Addr) (lc sc : Nat) (l sh : List Int) (points stop : Int) (w : World) (hL : IsInts w LA l.length lc l) (hS : IsInts w SA sh.length sc sh) (hsw : ∀ x ∈ sh, -9223372036854775808 ≤ x ∧ x ≤ 9223372036854775807)
    (hT : ∀ W, Fresh w W → Lib.TabIs Tryz.prog W "internal/strconv.uint64pow10" .u64 Lib.pow10Tab) :
    Calls Tryz.prog 3 #[.agg #[.slice LA l.length lc, .int .i64 points, .int .i64 stop, .slice SA sh.length sc]] w fun e w' => e = .returned (.bool true) ∧ Fresh w w' := by
  have hl2 := hL.2.2.1
  have hs2 := hS.2.2.1
  unfold maxLen at hl2 hs2
  have HL := Lib.hid hL; have HS := Lib.hid hS; have HSW := Lib.hid hsw; have HT := Lib.hid hT
  clear hL hS hsw hT
  refine (callsIn_wide (n := 3)).1 ?_
  refine callsIn_of_wp_marks Tryz.func3 (c := hB 0) rfl trivial ?_ rfl
  simp only [Tryz.ntmps3, List.size_toArray, List.length_cons, List.length_nil, Nat.reduceAdd, Nat.reduceSub, Array.replicate_succ, Array.replicate_zero, List.push_toArray, List.append_toArray, List.nil_append, List.cons_append]
  refine wpIn_wide.2 ?_
  refine wp_hB rfl ?_
  conv => arg 2; whnf
  obtain ⟨W0, hW0⟩ : ∃ W0, W0 = (w.alloc (.cells #[.slice LA l.length lc, .int .i64 points, .int .i64 stop, .slice SA sh.length sc] 24)).alloc (.cells #[.bool false] 4) := ⟨_, rfl⟩
  have hf0 : Fresh w W0 := by rw [hW0]; exact ((Touch.refl _ w).alloc _).alloc _
  have hb0 : Blk W0 w.heap.size 24 #[.slice LA l.length lc, .int .i64 points, .int .i64 stop, .slice SA sh.length sc] := by rw [hW0]; exact (Blk.new _ _ _).alloc _
  have hb1 : Blk W0 (w.heap.size + 1) 4 #[.bool false] := by
    rw [hW0]
    have := Blk.new (w.alloc (.cells #[.slice LA l.length lc, .int .i64 points, .int .i64 stop, .slice SA sh.length sc] 24)) 4 #[.bool false]
    rwa [World.size_alloc] at this
  have hs0 : W0.heap.size = w.heap.size + 1 + 1 := by rw [hW0, World.size_alloc, World.size_alloc]
  have HF0 := Lib.hid hf0; have HB1 := Lib.hid hb1; have HB0 := Lib.hid hb0; have HW0 := Lib.hid hW0; have HS0 := Lib.hid hs0
  clear hW0 hf0 hb1 hb0 hs0
  go_wp2_with fail
  rw [← HW0.out]
  refine wp_hB rfl ?_
  conv => arg 2; whnf
  have HC := Lib.hid (show ∀ W, Fresh W0 W → W.cell? ⟨w.heap.size, 0, none⟩ = some (.slice LA l.length lc) ∧ W.cell? ⟨w.heap.size, 1, none⟩ = some (.int .i64 points) ∧ W.cell? ⟨w.heap.size, 2, none⟩ = some (.int .i64 stop) ∧ W.cell? ⟨w.heap.size, 3, none⟩ = some (.slice SA sh.length sc) from fun W hW => by
    have := HB0.out.touch hW id
    exact ⟨this.cell 0, this.cell 1, this.cell 2, this.cell 3⟩)
  refine wp_region_noPanic ?_
  go_region_held (fun W => W.cell? ⟨w.heap.size, 0, none⟩ = some (.slice LA l.length lc) ∧ W.cell? ⟨w.heap.size, 1, none⟩ = some (.int .i64 points) ∧ W.cell? ⟨w.heap.size, 2, none⟩ = some (.int .i64 stop) ∧ W.cell? ⟨w.heap.size, 3, none⟩ = some (.slice SA sh.length sc))
    (first | exact HC.out _ ((Touch.refl _ W0).drew) | exact HC.out _ (((Touch.refl _ W0).drew).alloc _) | assumption)
    (fail)
  refine NoPanic.normal ?_
  go_wp2_with fail
  obtain ⟨W1, hW1⟩ : ∃ W1, W1 = (W0.alloc (.cells #[.int .i64 stop] 3)).drew := ⟨_, rfl⟩
  have hf1 : Fresh W0 W1 := by rw [hW1]; exact ((Touch.refl _ W0).alloc _).drew
  have hb2 : Blk W1 (w.heap.size + 1 + 1) 3 #[.int .i64 stop] := by
    rw [hW1, ← HS0.out]
    exact Blk.new W0 _ _
  have h1 : Fresh w W1 := HF0.out.trans hf1 fun _ _ => id
  rw [← hW1, HS0.out]
  refine Code.wp_mono ?_ (hosts_t2 (HL.out.touch h1 fun _ _ _ => id) h1 (HB1.out.touch hf1 id) hb2 (HS.out.touch h1 fun _ _ _ => id) HSW.out HT.out)
  intro e a w' h
  apply_assumption
end Go.Proofs.YtnbpmlbhigchnaaGreatDoor
