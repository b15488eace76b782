/- The contracts of the helpers of the laws: clip, SpoilBytes, Lend, Intact. Conditions stand with each. -/
import Derived.Test.YthmjnlkdoepmjaaOwn
import Derived.WalkSpells
namespace Go.Proofs.Ythmjnlkdoepmjaa
open Go.RowKit

theorem Try.info5 : (Try.prog.info? 5).map (fun i => (i.zero, i.size, i.bytes)) = some (some (.int .u8 0), 1, 1) := by kernel_rfl
/-- bytes that can be read, as a string -/
theorem run_convert_Bs {P : Program} {w : World} {A : Option Addr} {n c : Nat} {xs : List UInt8} (src dst : TypeId) (hs : P.underlying src = some (.slice 5)) (he : P.underlying 5 = some (.int .u8)) (hd : P.underlying dst = some .string)
    (h : Bs w A n c xs) : (convert src dst (.slice A n c)).run P w = .ok (.string ⟨xs.toArray⟩) w := by
  have hl := h.1
  have hnil : xs = [] → ∀ ad, (convert src dst (.slice (some ad) n c)).run P w = .ok (.string ⟨xs.toArray⟩) w := by
    intro e ad
    subst e
    have hn : n = 0 := by simpa using hl.symm
    subst hn
    rw [run_convert_bytes_string w src dst _ _ 0 c hs he hd, run_bytesToString w _ 0 c [] (by simp [loadCells, loadCellsFrom])]
    rfl
  rcases Nat.eq_zero_or_pos n with h0 | h0
  · have e : xs = [] := List.eq_nil_of_length_eq_zero (by omega)
    cases A with
    | none =>
      subst e
      exact run_convert_bytes_nil w src 5 hs he n c dst hd
    | some ad => exact hnil e ad
  · obtain ⟨b, o, rfl⟩ := h.at_ h0
    have := run_convert_bytes_arg (P := P) w src 5 hs he b o n c (xs.map fun x => (x.toNat : Int)) (by simpa using hl) (by
      intro i hi
      rw [h.cellAt hi]
      have hi' : i < xs.length := by omega
      simp [List.getD_eq_getElem?_getD, hi']) dst hd
    rw [this]
    congr 2
    simp [strOfNums, Function.comp_def]


section
variable {P : Program} {w : World}
/-- append(s, xs...) where s is of the call's own, and xs is read. -/
theorem run_row_bs (t ty : TypeId) (hinfo : (P.info? 5).map (fun i => (i.zero, i.size, i.bytes)) = some (some (.int .u8 0), 1, 1)) (ht : P.underlying t = some (.slice 5))
    (v : Value) (xs : List UInt8) (hown : Row w v xs) (A : Option Addr) (m c : Nat) (ys : List UInt8) (hs : Bs w A m c ys) (hb : xs.length + ys.length ≤ 140737488355328) :
    ∃ B c' w', (Builtin.append_ #[t, t] ty #[v, .slice A m c]).run P w = .ok (.slice B (xs.length + ys.length) c') w' ∧ Row w' (.slice B (xs.length + ys.length) c') (xs ++ ys) ∧ w.grownBy w' v.ownBlock ∧
      ((Value.slice B (xs.length + ys.length) c').ownBlock = v.ownBlock ∨ (Value.slice B (xs.length + ys.length) c').ownBlock = some w.heap.size) := by
  obtain ⟨i, hi, hz, hs1, hb1⟩ := info_parts hinfo
  have hl := hs.1
  subst hl
  by_cases h0 : ys = []
  · subst h0
    obtain ⟨B, c', hv, hle, hcm, _⟩ := hown.form
    subst hv
    have hsrc : Src P i.size t (.slice A 0 c) 0 [] w := by
      cases A with
      | none => exact Src.ofNil w ht c
      | some a => exact Src.ofSlice w ht a 0 c [] (by simp) (by simp) (by simp)
    refine ⟨B, c', w, ?_, ?_, ⟨rfl, rfl, rfl, Nat.le_refl _, fun _ _ _ => rfl⟩, .inl rfl⟩
    · exact run_append_nothing w t t ty 5 i ht hi B xs.length c' hle _ hsrc
    · simp only [List.append_nil, List.length_nil, Nat.add_zero]; exact hown
  · have hpos : 0 < ys.length := List.length_pos_iff.2 h0
    obtain ⟨b, o, rfl, hc⟩ := hs.2.2.2 hpos
    have hnews' : ∀ j u, (u8s ys)[j]? = some u → w.cell? ((⟨b, o, none⟩ : Addr).add j) = some u := by
      intro j u hu
      rw [u8s_get] at hu
      obtain ⟨y, hy, rfl⟩ := Option.map_eq_some_iff.1 hu
      rw [add_flat]
      exact hc j y hy
    obtain ⟨v', w', hr, h1, h2, _, h4⟩ := run_append_own_at (P := P) w 0 t ty 5 i (.int .u8 0) 1 1 ht hi hz hs1 hb1 rfl (by decide) v xs.length (u8s xs) hown ⟨b, o, none⟩ ys.length c (u8s ys) (by rw [u8s_length]; omega) hnews' (u8s_one ys) (by unfold maxLen; omega) (by omega) (Nat.zero_le _)
    have hrow : Row w' v' (xs ++ ys) := by
      unfold Row
      rw [List.length_append, u8s_append]
      exact h1
    obtain ⟨B, c', hv, _⟩ := hrow.form
    rw [List.length_append] at hv
    subst hv
    exact ⟨B, c', w', hr, hrow, h2, h4⟩
theorem wp_row_bs {o : Oper} {a : Act} {K : Act → World → Prop} {Q : Exit → Act → World → Prop} (s x : Operand) (t : TypeId)
    (ho : o.op = .call { callee := .builtin .append, args := #[s, x], argTypes := #[t, t] })
    (hinfo : (P.info? 5).map (fun i => (i.zero, i.size, i.bytes)) = some (some (.int .u8 0), 1, 1)) (ht : P.underlying t = some (.slice 5))
    (v : Value) (xs : List UInt8) (hs : a.eval s = v) (hown : Row w v xs) (A : Option Addr) (m c : Nat) (ys : List UInt8) (hx : a.eval x = .slice A m c) (hbs : Bs w A m c ys) (hb : xs.length + ys.length ≤ 140737488355328)
    (h : ∀ B c' w', Row w' (.slice B (xs.length + ys.length) c') (xs ++ ys) → w.grownBy w' v.ownBlock → ((Value.slice B (xs.length + ys.length) c').ownBlock = v.ownBlock ∨ (Value.slice B (xs.length + ys.length) c').ownBlock = some w.heap.size) → K (a.put o.dst (.slice B (xs.length + ys.length) c')) w') : o.wp P a w K Q := by
  obtain ⟨B, c', w', hr, h1, h2, h3⟩ := run_row_bs (w := w) t o.type hinfo ht v xs hown A m c ys hbs hb
  unfold Oper.wp execOp
  simp only [ho, resolve, invoke, builtin, Sem.run_bind, Sem.run_pure, Result.andThen_ok, List.map_toArray, List.map_cons, List.map_nil, hs, hx, hr]
  exact h B c' w' h1 h2 h3
theorem wpList_row_bs {ops : Array Oper} {rest : List Oper} {o : Oper} {a : Act} {Q : Exit → Act → World → Prop} (hgd : o.guard = none) (s x : Operand) (t : TypeId)
    (ho : o.op = .call { callee := .builtin .append, args := #[s, x], argTypes := #[t, t] })
    (hinfo : (P.info? 5).map (fun i => (i.zero, i.size, i.bytes)) = some (some (.int .u8 0), 1, 1)) (ht : P.underlying t = some (.slice 5))
    (v : Value) (xs : List UInt8) (hs : a.eval s = v) (hown : Row w v xs) (A : Option Addr) (m c : Nat) (ys : List UInt8) (hx : a.eval x = .slice A m c) (hbs : Bs w A m c ys) (hb : xs.length + ys.length ≤ 140737488355328)
    (h : ∀ B c' w', Row w' (.slice B (xs.length + ys.length) c') (xs ++ ys) → w.grownBy w' v.ownBlock → ((Value.slice B (xs.length + ys.length) c').ownBlock = v.ownBlock ∨ (Value.slice B (xs.length + ys.length) c').ownBlock = some w.heap.size) → wpList P ops Q rest (a.put o.dst (.slice B (xs.length + ys.length) c')) w') : wpList P ops Q (o :: rest) a w :=
  wpList_plain hgd fun _ hK => wp_row_bs s x t ho hinfo ht v xs hs hown A m c ys hx hbs hb fun B c' w' h1 h2 h3 => hK _ _ (h B c' w' h1 h2 h3)
/-- the same in a region that draws -/
theorem step_row_bs {ops : Array Oper} {o : Oper} {a : Act} {K : Act → World → Prop} {Q : Exit → Act → World → Prop} {E : Prop} (hgd : o.guard = none) (s x : Operand) (t : TypeId)
    (ho : o.op = .call { callee := .builtin .append, args := #[s, x], argTypes := #[t, t] })
    (hinfo : (P.info? 5).map (fun i => (i.zero, i.size, i.bytes)) = some (some (.int .u8 0), 1, 1)) (ht : P.underlying t = some (.slice 5))
    (v : Value) (xs : List UInt8) (hs : a.eval s = v) (hown : Row w v xs) (A : Option Addr) (m c : Nat) (ys : List UInt8) (hx : a.eval x = .slice A m c) (hbs : Bs w A m c ys) (hb : xs.length + ys.length ≤ 140737488355328)
    (h : ∀ B c' w', Row w' (.slice B (xs.length + ys.length) c') (xs ++ ys) → w.grownBy w' v.ownBlock → ((Value.slice B (xs.length + ys.length) c').ownBlock = v.ownBlock ∨ (Value.slice B (xs.length + ys.length) c').ownBlock = some w.heap.size) → K (a.put o.dst (.slice B (xs.length + ys.length) c')) w') :
    if Region.wanted o (yielded ops a.tmps) = true then Oper.wp P o a w K Q else E := by
  have hw : Region.wanted o (yielded ops a.tmps) = true := by simp [Region.wanted, hgd]
  rw [if_pos hw]
  exact wp_row_bs s x t ho hinfo ht v xs hs hown A m c ys hx hbs hb h
end
/-- a literal of bytes, just laid -/
theorem Row.lit {w : World} (xs : List UInt8) (cs : Array Value) (hcs : cs.toList = u8s xs) (hl : xs.length ≤ 1000) : Row (w.alloc (.cells cs 5)) (.slice (some ⟨w.heap.size, 0, none⟩) xs.length xs.length) xs := by
  have h := World.ownsRow_lit (base := 0) (e := 5) (size := 1) w cs xs.length (Nat.zero_le _) (by unfold maxLen; omega) (by have := congrArg List.length hcs; rw [u8s_length] at this; simpa using this)
  unfold Row
  rw [← hcs]
  exact h

set_option maxRecDepth 20000 in
theorem clip_any (A : Option Addr) (n c : Nat) (xs : List UInt8) (w : World) (h : Bs w A n c xs) :
    Calls Try.prog 11 #[.slice A n c] w fun e w' => w' = w ∧ ∃ m, m ≤ n ∧ m ≤ 200 ∧ e = .returned (.slice A m c) ∧ Bs w A m c (xs.take m) := by
  have hm := h.2.2.1
  have hnc := h.2.1
  unfold maxLen at hm
  have H := Lib.hid h
  clear h
  by_cases hb : 200 < n
  · go_enter Try.func11, Try.ntmps11
    go_wp2_with fail
    go_ret
    exact ⟨rfl, 200, by omega, by omega, rfl, H.out.take (by omega)⟩
  · go_enter Try.func11, Try.ntmps11
    go_wp2_with fail
    go_ret
    refine ⟨rfl, n, Nat.le_refl _, by omega, rfl, ?_⟩
    exact H.out.take (Nat.le_refl _)

/-- what Lend lends: a copy of its own, and four bytes behind it -/
def marks : List UInt8 := [201, 202, 203, 204]
def Lent (w : World) (A : Option Addr) (n c : Nat) (xs : List UInt8) : Prop := xs.length = n ∧ Row w (.slice A (n + 4) c) (xs ++ marks)
theorem Lent.bs {w : World} {A : Option Addr} {n c : Nat} {xs : List UInt8} (h : Lent w A n c xs) : Bs w A n c xs := by
  have h1 := (Row.bs h.2).take (k := n) (by omega)
  rwa [← h.1, List.take_left, h.1] at h1

set_option maxRecDepth 20000 in
set_option maxHeartbeats 1000000 in
theorem lend_any (A : Option Addr) (n c : Nat) (xs : List UInt8) (w : World) (h : Bs w A n c xs) (hb : n ≤ 140737488355000) :
    Calls Try.prog 34 #[.slice A n c] w fun e w' => Fresh w w' ∧ ∃ B c', e = .returned (.slice B n c') ∧ Lent w' B n c' xs ∧ (∀ a, B = some a → w.heap.size ≤ a.block) := by
  have hm := h.2.2.1
  have hnc := h.2.1
  unfold maxLen at hm
  obtain rfl := h.1
  have H := Lib.hid h
  clear h
  go_enter Try.func34, Try.ntmps34
  go_wp2_with (first
    | (at_builtin; refine wpList_row_bs rfl _ _ 22 rfl Try.info5 Try.underlying22 (.slice (some ⟨w.heap.size, 0, none⟩) 0 0) [] rfl (Row.lit [] #[] rfl (by simp)) A xs.length c xs rfl (H.out.alloc _) (by simp only [List.length_nil]; omega) ?_; intro B1 c1 w1 r1 g1 o1; simp only [List.length_nil, Nat.zero_add, List.nil_append] at r1 g1 o1)
    | (at_builtin; refine wpList_row_bs rfl _ _ 22 rfl Try.info5 Try.underlying22 _ xs rfl (r1.alloc _) (some ⟨w1.heap.size, 0, none⟩) 4 4 marks rfl (Row.bs (Row.lit marks #[.int .u8 201, .int .u8 202, .int .u8 203, .int .u8 204] rfl (by decide))) (by simp only [marks, List.length_cons, List.length_nil]; omega) ?_; intro B2 c2 w2 r2 g2 o2; simp only [show marks.length = 4 from rfl] at r2 g2 o2 ⊢; have hc2 := (Row.bs r2).2.1; have hc3 := (Row.bs r2).2.2.1; unfold maxLen at hc3))
  have hw1 : w.heap.size ≤ w1.heap.size := by
    have := g1.size
    simp only [alloc_size] at this
    omega
  have hT1 : Fresh w w1 := ((Touch.refl _ w).alloc _).grown g1 (fun k hk => .inl (by
    simp only [Value.ownBlock, Option.some.injEq] at hk
    omega))
  have hN1 : ∀ k, (Value.slice B1 xs.length c1).ownBlock = some k → w.heap.size ≤ k := by
    intro k hk
    rcases o1 with h | h
    · rw [h] at hk
      simp only [Value.ownBlock, Option.some.injEq] at hk
      omega
    · rw [h] at hk
      simp only [alloc_size, Option.some.injEq] at hk
      omega
  have hT2 : Fresh w w2 := (hT1.alloc _).grown g2 (fun k hk => .inl (hN1 k hk))
  have hN2 : ∀ a, B2 = some a → w.heap.size ≤ a.block := by
    rintro a rfl
    rcases o2 with h | h
    · exact hN1 _ (h.symm.trans rfl)
    · simp only [Value.ownBlock, alloc_size, Option.some.injEq] at h
      omega
  clear o1 o2 g1 g2 r1 hw1 hN1 hT1
  go_ret
  exact ⟨hT2, B2, c2, rfl, ⟨rfl, r2⟩, hN2⟩

set_option maxRecDepth 20000 in
set_option maxHeartbeats 1000000 in
theorem spoil_any (xs : List UInt8) (v : Value) (w : World) (h : Row w v xs) (hb : xs.length ≤ 140737488355000) :
    Calls Try.prog 41 #[v] w fun e w' => e = .returned (.tuple #[]) ∧ Touch (fun k => v.ownBlock = some k) w w' := by
  obtain ⟨A, c, rfl, hle, hcm, hg⟩ := h.form
  unfold maxLen at hcm
  have H := Lib.hid h
  have HG := Lib.hid hg
  clear h hg
  go_enter Try.func41, Try.ntmps41
  go_wp2_with fail
  go_loopw [2] (fun i wr => ∃ j : Nat, j ≤ xs.length ∧ i = .int .i64 j ∧ (∃ ys, ys.length = xs.length ∧ Row wr (.slice A xs.length c) ys) ∧ Touch (fun k => (Value.slice A xs.length c).ownBlock = some k) w wr) (fun i _ => xs.length - (intOf i).toNat)
  case atStart => exact ⟨0, by omega, rfl, ⟨xs, rfl, H.out⟩, Touch.refl _ _⟩
  case round =>
    obtain ⟨j, hj, rfl, ⟨ys, hyl, hr⟩, ht⟩ := hrel
    by_cases hlt : j < xs.length
    · obtain ⟨g, rfl⟩ := HG.out (by intro h; rw [h] at hlt; simp at hlt)
      have hr' : wr.ownsRow 0 5 1 (.slice (some ⟨g, 0, none⟩) xs.length c) xs.length (u8s ys) := by rw [← hyl]; unfold Row at hr; rw [hyl] at hr ⊢; exact hr
      have hcell := hr'.cellAt j (by omega)
      have hfro := hr'.frozenAt j
      rw [u8s_get, List.getElem?_eq_getElem (by omega)] at hcell
      simp only [Option.map_some] at hcell
      have hlx := (ys[j]'(by omega)).toNat_lt
      have hst := fun u => (hr'.stored j u).1
      generalize (ys[j]'(by omega)).toNat = y at hcell hlx
      have hxor : ∃ z : UInt8, bits .xor .u8 (y : Int) 255 = (z.toNat : Int) := by
        refine ⟨UInt8.ofNat (y ^^^ 255), ?_⟩
        rw [show (255 : Int) = ((255 : Nat) : Int) from rfl, u8_xor_nat y 255 (by omega) (by omega)]
        have : y ^^^ 255 < 2 ^ 8 := Nat.xor_lt_two_pow (by omega) (by omega)
        simp only [UInt8.toNat_ofNat']
        omega
      obtain ⟨z, hxor⟩ := hxor
      have hst := hst (.int .u8 (z.toNat : Int))
      have HST := Lib.hid hst
      have HT := Lib.hid (ht.setCell (p := ⟨g, j, none⟩) (.inr rfl) (.int .u8 (z.toNat : Int)))
      clear hst hr hr' ht
      go_wp2_with fail
      refine ⟨⟨j + 1, by omega, by simp, ⟨ys.set j z, by rw [List.length_set, hyl], ?_⟩, HT.out⟩, by simp [intOf] <;> omega⟩
      have h1 := HST.out
      unfold Row
      rw [List.length_set, hyl, show u8s (ys.set j z) = (u8s ys).set j (.int .u8 (z.toNat : Int)) from List.map_set]
      exact h1
    · have : j = xs.length := by omega
      subst this
      have HR := Lib.hid hr
      have HT := Lib.hid ht
      have HYL := Lib.hid hyl
      clear hr ht hyl
      go_wp2_with fail
      go_loopw [0, 3] (fun v i w2 => ∃ k : Nat, k ≤ 40 ∧ i = .int .i64 k ∧ (∃ zs, zs.length = xs.length + k ∧ Row w2 v zs) ∧ Touch (fun k => (Value.slice A xs.length c).ownBlock = some k) w w2 ∧ (∀ q, v.ownBlock = some q → (Value.slice A xs.length c).ownBlock = some q ∨ w.heap.size ≤ q)) (fun _ i _ => 40 - (intOf i).toNat)
      case atStart => exact ⟨0, by omega, rfl, ⟨ys, HYL.out, HR.out⟩, HT.out, fun q h => .inl h⟩
      case round =>
        obtain ⟨k, hk, rfl, ⟨zs, hzl, hr2⟩, ht2, ho2⟩ := hrel
        by_cases hlt2 : k < 40
        · have HR2 := Lib.hid hr2
          have HT2 := Lib.hid ht2
          have HO2 := Lib.hid ho2
          have HZ := Lib.hid hzl
          clear hr2 ht2 ho2 hzl
          go_wp2_with (at_builtin; refine wpList_row_bs rfl _ _ 22 rfl Try.info5 Try.underlying22 u0 zs rfl (HR2.out.alloc _) (some ⟨wr.heap.size, 0, none⟩) 1 1 [85] rfl (Row.bs (Row.lit [85] #[.int .u8 85] rfl (by decide))) (by rw [HZ.out, List.length_singleton]; omega) ?_; intro B2 c2 w2 r2 g2 o2)
          have hT3 : Touch (fun k => (Value.slice A xs.length c).ownBlock = some k) w w2 := (HT2.out.alloc _).grown g2 (fun q hq => (HO2.out q hq).symm)
          have hO3 : ∀ q, (Value.slice B2 (zs.length + [(85 : UInt8)].length) c2).ownBlock = some q → (Value.slice A xs.length c).ownBlock = some q ∨ w.heap.size ≤ q := by
            intro q hq
            rcases o2 with h | h
            · rw [h] at hq; exact HO2.out q hq
            · rw [h] at hq
              have := HT2.out.size
              simp only [alloc_size, Option.some.injEq] at hq
              exact .inr (by omega)
          have HT3 := Lib.hid hT3
          have HO3 := Lib.hid hO3
          have HR3 := Lib.hid r2
          clear hT3 hO3 r2 g2 o2
          go_roundw
          case rel =>
            refine ⟨k + 1, by omega, by simp, ⟨_, ?_, HR3.out⟩, HT3.out, HO3.out⟩
            rw [List.length_append, HZ.out, List.length_singleton]; omega
          case measure => simp [intOf] <;> omega
        · have : k = 40 := by omega
          subst this
          have HT2 := Lib.hid ht2
          clear hr2 ht2 ho2 hzl
          go_wp2_with fail
          go_end0
          exact ⟨rfl, HT2.out⟩
theorem bytes_append (xs ys : List UInt8) : (⟨xs.toArray⟩ : ByteArray) ++ ⟨ys.toArray⟩ = ⟨(xs ++ ys).toArray⟩ := by
  apply ByteArray.ext
  simp
theorem bytes_toList (zs : List UInt8) : (⟨zs.toArray⟩ : ByteArray).toList = zs := by simp [ByteArray.toList_eq]
theorem str_beq (xs ys : List UInt8) : ((⟨xs.toArray⟩ : ByteArray).toList == (⟨ys.toArray⟩ : ByteArray).toList) = decide (xs = ys) := by
  have h : ∀ zs : List UInt8, (⟨zs.toArray⟩ : ByteArray).toList = zs := by intro zs; simp [ByteArray.toList_eq]
  rw [h, h]
  by_cases e : xs = ys <;> simp [e]

set_option maxRecDepth 20000 in
set_option maxHeartbeats 1000000 in
theorem intact_any (A B : Option Addr) (n c cb : Nat) (xs : List UInt8) (w : World) (h : Bs w A n c xs) (hl : Lent w B n cb xs) (hb : n ≤ 140737488355000) :
    Calls Try.prog 36 #[.slice B n cb, .slice A n c] w fun e w' => e = .returned (.bool true) ∧ Touch (fun k => (Value.slice B n cb).ownBlock = some k) w w' := by
  obtain rfl := h.1
  have hm := (Row.bs hl.2).2.1
  have hm2 := (Row.bs hl.2).2.2.1
  unfold maxLen at hm2
  have hcv1 := run_convert_Bs (P := Try.prog) 22 9 Try.underlying22 Try.underlying5 Try.underlying9 (Row.bs hl.2)
  have hcv2 := run_convert_Bs (P := Try.prog) 22 9 Try.underlying22 Try.underlying5 Try.underlying9 h
  have heq : (xs ++ marks == ((⟨xs.toArray⟩ : ByteArray) ++ ⟨#[201, 202, 203, 204]⟩).toList) = true := by
    rw [show (⟨#[201, 202, 203, 204]⟩ : ByteArray) = ⟨marks.toArray⟩ from rfl, bytes_append, bytes_toList]
    simp
  obtain ⟨g, rfl⟩ : ∃ g, B = some ⟨g, 0, none⟩ := by
    obtain ⟨A', c', hv, _, _, hg⟩ := hl.2.form
    obtain ⟨g, hg⟩ := hg (by simp [marks])
    injection hv with h1 h2 h3
    exact ⟨g, h1.trans hg⟩
  have H := Lib.hid hl
  have HEQ := Lib.hid heq
  clear hl h heq
  go_enter Try.func36, Try.ntmps36
  go_wp2_with fail
  go_loopw [7] (fun i wr => ∃ j : Nat, j ≤ xs.length + 4 ∧ i = .int .i64 j ∧ (∃ ys, ys.length = xs.length + 4 ∧ Row wr (.slice (some ⟨g, 0, none⟩) (xs.length + 4) cb) ys) ∧ Touch (fun k => (Value.slice (some ⟨g, 0, none⟩) xs.length cb).ownBlock = some k) w wr) (fun i _ => xs.length + 4 - (intOf i).toNat)
  case atStart => exact ⟨0, by omega, rfl, ⟨xs ++ marks, by simp [marks], H.out.2⟩, Touch.refl _ _⟩
  case round =>
    obtain ⟨j, hj, rfl, ⟨ys, hyl, hr⟩, ht⟩ := hrel
    by_cases hlt : j < xs.length + 4
    · have hr' : wr.ownsRow 0 5 1 (.slice (some ⟨g, 0, none⟩) (xs.length + 4) cb) (xs.length + 4) (u8s ys) := by unfold Row at hr; rw [hyl] at hr; exact hr
      have hcell := hr'.cellAt j (by omega)
      have hfro := hr'.frozenAt j
      rw [u8s_get, List.getElem?_eq_getElem (by omega)] at hcell
      simp only [Option.map_some] at hcell
      have HST := Lib.hid (hr'.stored j (.int .u8 ((85 : UInt8).toNat : Int))).1
      have HT := Lib.hid (ht.setCell (p := ⟨g, j, none⟩) (.inr rfl) (.int .u8 ((85 : UInt8).toNat : Int)))
      clear hr hr' ht
      go_wp2_with fail
      refine ⟨⟨j + 1, by omega, by simp, ⟨ys.set j 85, by rw [List.length_set, hyl], ?_⟩, HT.out⟩, by simp [intOf] <;> omega⟩
      have h1 := HST.out
      unfold Row
      rw [List.length_set, hyl, show u8s (ys.set j 85) = (u8s ys).set j (.int .u8 ((85 : UInt8).toNat : Int)) from List.map_set]
      exact h1
    · have : j = xs.length + 4 := by omega
      subst this
      have HT := Lib.hid ht
      clear ht hr
      go_wp2_with fail
      go_ret
      exact ⟨congrArg (fun b => Ending.returned (.bool b)) HEQ.out, HT.out⟩
end Go.Proofs.Ythmjnlkdoepmjaa
