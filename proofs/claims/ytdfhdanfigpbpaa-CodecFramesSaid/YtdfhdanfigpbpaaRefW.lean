/- The contracts of the reference's Writer: number, text, signed, flag, done. -/
import Derived.Test.YtdfhdanfigpbpaaWriters
namespace Go.Proofs.Ytdfhdanfigpbpaa
open Go.RowKit

theorem Row.lit1 (w : World) (n : Int) (y : UInt8) (h : n = (y.toNat : Int)) : Row (w.alloc (.cells #[.int .u8 n] 5)) (.slice (some ⟨w.heap.size, 0, none⟩) 1 1) [y] := by
  have := World.ownsRow_lit (base := 0) (e := 5) (size := 1) w #[.int .u8 n] 1 (Nat.zero_le _) (by simp [maxLen]) rfl
  unfold Row
  simpa [u8s, h] using this

section
variable {P : Program} (w : World)
/-- append of bytes that can be read (nil too) onto a row of the call's own -/
theorem wp_row_bs {o : Oper} {a : Act} {K : Act → World → Prop} {Q : Exit → Act → World → Prop} (s x : Operand) (t : TypeId)
    (ho : o.op = .call { callee := .builtin .append, args := #[s, x], argTypes := #[t, t] })
    (hinfo : (P.info? 5).map (fun i => (i.zero, i.size, i.bytes)) = some (some (.int .u8 0), 1, 1)) (ht : P.underlying t = some (.slice 5))
    (v : Value) (xs : List UInt8) (hs : a.eval s = v) (hown : Row w v xs) (A : Option Addr) (m c : Nat) (ys : List UInt8) (hx : a.eval x = .slice A m c) (hbs : Bs w A m c ys)
    (hb : xs.length + ys.length ≤ 140737488355328)
    (h : ∀ A' c' w', Row w' (.slice A' (xs.length + ys.length) c') (xs ++ ys) → w.grownBy w' v.ownBlock → ((Value.slice A' (xs.length + ys.length) c').ownBlock = v.ownBlock ∨ (Value.slice A' (xs.length + ys.length) c').ownBlock = some w.heap.size) → K (a.put o.dst (.slice A' (xs.length + ys.length) c')) w') : o.wp P a w K Q := by
  obtain ⟨i, hi, hz, hs1, hb1⟩ := info_parts hinfo
  have hl := hbs.1
  subst hl
  have hrun : ∃ v' w', (Builtin.append_ #[t, t] o.type #[v, .slice A ys.length c]).run P w = .ok v' w' ∧ Row w' v' (xs ++ ys) ∧ w.grownBy w' v.ownBlock ∧ (v'.ownBlock = v.ownBlock ∨ v'.ownBlock = some w.heap.size) := by
    have main : ∀ (ad : Addr), A = some ad → (∀ j u, (u8s ys)[j]? = some u → w.cell? (ad.add j) = some u) →
        ∃ v' w', (Builtin.append_ #[t, t] o.type #[v, .slice A ys.length c]).run P w = .ok v' w' ∧ Row w' v' (xs ++ ys) ∧ w.grownBy w' v.ownBlock ∧ (v'.ownBlock = v.ownBlock ∨ v'.ownBlock = some w.heap.size) := fun ad hA hnews' => by
      obtain ⟨v', w', hr, h1, h2, _, h4⟩ := run_append_own_at (P := P) w 0 t o.type 5 i (.int .u8 0) 1 1 ht hi hz hs1 hb1 rfl (by decide) v xs.length (u8s xs) hown ad ys.length c (u8s ys) (by rw [u8s_length]; omega) hnews' (u8s_one ys) (by unfold maxLen; omega) (by omega) (Nat.zero_le _)
      have hrow : Row w' v' (xs ++ ys) := by
        unfold Row
        rw [List.length_append, u8s_append]
        exact h1
      exact ⟨v', w', by rw [hA]; exact hr, hrow, h2, h4⟩
    rcases Nat.eq_zero_or_pos ys.length with h0 | h0
    · have hnil : ys = [] := List.eq_nil_of_length_eq_zero h0
      subst hnil
      cases A with
      | none =>
        refine ⟨v, w, ?_, by rw [List.append_nil]; exact hown, ⟨rfl, rfl, rfl, Nat.le_refl _, fun _ _ _ => rfl⟩, .inl rfl⟩
        rcases hown.2 with ⟨rfl, _⟩ | ⟨g, cap, cur, rfl, _, _, hnc, _⟩
        · simp [Builtin.append_, run_underlying ht, sizeOf, typeInfo, hi, Builtin.lenOf, Builtin.firstCells]
        · simp [Builtin.append_, run_underlying ht, sizeOf, typeInfo, hi, Builtin.lenOf, Builtin.firstCells, hnc, storeCells]
      | some ad => exact main ad rfl (by intro j u hu; simp [u8s] at hu)
    · obtain ⟨b, off, rfl, hc⟩ := hbs.2.2.2 h0
      refine main _ rfl ?_
      intro j u hu
      rw [u8s_get] at hu
      obtain ⟨y, hy, rfl⟩ := Option.map_eq_some_iff.1 hu
      have hadd : (⟨b, off, none⟩ : Addr).add j = ⟨b, off + j, none⟩ := by unfold Addr.add; split <;> simp_all
      rw [hadd]
      exact hc j y hy
  obtain ⟨v', w', hr, hrow, h2, h4⟩ := hrun
  obtain ⟨A', c', hv, _⟩ := hrow.form
  rw [List.length_append] at hv
  subst hv
  unfold Oper.wp execOp
  simp only [ho, resolve, invoke, builtin, Sem.run_bind, Sem.run_pure, Result.andThen_ok, List.map_toArray, List.map_cons, List.map_nil, hs, hx, hr]
  exact h A' c' w' hrow h2 h4
theorem wpList_row_bs {ops : Array Oper} {rest : List Oper} {o : Oper} {a : Act} {Q : Exit → Act → World → Prop} (hgd : o.guard = none) (s x : Operand) (t : TypeId)
    (ho : o.op = .call { callee := .builtin .append, args := #[s, x], argTypes := #[t, t] })
    (hinfo : (P.info? 5).map (fun i => (i.zero, i.size, i.bytes)) = some (some (.int .u8 0), 1, 1)) (ht : P.underlying t = some (.slice 5))
    (v : Value) (xs : List UInt8) (hs : a.eval s = v) (hown : Row w v xs) (A : Option Addr) (m c : Nat) (ys : List UInt8) (hx : a.eval x = .slice A m c) (hbs : Bs w A m c ys)
    (hb : xs.length + ys.length ≤ 140737488355328)
    (h : ∀ A' c' w', Row w' (.slice A' (xs.length + ys.length) c') (xs ++ ys) → w.grownBy w' v.ownBlock → ((Value.slice A' (xs.length + ys.length) c').ownBlock = v.ownBlock ∨ (Value.slice A' (xs.length + ys.length) c').ownBlock = some w.heap.size) → wpList P ops Q rest (a.put o.dst (.slice A' (xs.length + ys.length) c')) w') : wpList P ops Q (o :: rest) a w :=
  wpList_plain hgd fun _ hK => wp_row_bs w s x t ho hinfo ht v xs hs hown A m c ys hx hbs hb fun A' c' w' h1 h2 h3 => hK _ _ (h A' c' w' h1 h2 h3)
end

theorem Bs.grown {w w' : World} {A : Option Addr} {n c : Nat} {xs : List UInt8} {row : Option Nat} (h : Bs w A n c xs) (hg : w.grownBy w' row) (hn : ∀ a, A = some a → row ≠ some a.block) : Bs w' A n c xs :=
  h.keep fun _ p v hp ⟨a, ha, e⟩ => hg.cell hp (fun e' => hn a ha (by rw [← e', e]))

def slen : Value → Nat
  | .slice _ n _ => n
  | _ => 0
/-- A Writer at block bw: what it holds, and whether something was not right. -/
def Wr (w : World) (bw : Nat) (v : Value) (xs : List UInt8) (bad : Bool) : Prop := Blk w bw 93 #[v, .bool bad] ∧ Row w v xs
def toEnc (bad : Bool) (xs : List UInt8) : Enc.Enc := if bad then none else some xs
/-- What a Writer's method does. -/
def WrEnd (bw : Nat) (v : Value) (xs : List UInt8) (bad : Bool) (w : World) (more : Nat) (r : Enc.Enc) (e : Ending) (w' : World) : Prop :=
  e = .returned (.tuple #[]) ∧ ∃ v' xs' bad', Wr w' bw v' xs' bad' ∧ toEnc bad' xs' = Enc.cat (toEnc bad xs) r ∧ xs'.length ≤ xs.length + more ∧ PenGo bw v w v' w'
theorem toEnc_none (xs xs' : List UInt8) (bad : Bool) : toEnc true xs' = Enc.cat (toEnc bad xs) none := by rw [Enc.cat_none_r]; rfl
theorem toEnc_some (xs ys : List UInt8) (bad : Bool) : toEnc bad (xs ++ ys) = Enc.cat (toEnc bad xs) (some ys) := by cases bad <;> rfl

set_option maxRecDepth 20000 in
set_option maxHeartbeats 1000000 in
theorem wnumber_no (bw : Nat) (v : Value) (xs : List UInt8) (bad : Bool) (n lo hi : Int) (w : World) (h : n < lo ∨ hi < n) (hp : Wr w bw v xs bad) :
    Calls Try.prog 58 #[.pointer (some ⟨bw, 0, none⟩), .int .i64 n, .int .i64 lo, .int .i64 hi] w (WrEnd bw v xs bad w 8 none) := by
  have hc := hp.1.cell 1
  have hf := hp.1.frozen 1
  simp only [List.getElem?_toArray, List.getElem?_cons_zero, List.getElem?_cons_succ] at hc
  have hend : WrEnd bw v xs bad w 8 none (.returned (.tuple #[])) (w.setCell ⟨bw, 1, none⟩ (.bool true)) := by
    refine ⟨rfl, v, xs, true, ⟨hp.1.set_ 1 _, hp.2.far (p := ⟨bw, 1, none⟩) (hp.2.ne_blk hp.1 (by decide)) _⟩, toEnc_none _ _ _, by omega, ⟨(Touch.refl _ w).setCell (p := ⟨bw, 1, none⟩) (.inr (.inl rfl)) _, .inl rfl⟩⟩
  have HEND := Lib.hid hend
  clear hend hp
  rcases h with h | h
  · go_enter Try.func58, Try.ntmps58
    go_wp2
    refine bodyPost_ret (results_none rfl _ _ _) rfl ?_
    exact HEND.out
  · go_enter Try.func58, Try.ntmps58
    go_wp2
    all_goals
      refine bodyPost_ret (results_none rfl _ _ _) rfl ?_
      exact HEND.out

set_option maxRecDepth 20000 in
set_option maxHeartbeats 2000000 in
theorem wnumber_yes (bw : Nat) (v : Value) (xs : List UInt8) (bad : Bool) (n : Nat) (lo hi : Int) (w : World) (h1 : lo ≤ (n : Int)) (h2 : (n : Int) ≤ hi) (h3 : hi ≤ 4503599627370496)
    (hp : Wr w bw v xs bad) (hb : xs.length ≤ 140737488355000) :
    Calls Try.prog 58 #[.pointer (some ⟨bw, 0, none⟩), .int .i64 n, .int .i64 lo, .int .i64 hi] w (WrEnd bw v xs bad w 8 (some (Enc.numB n))) := by
  have hns := Enc.nsz_7 (n := n) (by omega)
  have HP := Lib.hid hp; clear hp
  go_enter Try.func58, Try.ntmps58
  go_wp2
  go_loopw [8, 9] (fun b x wr => ∃ (j : Nat) (A : Option Addr) (c : Nat), j ≤ Enc.nsz n ∧ b = .slice A j c ∧ x = .int .i64 ((n / 2 ^ (8 * j) : Nat) : Int) ∧ Row wr (.slice A j c) (Enc.be j n) ∧ Fresh w wr ∧ (∀ k, (Value.slice A j c).ownBlock = some k → w.heap.size ≤ k)) (fun b _ _ => 8 - slen b)
  case atStart => exact ⟨0, none, 0, by omega, rfl, by simp, Row.nil_ _, Touch.refl _ _, by simp [Value.ownBlock]⟩
  case round =>
    obtain ⟨j, A, c, hj, rfl, rfl, hrow, hfr, hnew⟩ := hrel
    have HROW := Lib.hid hrow; clear hrow
    have HFR := Lib.hid hfr; clear hfr
    have HNEW := Lib.hid hnew; clear hnew
    have hiff := Enc.lt_nsz n j
    by_cases hlt : j < Enc.nsz n
    · have hpos : 0 < n / 2 ^ (8 * j) := hiff.1 hlt
      have hle : n / 2 ^ (8 * j) ≤ n := Nat.div_le_self _ _
      have hby : (((n / 2 ^ (8 * j) : Nat) : Int) % 256) = (((UInt8.ofNat (n / 2 ^ (8 * j))).toNat : Nat) : Int) := by rw [ofNat_u8]
      have HBY := Lib.hid hby; clear hby hiff
      have hbl : (Enc.be j n).length = j := Enc.be_length j n
      have HBL := Lib.hid hbl; clear hbl
      have hdv : n / 2 ^ (8 * (j + 1)) = n / 2 ^ (8 * j) / 256 := by
        rw [Nat.div_div_eq_div_mul, show 8 * (j + 1) = 8 * j + 8 from by omega, Nat.pow_add]
      have HDV := Lib.hid hdv; clear hdv
      obtain ⟨q, hq⟩ : ∃ q, q = n / 2 ^ (8 * j) := ⟨_, rfl⟩
      rw [← hq] at hpos hle HBY HDV ⊢
      have HQ := Lib.hid hq; clear hq
      go_wp2_with (at_builtin; go_loud (refine wpList_row_bs _ rfl _ _ 24 rfl Try.info5 Try.underlying24 (.slice (some ⟨wr.heap.size, 0, none⟩) 1 1) [UInt8.ofNat q] rfl (Row.lit1 _ _ _ HBY.out) A j c (Enc.be j n) rfl (HROW.out.bs.alloc _) (by simp only [List.length_singleton]; have := HBL.out; omega) ?_); intro A2 c2 w2 hr2 hg2 ho2)
      have hbe : Enc.be (j + 1) n = [UInt8.ofNat q] ++ Enc.be j n := by rw [HQ.out]; rfl
      go_roundw
      case rel =>
        refine ⟨j + 1, A2, c2, by omega, by rw [HBL.out, Nat.add_comm], by rw [HDV.out]; rfl, ?_, ?_, ?_⟩
        · rw [hbe]
          have h0 := hr2
          simp only [List.length_singleton, HBL.out] at h0
          rw [Nat.add_comm] at h0
          exact h0
        · exact (HFR.out.alloc _).grown hg2 (fun k hk => by simp only [Value.ownBlock, Option.some.injEq] at hk; subst hk; exact .inl HFR.out.size)
        · intro k hk
          have hs := HFR.out.size
          have e : ∀ a b, (Value.slice A2 a c2).ownBlock = (Value.slice A2 b c2).ownBlock := fun a b => by cases A2 <;> rfl
          rw [e _ ([UInt8.ofNat q].length + (Enc.be j n).length)] at hk
          rcases ho2 with h | h <;> rw [h] at hk
          · simp only [Value.ownBlock, Option.some.injEq] at hk; omega
          · simp only [World.size_alloc, Option.some.injEq] at hk; omega
      case measure =>
        simp only [slen]
        rw [HBL.out]; omega
    · obtain rfl : j = Enc.nsz n := by omega
      have hz : n / 2 ^ (8 * Enc.nsz n) = 0 := Nat.eq_zero_of_not_pos fun h => hlt (hiff.2 h)
      rw [hz]
      clear hz hiff hlt
      have hnu : ((Enc.nsz n : Nat) : Int) = (((UInt8.ofNat (Enc.nsz n)).toNat : Nat) : Int) := by rw [ofNat_u8]; omega
      have HNU := Lib.hid hnu; clear hnu
      have hne : v.ownBlock ≠ some bw := HP.out.2.ne_blk HP.out.1 (by decide)
      have HNE := Lib.hid hne; clear hne
      have hB := HP.out.1.touch HFR.out id
      have hR := HP.out.2.touch HFR.out (fun _ _ => id)
      have HB := Lib.hid hB; clear hB
      have HR := Lib.hid hR; clear hR
      have hc := HB.out.cell 0
      simp only [List.getElem?_toArray, List.getElem?_cons_zero] at hc
      have hc' : ∀ o, (wr.alloc o).cell? ⟨bw, 0, none⟩ = some v := fun o => (HB.out.alloc o).cell 0
      have hvlt : ∀ k, v.ownBlock = some k → k < w.heap.size := HP.out.2.lt
      have HVLT := Lib.hid hvlt; clear hvlt
      have hbl := Enc.be_length (Enc.nsz n) n
      have HBL := Lib.hid hbl; clear hbl
      go_wp2_with (first | (at_builtin; refine wpList_row _ rfl (.tmp 36) (.tmp 40) 24 rfl Try.info5 Try.underlying24 v xs rfl (HR.out.alloc _) wr.heap.size 1 1 [UInt8.ofNat (Enc.nsz n)] rfl rfl (new_u8 wr _ _ _ HNU.out) (by simp only [List.length_singleton]; omega) ?_; intro A2 c2 w2 hr2 hg2 ho2; have hB2 := Lib.hid ((HB.out.alloc _).grown hg2 (fun e => HNE.out e.symm)); have hs2 := Lib.hid (HROW.out.bs.alloc (.cells #[.int .u8 (Enc.nsz n : Int)] 5) |>.grown hg2 (fun a ha e => by have h1 := HNEW.out a.block (by subst ha; rfl); have h2 := HVLT.out _ e; omega)); have HR2 := Lib.hid hr2; have HG2 := Lib.hid hg2; have HO2 := Lib.hid ho2; clear hr2 hg2 ho2) | (at_builtin; go_loud (refine wpList_row_bs _ rfl (.tmp 41) (.tmp 42) 24 rfl Try.info5 Try.underlying24 (.slice A2 (xs.length + 1) c2) (xs ++ [UInt8.ofNat (Enc.nsz n)]) rfl (by exact HR2.out) A _ c (Enc.be (Enc.nsz n) n) rfl hs2.out (by simp only [List.length_append, List.length_singleton]; have := HBL.out; omega) ?_); intro A3 c3 w3 hr3 hg3 ho3; have hB3 := hB2.out.grown hg3 (fun e => HR2.out.ne_blk hB2.out (by decide) e.symm); have hc3 := hB3.cell 0; have hf3 := hB3.frozen 0; simp only [List.getElem?_toArray, List.getElem?_cons_zero] at hc3))
      have hend : WrEnd bw v xs bad w 8 (some (Enc.numB n)) (.returned (.tuple #[])) (w3.setCell ⟨bw, 0, none⟩ (.slice A3 (xs.length + 1 + (Enc.be (Enc.nsz n) n).length) c3)) := by
        have hne3 : (Value.slice A3 ((xs ++ [UInt8.ofNat (Enc.nsz n)]).length + (Enc.be (Enc.nsz n) n).length) c3).ownBlock ≠ some bw := hr3.ne_blk hB3 (by decide)
        have hlen : (xs ++ [UInt8.ofNat (Enc.nsz n)]).length = xs.length + 1 := by simp
        rw [hlen] at hr3 ho3 hne3
        have hsz := HFR.out.size
        have hown2 : ∀ k, (Value.slice A2 (xs.length + 1) c2).ownBlock = some k → v.ownBlock = some k ∨ w.heap.size ≤ k := by
          intro k hk
          rcases HO2.out with e | e
          · exact .inl (e.symm.trans hk)
          · have h0 : some (wr.alloc (.cells #[.int .u8 (Enc.nsz n : Int)] 5)).heap.size = some k := e.symm.trans hk
            simp only [World.size_alloc, Option.some.injEq] at h0
            omega
        have ht2 : Touch (PenS bw v) w w2 := ((HFR.out.mono (S' := PenS bw v) (fun _ _ h => h.elim)).alloc _).grown HG2.out (fun k hk => .inr (.inr hk))
        have ht3 : Touch (PenS bw v) w w3 := ht2.grown hg3 (fun k hk => by
          rcases hown2 k hk with h | h
          · exact .inr (.inr h)
          · exact .inl h)
        refine ⟨rfl, _, xs ++ [UInt8.ofNat (Enc.nsz n)] ++ Enc.be (Enc.nsz n) n, bad, ⟨hB3.set_ 0 _, hr3.far (p := ⟨bw, 0, none⟩) hne3 _⟩, ?_, ?_, ht3.setCell (p := ⟨bw, 0, none⟩) (.inr (.inl rfl)) _, ?_⟩
        · rw [List.append_assoc, toEnc_some]; rfl
        · simp only [List.length_append, List.length_singleton]; have := HBL.out; omega
        · rcases ho3 with e | e
          · rcases HO2.out with e2 | e2
            · exact .inl (e.trans e2)
            · refine .inr fun k hk => ?_
              rcases hown2 k (e.symm.trans hk) with h | h
              · have h0 : some (wr.alloc (.cells #[.int .u8 (Enc.nsz n : Int)] 5)).heap.size = some k := e2.symm.trans (e.symm.trans hk)
                simp only [World.size_alloc, Option.some.injEq] at h0
                omega
              · exact h
          · refine .inr fun k hk => ?_
            have h0 : some w2.heap.size = some k := e.symm.trans hk
            injection h0 with h0
            have := ht2.size
            omega
      have HEND := Lib.hid hend
      go_end0
      exact HEND.out

theorem wnumber_any (bw : Nat) (v : Value) (xs : List UInt8) (bad : Bool) (n lo hi : Int) (w : World) (h1 : 0 ≤ lo) (h3 : hi ≤ 4503599627370496) (hp : Wr w bw v xs bad) (hb : xs.length ≤ 140737488355000) :
    Calls Try.prog 58 #[.pointer (some ⟨bw, 0, none⟩), .int .i64 n, .int .i64 lo, .int .i64 hi] w (WrEnd bw v xs bad w 8 (Enc.number n lo hi)) := by
  unfold Enc.number
  by_cases h : n < lo ∨ hi < n
  · rw [if_pos h]
    exact wnumber_no bw v xs bad n lo hi w h hp
  · rw [if_neg h]
    obtain ⟨m, rfl⟩ := Int.eq_ofNat_of_zero_le (show 0 ≤ n by omega)
    rw [Int.toNat_natCast]
    exact wnumber_yes bw v xs bad m lo hi w (by omega) (by omega) h3 hp hb

set_option maxRecDepth 20000 in
set_option maxHeartbeats 1000000 in
theorem wsigned_any (bw : Nat) (v : Value) (xs : List UInt8) (bad : Bool) (n : Int) (w : World) (hp : Wr w bw v xs bad) (hb : xs.length ≤ 140737488355000) :
    Calls Try.prog 60 #[.pointer (some ⟨bw, 0, none⟩), .int .i64 n] w (WrEnd bw v xs bad w 8 (Enc.signed n)) := by
  have hc := hp.1.cell 1
  have hf := hp.1.frozen 1
  simp only [List.getElem?_toArray, List.getElem?_cons_zero, List.getElem?_cons_succ] at hc
  have hend : ∀ r : Enc.Enc, r = none → WrEnd bw v xs bad w 8 r (.returned (.tuple #[])) (w.setCell ⟨bw, 1, none⟩ (.bool true)) := by
    rintro r rfl
    refine ⟨rfl, v, xs, true, ⟨hp.1.set_ 1 _, hp.2.far (p := ⟨bw, 1, none⟩) (hp.2.ne_blk hp.1 (by decide)) _⟩, toEnc_none _ _ _, by omega, ⟨(Touch.refl _ w).setCell (p := ⟨bw, 1, none⟩) (.inr (.inl rfl)) _, .inl rfl⟩⟩
  have HEND := Lib.hid hend; clear hend
  have HP := Lib.hid hp; clear hp
  by_cases h1 : n < -2251799813685248
  · have hs : Enc.signed n = none := if_pos (.inl h1)
    have HS := Lib.hid hs; clear hs
    go_enter Try.func60, Try.ntmps60
    go_wp2_with fail
    refine bodyPost_ret (results_none rfl _ _ _) rfl ?_
    exact HEND.out _ HS.out
  · by_cases h2 : 2251799813685248 < n
    · have hs : Enc.signed n = none := if_pos (.inr h2)
      have HS := Lib.hid hs; clear hs
      go_enter Try.func60, Try.ntmps60
      go_wp2_with fail
      refine bodyPost_ret (results_none rfl _ _ _) rfl ?_
      exact HEND.out _ HS.out
    · by_cases h3 : n < 0
      · have hs : Enc.signed n = Enc.plain (-2 * n - 1) := by unfold Enc.signed; rw [if_neg (by omega), if_pos h3]
        have HS := Lib.hid hs; clear hs
        have HK := Lib.hid (wnumber_any bw v xs bad (-2 * n - 1) 0 4503599627370496 w (by omega) (by omega) HP.out hb)
        have hm : IntKind.i64.wrap (-2 * n) = -2 * n := IntWalk.i64_in _ (by omega)
        go_enter Try.func60, Try.ntmps60
        go_wp2_with fail
        refine HK.out.mono ?_
        rintro e w1 ⟨rfl, h⟩
        have H := Lib.hid h; clear h
        go_wp2_with fail
        go_end0
        rw [HS.out]
        exact ⟨rfl, H.out⟩
      · have hs : Enc.signed n = Enc.plain (2 * n) := by unfold Enc.signed; rw [if_neg (by omega), if_neg h3]
        have HS := Lib.hid hs; clear hs
        have HK := Lib.hid (wnumber_any bw v xs bad (2 * n) 0 4503599627370496 w (by omega) (by omega) HP.out hb)
        go_enter Try.func60, Try.ntmps60
        go_wp2_with fail
        refine HK.out.mono ?_
        rintro e w1 ⟨rfl, h⟩
        have H := Lib.hid h; clear h
        go_wp2_with fail
        go_end0
        rw [HS.out]
        exact ⟨rfl, H.out⟩

/-- the Writer's row has grown, its cell is stored -/
theorem wr_app {w w2 : World} {bw : Nat} {v : Value} {xs zs : List UInt8} {bad : Bool} {A : Option Addr} {n c : Nat} (hp : Wr w bw v xs bad) (hr : Row w2 (.slice A n c) zs)
    (hg : w.grownBy w2 v.ownBlock) (ho : (Value.slice A n c).ownBlock = v.ownBlock ∨ (Value.slice A n c).ownBlock = some w.heap.size) :
    Wr (w2.setCell ⟨bw, 0, none⟩ (.slice A n c)) bw (.slice A n c) zs bad ∧ PenGo bw v w (.slice A n c) (w2.setCell ⟨bw, 0, none⟩ (.slice A n c)) := by
  have hne : v.ownBlock ≠ some bw := hp.2.ne_blk hp.1 (by decide)
  have hB2 : Blk w2 bw 93 #[v, .bool bad] := hp.1.grown hg (fun e => hne e.symm)
  have hne2 : (Value.slice A n c).ownBlock ≠ some bw := hr.ne_blk hB2 (by decide)
  refine ⟨⟨hB2.set_ 0 _, hr.far (p := ⟨bw, 0, none⟩) hne2 _⟩, ((Touch.refl _ w).grown hg (fun k hk => .inr (.inr hk))).setCell (p := ⟨bw, 0, none⟩) (.inr (.inl rfl)) _, ?_⟩
  rcases ho with e | e
  · exact .inl e
  · exact .inr fun k hk => by
      rw [e] at hk
      injection hk with hk
      omega

set_option maxRecDepth 20000 in
set_option maxHeartbeats 1000000 in
theorem wtext_any (bw : Nat) (v : Value) (xs : List UInt8) (bad : Bool) (s : ByteArray) (w : World) (hp : Wr w bw v xs bad) (hb : xs.length + s.size + 400 ≤ 140737488355328) :
    Calls Try.prog 59 #[.pointer (some ⟨bw, 0, none⟩), .string s] w (WrEnd bw v xs bad w (s.size + 8) (Enc.text s.data.toList)) := by
  have hsl : s.data.toList.length = s.size := by rw [Array.length_toList]; rfl
  have HK := Lib.hid (wnumber_any bw v xs bad s.size 0 1048576 w (by omega) (by omega) hp (by omega))
  have HSL := Lib.hid hsl; clear hp hsl
  go_enter Try.func59, Try.ntmps59
  go_wp2_with fail
  refine HK.out.mono ?_
  rintro e w1 ⟨rfl, v1, ys, bad1, hp1, hr1, hl1, hg1⟩
  have hc1 := hp1.1.cell 0
  have hf1 := hp1.1.frozen 0
  simp only [List.getElem?_toArray, List.getElem?_cons_zero] at hc1
  have HP1 := Lib.hid hp1; clear hp1
  have HG1 := Lib.hid hg1; clear hg1
  have HR1 := Lib.hid hr1; clear hr1
  have hne : v1.ownBlock ≠ some bw := HP1.out.2.ne_blk HP1.out.1 (by decide)
  have HNE := Lib.hid hne; clear hne
  go_wp2_with (at_builtin; refine wpList_row_str _ rfl _ _ 24 9 rfl Try.info5 Try.underlying24 Try.underlying9 v1 ys rfl HP1.out.2 s rfl (by omega) ?_; intro A2 c2 w2 hr2 hg2 ho2; have hB2 := HP1.out.1.grown hg2 (fun e => HNE.out e.symm); have hc2 := hB2.cell 0; have hf2 := hB2.frozen 0; simp only [List.getElem?_toArray, List.getElem?_cons_zero] at hc2)
  have hpb := wr_app HP1.out hr2 hg2 ho2
  clear hf2 hc2 hB2 ho2 hg2 hr2 hc1 hf1
  go_end0
  refine ⟨rfl, _, _, bad1, hpb.1, ?_, ?_, HG1.out.trans hpb.2⟩
  · rw [toEnc_some, HR1.out, Enc.cat_assoc]
    unfold Enc.text
    rw [HSL.out]
  · rw [List.length_append]; have := HSL.out; omega

set_option maxRecDepth 20000 in
set_option maxHeartbeats 1000000 in
theorem wdone_any (bw : Nat) (v : Value) (xs : List UInt8) (bad : Bool) (w : World) (hp : Wr w bw v xs bad) :
    Calls Try.prog 61 #[.pointer (some ⟨bw, 0, none⟩)] w fun e w' => w = w' ∧ e = .returned (.tuple (if bad then #[.slice none 0 0, .int .i64 2] else #[v, .int .i64 0])) := by
  have hc := hp.1.cell 1
  have hc0 := hp.1.cell 0
  simp only [List.getElem?_toArray, List.getElem?_cons_zero, List.getElem?_cons_succ] at hc hc0
  clear hp
  cases bad
  · go_enter Try.func61, Try.ntmps61
    go_wp2_with fail
    go_ret2
    exact ⟨rfl, rfl⟩
  · go_enter Try.func61, Try.ntmps61
    go_wp2_with fail
    go_ret2
    exact ⟨rfl, rfl⟩
end Go.Proofs.Ytdfhdanfigpbpaa
