/- The contract of what the codec's Frames returns, each round told with the bytes behind its payload. Conditions stand with it. -/
import Derived.Test.YtdfhdanfigpbpaaSeqO
namespace Go.Proofs.Ytdfhdanfigpbpaa
open Go.RowKit Go.Shelf
attribute [local go_sem] Oper.semAt_some

/-- a frame told: its place, the slice of its payload, the payload -/
abbrev FrY := Int × Value × List UInt8
def frEncY (x : FrY) : Array Value := #[.int .i64 x.1, x.2.1]
def FrOk (x : FrY) (W : World) : Prop := ∃ (A : Option Addr) (c : Nat), x.2.1 = .slice A x.2.2.length c ∧ Bs W A x.2.2.length c x.2.2
/-- the frames that lie behind p, at most f of them: places and payloads -/
def told2 (xs : List UInt8) : Nat → Nat → List (Int × List UInt8)
  | 0, _ => []
  | f + 1, p => match Enc.unframe (xs.drop p) with
    | none => []
    | some (q, k) => (((p : Nat) : Int), q) :: told2 xs f (p + k)
def said (l : List FrY) : List (Int × List UInt8) := l.map fun x => (x.1, x.2.2)
theorem told2_none {xs : List UInt8} {p f : Nat} (h : Enc.unframe (xs.drop p) = none) : told2 xs (f + 1) p = [] := by simp [told2, h]
theorem told2_some {xs q : List UInt8} {p f k : Nat} (h : Enc.unframe (xs.drop p) = some (q, k)) : told2 xs (f + 1) p = (((p : Nat) : Int), q) :: told2 xs f (p + k) := by simp [told2, h]

set_option maxRecDepth 100000 in
set_option maxHeartbeats 4000000 in
theorem frames_told (m fb : Nat) (B : Option Addr) (n c : Nat) (xs : List UInt8) (w : World) (hm : 1 ≤ m) (hb : Blk w fb 24 #[.slice B n c]) (hr : Row w (.slice B n c) xs) (hn : n ≤ 1000000000) :
    SeqO Fence.wide m Try.prog 102 #[.pointer (some ⟨fb, 0, none⟩)] frEncY FrOk (FrKp fb (.slice B n c)) (fun ys => said ys = told2 xs (n + 1) 0) (fun pre => ∃ rest, said pre ++ rest = told2 xs (n + 1) 0) (n + 1) w := fun l J Jx W hW hJ hJx hY h0 => by
  have hxl : xs.length = n := hr.bs.1
  have hnc := hr.bs.2.1
  have hcm := hr.bs.2.2.1
  unfold maxLen at hcm
  have hBW : Blk W fb 24 #[.slice B n c] := (hW.block fb hb.lt).trans hb
  have hRW : Row W (.slice B n c) xs := by
    refine ⟨hr.1, ?_⟩
    rcases hr.2 with hnil | ⟨g, cap, cur, e, hb', hg, rest⟩
    · exact .inl hnil
    · exact .inr ⟨g, cap, cur, e, hb', (hW.block g (Array.getElem?_eq_some_iff.1 hg).1).trans hg, rest⟩
  refine callsIn_of_wp Try.func102 rfl trivial ?_ rfl
  simp only [Try.ntmps102, List.size_toArray, List.length_cons, List.length_nil, Nat.reduceAdd, Nat.reduceSub, Array.replicate_succ, Array.replicate_zero, List.push_toArray, List.append_toArray, List.nil_append, List.cons_append]
  refine wpIn_wide.2 ?_
  have HR := Lib.hid hr; have HB0 := Lib.hid hBW; have HR0 := Lib.hid hRW; have HJ := Lib.hid hJ; have HY := Lib.hid hY; have HJ0 := Lib.hid h0
  clear hr hBW hRW hJ hJx hY h0 hb hW
  go_wp2_with fail
  refine wp_scope_head 0 (fun a' wr => ∃ (p : Nat) (u2 u4 u5 u6 u7 u8 u9 u10 u11 u12 u13 u14 u15 u16 u17 u18 u19 u20 u21 u22 u23 u24 u25 u26 : Value), a' = { tmps := #[.func (.yield l) #[] #[], .pointer (some ⟨fb, 0, none⟩), u2, .int .i64 p, u4, u5, u6, u7, u8, u9, u10, u11, u12, u13, u14, u15, u16, u17, u18, u19, u20, u21, u22, u23, u24, u25, u26], defers := [] } ∧
      ∃ (pre : List FrY) (f : Nat), J pre wr ∧ Blk wr fb 24 #[.slice B n c] ∧ Row wr (.slice B n c) xs ∧ said pre ++ told2 xs f p = told2 xs (n + 1) 0 ∧ p ≤ n ∧ n < p + f ∧ pre.length ≤ p) (fun a' _ => n - (intOf (a'.tmps.getD 3 undef)).toNat) rfl ?_ ?_
  · go_wp2_with fail
    exact ⟨0, _, _, _, _, _, _, _, _, _, _, _, _, _, _, _, _, _, _, _, _, _, _, _, _, rfl, [], n + 1, HJ0.out, HB0.out, HR0.out, rfl, Nat.zero_le _, by omega, Nat.zero_le _⟩
  · rintro a1 wr ⟨p, u2, u4, u5, u6, u7, u8, u9, u10, u11, u12, u13, u14, u15, u16, u17, u18, u19, u20, u21, u22, u23, u24, u25, u26, rfl, pre, f, hJs, hbl, hrw, hof, hpn, hnf, hpl⟩
    refine wpIn_wide (n := m).1 ?_
    have hbs := hrw.bs
    have HC := Lib.hid (show ∀ B' c', (c = p → B' = B ∧ c' = 0) → (c ≠ p → B' = Option.map (fun x => x.add p) B ∧ c' = c - p) → CallsIn Fence.wide (m - 1) Try.prog 49 #[.slice B' (n - p) c'] wr (fun e w' => Fresh wr w' ∧ Unf w' e (Enc.unframe (xs.drop p))) from by
      intro B' c' e1 e2
      refine callsIn_wide.2 (unframe_any B' (n - p) c' (xs.drop p) wr ?_ (by omega))
      by_cases hcp : c = p
      · obtain ⟨rfl, rfl⟩ := e1 hcp
        exact ⟨by rw [List.length_drop]; omega, by omega, by unfold maxLen; omega, fun h => by omega⟩
      · obtain ⟨rfl, rfl⟩ := e2 hcp
        by_cases hn0 : n = 0
        · exact ⟨by rw [List.length_drop]; omega, by omega, by unfold maxLen; omega, fun h => by omega⟩
        · obtain ⟨b, o, rfl⟩ := hbs.at_ (by omega)
          have := hbs.drop_ (k := p) hpn
          have e : Option.map (fun x : Addr => x.add p) (some ⟨b, o, none⟩) = some ⟨b, o + p, none⟩ := by
            by_cases h0 : p = 0 <;> simp [Addr.add, h0]
          rw [e]
          exact this)
    have hc1 := hbl.cell 0
    simp only [List.getElem?_toArray, List.getElem?_cons_zero] at hc1
    have HBL := Lib.hid hbl; have HRW := Lib.hid hrw; have HJS := Lib.hid hJs
    obtain ⟨f, rfl⟩ : ∃ f', f = f' + 1 := ⟨f - 1, by omega⟩
    rcases hu : Enc.unframe (xs.drop p) with _ | ⟨pl, k⟩
    · rw [hu] at HC
      have HOF := Lib.hid (show said pre = told2 xs (n + 1) 0 by rw [← hof, told2_none hu]; simp)
      clear hbl hrw hJs hof hu hbs
      by_cases hcp : c = p
      · gi_wp2
        refine ⟨trivial, (HC.out B 0 (fun _ => ⟨rfl, rfl⟩) (fun h => absurd hcp h)).mono ?_⟩
        rintro e w1 ⟨hf, rfl⟩
        have HJ1 := Lib.hid (HJ.out pre _ _ none HJS.out hf.grown_ (fun r e => by cases e))
        clear hf
        gi_wp2
        refine ⟨fun _ h => (by cases h), ?_⟩
        gi_wp2
        simp only [Exit.jump]
        refine bodyPost_ret (results_none rfl _ _ _) rfl ?_
        exact ⟨⟨_, rfl⟩, .inl ⟨pre, HOF.out, HJ1.out⟩⟩
      · gi_wp2
        refine ⟨trivial, (HC.out (Option.map (fun x => x.add p) B) (c - p) (fun h => absurd h hcp) (fun _ => ⟨rfl, rfl⟩)).mono ?_⟩
        rintro e w1 ⟨hf, rfl⟩
        have HJ1 := Lib.hid (HJ.out pre _ _ none HJS.out hf.grown_ (fun r e => by cases e))
        clear hf
        gi_wp2
        refine ⟨fun _ h => (by cases h), ?_⟩
        gi_wp2
        simp only [Exit.jump]
        refine bodyPost_ret (results_none rfl _ _ _) rfl ?_
        exact ⟨⟨_, rfl⟩, .inl ⟨pre, HOF.out, HJ1.out⟩⟩
    · rw [hu] at HC
      have hk := Enc.unframe_le hu
      rw [List.length_drop] at hk
      have HOF := Lib.hid (fun v : Value => show said (pre ++ [(((p : Nat) : Int), v, pl)]) ++ told2 xs f (p + k) = told2 xs (n + 1) 0 by rw [← hof, told2_some hu]; simp [said])
      clear hbl hrw hJs hof hu hbs
      by_cases hcp : c = p
      · gi_wp2
        refine ⟨trivial, (HC.out B 0 (fun _ => ⟨rfl, rfl⟩) (fun h => absurd hcp h)).mono ?_⟩
        rintro e w1 ⟨hf, B1, c1, rfl, hb1⟩
        have HJ1 := Lib.hid (HJ.out pre _ _ none HJS.out hf.grown_ (fun r e => by cases e))
        have hy0 := HY.out pre (((p : Nat) : Int), .slice B1 pl.length c1, pl) w1 HJ1.out ⟨B1, c1, rfl, hb1⟩ (by omega)
        have HBL1 := Lib.hid (HBL.out.touch hf id)
        have HF1 := Lib.hid hf
        clear hf hb1
        have hw1 := HRW.out.fresh_ HF1.out
        have HRW1 := Lib.hid hw1
        clear hw1
        obtain ⟨fn, tmps, assign, body, hy, hR⟩ := hy0
        dsimp only [frEncY] at hy
        gi_wp2
        refine hR.mono ?_
        rintro e W3 (⟨rfl, hJ3, hk3⟩ | ⟨rfl, hJx3⟩)
        · have HF3 := Lib.hid hk3
          have HJ3 := Lib.hid hJ3
          clear hk3 hJ3 hR
          gi_wp2
          refine wpIn_goto ?_
          rw [show ((p : Int) + (k : Int)) = ((p + k : Nat) : Int) by omega]
          refine ⟨rfl, ⟨p + k, _, _, _, _, _, _, _, _, _, _, _, _, _, _, _, _, _, _, _, _, _, _, _, _, rfl, _, f, HJ3.out, HF3.out.blk HBL1.out, HF3.out.row HRW1.out, HOF.out _, by omega, by omega, by simp; omega⟩, ?_⟩
          · show n - ((p + k : Nat) : Int).toNat < n - ((p : Nat) : Int).toNat
            omega
        · have HJ3 := Lib.hid hJx3
          clear hJx3 hR
          gi_wp2
          simp only [Exit.jump]
          refine bodyPost_ret (results_none rfl _ _ _) rfl ?_
          exact ⟨⟨_, rfl⟩, .inr ⟨_, ⟨_, HOF.out _⟩, HJ3.out⟩⟩
      · gi_wp2
        refine ⟨trivial, (HC.out (Option.map (fun x => x.add p) B) (c - p) (fun h => absurd h hcp) (fun _ => ⟨rfl, rfl⟩)).mono ?_⟩
        rintro e w1 ⟨hf, B1, c1, rfl, hb1⟩
        have HJ1 := Lib.hid (HJ.out pre _ _ none HJS.out hf.grown_ (fun r e => by cases e))
        have hy0 := HY.out pre (((p : Nat) : Int), .slice B1 pl.length c1, pl) w1 HJ1.out ⟨B1, c1, rfl, hb1⟩ (by omega)
        have HBL1 := Lib.hid (HBL.out.touch hf id)
        have HF1 := Lib.hid hf
        clear hf hb1
        have hw1 := HRW.out.fresh_ HF1.out
        have HRW1 := Lib.hid hw1
        clear hw1
        obtain ⟨fn, tmps, assign, body, hy, hR⟩ := hy0
        dsimp only [frEncY] at hy
        gi_wp2
        refine hR.mono ?_
        rintro e W3 (⟨rfl, hJ3, hk3⟩ | ⟨rfl, hJx3⟩)
        · have HF3 := Lib.hid hk3
          have HJ3 := Lib.hid hJ3
          clear hk3 hJ3 hR
          gi_wp2
          refine wpIn_goto ?_
          rw [show ((p : Int) + (k : Int)) = ((p + k : Nat) : Int) by omega]
          refine ⟨rfl, ⟨p + k, _, _, _, _, _, _, _, _, _, _, _, _, _, _, _, _, _, _, _, _, _, _, _, _, rfl, _, f, HJ3.out, HF3.out.blk HBL1.out, HF3.out.row HRW1.out, HOF.out _, by omega, by omega, by simp; omega⟩, ?_⟩
          · show n - ((p + k : Nat) : Int).toNat < n - ((p : Nat) : Int).toNat
            omega
        · have HJ3 := Lib.hid hJx3
          clear hJx3 hR
          gi_wp2
          simp only [Exit.jump]
          refine bodyPost_ret (results_none rfl _ _ _) rfl ?_
          exact ⟨⟨_, rfl⟩, .inr ⟨_, ⟨_, HOF.out _⟩, HJ3.out⟩⟩
end Go.Proofs.Ytdfhdanfigpbpaa
