/- The contract of the reference's Unframe. Conditions stand with it. -/
import Derived.Test.YtdfhdanfigpbpaaRefFr
import Derived.Test.YtdfhdanfigpbpaaIntact
import Derived.Deep.Cut
import Derived.Deep.RegionHeld
namespace Go.Proofs.Ytdfhdanfigpbpaa
open Go.RowKit

theorem four_eq (n : Nat) (hn : n < 4294967296) (ys : List UInt8) (hy : 4 ≤ ys.length) : Enc.four n = ys.take 4 ↔ n = Enc.unfour ys := by
  match ys, hy with
  | a :: b :: c :: d :: r, _ =>
  have ha := a.toNat_lt
  have hb := b.toNat_lt
  have hc := c.toNat_lt
  have hd := d.toNat_lt
  have hu : Enc.unfour (a :: b :: c :: d :: r) = a.toNat * 16777216 + b.toNat * 65536 + c.toNat * 256 + d.toNat := rfl
  constructor
  · intro h
    have h1 := Enc.unfour_four n hn r
    rw [h] at h1
    exact h1.symm
  · intro h
    rw [hu] at h
    show [UInt8.ofNat (n / 16777216), UInt8.ofNat (n / 65536), UInt8.ofNat (n / 256), UInt8.ofNat n] = [a, b, c, d]
    have e : ∀ (k : Nat) (x : UInt8), k % 256 = x.toNat → UInt8.ofNat k = x := fun k x hk => UInt8.toNat_inj.1 (by rw [UInt8.toNat_ofNat']; omega)
    rw [e (n / 16777216) a (by omega), e (n / 65536) b (by omega), e (n / 256) c (by omega), e n d (by omega)]
/-- append([]byte{}, y...) -/
theorem wpList_clone_bs {P : Program} (w : World) {ops : Array Oper} {rest : List Oper} {o : Oper} {a : Act} {Q : Exit → Act → World → Prop} (hgd : o.guard = none) (s x : Operand) (t : TypeId)
    (ho : o.op = .call { callee := .builtin .append, args := #[s, x], argTypes := #[t, t] })
    (hinfo : (P.info? 5).map (fun i => (i.zero, i.size, i.bytes)) = some (some (.int .u8 0), 1, 1)) (ht : P.underlying t = some (.slice 5))
    (g : Nat) (hs : a.eval s = .slice (some ⟨g, 0, none⟩) 0 0) (hown : Row w (.slice (some ⟨g, 0, none⟩) 0 0) []) (A : Option Addr) (m c : Nat) (ys : List UInt8) (hx : a.eval x = .slice A m c) (hbs : Bs w A m c ys) (hb : m ≤ 140737488355328)
    (h : ∀ B c' w', Row w' (.slice B m c') ys → w.grownBy w' (some g) → ((Value.slice B m c').ownBlock = some g ∨ (Value.slice B m c').ownBlock = some w.heap.size) → wpList P ops Q rest (a.put o.dst (.slice B m c')) w') : wpList P ops Q (o :: rest) a w := by
  obtain rfl := hbs.1
  refine wpList_row_bs w hgd s x t ho hinfo ht _ [] hs hown A ys.length c ys hx hbs (by simpa using hb) fun B c' w' h1 h2 h3 => ?_
  simp only [List.length_nil, Nat.zero_add, List.nil_append] at h1 h3 ⊢
  exact h B c' w' h1 h2 h3

/-- what the reference's Unframe leaves: the payload in a row of its own -/
def RUnf (w : World) (xs : List UInt8) (e : Ending) (w' : World) : Prop := Fresh w w' ∧ match Enc.unframe xs with
  | none => e = .returned (.tuple #[.slice none 0 0, .int .i64 0, .int .i64 2])
  | some (q, k) => ∃ B c, e = .returned (.tuple #[.slice B q.length c, .int .i64 (k : Nat), .int .i64 0]) ∧ Row w' (.slice B q.length c) q
theorem RUnf.bad {w w' : World} {xs : List UInt8} (h : Enc.unframe xs = none) (hf : Fresh w w') : RUnf w xs (.returned (.tuple #[.slice none 0 0, .int .i64 0, .int .i64 2])) w' := ⟨hf, by rw [h]⟩
theorem RUnf.good {w w' : World} {xs p : List UInt8} {k u c' : Nat} {B : Option Addr} (h : Enc.unframe xs = some (p, k)) (hu : p.length = u) (hf : Fresh w w') (hb : Row w' (.slice B u c') p) :
    RUnf w xs (.returned (.tuple #[.slice B u c', .int .i64 (k : Int), .int .i64 0])) w' := by
  subst hu
  exact ⟨hf, by rw [h]; exact ⟨B, c', rfl, hb⟩⟩

set_option maxRecDepth 20000 in
set_option maxHeartbeats 2000000 in
theorem refunframe_any (A : Option Addr) (n c : Nat) (xs : List UInt8) (w : World) (h : Bs w A n c xs) (hb : n ≤ 1000000000) :
    Calls Try.prog 101 #[.slice A n c] w (RUnf w xs) := by
  have hnc := h.2.1
  have hcm := h.2.2.1
  unfold maxLen at hcm
  have hxl := h.1
  by_cases h8 : n < 8
  · have h8I : (n : Int) < 8 := by omega
    have HU := Lib.hid (show Enc.unframe xs = none by unfold Enc.unframe; rw [if_pos (by omega)])
    clear h
    go_enter Try.func101, Try.ntmps101
    go_wp2_with fail
    refine bodyPost_ret (v := .tuple #[.slice none 0 0, .int .i64 0, .int .i64 2]) ?_ rfl (RUnf.bad HU.out (Touch.refl (fun _ => False) w))
    simp [results, Try.results101, go_sem]
  · have h8I : ¬ (n : Int) < 8 := by omega
    obtain ⟨b, o, rfl⟩ := h.at_ (by omega)
    have hc0 : w.cell? ⟨b, o, none⟩ = some (.int .u8 ((xs.getD 0 0).toNat : Int)) := h.cellAt (j := 0) (by omega)
    have hc1 := h.cellAt (j := 1) (by omega)
    have hc2 := h.cellAt (j := 2) (by omega)
    have hc3 := h.cellAt (j := 3) (by omega)
    have hx0 := (xs.getD 0 0).toNat_lt
    have hx1 := (xs.getD 1 0).toNat_lt
    have hx2 := (xs.getD 2 0).toNat_lt
    have hx3 := (xs.getD 3 0).toNat_lt
    have hu : Enc.unfour xs = (xs.getD 0 0).toNat * 16777216 + (xs.getD 1 0).toNat * 65536 + (xs.getD 2 0).toNat * 256 + (xs.getD 3 0).toNat := rfl
    have hul := Enc.unfour_lt xs
    have hdef : Enc.unframe xs = if 1048576 < Enc.unfour xs ∨ n - 8 < Enc.unfour xs then none
        else if Enc.sum ((xs.drop 8).take (Enc.unfour xs)) = Enc.unfour (xs.drop 4) then some ((xs.drop 8).take (Enc.unfour xs), 8 + Enc.unfour xs) else none := by
      unfold Enc.unframe
      rw [if_neg (by omega), hxl]
    generalize Enc.unfour xs = u at hdef hul hu
    generalize (xs.getD 0 0).toNat = x0 at *
    generalize (xs.getD 1 0).toNat = x1 at *
    generalize (xs.getD 2 0).toNat = x2 at *
    generalize (xs.getD 3 0).toNat = x3 at *
    have HU := Lib.hid hu
    have HD := Lib.hid hdef
    have H := Lib.hid h
    have hn0 : (0 : Int) < (n : Int) := by omega
    have hnn : 0 < n := by omega
    have hn1 : (1 : Int) < (n : Int) := by omega
    have hn2 : (2 : Int) < (n : Int) := by omega
    have hn3 : (3 : Int) < (n : Int) := by omega
    clear h hdef hu
    go_enter Try.func101, Try.ntmps101
    go_wp2_with fail
    go_quiet (fail)
    have hui : (x0 : Int) * 16777216 + (x1 : Int) * 65536 + (x2 : Int) * 256 + (x3 : Int) = (u : Int) := by have := HU.out; omega
    rw [hui]
    clear hui hc0 hc1 hc2 hc3 hx0 hx1 hx2 hx3
    have HF := Lib.hid (show Fresh w (w.drewN nq) from (Touch.refl _ w).drewN nq)
    have HB := Lib.hid (H.out.drewN nq)
    have hsub : IntKind.i64.wrap ((n : Int) - 8) = (n : Int) - 8 := IntWalk.i64_in _ (by omega)
    by_cases hb1 : 1048576 < u
    · have HD1 := Lib.hid (HD.out.trans (if_pos (.inl hb1)))
      have hb1I : (1048576 : Int) < (u : Int) := by omega
      go_wp2_with fail
      refine bodyPost_ret (v := .tuple #[.slice none 0 0, .int .i64 0, .int .i64 2]) ?_ rfl (RUnf.bad HD1.out HF.out)
      simp [results, Try.results101, go_sem]
    have hb1I : decide ((1048576 : Int) < (u : Int)) = false := by simp; omega
    by_cases hb2 : n - 8 < u
    · have HD1 := Lib.hid (HD.out.trans (if_pos (.inr hb2)))
      have hb2I : (n : Int) - 8 < (u : Int) := by omega
      go_wp2_with fail
      refine bodyPost_ret (v := .tuple #[.slice none 0 0, .int .i64 0, .int .i64 2]) ?_ rfl (RUnf.bad HD1.out HF.out)
      simp [results, Try.results101, go_sem]
    have hb2I : ¬ (n : Int) - 8 < (u : Int) := by omega
    have HD1 := Lib.hid (HD.out.trans (if_neg (by omega)))
    have hadd : IntKind.i64.wrap (8 + (u : Int)) = 8 + (u : Int) := IntWalk.i64_in _ (by omega)
    have hpl : ((xs.drop 8).take u).length = u := by rw [List.length_take, List.length_drop]; omega
    obtain ⟨A8, hA8, h8b⟩ : ∃ A8, A8 = (if c = 8 then some ⟨b, o, none⟩ else some ⟨b, o + 8, none⟩ : Option Addr) ∧ Bs (w.drewN nq) A8 u (c - 8) ((xs.drop 8).take u) := by
      refine ⟨_, rfl, ?_⟩
      by_cases hc8 : c = 8
      · rw [if_pos hc8]
        exact ⟨hpl, by omega, by unfold maxLen; omega, fun h => by omega⟩
      · rw [if_neg hc8]
        exact (HB.out.drop_ (k := 8) (by omega)).take (by omega)
    have H8 := Lib.hid h8b
    have H44 := Lib.hid ((HB.out.drop_ (k := 4) (by omega)).take (k := 4) (by omega))
    have HV := Lib.hid (show (xs.drop 4).length = n - 4 by rw [List.length_drop, hxl])
    have HA8 := Lib.hid hA8
    generalize (xs.drop 8).take u = p at *
    have htn : (8 + (u : Int)).toNat = 8 + u := by omega
    have hun : (8 + (u : Int)) ≤ (c : Int) := by omega
    have h88 : (8 : Int) ≤ 8 + (u : Int) := by omega
    have h4n : (4 : Int) ≤ (n : Int) := by omega
    have hsl := Enc.sum_lt p
    have HU9 := Lib.hid (show u ≤ 1048576 by omega)
    have HU10 := Lib.hid (show u ≤ 140737488355328 by omega)
    clear h8b hA8 hb1 hb2 hul hpl
    go_upto_region 6 with fail
    go_cut [6] from 41 (fun v wc => ∃ B9 c9, v = .slice B9 u c9 ∧ Row wc (.slice B9 u c9) p ∧ Fresh w wc)
    case first =>
      by_cases hc8 : c = 8
      · subst hc8
        obtain rfl : A8 = some ⟨b, o, none⟩ := by rw [HA8.out, if_pos rfl]
        obtain rfl : u = 0 := by omega
        obtain rfl : n = 8 := by omega
        go_wp2_with (at_builtin; (refine wpList_clone_bs _ rfl _ _ 24 rfl Try.info5 Try.underlying24 w.heap.size rfl (Row.lit [] #[] rfl (by simp)) (some ⟨b, o, none⟩) 0 0 p rfl (H8.out.alloc _) HU10.out ?_); intro B9 c9 w9 r9 g9 _; have HR9 := Lib.hid r9; have HF9 := Lib.hid (show Fresh w w9 from (HF.out.alloc _).grown g9 (fun k hk => .inl (by injection hk with hk; omega))); clear r9 g9)
        go_meet
        case rel => exact ⟨B9, c9, rfl, HR9.out, HF9.out⟩
      · obtain rfl : A8 = some ⟨b, o + 8, none⟩ := by rw [HA8.out, if_neg hc8]
        go_wp2_with (at_builtin; (refine wpList_clone_bs _ rfl _ _ 24 rfl Try.info5 Try.underlying24 w.heap.size rfl (Row.lit [] #[] rfl (by simp)) (some ⟨b, o + 8, none⟩) u (c - 8) p rfl (H8.out.alloc _) HU10.out ?_); intro B9 c9 w9 r9 g9 _; have HR9 := Lib.hid r9; have HF9 := Lib.hid (show Fresh w w9 from (HF.out.alloc _).grown g9 (fun k hk => .inl (by injection hk with hk; omega))); clear r9 g9)
        go_meet
        case rel => exact ⟨B9, c9, rfl, HR9.out, HF9.out⟩
    case rest =>
      obtain ⟨B9, c9, rfl, hr9, hf9⟩ := hcut
      have HF9 := Lib.hid hf9
      have hb9 := Row.bs (show Row wc (.slice B9 p.length c9) p from by have := hr9.form; obtain ⟨_, _, e, _⟩ := this; injection e with e1 e2 e3; rw [← e2]; exact hr9)
      have HR9 := Lib.hid hr9
      have hpu : p.length = u := by obtain ⟨_, _, e, _⟩ := hr9.form; injection e with e1 e2 e3; exact e2.symm
      have HPU := Lib.hid hpu
      have h4b : Bs wc (some ⟨b, o + 4, none⟩) 4 (c - 4) ((xs.drop 4).take 4) := ((H.out.fresh hf9).drop_ (k := 4) (by omega)).take (by omega)
      have HS := Lib.hid (show ∀ W, Fresh wc W → (Fresh wc W ∧ (convert 24 9 (.slice (some ⟨b, o + 4, none⟩) 4 (c - 4))).run Try.prog W = .ok (.string ⟨((xs.drop 4).take 4).toArray⟩) W) from fun W hW => ⟨hW, run_convert_Bs (P := Try.prog) 24 9 Try.underlying24 Try.underlying5 Try.underlying9 (h4b.fresh hW)⟩)
      have KA := Lib.hid (show ∀ W, (Fresh wc W ∧ (convert 24 9 (.slice (some ⟨b, o + 4, none⟩) 4 (c - 4))).run Try.prog W = .ok (.string ⟨((xs.drop 4).take 4).toArray⟩) W) → Fresh wc W from fun _ h => h.1)
      have KSUM := Lib.hid (fun W (hW : Fresh wc W) => refsum_any B9 u c9 p W (by rw [← hpu]; exact hb9.fresh hW))
      have KFOUR := Lib.hid (fun W => reffour_any (Enc.sum p) W hsl)
      have HXL := Lib.hid (show 4 ≤ (xs.drop 4).length by rw [List.length_drop]; omega)
      have HSL := Lib.hid hsl
      have hc4 : ¬ c = 4 := by omega
      have h84 : (8 : Int) ≤ (c : Int) := by omega
      have HD9 := Lib.hid HD1.out
      clear hb9 hpu hr9 hf9 h4b hsl
      by_cases hsv : Enc.sum p = Enc.unfour (xs.drop 4)
      · have HEQ := Lib.hid ((four_eq _ HSL.out _ HXL.out).2 hsv)
        have HD2 := Lib.hid (HD9.out.trans (if_pos hsv))
        clear hsv
        go_upto_region 7 with fail
        go_region_held (fun w' => Fresh wc w' ∧ (convert 24 9 (.slice (some ⟨b, o + 4, none⟩) 4 (c - 4))).run Try.prog w' = .ok (.string ⟨((xs.drop 4).take 4).toArray⟩) w')
          (first | exact HS.out _ ((Touch.refl _ wc).drew) | assumption)
          (first
            | (go_at_call 24; refine (KSUM.out _ (KA.out _ (by assumption))).mono ?_; rintro e w1 ⟨rfl, rfl⟩)
            | (go_at_call 100; refine (KFOUR.out _).mono ?_; rintro e w2 ⟨t2, _, rfl, hr2⟩; have k2 := HS.out w2 ((KA.out _ (by assumption)).trans t2 fun _ _ => id); have kc2 : (convert 24 9 (.slice (some ⟨wc.heap.size, 0, none⟩) 4 4)).run Try.prog w2 = .ok (.string ⟨((xs.drop 4).take 4).toArray⟩) w2 := by rw [← HEQ.out]; exact run_convert_Bs (P := Try.prog) 24 9 Try.underlying24 Try.underlying5 Try.underlying9 (Row.bs (n := 4) hr2)))
        all_goals
          have HFF := Lib.hid (HF9.out.trans (KA.out _ k2) fun _ _ => id)
          have HBB := Lib.hid (HR9.out.touch (KA.out _ k2) fun _ _ => id)
          clear k2 kc2 HS KA
          go_wp2_with fail
          refine bodyPost_ret (v := .tuple #[.slice B9 u c9, .int .i64 ((8 + u : Nat) : Int), .int .i64 0]) ?_ rfl (RUnf.good HD2.out HPU.out HFF.out HBB.out)
          simp [results, Try.results101, go_sem]
      · have HNE := Lib.hid (fun e => hsv ((four_eq _ HSL.out _ HXL.out).1 e))
        have HD2 := Lib.hid (HD9.out.trans (if_neg hsv))
        have hne : (Enc.four (Enc.sum p) == List.take 4 (List.drop 4 xs)) = false := by simpa using HNE.out
        clear hsv
        go_upto_region 7 with fail
        go_region_held (fun w' => Fresh wc w' ∧ (convert 24 9 (.slice (some ⟨b, o + 4, none⟩) 4 (c - 4))).run Try.prog w' = .ok (.string ⟨((xs.drop 4).take 4).toArray⟩) w')
          (first | exact HS.out _ ((Touch.refl _ wc).drew) | assumption)
          (first
            | (go_at_call 24; refine (KSUM.out _ (KA.out _ (by assumption))).mono ?_; rintro e w1 ⟨rfl, rfl⟩)
            | (go_at_call 100; refine (KFOUR.out _).mono ?_; rintro e w2 ⟨t2, _, rfl, hr2⟩; have k2 := HS.out w2 ((KA.out _ (by assumption)).trans t2 fun _ _ => id); have kc2 : (convert 24 9 (.slice (some ⟨wc.heap.size, 0, none⟩) 4 4)).run Try.prog w2 = .ok (.string ⟨(Enc.four (Enc.sum p)).toArray⟩) w2 := by exact run_convert_Bs (P := Try.prog) 24 9 Try.underlying24 Try.underlying5 Try.underlying9 (Row.bs (n := 4) hr2)))
        all_goals
          have HFF := Lib.hid (HF9.out.trans (KA.out _ k2) fun _ _ => id)
          clear k2 kc2 HS KA
          go_wp2_with fail
          refine bodyPost_ret (v := .tuple #[.slice none 0 0, .int .i64 0, .int .i64 2]) ?_ rfl (RUnf.bad HD2.out HFF.out)
          simp [results, Try.results101, go_sem]
end Go.Proofs.Ytdfhdanfigpbpaa
