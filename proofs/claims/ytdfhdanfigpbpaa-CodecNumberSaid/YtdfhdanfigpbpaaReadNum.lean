/- The contracts of ReadNumber, the codec's and the reference's: a number at the front, and how many bytes it has. Conditions: the bytes can be read. -/
import Derived.Test.YtdfhdanfigpbpaaRecG
import Derived.Test.YtdfhdanfigpbpaaRefRs
namespace Go.Proofs.Ytdfhdanfigpbpaa
open Go.RowKit

/-- What a reading of a number at the front gives. -/
def NumEnd (w : World) (r : Dec.Rd Int) (e : Ending) (w' : World) : Prop :=
  Fresh w w' ∧ match r with
  | .error a => e = .returned (.tuple #[.int .i64 0, .int .i64 (a : Nat), .int .i64 2])
  | .ok (x, s) => e = .returned (.tuple #[.int .i64 x, .int .i64 (s : Nat), .int .i64 0])

def numBad (xs : List UInt8) (a : Nat) : Prop := Dec.plain xs 0 = .error a
def numGood (xs : List UInt8) (n g : Nat) (x : Int) (q : Nat) (w2 : World) : Prop := q = n ∧ ∃ s : Nat, Dec.plain xs 0 = .ok (x, s) ∧ Blk w2 g 3 #[.int .i64 s]

set_option maxRecDepth 20000 in
set_option maxHeartbeats 1000000 in
theorem readnum1_any (be g : Nat) (A : Option Addr) (n c : Nat) (xs : List UInt8) (v0 : Value) (w : World) (he : Eye w be A n c xs 0) (hg : Blk w g 3 #[v0]) (hAg : ∀ a, A = some a → 0 < n → a.block < g) :
    Calls Try.prog 78 #[.pointer (some ⟨be, 0, none⟩), .pointer (some ⟨g, 0, none⟩)] w (RecG intV be (· = g) A n c xs (numBad xs) (numGood xs n g) w) := by
  have HK := Lib.hid (eplain_any be A n c xs 0 w he)
  have hne : be ≠ g := he.1.ne_ hg (by decide)
  have HG := Lib.hid hg
  have hm := he.2.1.2.2.1
  have hnc := he.2.1.2.1
  unfold maxLen at hm
  have HAB := Lib.hid he.2.2.2
  have HAG := Lib.hid hAg
  clear he hg hAg
  go_enter Try.func78, Try.ntmps78
  go_wp2_with fail
  refine HK.out.mono ?_
  intro e w1 h
  rcases h.cases with ⟨a, hr, rfl, ht⟩ | ⟨x, p, hr, rfl, he, ht⟩
  · exact ⟨rfl, .inl ⟨a, rfl, hr, ht.mono (fun _ _ h => .inl h)⟩⟩
  · have hb := he.1
    have hg1 := HG.out.touch ht (fun h => hne h.symm)
    have hc0 := hb.cell 0
    have hc1 := hb.cell 1
    have hf1 := hb.frozen 1
    have hcg := hg1.cell 0
    have hfg := hg1.frozen 0
    simp only [List.getElem?_toArray, List.getElem?_cons_zero, List.getElem?_cons_succ] at hc0 hc1 hcg
    obtain ⟨W, hW⟩ : ∃ W, W = (w1.setCell ⟨g, 0, none⟩ (.int .i64 p)).setCell ⟨be, 1, none⟩ (.int .i64 n) := ⟨_, rfl⟩
    have hT : Touch (fun k => k = be ∨ k = g) w W := by
      rw [hW]
      exact ((ht.mono (fun _ _ h => .inl h)).setCell (p := ⟨g, 0, none⟩) (.inr (.inr rfl)) _).setCell (p := ⟨be, 1, none⟩) (.inr (.inl rfl)) _
    have hGW : Blk W g 3 #[.int .i64 p] := by
      rw [hW]
      exact (hg1.set_ 0 (.int .i64 p)).far (p := ⟨be, 1, none⟩) (fun h => hne h.symm) (.int .i64 n)
    have hEW : Eye W be A n c xs n := by
      refine ⟨?_, ?_, Nat.le_refl _, HAB.out⟩
      · rw [hW]
        exact (hb.far (p := ⟨g, 0, none⟩) hne (.int .i64 p)).set_ 1 (.int .i64 n)
      · rw [hW]
        exact (he.2.1.touch ((Touch.refl (fun k => k = be ∨ k = g) w1).setCell (p := ⟨g, 0, none⟩) (.inr (.inr rfl)) (.int .i64 p) |>.setCell (p := ⟨be, 1, none⟩) (.inr (.inl rfl)) (.int .i64 n)) (fun a ha h0 h => by
          have h1 := HAB.out a ha h0
          have h2 := HAG.out a ha h0
          omega))
    have HR := Lib.hid hr
    have HT := Lib.hid hT; have HGW := Lib.hid hGW; have HEW := Lib.hid hEW; have HW := Lib.hid hW
    clear hr h he ht hb hg1 hT hGW hEW hW
    go_wp2_with fail
    rw [← HW.out]
    go_ret
    exact .inr ⟨x, n, rfl, ⟨rfl, p, HR.out, HGW.out⟩, HEW.out, HT.out⟩

set_option maxRecDepth 20000 in
set_option maxHeartbeats 1000000 in
theorem readnum_any (A : Option Addr) (n c : Nat) (xs : List UInt8) (w : World) (hbs : Bs w A n c xs) (hA : ∀ a, A = some a → 0 < n → a.block < w.heap.size) :
    Calls Try.prog 32 #[.slice A n c] w (NumEnd w (Dec.plain xs 0)) := by
  obtain ⟨w0, hw0⟩ : ∃ w0, w0 = w.alloc (.cells #[.int .i64 0] 3) := ⟨_, rfl⟩
  have hT0 : Fresh w w0 := by rw [hw0]; exact (Touch.refl _ w).alloc _
  have hB0 : Blk w0 w.heap.size 3 #[.int .i64 0] := by rw [hw0]; exact Blk.new _ _ _
  have hsz : w.heap.size < w0.heap.size := hB0.lt
  have HK := Lib.hid (record_int_g 78 #[.pointer (some ⟨w.heap.size, 0, none⟩)] (· = w.heap.size) A n c xs (numBad xs) (numGood xs n w.heap.size) w0 (hbs.fresh hT0) (fun a ha h0 => by have := hA a ha h0; omega)
    (fun k hk => by omega) (fun args w => by simp [go_sem]) (fun x q w2 w3 _ ⟨h1, s, h2, h3⟩ ht => ⟨h1, s, h2, h3.touch ht (by omega)⟩)
    (fun w1 be hf hbe he => readnum1_any be w.heap.size A n c xs (.int .i64 0) w1 he (hB0.touch hf id) hA))
  have hmf : ∀ (fn : Fn) (first cap : Array Value) (w : World), (Instr.makeFunc fn first cap).run Try.prog w = .ok (.func fn first cap) w := fun _ _ _ _ => rfl
  have HT0 := Lib.hid hT0
  have HW0 := Lib.hid hw0
  clear hT0 hw0 hbs hA hB0
  go_enter Try.func32, Try.ntmps32
  go_wp2_with fail
  rw [← HW0.out]
  refine HK.out.mono ?_
  rintro e w1 ⟨ht, ⟨a, hbad, rfl⟩ | ⟨x, q, w2, ⟨hq, s, hr, hb⟩, ⟨hlt, rfl⟩ | ⟨hle, hww, rfl⟩⟩⟩
  · have HF := Lib.hid (HT0.out.trans ht (fun i hi hs => by omega))
    have HR := Lib.hid hbad
    clear ht hbad
    go_wp2_with fail
    unfold numBad at HR
    refine bodyPost_ret (v := .tuple #[.int .i64 0, .int .i64 (a : Nat), .int .i64 2]) (by simp [results, Try.results32, go_sem]) rfl ⟨HF.out, ?_⟩
    rw [HR.out]
  · omega
  · subst hww
    have HF : Hid (Fresh w w2) := Lib.hid (HT0.out.trans ht (fun i hi hs => by omega))
    have HR := Lib.hid hr
    have hc := hb.cell 0
    simp only [List.getElem?_toArray, List.getElem?_cons_zero] at hc
    clear ht hb hr
    unfold intV
    go_wp2_with fail
    go_quiet (fail)
    go_wp2_with fail
    refine bodyPost_ret (v := .tuple #[.int .i64 x, .int .i64 (s : Nat), .int .i64 0]) (by simp [results, Try.results32, go_sem]) rfl ⟨HF.out.drewN _, ?_⟩
    rw [HR.out]

set_option maxRecDepth 20000 in
set_option maxHeartbeats 1000000 in
theorem refreadnum_any (A : Option Addr) (n c : Nat) (xs : List UInt8) (w : World) (hbs : Bs w A n c xs) (hA : ∀ a, A = some a → 0 < n → a.block < w.heap.size) (hN : n ≤ 140737488355328) :
    Calls Try.prog 33 #[.slice A n c] w (NumEnd w (Dec.plain xs 0)) := by
  obtain ⟨w0, hw0⟩ : ∃ w0, w0 = w.alloc (.cells #[.slice A n c, .int .i64 0, .bool false, .int .i64 0] 103) := ⟨_, rfl⟩
  have hT0 : Fresh w w0 := by rw [hw0]; exact (Touch.refl _ w).alloc _
  have hD0 : Blk w0 w.heap.size 103 #[.slice A n c, .int .i64 ((0 : Nat) : Int), .bool false, .int .i64 ((0 : Nat) : Int)] := by rw [hw0]; exact Blk.new _ _ _
  have hst : RdrSt w0 w.heap.size A n c xs (.ok 0) := ⟨0, false, 0, ⟨hD0, hbs.fresh hT0, Nat.zero_le _, fun a ha h0 => hA a ha h0, hN⟩, rfl⟩
  have HK := Lib.hid (rnumber_any w.heap.size A n c xs (.ok 0) 0 4503599627370496 w0 hst)
  have HT0 := Lib.hid hT0
  have HW0 := Lib.hid hw0
  clear hT0 hw0 hbs hA hD0 hst
  go_enter Try.func33, Try.ntmps33
  go_wp2_with fail
  rw [← HW0.out]
  refine HK.out.mono ?_
  rintro e w1 ⟨x, st', rfl, ⟨p, bad, on, hR, hst'⟩, ht, hm⟩
  have HF := Lib.hid (HT0.out.trans ht (fun i hi hs => by omega))
  have hc1 := hR.1.cell 1
  have hc2 := hR.1.cell 2
  have hc3 := hR.1.cell 3
  simp only [List.getElem?_toArray, List.getElem?_cons_zero, List.getElem?_cons_succ] at hc1 hc2 hc3
  have HM := Lib.hid hm
  have HS := Lib.hid hst'
  clear hm hst' ht hR
  cases bad with
  | true =>
    go_wp2_with fail
    go_quiet (fail)
    go_wp2_with fail
    refine bodyPost_ret (v := .tuple #[.int .i64 0, .int .i64 (on : Nat), .int .i64 2]) (by simp [results, Try.results33, go_sem]) rfl ⟨HF.out.drewN _, ?_⟩
    have h1 := HM.out
    have h2 := HS.out
    simp only [if_true] at h2
    unfold Dec.plain
    cases hd : Dec.number 0 4503599627370496 xs 0 with
    | error a =>
      rw [hd] at h1
      have h3 : (Except.error on : Except Nat Nat) = .error a := h2.symm.trans h1.2
      injection h3 with h3
      rw [h3]
    | ok y =>
      rw [hd] at h1
      have h3 : (Except.error on : Except Nat Nat) = .ok y.2 := h2.symm.trans h1.2
      cases h3
  | false =>
    go_wp2_with fail
    go_quiet (fail)
    go_wp2_with fail
    refine bodyPost_ret (v := .tuple #[.int .i64 x, .int .i64 (p : Nat), .int .i64 0]) (by simp [results, Try.results33, go_sem]) rfl ⟨HF.out.drewN _, ?_⟩
    have h1 := HM.out
    have h2 := HS.out
    simp only [Bool.false_eq_true, if_false] at h2
    unfold Dec.plain
    cases hd : Dec.number 0 4503599627370496 xs 0 with
    | error a =>
      rw [hd] at h1
      have h3 : (Except.ok p : Except Nat Nat) = .error a := h2.symm.trans h1.2
      cases h3
    | ok y =>
      rw [hd] at h1
      have h3 : (Except.ok p : Except Nat Nat) = .ok y.2 := h2.symm.trans h1.2
      injection h3 with h3
      rw [h3, h1.1]
end Go.Proofs.Ytdfhdanfigpbpaa
