/- The contract of codec.record at api.State, in its wide form (printed by gen_recg.py). -/
import Derived.Test.YtdfhdanfigpbpaaRecG
import Derived.Test.YtdfhdanfigpbpaaPuts
import Derived.Test.YtdfhdanfigpbpaaStaE
namespace Go.Proofs.Ytdfhdanfigpbpaa
open Go.RowKit

/-- a state and where its rows lie -/
abbrev StaX := Dec.Sta × Option Addr × Nat × Option Addr × Nat
def stV (x : StaX) : Value := .agg #[.string ⟨x.1.df.toArray⟩, .string ⟨x.1.id.toArray⟩, .string ⟨x.1.pa.toArray⟩, .string ⟨x.1.pn.toArray⟩, .int .i64 x.1.st, .string ⟨x.1.tx.toArray⟩, .slice x.2.1 x.1.nd.length x.2.2.1, .slice x.2.2.2.1 x.1.sg.length x.2.2.2.2, .int .i64 x.1.ev]


set_option maxRecDepth 20000 in
set_option maxHeartbeats 400000 in
theorem rcatch_idle_state (p q r : Addr) (w : World) :
    CallsD Try.prog 111 #[.pointer (some p), .pointer (some q), .pointer (some r)] .returning w fun e u' w' => e = .returned (.tuple #[]) ∧ u' = .returning ∧ w' = w := by
  refine callsD_of_wpS Try.func111 rfl fun c₀ cs hu => ?_
  apply wpS_seq
  apply wpS_region
  simp [wpOpsS, go_sem, recoverD, hu, Try.ntmps111, Exit.thenS]
  refine wpS_of_wp ?_
  have heq : ∀ w, (binOp .eql 20 .nilIface .nilIface).run Try.prog w = .ok (.bool true) w := fun _ => by kernel_rfl
  go_wp2
  cases c₀
  simp_all [bodyPostS, results, Try.results111]

set_option maxRecDepth 20000 in
set_option maxHeartbeats 400000 in
theorem rcatch_stop_state (xb ab yb at_ : Nat) (c0 c1 c2 c3 c4 c5 c6 c7 c8 : Value) (n m : Int) (older : List PanicEntry) (w : World) (hx : Blk w xb 67 #[c0, c1, c2, c3, c4, c5, c6, c7, c8]) (hne : xb ≠ ab) (ha : Blk w ab 3 #[.int .i64 n]) (hy : Blk w yb 26 #[.int .i64 m]) :
    CallsD Try.prog 111 #[.pointer (some ⟨xb, 0, none⟩), .pointer (some ⟨ab, 0, none⟩), .pointer (some ⟨yb, 0, none⟩)] (.panicking (stopAt at_ :: older)) w fun e u' w' =>
      e = .returned (.tuple #[]) ∧ u' = .panicking ({ stopAt at_ with recovered := true } :: older) ∧ Touch (fun k => k = xb ∨ k = ab ∨ k = yb) w w' ∧ Blk w' xb 67 #[.string ⟨#[]⟩, .string ⟨#[]⟩, .string ⟨#[]⟩, .string ⟨#[]⟩, .int .i64 0, .string ⟨#[]⟩, .slice none 0 0, .slice none 0 0, .int .i64 0] ∧ Blk w' ab 3 #[.int .i64 at_] ∧ Blk w' yb 26 #[.int .i64 2] := by
  have hay : ab ≠ yb := ha.ne_ hy (by decide)
  have hxy : xb ≠ yb := hx.ne_ hy (by decide)
  have hcx0 : w.cell? ⟨xb, 0, none⟩ = some c0 := hx.cell 0
  have hcx1 : w.cell? ⟨xb, 1, none⟩ = some c1 := hx.cell 1
  have hcx2 : w.cell? ⟨xb, 2, none⟩ = some c2 := hx.cell 2
  have hcx3 : w.cell? ⟨xb, 3, none⟩ = some c3 := hx.cell 3
  have hcx4 : w.cell? ⟨xb, 4, none⟩ = some c4 := hx.cell 4
  have hcx5 : w.cell? ⟨xb, 5, none⟩ = some c5 := hx.cell 5
  have hcx6 : w.cell? ⟨xb, 6, none⟩ = some c6 := hx.cell 6
  have hcx7 : w.cell? ⟨xb, 7, none⟩ = some c7 := hx.cell 7
  have hcx8 : w.cell? ⟨xb, 8, none⟩ = some c8 := hx.cell 8
  have hfx0 : w.frozen? ⟨xb, 0, none⟩ = false := hx.frozen 0
  have hfx1 : w.frozen? ⟨xb, 1, none⟩ = false := hx.frozen 1
  have hfx2 : w.frozen? ⟨xb, 2, none⟩ = false := hx.frozen 2
  have hfx3 : w.frozen? ⟨xb, 3, none⟩ = false := hx.frozen 3
  have hfx4 : w.frozen? ⟨xb, 4, none⟩ = false := hx.frozen 4
  have hfx5 : w.frozen? ⟨xb, 5, none⟩ = false := hx.frozen 5
  have hfx6 : w.frozen? ⟨xb, 6, none⟩ = false := hx.frozen 6
  have hfx7 : w.frozen? ⟨xb, 7, none⟩ = false := hx.frozen 7
  have hfx8 : w.frozen? ⟨xb, 8, none⟩ = false := hx.frozen 8
  have hca : w.cell? ⟨ab, 0, none⟩ = some (.int .i64 n) := ha.cell 0
  have hfa : w.frozen? ⟨ab, 0, none⟩ = false := ha.frozen 0
  have hcy : w.cell? ⟨yb, 0, none⟩ = some (.int .i64 m) := hy.cell 0
  have hfy : w.frozen? ⟨yb, 0, none⟩ = false := hy.frozen 0
  have hxl := hx.lt
  have hal := ha.lt
  have hyl := hy.lt
  refine callsD_of_wpS Try.func111 rfl fun c₀ cs hu => ?_
  apply wpS_seq
  apply wpS_region
  simp [wpOpsS, go_sem, recoverD, hu, Try.ntmps111, Exit.thenS, stopAt, Array.replicate_succ, Array.replicate_zero]
  refine wpS_of_wp ?_
  have heq : ∀ w, (binOp .eql 20 (.iface 118 (.agg #[.int .i64 at_])) .nilIface).run Try.prog w = .ok (.bool false) w := fun _ => by kernel_rfl
  have hta : ∀ w, (Instr.typeAssert (.iface 118 (.agg #[.int .i64 at_])) 20 118 true).run Try.prog w = .ok (.tuple #[.agg #[.int .i64 at_], .bool true]) w := fun _ => by kernel_rfl
  have HX := Lib.hid hx; clear hx
  have HA := Lib.hid ha; clear ha
  have HY := Lib.hid hy; clear hy
  go_wp2
  go_region
  go_wp2
  obtain ⟨W, hW⟩ : ∃ W, W = (((((((((((((w.setCell ⟨xb, 0, none⟩ (.string ⟨#[]⟩)).setCell ⟨xb, 1, none⟩ (.string ⟨#[]⟩)).setCell ⟨xb, 2, none⟩ (.string ⟨#[]⟩)).setCell ⟨xb, 3, none⟩ (.string ⟨#[]⟩)).setCell ⟨xb, 4, none⟩ (.int .i64 0)).setCell ⟨xb, 5, none⟩ (.string ⟨#[]⟩)).setCell ⟨xb, 6, none⟩ (.slice none 0 0)).setCell ⟨xb, 7, none⟩ (.slice none 0 0)).setCell ⟨xb, 8, none⟩ (.int .i64 0)).setCell ⟨ab, 0, none⟩ (.int .i64 at_)).setCell ⟨yb, 0, none⟩ (.int .i64 2)).alloc (.cells #[.int .i64 at_] 118)).alloc (.cells #[.string ⟨#[]⟩, .string ⟨#[]⟩, .string ⟨#[]⟩, .string ⟨#[]⟩, .int .i64 0, .string ⟨#[]⟩, .slice none 0 0, .slice none 0 0, .int .i64 0] 67)).drew := ⟨_, rfl⟩
  rw [← hW]
  have h1 : Touch (fun k => k = xb ∨ k = ab ∨ k = yb) w W := by
    rw [hW]
    exact ((((((Touch.refl (fun k => k = xb ∨ k = ab ∨ k = yb) w).puts (b := xb) (.inr (.inl rfl)) 0 [.string ⟨#[]⟩, .string ⟨#[]⟩, .string ⟨#[]⟩, .string ⟨#[]⟩, .int .i64 0, .string ⟨#[]⟩, .slice none 0 0, .slice none 0 0, .int .i64 0]).setCell (p := ⟨ab, 0, none⟩) (.inr (.inr (.inl rfl))) _).setCell (p := ⟨yb, 0, none⟩) (.inr (.inr (.inr rfl))) _).alloc _).alloc _).drew
  have h2 : Blk W xb 67 #[.string ⟨#[]⟩, .string ⟨#[]⟩, .string ⟨#[]⟩, .string ⟨#[]⟩, .int .i64 0, .string ⟨#[]⟩, .slice none 0 0, .slice none 0 0, .int .i64 0] := by
    rw [hW]
    exact (((((HX.out.puts_all [.string ⟨#[]⟩, .string ⟨#[]⟩, .string ⟨#[]⟩, .string ⟨#[]⟩, .int .i64 0, .string ⟨#[]⟩, .slice none 0 0, .slice none 0 0, .int .i64 0] rfl).far (p := ⟨ab, 0, none⟩) hne (.int .i64 at_)).far (p := ⟨yb, 0, none⟩) hxy (.int .i64 2)).alloc (.cells #[.int .i64 at_] 118)).alloc (.cells #[.string ⟨#[]⟩, .string ⟨#[]⟩, .string ⟨#[]⟩, .string ⟨#[]⟩, .int .i64 0, .string ⟨#[]⟩, .slice none 0 0, .slice none 0 0, .int .i64 0] 67)).drew
  have h3 : Blk W ab 3 #[.int .i64 at_] := by
    rw [hW]
    exact ((((((HA.out.puts_far hne.symm 0 [.string ⟨#[]⟩, .string ⟨#[]⟩, .string ⟨#[]⟩, .string ⟨#[]⟩, .int .i64 0, .string ⟨#[]⟩, .slice none 0 0, .slice none 0 0, .int .i64 0]).set_ 0 (.int .i64 at_)).far (p := ⟨yb, 0, none⟩) hay (.int .i64 2)).alloc (.cells #[.int .i64 at_] 118)).alloc (.cells #[.string ⟨#[]⟩, .string ⟨#[]⟩, .string ⟨#[]⟩, .string ⟨#[]⟩, .int .i64 0, .string ⟨#[]⟩, .slice none 0 0, .slice none 0 0, .int .i64 0] 67)).drew)
  have h4 : Blk W yb 26 #[.int .i64 2] := by
    rw [hW]
    exact ((((((HY.out.puts_far hxy.symm 0 [.string ⟨#[]⟩, .string ⟨#[]⟩, .string ⟨#[]⟩, .string ⟨#[]⟩, .int .i64 0, .string ⟨#[]⟩, .slice none 0 0, .slice none 0 0, .int .i64 0]).far (p := ⟨ab, 0, none⟩) hay.symm (.int .i64 at_)).set_ 0 (.int .i64 2)).alloc (.cells #[.int .i64 at_] 118)).alloc (.cells #[.string ⟨#[]⟩, .string ⟨#[]⟩, .string ⟨#[]⟩, .string ⟨#[]⟩, .int .i64 0, .string ⟨#[]⟩, .slice none 0 0, .slice none 0 0, .int .i64 0] 67)).drew)
  have hW' := Lib.hid hW
  clear hW
  exact ⟨rfl, _, rfl, _, results_none rfl _ _ _, rfl, rfl, h1, h2, h3, h4⟩

set_option maxRecDepth 100000 in
set_option maxHeartbeats 2000000 in
theorem record_state_g (fid : Nat) (caps : Array Value) (G : Nat → Prop) (A : Option Addr) (n c : Nat) (xs : List UInt8) (bad : Nat → Prop) (Good : StaX → Nat → World → Prop) (w : World) (hbs : Bs w A n c xs) (hA : ∀ a, A = some a → 0 < n → a.block < w.heap.size)
    (hG : ∀ k, G k → k < w.heap.size) (hent : ∀ (args : Array Value) (w : World), (callFunc fid args).run Try.prog w = .ok (.enter fid args) w)
    (hstab : ∀ x q w2 w3, Fresh3 G w w2 → Good x q w2 → Touch (fun k => k = w.heap.size ∨ k = w.heap.size + 1 ∨ k = w.heap.size + 1 + 1) w2 w3 → Good x q w3)
    (hf : ∀ w1 be, Fresh w w1 → w.heap.size + 1 + 1 < be → Eye w1 be A n c xs 0 → Calls Try.prog fid (#[.pointer (some ⟨be, 0, none⟩)] ++ caps) w1 (RecG stV be G A n c xs bad Good w1)) :
    Calls Try.prog 94 #[.slice A n c, .func (.func fid) #[] caps] w (RecGEnd stV (.agg #[.string ⟨#[]⟩, .string ⟨#[]⟩, .string ⟨#[]⟩, .string ⟨#[]⟩, .int .i64 0, .string ⟨#[]⟩, .slice none 0 0, .slice none 0 0, .int .i64 0]) n G bad Good w) := by
  have hmf : ∀ (fn : Fn) (first cap : Array Value) (w : World), (Instr.makeFunc fn first cap).run Try.prog w = .ok (.func fn first cap) w := fun _ _ _ _ => rfl
  have HF := Lib.hid hf; clear hf
  have hcm := hbs.2.2.1
  have hnc := hbs.2.1
  unfold maxLen at hcm
  have HBS := Lib.hid hbs; clear hbs
  have HAB := Lib.hid hA; clear hA
  have HG := Lib.hid hG; clear hG
  have HST := Lib.hid hstab; clear hstab
  go_enter_defers Try.func94, Try.ntmps94
  go_wp2_with fail
  obtain ⟨w1, hw1⟩ : ∃ w1, w1 = (((w.alloc (Obj.cells #[.string ⟨#[]⟩, .string ⟨#[]⟩, .string ⟨#[]⟩, .string ⟨#[]⟩, .int .i64 0, .string ⟨#[]⟩, .slice none 0 0, .slice none 0 0, .int .i64 0] 67)).alloc (Obj.cells #[.int .i64 0] 3)).alloc (Obj.cells #[.int .i64 0] 26)).alloc (Obj.cells #[.slice A n c, .int .i64 0] 111) := ⟨_, rfl⟩
  have hfr : Fresh w w1 := by rw [hw1]; exact ((((Touch.refl _ w).alloc _).alloc _).alloc _).alloc _
  have hBx : Blk w1 w.heap.size 67 #[.string ⟨#[]⟩, .string ⟨#[]⟩, .string ⟨#[]⟩, .string ⟨#[]⟩, .int .i64 0, .string ⟨#[]⟩, .slice none 0 0, .slice none 0 0, .int .i64 0] := by rw [hw1]; exact (((Blk.new w _ _).alloc _).alloc _).alloc _
  have hBa : Blk w1 (w.heap.size + 1) 3 #[.int .i64 0] := by
    rw [hw1]
    have := ((Blk.new (w.alloc (Obj.cells #[.string ⟨#[]⟩, .string ⟨#[]⟩, .string ⟨#[]⟩, .string ⟨#[]⟩, .int .i64 0, .string ⟨#[]⟩, .slice none 0 0, .slice none 0 0, .int .i64 0] 67)) 3 #[.int .i64 0]).alloc (Obj.cells #[.int .i64 0] 26)).alloc (Obj.cells #[.slice A n c, .int .i64 0] 111)
    simpa only [World.size_alloc] using this
  have hBy : Blk w1 (w.heap.size + 1 + 1) 26 #[.int .i64 0] := by
    rw [hw1]
    have := (Blk.new ((w.alloc (Obj.cells #[.string ⟨#[]⟩, .string ⟨#[]⟩, .string ⟨#[]⟩, .string ⟨#[]⟩, .int .i64 0, .string ⟨#[]⟩, .slice none 0 0, .slice none 0 0, .int .i64 0] 67)).alloc (Obj.cells #[.int .i64 0] 3)) 26 #[.int .i64 0]).alloc (Obj.cells #[.slice A n c, .int .i64 0] 111)
    simpa only [World.size_alloc] using this
  have hBe : Blk w1 (w.heap.size + 1 + 1 + 1) 111 #[.slice A n c, .int .i64 ((0 : Nat) : Int)] := by
    rw [hw1]
    have := Blk.new (((w.alloc (Obj.cells #[.string ⟨#[]⟩, .string ⟨#[]⟩, .string ⟨#[]⟩, .string ⟨#[]⟩, .int .i64 0, .string ⟨#[]⟩, .slice none 0 0, .slice none 0 0, .int .i64 0] 67)).alloc (Obj.cells #[.int .i64 0] 3)).alloc (Obj.cells #[.int .i64 0] 26)) 111 #[.slice A n c, .int .i64 0]
    simp only [World.size_alloc] at this
    exact this
  have hsz : w.heap.size + 1 + 1 + 1 + 1 = w1.heap.size := by rw [hw1]; simp
  rw [← hw1]
  have HW1 := Lib.hid hw1; clear hw1
  have hey : Eye w1 (w.heap.size + 1 + 1 + 1) A n c xs 0 := ⟨hBe, HBS.out.fresh hfr, Nat.zero_le _, fun a ha h0 => by have := HAB.out a ha h0; omega⟩
  refine (HF.out w1 (w.heap.size + 1 + 1 + 1) hfr (by omega) hey).mono ?_
  intro e w2 h
  rcases h with ⟨a, rfl, hr, ht⟩ | ⟨x, q, rfl, hr, he2, ht⟩
  · have hBx' := hBx.touch ht (fun h => h.elim (fun h => by omega) (fun h => by have := HG.out _ h; omega))
    have hBa' := hBa.touch ht (fun h => h.elim (fun h => by omega) (fun h => by have := HG.out _ h; omega))
    have hBy' := hBy.touch ht (fun h => h.elim (fun h => by omega) (fun h => by have := HG.out _ h; omega))
    refine leaves_cons (f := 111) (args := #[.pointer (some ⟨w.heap.size, 0, none⟩), .pointer (some ⟨w.heap.size + 1, 0, none⟩), .pointer (some ⟨w.heap.size + 1 + 1, 0, none⟩)]) (by simp) (by simp [go_sem]) ?_
    refine (rcatch_stop_state (w.heap.size) (w.heap.size + 1) (w.heap.size + 1 + 1) a (.string ⟨#[]⟩) (.string ⟨#[]⟩) (.string ⟨#[]⟩) (.string ⟨#[]⟩) (.int .i64 0) (.string ⟨#[]⟩) (.slice none 0 0) (.slice none 0 0) (.int .i64 0) 0 0 [] w2 hBx' (by omega) hBa' hBy').mono ?_
    rintro e u' w3 ⟨rfl, rfl, ht3, hb1, hb2, hb3⟩
    have hfin : Touch G w w3 := ((hfr.mono (fun _ _ h => h.elim)).trans ht (fun i hi hs => hs.elim (fun hs => by omega) (fun hs => hs))).trans ht3 (fun i hi hs => by omega)
    have HFIN : RecGEnd stV (.agg #[.string ⟨#[]⟩, .string ⟨#[]⟩, .string ⟨#[]⟩, .string ⟨#[]⟩, .int .i64 0, .string ⟨#[]⟩, .slice none 0 0, .slice none 0 0, .int .i64 0]) n G bad Good w (.returned (.tuple #[.agg #[.string ⟨#[]⟩, .string ⟨#[]⟩, .string ⟨#[]⟩, .string ⟨#[]⟩, .int .i64 0, .string ⟨#[]⟩, .slice none 0 0, .slice none 0 0, .int .i64 0], .int .i64 a, .int .i64 2])) w3 := ⟨hfin, .inl ⟨a, hr, rfl⟩⟩
    have hcz0 := hb1.cell 0
    have hcz1 := hb1.cell 1
    have hcz2 := hb1.cell 2
    have hcz3 := hb1.cell 3
    have hcz4 := hb1.cell 4
    have hcz5 := hb1.cell 5
    have hcz6 := hb1.cell 6
    have hcz7 := hb1.cell 7
    have hcz8 := hb1.cell 8
    have hca := hb2.cell 0
    have hcy := hb3.cell 0
    simp only [List.getElem?_toArray, List.getElem?_cons_zero, List.getElem?_cons_succ] at hcz0 hcz1 hcz2 hcz3 hcz4 hcz5 hcz6 hcz7 hcz8 hca hcy
    simpa [Leaves, settle, results, Try.results94, go_sem, hcz0, hcz1, hcz2, hcz3, hcz4, hcz5, hcz6, hcz7, hcz8, hca, hcy] using HFIN
  · have hBx' := hBx.touch ht (fun h => h.elim (fun h => by omega) (fun h => by have := HG.out _ h; omega))
    have hBa' := hBa.touch ht (fun h => h.elim (fun h => by omega) (fun h => by have := HG.out _ h; omega))
    have hBy' := hBy.touch ht (fun h => h.elim (fun h => by omega) (fun h => by have := HG.out _ h; omega))
    have hsz2 := ht.size
    have hfr2 : Touch G w w2 := (hfr.mono (fun _ _ h => h.elim)).trans ht (fun i hi hs => hs.elim (fun hs => by omega) (fun hs => hs))
    have hst3 : Fresh3 G w w2 := ⟨hfr2, by omega⟩
    have hqn := he2.2.2.1
    have hcv0 := hBx'.cell 0
    have hcv1 := hBx'.cell 1
    have hcv2 := hBx'.cell 2
    have hcv3 := hBx'.cell 3
    have hcv4 := hBx'.cell 4
    have hcv5 := hBx'.cell 5
    have hcv6 := hBx'.cell 6
    have hcv7 := hBx'.cell 7
    have hcv8 := hBx'.cell 8
    have hfv0 := hBx'.frozen 0
    have hfv1 := hBx'.frozen 1
    have hfv2 := hBx'.frozen 2
    have hfv3 := hBx'.frozen 3
    have hfv4 := hBx'.frozen 4
    have hfv5 := hBx'.frozen 5
    have hfv6 := hBx'.frozen 6
    have hfv7 := hBx'.frozen 7
    have hfv8 := hBx'.frozen 8
    have hca := hBa'.cell 0
    have hcy := hBy'.cell 0
    have hfa := hBa'.frozen 0
    have hfy := hBy'.frozen 0
    have hce0 := he2.1.cell 0
    have hce1 := he2.1.cell 1
    simp only [List.getElem?_toArray, List.getElem?_cons_zero, List.getElem?_cons_succ] at hcv0 hcv1 hcv2 hcv3 hcv4 hcv5 hcv6 hcv7 hcv8 hca hcy hce0 hce1
    have HR := Lib.hid hr
    have HFR2 := Lib.hid hfr2
    have HST3 := Lib.hid hst3
    clear hst3
    have HBX := Lib.hid hBx'
    have HBA := Lib.hid hBa'
    have HBY := Lib.hid hBy'
    clear hr hfr2 hBx' hBa' hBy' he2 ht hBx hBa hBy hBe hfr hey hmf hent
    by_cases hq : q < n
    · have HQ := Lib.hid hq
      obtain ⟨w3, hw3⟩ : ∃ w3, w3 = (((((((((w2.setCell ⟨w.heap.size, 0, none⟩ (.string ⟨x.1.df.toArray⟩)).setCell ⟨w.heap.size, 1, none⟩ (.string ⟨x.1.id.toArray⟩)).setCell ⟨w.heap.size, 2, none⟩ (.string ⟨x.1.pa.toArray⟩)).setCell ⟨w.heap.size, 3, none⟩ (.string ⟨x.1.pn.toArray⟩)).setCell ⟨w.heap.size, 4, none⟩ (.int .i64 x.1.st)).setCell ⟨w.heap.size, 5, none⟩ (.string ⟨x.1.tx.toArray⟩)).setCell ⟨w.heap.size, 6, none⟩ (.slice x.2.1 x.1.nd.length x.2.2.1)).setCell ⟨w.heap.size, 7, none⟩ (.slice x.2.2.2.1 x.1.sg.length x.2.2.2.2)).setCell ⟨w.heap.size, 8, none⟩ (.int .i64 x.1.ev)) := ⟨_, rfl⟩
      have hB3 : Blk w3 w.heap.size 67 #[.string ⟨x.1.df.toArray⟩, .string ⟨x.1.id.toArray⟩, .string ⟨x.1.pa.toArray⟩, .string ⟨x.1.pn.toArray⟩, .int .i64 x.1.st, .string ⟨x.1.tx.toArray⟩, .slice x.2.1 x.1.nd.length x.2.2.1, .slice x.2.2.2.1 x.1.sg.length x.2.2.2.2, .int .i64 x.1.ev] := by rw [hw3]; exact (HBX.out.puts_all [.string ⟨x.1.df.toArray⟩, .string ⟨x.1.id.toArray⟩, .string ⟨x.1.pa.toArray⟩, .string ⟨x.1.pn.toArray⟩, .int .i64 x.1.st, .string ⟨x.1.tx.toArray⟩, .slice x.2.1 x.1.nd.length x.2.2.1, .slice x.2.2.2.1 x.1.sg.length x.2.2.2.2, .int .i64 x.1.ev] rfl)
      have hBa3 : Blk w3 (w.heap.size + 1) 3 #[.int .i64 0] := by rw [hw3]; exact (HBA.out.puts_far (by simp) 0 [.string ⟨x.1.df.toArray⟩, .string ⟨x.1.id.toArray⟩, .string ⟨x.1.pa.toArray⟩, .string ⟨x.1.pn.toArray⟩, .int .i64 x.1.st, .string ⟨x.1.tx.toArray⟩, .slice x.2.1 x.1.nd.length x.2.2.1, .slice x.2.2.2.1 x.1.sg.length x.2.2.2.2, .int .i64 x.1.ev])
      have hBy3 : Blk w3 (w.heap.size + 1 + 1) 26 #[.int .i64 0] := by rw [hw3]; exact (HBY.out.puts_far (by simp; omega) 0 [.string ⟨x.1.df.toArray⟩, .string ⟨x.1.id.toArray⟩, .string ⟨x.1.pa.toArray⟩, .string ⟨x.1.pn.toArray⟩, .int .i64 x.1.st, .string ⟨x.1.tx.toArray⟩, .slice x.2.1 x.1.nd.length x.2.2.1, .slice x.2.2.2.1 x.1.sg.length x.2.2.2.2, .int .i64 x.1.ev])
      have hfr3 : Touch G w w3 := by rw [hw3]; exact (HFR2.out.puts (b := w.heap.size) (.inl (Nat.le_refl _)) 0 [.string ⟨x.1.df.toArray⟩, .string ⟨x.1.id.toArray⟩, .string ⟨x.1.pa.toArray⟩, .string ⟨x.1.pn.toArray⟩, .int .i64 x.1.st, .string ⟨x.1.tx.toArray⟩, .slice x.2.1 x.1.nd.length x.2.2.1, .slice x.2.2.2.1 x.1.sg.length x.2.2.2.2, .int .i64 x.1.ev])
      have HB3 := Lib.hid hB3
      have HBA3 := Lib.hid hBa3
      have HBY3 := Lib.hid hBy3
      have HFR3 := Lib.hid hfr3
      have HW3 := Lib.hid hw3
      clear hB3 hBa3 hBy3 hfr3 hw3
      unfold stV
      go_wp2_with fail
      rw [← HW3.out]
      refine (fail_any _ _ _).mono ?_
      rintro e w4 ⟨rfl, rfl⟩
      refine leaves_cons (f := 111) (args := #[.pointer (some ⟨w.heap.size, 0, none⟩), .pointer (some ⟨w.heap.size + 1, 0, none⟩), .pointer (some ⟨w.heap.size + 1 + 1, 0, none⟩)]) (by simp) (by simp [go_sem]) ?_
      refine (rcatch_stop_state (w.heap.size) (w.heap.size + 1) (w.heap.size + 1 + 1) q (.string ⟨x.1.df.toArray⟩) (.string ⟨x.1.id.toArray⟩) (.string ⟨x.1.pa.toArray⟩) (.string ⟨x.1.pn.toArray⟩) (.int .i64 x.1.st) (.string ⟨x.1.tx.toArray⟩) (.slice x.2.1 x.1.nd.length x.2.2.1) (.slice x.2.2.2.1 x.1.sg.length x.2.2.2.2) (.int .i64 x.1.ev) 0 0 [] w3 HB3.out (by omega) HBA3.out HBY3.out).mono ?_
      rintro e u' w4 ⟨rfl, rfl, ht3, hb1, hb2, hb3⟩
      have hfin : Touch G w w4 := HFR3.out.trans ht3 (fun i hi hs => by omega)
      have HFIN : RecGEnd stV (.agg #[.string ⟨#[]⟩, .string ⟨#[]⟩, .string ⟨#[]⟩, .string ⟨#[]⟩, .int .i64 0, .string ⟨#[]⟩, .slice none 0 0, .slice none 0 0, .int .i64 0]) n G bad Good w (.returned (.tuple #[.agg #[.string ⟨#[]⟩, .string ⟨#[]⟩, .string ⟨#[]⟩, .string ⟨#[]⟩, .int .i64 0, .string ⟨#[]⟩, .slice none 0 0, .slice none 0 0, .int .i64 0], .int .i64 q, .int .i64 2])) w4 := ⟨hfin, .inr ⟨x, q, w2, HR.out, .inl ⟨HQ.out, rfl⟩⟩⟩
      have hcz0 := hb1.cell 0
      have hcz1 := hb1.cell 1
      have hcz2 := hb1.cell 2
      have hcz3 := hb1.cell 3
      have hcz4 := hb1.cell 4
      have hcz5 := hb1.cell 5
      have hcz6 := hb1.cell 6
      have hcz7 := hb1.cell 7
      have hcz8 := hb1.cell 8
      have hca := hb2.cell 0
      have hcy := hb3.cell 0
      simp only [List.getElem?_toArray, List.getElem?_cons_zero, List.getElem?_cons_succ] at hcz0 hcz1 hcz2 hcz3 hcz4 hcz5 hcz6 hcz7 hcz8 hca hcy
      simpa [Leaves, settle, results, Try.results94, go_sem, hcz0, hcz1, hcz2, hcz3, hcz4, hcz5, hcz6, hcz7, hcz8, hca, hcy] using HFIN
    · have HQ := Lib.hid hq
      unfold stV
      go_wp2_with fail
      obtain ⟨w5, hw5⟩ : ∃ w5, w5 = (((((((((((((((((((w2.setCell ⟨w.heap.size, 0, none⟩ (.string ⟨x.1.df.toArray⟩)).setCell ⟨w.heap.size, 1, none⟩ (.string ⟨x.1.id.toArray⟩)).setCell ⟨w.heap.size, 2, none⟩ (.string ⟨x.1.pa.toArray⟩)).setCell ⟨w.heap.size, 3, none⟩ (.string ⟨x.1.pn.toArray⟩)).setCell ⟨w.heap.size, 4, none⟩ (.int .i64 x.1.st)).setCell ⟨w.heap.size, 5, none⟩ (.string ⟨x.1.tx.toArray⟩)).setCell ⟨w.heap.size, 6, none⟩ (.slice x.2.1 x.1.nd.length x.2.2.1)).setCell ⟨w.heap.size, 7, none⟩ (.slice x.2.2.2.1 x.1.sg.length x.2.2.2.2)).setCell ⟨w.heap.size, 8, none⟩ (.int .i64 x.1.ev)).setCell ⟨w.heap.size, 0, none⟩ (.string ⟨x.1.df.toArray⟩)).setCell ⟨w.heap.size, 1, none⟩ (.string ⟨x.1.id.toArray⟩)).setCell ⟨w.heap.size, 2, none⟩ (.string ⟨x.1.pa.toArray⟩)).setCell ⟨w.heap.size, 3, none⟩ (.string ⟨x.1.pn.toArray⟩)).setCell ⟨w.heap.size, 4, none⟩ (.int .i64 x.1.st)).setCell ⟨w.heap.size, 5, none⟩ (.string ⟨x.1.tx.toArray⟩)).setCell ⟨w.heap.size, 6, none⟩ (.slice x.2.1 x.1.nd.length x.2.2.1)).setCell ⟨w.heap.size, 7, none⟩ (.slice x.2.2.2.1 x.1.sg.length x.2.2.2.2)).setCell ⟨w.heap.size, 8, none⟩ (.int .i64 x.1.ev)).setCell ⟨w.heap.size + 1, 0, none⟩ (.int .i64 0)).setCell ⟨w.heap.size + 1 + 1, 0, none⟩ (.int .i64 0) := ⟨_, rfl⟩
      have hb1 : Blk w5 w.heap.size 67 #[.string ⟨x.1.df.toArray⟩, .string ⟨x.1.id.toArray⟩, .string ⟨x.1.pa.toArray⟩, .string ⟨x.1.pn.toArray⟩, .int .i64 x.1.st, .string ⟨x.1.tx.toArray⟩, .slice x.2.1 x.1.nd.length x.2.2.1, .slice x.2.2.2.1 x.1.sg.length x.2.2.2.2, .int .i64 x.1.ev] := by rw [hw5]; exact (((HBX.out.puts_all [.string ⟨x.1.df.toArray⟩, .string ⟨x.1.id.toArray⟩, .string ⟨x.1.pa.toArray⟩, .string ⟨x.1.pn.toArray⟩, .int .i64 x.1.st, .string ⟨x.1.tx.toArray⟩, .slice x.2.1 x.1.nd.length x.2.2.1, .slice x.2.2.2.1 x.1.sg.length x.2.2.2.2, .int .i64 x.1.ev] rfl).puts_all [.string ⟨x.1.df.toArray⟩, .string ⟨x.1.id.toArray⟩, .string ⟨x.1.pa.toArray⟩, .string ⟨x.1.pn.toArray⟩, .int .i64 x.1.st, .string ⟨x.1.tx.toArray⟩, .slice x.2.1 x.1.nd.length x.2.2.1, .slice x.2.2.2.1 x.1.sg.length x.2.2.2.2, .int .i64 x.1.ev] rfl).far (p := ⟨w.heap.size + 1, 0, none⟩) (by simp) (.int .i64 0)).far (p := ⟨w.heap.size + 1 + 1, 0, none⟩) (by simp; omega) (.int .i64 0)
      have hb2 : Blk w5 (w.heap.size + 1) 3 #[.int .i64 0] := by rw [hw5]; exact (((HBA.out.puts_far (by simp) 0 [.string ⟨x.1.df.toArray⟩, .string ⟨x.1.id.toArray⟩, .string ⟨x.1.pa.toArray⟩, .string ⟨x.1.pn.toArray⟩, .int .i64 x.1.st, .string ⟨x.1.tx.toArray⟩, .slice x.2.1 x.1.nd.length x.2.2.1, .slice x.2.2.2.1 x.1.sg.length x.2.2.2.2, .int .i64 x.1.ev]).puts_far (by simp) 0 [.string ⟨x.1.df.toArray⟩, .string ⟨x.1.id.toArray⟩, .string ⟨x.1.pa.toArray⟩, .string ⟨x.1.pn.toArray⟩, .int .i64 x.1.st, .string ⟨x.1.tx.toArray⟩, .slice x.2.1 x.1.nd.length x.2.2.1, .slice x.2.2.2.1 x.1.sg.length x.2.2.2.2, .int .i64 x.1.ev]).set_ 0 (.int .i64 0)).far (p := ⟨w.heap.size + 1 + 1, 0, none⟩) (by simp) (.int .i64 0)
      have hb3 : Blk w5 (w.heap.size + 1 + 1) 26 #[.int .i64 0] := by rw [hw5]; exact (((HBY.out.puts_far (by simp; omega) 0 [.string ⟨x.1.df.toArray⟩, .string ⟨x.1.id.toArray⟩, .string ⟨x.1.pa.toArray⟩, .string ⟨x.1.pn.toArray⟩, .int .i64 x.1.st, .string ⟨x.1.tx.toArray⟩, .slice x.2.1 x.1.nd.length x.2.2.1, .slice x.2.2.2.1 x.1.sg.length x.2.2.2.2, .int .i64 x.1.ev]).puts_far (by simp; omega) 0 [.string ⟨x.1.df.toArray⟩, .string ⟨x.1.id.toArray⟩, .string ⟨x.1.pa.toArray⟩, .string ⟨x.1.pn.toArray⟩, .int .i64 x.1.st, .string ⟨x.1.tx.toArray⟩, .slice x.2.1 x.1.nd.length x.2.2.1, .slice x.2.2.2.1 x.1.sg.length x.2.2.2.2, .int .i64 x.1.ev]).far (p := ⟨w.heap.size + 1, 0, none⟩) (by simp) (.int .i64 0)).set_ 0 (.int .i64 0)
      have hfin : Touch G w w5 := by rw [hw5]; exact (((HFR2.out.puts (b := w.heap.size) (.inl (Nat.le_refl _)) 0 [.string ⟨x.1.df.toArray⟩, .string ⟨x.1.id.toArray⟩, .string ⟨x.1.pa.toArray⟩, .string ⟨x.1.pn.toArray⟩, .int .i64 x.1.st, .string ⟨x.1.tx.toArray⟩, .slice x.2.1 x.1.nd.length x.2.2.1, .slice x.2.2.2.1 x.1.sg.length x.2.2.2.2, .int .i64 x.1.ev]).puts (b := w.heap.size) (.inl (Nat.le_refl _)) 0 [.string ⟨x.1.df.toArray⟩, .string ⟨x.1.id.toArray⟩, .string ⟨x.1.pa.toArray⟩, .string ⟨x.1.pn.toArray⟩, .int .i64 x.1.st, .string ⟨x.1.tx.toArray⟩, .slice x.2.1 x.1.nd.length x.2.2.1, .slice x.2.2.2.1 x.1.sg.length x.2.2.2.2, .int .i64 x.1.ev]).setCell (p := ⟨w.heap.size + 1, 0, none⟩) (.inl (by simp)) _).setCell (p := ⟨w.heap.size + 1 + 1, 0, none⟩) (.inl (by simp; omega)) _
      have hgood : Good x q w5 := HST.out x q w2 w5 HST3.out HR.out (by rw [hw5]; exact ((((Touch.refl (fun k => k = w.heap.size ∨ k = w.heap.size + 1 ∨ k = w.heap.size + 1 + 1) w2).puts (b := w.heap.size) (.inr (.inl rfl)) 0 [.string ⟨x.1.df.toArray⟩, .string ⟨x.1.id.toArray⟩, .string ⟨x.1.pa.toArray⟩, .string ⟨x.1.pn.toArray⟩, .int .i64 x.1.st, .string ⟨x.1.tx.toArray⟩, .slice x.2.1 x.1.nd.length x.2.2.1, .slice x.2.2.2.1 x.1.sg.length x.2.2.2.2, .int .i64 x.1.ev]).puts (b := w.heap.size) (.inr (.inl rfl)) 0 [.string ⟨x.1.df.toArray⟩, .string ⟨x.1.id.toArray⟩, .string ⟨x.1.pa.toArray⟩, .string ⟨x.1.pn.toArray⟩, .int .i64 x.1.st, .string ⟨x.1.tx.toArray⟩, .slice x.2.1 x.1.nd.length x.2.2.1, .slice x.2.2.2.1 x.1.sg.length x.2.2.2.2, .int .i64 x.1.ev]).setCell (p := ⟨w.heap.size + 1, 0, none⟩) (.inr (.inr (.inl rfl))) _).setCell (p := ⟨w.heap.size + 1 + 1, 0, none⟩) (.inr (.inr (.inr rfl))) _)
      rw [← hw5]
      clear hw5
      have HFIN : RecGEnd stV (.agg #[.string ⟨#[]⟩, .string ⟨#[]⟩, .string ⟨#[]⟩, .string ⟨#[]⟩, .int .i64 0, .string ⟨#[]⟩, .slice none 0 0, .slice none 0 0, .int .i64 0]) n G bad Good w (.returned (.tuple #[.agg #[.string ⟨x.1.df.toArray⟩, .string ⟨x.1.id.toArray⟩, .string ⟨x.1.pa.toArray⟩, .string ⟨x.1.pn.toArray⟩, .int .i64 x.1.st, .string ⟨x.1.tx.toArray⟩, .slice x.2.1 x.1.nd.length x.2.2.1, .slice x.2.2.2.1 x.1.sg.length x.2.2.2.2, .int .i64 x.1.ev], .int .i64 0, .int .i64 0])) w5 := ⟨hfin, .inr ⟨x, q, w5, hgood, .inr ⟨by omega, rfl, rfl⟩⟩⟩
      refine leaves_cons (f := 111) (args := #[.pointer (some ⟨w.heap.size, 0, none⟩), .pointer (some ⟨w.heap.size + 1, 0, none⟩), .pointer (some ⟨w.heap.size + 1 + 1, 0, none⟩)]) (by simp) (by simp [go_sem]) ?_
      refine (rcatch_idle_state _ _ _ _).mono ?_
      rintro e u' w4 ⟨rfl, rfl, rfl⟩
      have hcz0 := hb1.cell 0
      have hcz1 := hb1.cell 1
      have hcz2 := hb1.cell 2
      have hcz3 := hb1.cell 3
      have hcz4 := hb1.cell 4
      have hcz5 := hb1.cell 5
      have hcz6 := hb1.cell 6
      have hcz7 := hb1.cell 7
      have hcz8 := hb1.cell 8
      have hca := hb2.cell 0
      have hcy := hb3.cell 0
      simp only [List.getElem?_toArray, List.getElem?_cons_zero, List.getElem?_cons_succ] at hcz0 hcz1 hcz2 hcz3 hcz4 hcz5 hcz6 hcz7 hcz8 hca hcy
      simpa [Leaves, settle, results, Try.results94, go_sem, hcz0, hcz1, hcz2, hcz3, hcz4, hcz5, hcz6, hcz7, hcz8, hca, hcy] using HFIN

end Go.Proofs.Ytdfhdanfigpbpaa
