/- The walk of the law WorldDisk: it answers true. Conditions stand with it. -/
import Derived.Test.YthmjnlkdoepmjaaDoes
namespace Go.Proofs.Ythmjnlkdoepmjaa
open Go.RowKit

/-- an Op as data, with the slices that it holds -/
structure OpD where
  Do : Int
  file : Int
  n : Int
  kd : Int
  A : Option Addr
  m : Nat
  c : Nat
  xs : List UInt8
  C : Option Addr
  nc : Nat
  cc : Nat
  cuts : List Int
def OpD.cells (o : OpD) : List Value := [.int .i64 o.Do, .int .i64 o.file, .int .i64 o.n, .int .i64 o.kd, .slice o.A o.m o.c, .slice o.C o.nc o.cc]
/-- the Ops that came in -/
structure OpsAt (w : World) (A : Option Addr) (n c : Nat) (ops : List OpD) : Prop where
  vs : Vs w 6 A n c (ops.flatMap OpD.cells)
  lt : ∀ a, A = some a → 0 < n → a.block < w.heap.size
  op : ∀ o ∈ ops, OpAt w.heap.size w o.file o.n o.A o.m o.c o.xs o.C o.nc o.cc o.cuts
theorem OpsAt.len {w : World} {A : Option Addr} {n c : Nat} {ops : List OpD} (h : OpsAt w A n c ops) : ops.length = n := by
  have := h.vs.1
  rw [flat_length OpD.cells 6 (fun _ => rfl)] at this
  omega
theorem Touch.old {w w' : World} (h : Touch (fun k => w.heap.size ≤ k) w w') : Fresh w w' := h.mono fun k hk e => absurd hk (by omega)
/-- the two disks, just made -/
theorem two_new {w w1 w2 : World} {bd br : Nat} (t1 : Fresh w w1) (h1 : Disk w1 (fun k => w.heap.size ≤ k ∧ k < w1.heap.size) bd Dk.new) (t2 : Fresh w1 w2) (h2 : RDisk w2 (fun k => w1.heap.size ≤ k ∧ k < w2.heap.size) br Rk.new) :
    Two w.heap.size w2 (fun k => w.heap.size ≤ k ∧ k < w1.heap.size) (fun k => w1.heap.size ≤ k ∧ k < w2.heap.size) bd br Dk.new Rk.new 0 :=
  ⟨h1.fresh t2, h2, Sim.new, new_small, ⟨(by intro f hf; cases hf), (by show (-1 : Int) ≤ -1; decide), (by show (-1 : Int) ≤ 9223372036854775807; decide)⟩, fun k h3 h4 => by omega, fun k hk => by
    have := t1.size
    rcases hk with hk | hk <;> omega⟩

set_option maxRecDepth 20000 in
set_option maxHeartbeats 8000000 in
theorem law_disk (w : World) (A : Option Addr) (n c : Nat) (ops : List OpD) (h : OpsAt w A n c ops) : Calls Try.prog 7 #[.slice A n c] w fun e w' => e = .returned (.bool true) ∧ Fresh w w' := by
  have hlen := h.len
  have hnc := h.vs.2.1
  have hcm := h.vs.2.2.1
  unfold maxLen at hcm
  obtain ⟨B, hB⟩ : ∃ B, B = w.heap.size := ⟨_, rfl⟩
  have HBE := Lib.hid hB
  have H := Lib.hid h; have HLEN := Lib.hid hlen
  clear h hlen hB
  go_enter Try.func7, Try.ntmps7
  go_wp2_with fail
  refine (newDisk_any w).mono ?_
  rintro e w1 ⟨t1, bd, rfl, hd1⟩
  have HT1 := Lib.hid t1; have HD1 := Lib.hid hd1
  clear t1 hd1
  go_wp2_with fail
  refine (rnewDisk_any w1).mono ?_
  rintro e w2 ⟨t2, br, rfl, hd2⟩
  have H2 := Lib.hid (two_new HT1.out HD1.out t2 hd2)
  have HT2 := Lib.hid (HT1.out.trans t2 fun _ _ => id)
  clear t2 hd2 HD1
  go_wp2_with fail
  go_loopw [5] (fun i wr => ∃ j : Nat, j ≤ n ∧ j ≤ 200 ∧ i = .int .i64 j ∧ ∃ S T d r, Two B wr S T bd br d r (300 * j) ∧ Touch (fun k => B ≤ k) w wr) (fun i _ => n - (intOf i).toNat)
  case atStart => exact ⟨0, by omega, by omega, rfl, _, _, _, _, by rw [HBE.out]; exact H2.out, HT2.out.mono fun _ _ => False.elim⟩
  case round =>
    obtain ⟨j, hj, hj2, rfl, S, T, d, r, h2, ht⟩ := hrel
    have HR := Lib.hid h2; have HT := Lib.hid ht
    clear h2 ht
    by_cases hlt : j < n ∧ j < 200
    · obtain ⟨hl1, hl2⟩ := hlt
      obtain ⟨b, off, rfl⟩ := H.out.vs.at_ (by omega)
      obtain ⟨o, ho⟩ : ∃ o, ops[j]? = some o := ⟨ops[j]'(by rw [HLEN.out]; exact hl1), List.getElem?_eq_getElem _⟩
      have hop := H.out.op o (List.mem_of_getElem? ho)
      have hbk : b < B := by rw [HBE.out]; exact H.out.lt _ rfl (by omega)
      have HC := Lib.hid (show ∀ W, Touch (fun k => B ≤ k) w W → W.cell? ⟨b, off + j * 6, none⟩ = some (.int .i64 o.Do) ∧ W.cell? ⟨b, off + j * 6 + 1, none⟩ = some (.int .i64 o.file) ∧ W.cell? ⟨b, off + j * 6 + 2, none⟩ = some (.int .i64 o.n) ∧ W.cell? ⟨b, off + j * 6 + 3, none⟩ = some (.int .i64 o.kd) ∧ W.cell? ⟨b, off + j * 6 + 4, none⟩ = some (.slice o.A o.m o.c) ∧ W.cell? ⟨b, off + j * 6 + 5, none⟩ = some (.slice o.C o.nc o.cc) from fun W hW => by
        have hv := H.out.vs.touch hW fun a ha h0 e => by
          injection ha with ha
          subst ha
          have e : B ≤ b := e
          omega
        have hx := fun r hr => flat_at OpD.cells 6 (fun _ => rfl) ops j r o ho hr
        exact ⟨hv.cellAt (hx 0 (by omega)), hv.cellAt (hx 1 (by omega)), hv.cellAt (hx 2 (by omega)), hv.cellAt (hx 3 (by omega)), hv.cellAt (hx 4 (by omega)), hv.cellAt (hx 5 (by omega))⟩)
      have hfile := hop.file
      have HOP := Lib.hid hop
      have hdr : Touch (fun k => B ≤ k) w wr.drew := HT.out.drew
      have k0 := HC.out _ hdr
      have HDO := Lib.hid (does_any (HR.out.fresh ((Touch.refl (fun _ => False) wr).drew)) (by have := HT.out.size; have := HBE.out; show B ≤ wr.heap.size; omega) (by omega) o.Do o.file o.n o.kd o.A o.m o.c o.xs o.C o.nc o.cc o.cuts (by have := hop.touch (B := w.heap.size) (w' := wr.drew) (by rw [← HBE.out]; exact hdr); rw [← HBE.out] at this; exact this))
      clear hop ho
      go_upto_region 8 with fail
      go_region_held (fun W => W.cell? ⟨b, off + j * 6, none⟩ = some (.int .i64 o.Do) ∧ W.cell? ⟨b, off + j * 6 + 1, none⟩ = some (.int .i64 o.file) ∧ W.cell? ⟨b, off + j * 6 + 2, none⟩ = some (.int .i64 o.n) ∧ W.cell? ⟨b, off + j * 6 + 3, none⟩ = some (.int .i64 o.kd) ∧ W.cell? ⟨b, off + j * 6 + 4, none⟩ = some (.slice o.A o.m o.c) ∧ W.cell? ⟨b, off + j * 6 + 5, none⟩ = some (.slice o.C o.nc o.cc))
        (first | exact k0 | assumption)
        (first
          | (go_at_call 27; refine HDO.out.mono ?_; rintro e w3 ⟨rfl, t3, S3, T3, d3, r3, h3⟩; have ht3 := Touch.trans hdr t3 fun _ _ e => e; have k3 := HC.out w3 ht3)
          | (go_at_call 16; refine (disk_read h3.disk h3.small (by omega) hfile).mono ?_; rintro e w4 ⟨t4, B4, c4, rfl, _, _⟩; have k4 := HC.out w4 (ht3.trans t4 fun _ _ => False.elim))
          | (go_at_call 28; refine (rdisk_read (h3.ref.fresh t4) h3.fit (by omega) o.file).mono ?_; rintro e w5 ⟨t5, B5, c5, rfl, _, _⟩; rw [← h3.sim.read]; have k5 := HC.out w5 ((ht3.trans t4 fun _ _ => False.elim).trans t5 fun _ _ => False.elim)))
      all_goals
        have HE := Lib.hid (show Two B w5 S3 T3 bd br d3 r3 (300 * (j + 1)) from (h3.fresh t4).fresh t5 |>.grow (by omega))
        have HTE := Lib.hid (show Touch (fun k => B ≤ k) w w5 from (ht3.trans t4 fun _ _ => False.elim).trans t5 fun _ _ => False.elim)
        clear k0 k3 k4 k5 ht3 t3 t4 t5 h3 hdr HDO
        go_wp2_with fail
        refine ⟨⟨j + 1, by omega, by omega, by simp, S3, T3, d3, r3, HE.out, HTE.out⟩, by simp [intOf] <;> omega⟩
    · have HSM := Lib.hid (same_any HR.out (by omega))
      by_cases hjn : j < n
      · have hj200 : j = 200 := by omega
        subst hj200
        go_wp2_with fail
        refine HSM.out.mono ?_
        rintro e w6 ⟨rfl, t6⟩
        have HT6 := Lib.hid (HT.out.trans t6 fun _ _ => False.elim)
        clear t6 HSM
        go_wp2_with fail
        refine (wakes_any w6).mono ?_
        rintro e w7 ⟨rfl, t7⟩
        have HF := Lib.hid (show Fresh w w7 from by
          have := HT6.out.trans t7 fun _ _ => False.elim
          rw [HBE.out] at this
          exact this.old)
        clear t7
        go_wp2_with fail
        go_ret
        exact ⟨rfl, HF.out⟩
      · have hjn2 : j = n := by omega
        subst hjn2
        go_wp2_with fail
        refine HSM.out.mono ?_
        rintro e w6 ⟨rfl, t6⟩
        have HT6 := Lib.hid (HT.out.trans t6 fun _ _ => False.elim)
        clear t6 HSM
        go_wp2_with fail
        refine (wakes_any w6).mono ?_
        rintro e w7 ⟨rfl, t7⟩
        have HF := Lib.hid (show Fresh w w7 from by
          have := HT6.out.trans t7 fun _ _ => False.elim
          rw [HBE.out] at this
          exact this.old)
        clear t7
        go_wp2_with fail
        go_ret
        exact ⟨rfl, HF.out⟩
end Go.Proofs.Ythmjnlkdoepmjaa
