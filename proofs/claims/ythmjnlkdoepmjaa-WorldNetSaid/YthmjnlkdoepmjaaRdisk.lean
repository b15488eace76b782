/- What the document's disk is in memory; the contracts of its calls that only read. Conditions stand with each. -/
import Derived.Test.YthmjnlkdoepmjaaRspec
import Derived.Test.YthmjnlkdoepmjaaVrow
import Derived.Test.YthmjnlkdoepmjaaDisk
import Derived.RegionTactic
import Derived.Deep.QuietTactic
import Derived.BigQuiet
namespace Go.Proofs.Ythmjnlkdoepmjaa
open Go.RowKit

/-- a file of the document's disk, and its bytes' row -/
structure RF where
  n : Int
  raw : List UInt8
  kept : Nat
  v : Value
def RF.fl (f : RF) : Fl := ⟨f.n, f.raw, f.kept⟩
def RF.cells (f : RF) : List Value := [.int .i64 f.n, f.v, .int .i64 f.kept]
def rfCells (fs : List RF) : List Value := fs.flatMap RF.cells
theorem rfCells_length (fs : List RF) : (rfCells fs).length = fs.length * 3 := flat_length RF.cells 3 (fun _ => rfl) fs
theorem rfCells_at {fs : List RF} {i : Nat} {f : RF} (h : fs[i]? = some f) (k : Nat) (hk : k < 3) : (rfCells fs)[i * 3 + k]? = (RF.cells f)[k]? := flat_at RF.cells 3 (fun _ => rfl) fs i k f h hk
structure RDK (w : World) (bd : Nat) (lv fv : Value) (fs : List RF) (r : Rk) : Prop where
  fls : r.fs = fs.map RF.fl
  blk : Blk w bd 100 #[lv, fv, .int .i64 r.stop, .int .i64 r.count]
  row : Own w 104 3 lv fs.length (rfCells fs)
  flt : Own w 120 2 fv r.faults.length (fltCells r.faults)
  file : ∀ f ∈ fs, Row w f.v f.raw
theorem rfCells_one {w : World} {fs : List RF} (h : ∀ f ∈ fs, Row w f.v f.raw) : ∀ u ∈ rfCells fs, u.oneCell' = true := by
  intro u hu
  obtain ⟨f, hf, hx⟩ := List.mem_flatMap.1 hu
  obtain ⟨A, c, hv, _⟩ := (h f hf).form
  simp only [RF.cells, List.mem_cons, List.not_mem_nil, or_false] at hx
  rcases hx with rfl | rfl | rfl
  · rfl
  · rw [hv]; rfl
  · rfl
/-- the document's disk's blocks -/
def rfoot (bd : Nat) (lv fv : Value) (fs : List RF) (k : Nat) : Prop := k = bd ∨ lv.ownBlock = some k ∨ fv.ownBlock = some k ∨ ∃ f ∈ fs, f.v.ownBlock = some k
section
variable {w w' : World} {bd : Nat} {lv fv : Value} {fs : List RF} {r : Rk}
theorem RDK.lt (h : RDK w bd lv fv fs r) : ∀ k, rfoot bd lv fv fs k → k < w.heap.size := by
  rintro k (rfl | hk | hk | ⟨f, hf, hk⟩)
  · exact h.blk.lt
  · exact h.row.lt k hk
  · exact h.flt.lt k hk
  · exact (h.file f hf).lt k hk
theorem RDK.touch {S : Nat → Prop} (h : RDK w bd lv fv fs r) (hb : Touch S w w') (hn : ∀ k, rfoot bd lv fv fs k → ¬ S k) : RDK w' bd lv fv fs r :=
  ⟨h.fls, h.blk.touch hb (hn bd (.inl rfl)), h.row.touch hb fun k e => hn k (.inr (.inl e)), h.flt.touch hb fun k e => hn k (.inr (.inr (.inl e))),
    fun f hf => (h.file f hf).touch hb fun k e => hn k (.inr (.inr (.inr ⟨f, hf, e⟩)))⟩
theorem RDK.fresh (h : RDK w bd lv fv fs r) (hb : Fresh w w') : RDK w' bd lv fv fs r := h.touch hb fun _ _ => id
theorem RDK.len (h : RDK w bd lv fv fs r) : r.fs.length = fs.length := by rw [h.fls, List.length_map]
/-- where the row of files lies -/
theorem RDK.lform (h : RDK w bd lv fv fs r) : ∃ A c, lv = .slice A fs.length c ∧ fs.length ≤ c ∧ c ≤ maxLen ∧ (0 < fs.length → ∃ g, A = some ⟨g, 0, none⟩) := by
  obtain ⟨A, c, hv, h1, h2, h3⟩ := h.row.form
  refine ⟨A, c, hv, h1, h2, fun h0 => ?_⟩
  rcases h3 with ⟨_, h4, _⟩ | ⟨g, hg⟩
  · omega
  · exact ⟨g, hg⟩
theorem RDK.lcell {g c : Nat} (h : RDK w bd (.slice (some ⟨g, 0, none⟩) fs.length c) fv fs r) {i : Nat} {f : RF} (hi : fs[i]? = some f) (k : Nat) (hk : k < 3) : w.cell? ⟨g, i * 3 + k, none⟩ = (RF.cells f)[k]? := by
  have hl : i < fs.length := (List.getElem?_eq_some_iff.1 hi).1
  rw [h.row.cell (by omega), rfCells_at hi k hk]
end
/-- The document's disk in memory, within the blocks S. -/
def RDisk (w : World) (S : Nat → Prop) (bd : Nat) (r : Rk) : Prop := ∃ lv fv fs, RDK w bd lv fv fs r ∧ (∀ k, rfoot bd lv fv fs k → S k) ∧ ∀ k, S k → k < w.heap.size
theorem RDisk.touch {w w' : World} {S T : Nat → Prop} {bd : Nat} {r : Rk} (h : RDisk w S bd r) (hb : Touch T w w') (hn : ∀ k, S k → ¬ T k) : RDisk w' S bd r := by
  obtain ⟨lv, fv, fs, h1, h2, h3⟩ := h
  exact ⟨lv, fv, fs, h1.touch hb fun k hk => hn k (h2 k hk), h2, fun k hk => Nat.lt_of_lt_of_le (h3 k hk) hb.size⟩
theorem RDisk.fresh {w w' : World} {S : Nat → Prop} {bd : Nat} {r : Rk} (h : RDisk w S bd r) (hb : Fresh w w') : RDisk w' S bd r := h.touch hb fun _ _ => id
theorem RDK.disk {w w' : World} {S : Nat → Prop} {bd : Nat} {lv fv : Value} {fs : List RF} {r : Rk} (h : RDK w' bd lv fv fs r) (h1 : ∀ k, rfoot bd lv fv fs k → S k ∨ w.heap.size ≤ k) (h2 : ∀ k, S k → k < w.heap.size) (hs : w.heap.size ≤ w'.heap.size) : RDisk w' (more S w w') bd r :=
  ⟨lv, fv, fs, h, fun k hk => (h1 k hk).elim .inl fun e => .inr ⟨e, h.lt k hk⟩, fun k hk => hk.elim (fun e => Nat.lt_of_lt_of_le (h2 k e) hs) (·.2)⟩

set_option maxRecDepth 20000 in
theorem rnewDisk_any (w : World) : Calls Try.prog 26 #[] w fun e w' => Fresh w w' ∧ ∃ bd, e = .returned (.pointer (some ⟨bd, 0, none⟩)) ∧ RDisk w' (fun k => w.heap.size ≤ k ∧ k < w'.heap.size) bd Rk.new := by
  go_enter Try.func26, Try.ntmps26
  go_wp2_with fail
  go_ret
  refine ⟨(Touch.refl _ w).alloc _, w.heap.size, by simp, .slice none 0 0, .slice none 0 0, [], ⟨rfl, ?_, Own.nil_ _ _ _, Own.nil_ _ _ _, by simp⟩, ?_, fun k hk => hk.2⟩
  · exact Blk.new w 100 #[.slice none 0 0, .slice none 0 0, .int .i64 (-1), .int .i64 0]
  · rintro k (rfl | hk | hk | ⟨f, hf, _⟩)
    · simp
    · cases hk
    · cases hk
    · cases hf

theorem pos_drop {n : Int} {fs : List Fl} {j : Nat} {f : Fl} (h : fs[j]? = some f) : Fl.pos n (fs.drop j) = (if n ≤ f.n then 0 else Fl.pos n (fs.drop (j + 1)) + 1) ∧ Fl.hit n (fs.drop j) = (if n ≤ f.n then decide (f.n = n) else Fl.hit n (fs.drop (j + 1))) := by
  obtain ⟨hj, rfl⟩ := List.getElem?_eq_some_iff.1 h
  rw [List.drop_eq_getElem_cons hj]
  exact ⟨Fl.pos_cons _ _ _, Fl.hit_cons _ _ _⟩
theorem ret_at {a b : Int} {p q : Bool} (h1 : a = b) (h2 : p = q) : Ending.returned (.tuple #[.int .i64 a, .bool p]) = .returned (.tuple #[.int .i64 b, .bool q]) := by rw [h1, h2]

set_option maxRecDepth 20000 in
set_option maxHeartbeats 1000000 in
theorem rat_any (w : World) (bd : Nat) (lv fv : Value) (fs : List RF) (r : Rk) (n : Int) (h : RDK w bd lv fv fs r) (hm : fs.length ≤ 1000000000) :
    Calls Try.prog 62 #[.pointer (some ⟨bd, 0, none⟩), .int .i64 n] w fun e w' => (∃ q, w' = w.drewN q) ∧ e = .returned (.tuple #[.int .i64 (Fl.pos n r.fs), .bool (Fl.hit n r.fs)]) := by
  obtain ⟨A, c, rfl, hle, hcm, hA⟩ := h.lform
  have hc0 : w.cell? ⟨bd, 0, none⟩ = some (.slice A fs.length c) := h.blk.cell 0
  unfold maxLen at hcm
  have hlen := h.len
  have H := Lib.hid h; have HA := Lib.hid hA; have HLEN := Lib.hid hlen
  clear h hA hlen
  go_enter Try.func62, Try.ntmps62
  go_wp2_with fail
  go_loopw [6] (fun i wr => ∃ j : Nat, j ≤ fs.length ∧ i = .int .i64 j ∧ wr = w ∧ Fl.pos n r.fs = j + Fl.pos n (r.fs.drop j) ∧ Fl.hit n r.fs = Fl.hit n (r.fs.drop j)) (fun i _ => fs.length - (intOf i).toNat)
  case atStart => exact ⟨0, by omega, rfl, rfl, by simp, by simp⟩
  case round =>
    obtain ⟨j, hj, rfl, rfl, hp, hh⟩ := hrel
    by_cases hlt : j < fs.length
    · obtain ⟨g, rfl⟩ := HA.out (by omega)
      obtain ⟨f, hf⟩ : ∃ f, fs[j]? = some f := ⟨fs[j], List.getElem?_eq_getElem hlt⟩
      have hcj : wr.cell? ⟨g, j * 3, none⟩ = some (.int .i64 f.n) := H.out.lcell hf 0 (by omega)
      have hfl : r.fs[j]? = some f.fl := by rw [H.out.fls, List.getElem?_map, hf]; rfl
      obtain ⟨hp1, hh1⟩ := pos_drop (n := n) hfl
      rw [hp1] at hp
      rw [hh1] at hh
      by_cases hn : n ≤ f.n
      · rw [if_pos (show n ≤ f.fl.n from hn)] at hp hh
        have HP := Lib.hid hp; have HH := Lib.hid hh
        clear hp hh hp1 hh1 hfl hf
        go_wp2_with fail
        go_quiet (fail)
        go_wp2_with fail
        go_ret2
        exact ⟨⟨_, rfl⟩, ret_at (by rw [HP.out]; simp) (by rw [HH.out]; rfl)⟩
      · rw [if_neg (show ¬ n ≤ f.fl.n from hn)] at hp hh
        have HP := Lib.hid hp; have HH := Lib.hid hh
        clear hp hh hp1 hh1 hfl hf
        go_wp2_with fail
        go_roundw
        case rel => exact ⟨j + 1, by omega, by simp, by trivial, by rw [HP.out]; omega, HH.out⟩
        case measure => simp [intOf] <;> omega
    · have : j = fs.length := by omega
      subst this
      rw [List.drop_eq_nil_of_le (by rw [HLEN.out]; omega)] at hp hh
      have HP := Lib.hid hp; have HH := Lib.hid hh
      clear hp hh
      go_wp2_with fail
      go_ret2
      exact ⟨⟨0, rfl⟩, ret_at (by rw [HP.out]; simp [Fl.pos]) (by rw [HH.out]; rfl)⟩

section
variable {w : World} {bd : Nat} {lv fv : Value} {fs : List RF} {r : Rk}
theorem RDK.hit (h : RDK w bd lv fv fs r) {n : Int} (hh : Fl.hit n r.fs = true) : ∃ f, fs[Fl.pos n r.fs]? = some f ∧ f.n = n := by
  obtain ⟨x, hx, hn⟩ := Fl.hit_lt hh
  rw [h.fls, List.getElem?_map] at hx
  obtain ⟨f, hf, rfl⟩ := Option.map_eq_some_iff.1 hx
  rw [← h.fls] at hf
  exact ⟨f, hf, hn⟩
theorem RDK.at_some (h : RDK w bd lv fv fs r) (ho : r.fs.Pairwise fun a b => a.n < b.n) {n : Int} (hh : Fl.hit n r.fs = true) {f : RF} (hf : fs[Fl.pos n r.fs]? = some f) : Fl.at_ r.fs n = some f.fl := by
  rw [Fl.at_pos ho, if_pos hh]
  have : ∀ p, fs[p]? = some f → r.fs[p]? = some f.fl := fun p hp => by rw [h.fls, List.getElem?_map, hp]; rfl
  exact this _ hf
theorem RDK.at_none (ho : r.fs.Pairwise fun a b => a.n < b.n) {n : Int} (hh : Fl.hit n r.fs = false) : Fl.at_ r.fs n = none := by
  rw [Fl.at_pos ho, hh]
  rfl
theorem RDK.pos_lt (_h : RDK w bd lv fv fs r) {n : Int} {f : RF} (hf : fs[Fl.pos n r.fs]? = some f) : Fl.pos n r.fs < fs.length := (List.getElem?_eq_some_iff.1 hf).1
end

set_option maxRecDepth 20000 in
set_option maxHeartbeats 1000000 in
theorem rkept_any (w : World) (bd : Nat) (lv fv : Value) (fs : List RF) (r : Rk) (n : Int) (h : RDK w bd lv fv fs r) (hm : fs.length ≤ 1000000000) (ho : r.fs.Pairwise fun a b => a.n < b.n) :
    Calls Try.prog 65 #[.pointer (some ⟨bd, 0, none⟩), .int .i64 n] w fun e w' => (∃ q, w' = w.drewN q) ∧ e = .returned (.int .i64 (r.kept n)) := by
  have HAT := Lib.hid (rat_any w bd lv fv fs r n h hm)
  obtain ⟨A, c, rfl, hle, hcm, hA⟩ := h.lform
  have hc0 : ∀ q, (w.drewN q).cell? ⟨bd, 0, none⟩ = some (.slice A fs.length c) := fun _ => h.blk.cell 0
  unfold maxLen at hcm
  cases hh : Fl.hit n r.fs with
  | true =>
    obtain ⟨f, hf, hfn⟩ := h.hit hh
    have hk : r.kept n = f.kept := by unfold Rk.kept; rw [h.at_some ho hh hf]; rfl
    have hlt := h.pos_lt hf
    obtain ⟨g, rfl⟩ := hA (by omega)
    have hc2 : ∀ q, (w.drewN q).cell? ⟨g, Fl.pos n r.fs * 3 + 2, none⟩ = some (.int .i64 f.kept) := fun _ => h.lcell hf 2 (by omega)
    have HK := Lib.hid hk
    rw [hh] at HAT
    generalize Fl.pos n r.fs = p at *
    clear h hk hA hf
    go_enter Try.func65, Try.ntmps65
    go_wp2_with fail
    refine HAT.out.mono ?_
    rintro e w1 ⟨⟨q, rfl⟩, rfl⟩
    clear HAT
    go_wp2_with fail
    go_ret
    exact ⟨⟨_, rfl⟩, ret_int (by rw [HK.out])⟩
  | false =>
    have hk : r.kept n = 0 := by unfold Rk.kept; rw [RDK.at_none ho hh]
    have HK := Lib.hid hk
    rw [hh] at HAT
    clear h hk hA
    go_enter Try.func65, Try.ntmps65
    go_wp2_with fail
    refine HAT.out.mono ?_
    rintro e w1 ⟨⟨q, rfl⟩, rfl⟩
    clear HAT
    go_wp2_with fail
    go_ret
    exact ⟨⟨_, rfl⟩, ret_int (by rw [HK.out]; rfl)⟩

set_option maxRecDepth 20000 in
set_option maxHeartbeats 1000000 in
theorem rread_any (w : World) (bd : Nat) (lv fv : Value) (fs : List RF) (r : Rk) (n : Int) (h : RDK w bd lv fv fs r) (hm : fs.length ≤ 1000000000) (ho : r.fs.Pairwise fun a b => a.n < b.n) (hb : ∀ f ∈ fs, f.raw.length ≤ 140737488355000) :
    Calls Try.prog 28 #[.pointer (some ⟨bd, 0, none⟩), .int .i64 n] w fun e w' => Fresh w w' ∧ ∃ B c, e = .returned (.slice B (r.read n).length c) ∧ Row w' (.slice B (r.read n).length c) (r.read n) ∧ ∀ a, B = some a → w.heap.size ≤ a.block := by
  have HAT := Lib.hid (rat_any w bd lv fv fs r n h hm)
  obtain ⟨A, c, rfl, hle, hcm, hA⟩ := h.lform
  have hc0 : ∀ q o, ((w.drewN q).alloc o).cell? ⟨bd, 0, none⟩ = some (.slice A fs.length c) := fun _ o => (h.blk.alloc o).cell 0
  unfold maxLen at hcm
  cases hh : Fl.hit n r.fs with
  | true =>
    obtain ⟨f, hf, hfn⟩ := h.hit hh
    have hk : r.read n = f.raw := by unfold Rk.read; rw [h.at_some ho hh hf]; rfl
    have hlt := h.pos_lt hf
    obtain ⟨g, rfl⟩ := hA (by omega)
    have hF := h.file f (List.mem_of_getElem? hf)
    obtain ⟨C, cc, hv, hv1, hv2, _⟩ := hF.form
    have hbf := hb f (List.mem_of_getElem? hf)
    have hc2 : ∀ q o, ((w.drewN q).alloc o).cell? ⟨g, Fl.pos n r.fs * 3 + 1, none⟩ = some (.slice C f.raw.length cc) := fun q o => by
      have := ((h.fresh ((Touch.refl (fun _ => False) w).alloc o)).lcell hf 1 (by omega))
      rw [show (RF.cells f)[1]? = some f.v from rfl, hv] at this
      exact this
    rw [hk]
    have HF := Lib.hid (fun q o => Row.bs (show Row ((w.drewN q).alloc o) (.slice C f.raw.length cc) f.raw from by rw [← hv]; exact (hF.drewN q).alloc o))
    rw [hh] at HAT
    generalize Fl.pos n r.fs = p at *
    clear h hk hA hf hF hv hb
    go_enter Try.func28, Try.ntmps28
    go_wp2_with fail
    refine HAT.out.mono ?_
    rintro e w1 ⟨⟨q, rfl⟩, rfl⟩
    clear HAT
    go_wp2_with (at_builtin; refine wpList_row_bs rfl _ _ 22 rfl Try.info5 Try.underlying22 (.slice (some ⟨w.heap.size, 0, none⟩) 0 0) [] rfl (Row.lit [] #[] rfl (by simp)) C f.raw.length cc f.raw rfl (HF.out q _) (by simp only [List.length_nil]; omega) ?_; intro B1 c1 w1 r1 g1 o1; simp only [List.length_nil, Nat.zero_add, List.nil_append] at r1 g1 o1)
    go_ret
    have hT1 : Fresh w w1 := (((Touch.refl _ w).drewN q).alloc _).grown g1 (fun k hk => .inl (by simp only [Value.ownBlock, Option.some.injEq] at hk; omega))
    refine ⟨hT1, B1, c1, rfl, r1, ?_⟩
    rintro a rfl
    rcases o1 with h | h
    · simp only [Value.ownBlock, Option.some.injEq] at h
      omega
    · simp only [Value.ownBlock, alloc_size, Option.some.injEq] at h
      change a.block = w.heap.size + 1 at h
      omega
  | false =>
    have hk : r.read n = [] := by unfold Rk.read; rw [RDK.at_none ho hh]
    rw [hk]
    rw [hh] at HAT
    clear h hk hA
    go_enter Try.func28, Try.ntmps28
    go_wp2_with fail
    refine HAT.out.mono ?_
    rintro e w1 ⟨⟨q, rfl⟩, rfl⟩
    clear HAT
    go_wp2_with fail
    go_ret
    exact ⟨(Touch.refl _ w).drewN q, none, 0, rfl, Row.nil_ _, fun _ h => by cases h⟩
end Go.Proofs.Ythmjnlkdoepmjaa
