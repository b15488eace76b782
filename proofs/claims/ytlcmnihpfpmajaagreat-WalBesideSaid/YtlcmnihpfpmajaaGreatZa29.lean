/- The wal claims' texts, several in one: Free, Sgs. Conditions stand with each theorem. -/
import Derived.Test.YtlcmnihpfpmajaaGreatZa27
import Derived.Test.YtlcmnihpfpmajaaGreatZa28
/- wal.Log.free. Conditions stand with it. -/
namespace Go.Proofs.YtlcmnihpfpmajaaGreat
open Go.RowKit
attribute [local go_sem] Oper.semAt_some
theorem BSet.grown {w w' : World} {b : Nat} {l : List Int} {row : Option Nat} (h : BSet w b l) (hg : w.grownBy w' row) (hn : some b ≠ row) : BSet w' b l := h.heap (hg.block b h.lt hn)
theorem BSet.ne_own {w : World} {b : Nat} {l : List Int} {e : TypeId} {sz n : Nat} {v : Value} {us : List Value} (h : BSet w b l) (ho : Own w e sz v n us) : some b ≠ v.ownBlock := by
  intro hb
  rcases ho.2 with hnil | ⟨g, cap, cur, rfl, hh, _⟩
  · rw [hnil.1] at hb
    cases hb
  · injection hb with hb
    exact h.ne_blk (t := e) hh hb
def segF (segs : List Seg) : List Int := segs.map fun s => (s.file : Int)
theorem isSeg_mem (segs : List Seg) (f : Fl) : isSeg segs f = true ↔ f.n ∈ segF segs := by
  unfold isSeg segF
  rw [List.any_eq_true, List.mem_map]
  constructor
  · rintro ⟨s, h1, h2⟩; exact ⟨s, h1, of_decide_eq_true h2⟩
  · rintro ⟨s, h1, h2⟩; exact ⟨s, h1, decide_eq_true h2⟩
theorem strangeN_mem {fs : List Fl} {base : Nat} {segs : List Seg} {m : Int} (h : m ∈ strangeN fs base segs) : m ∈ fs.map Fl.n := by
  unfold strangeN at h
  obtain ⟨f, h1, h2⟩ := List.mem_map.1 h
  exact List.mem_map.2 ⟨f, (List.mem_filter.1 h1).1, h2⟩
theorem strangeN_snoc (fs : List Fl) (f : Fl) (base : Nat) (segs : List Seg) : strangeN (fs ++ [f]) base segs = if (inR base f && !isSeg segs f) = true then strangeN fs base segs ++ [f.n] else strangeN fs base segs := by
  unfold strangeN
  rw [List.filter_append, List.map_append]
  by_cases h : (inR base f && !isSeg segs f) = true
  · rw [if_pos h, List.filter_cons, if_pos h]
    rfl
  · rw [if_neg h, List.filter_cons, if_neg h]
    simp
/-- what is used, in the end -/
theorem used_all (fs : List Fl) (base : Nat) (segs : List Seg) (m : Int) : m ∈ (strangeN fs base segs).reverse ++ segF segs ↔ m ∈ usedN fs base segs := by
  unfold usedN strangeN
  rw [List.mem_append, List.mem_append, List.mem_reverse]
  constructor
  · rintro (h | h)
    · obtain ⟨f, h1, h2⟩ := List.mem_map.1 h
      obtain ⟨h3, h4⟩ := List.mem_filter.1 h1
      rw [Bool.and_eq_true] at h4
      exact .inr (List.mem_map.2 ⟨f, List.mem_filter.2 ⟨h3, h4.1⟩, h2⟩)
    · exact .inl h
  · rintro (h | h)
    · exact .inr h
    · obtain ⟨f, h1, h2⟩ := List.mem_map.1 h
      obtain ⟨h3, h4⟩ := List.mem_filter.1 h1
      by_cases hs : isSeg segs f = true
      · exact .inr (h2 ▸ (isSeg_mem segs f).1 hs)
      · exact .inl (List.mem_map.2 ⟨f, List.mem_filter.2 ⟨h3, by rw [h4]; simp [hs]⟩, h2⟩)
theorem nodup_take {α : Type} {l : List α} (h : l.Nodup) {j : Nat} {x : α} (hj : l[j]? = some x) : x ∉ l.take j := by
  intro hx
  obtain ⟨i, hi, e⟩ := List.mem_iff_getElem.1 hx
  rw [List.length_take] at hi
  rw [List.getElem_take] at e
  obtain ⟨hj1, hj2⟩ := List.getElem?_eq_some_iff.1 hj
  have := (List.getElem_inj h).1 (e.trans hj2.symm)
  omega
theorem intsV_append (a b : List Int) : intsV (a ++ b) = intsV a ++ intsV b := by simp [intsV]
/-- a strange file's number is noted, and marked -/
theorem free_step {w wr w4 w5 w6 : World} {v : Value} {T U : List Int} {x : Int} {B B4 : Option Addr} {n cf c4 : Nat} {fsV : List Value}
    (hf : Fresh w wr) (hof : Own wr 3 1 (.slice B n cf) n fsV) (_ho : Own wr 3 1 v T.length (intsV T)) (hn : ∀ q, v.ownBlock = some q → w5.heap.size ≤ q) (hz : w5.heap.size ≤ wr.heap.size)
    {o : Obj} (g4 : (wr.alloc o).grownBy w4 v.ownBlock) (b4 : (Value.slice B4 (T.length + 1) c4).ownBlock = v.ownBlock ∨ (Value.slice B4 (T.length + 1) c4).ownBlock = some (wr.alloc o).heap.size)
    (o4 : Own w4 3 1 (.slice B4 (T.length + 1) c4) (T.length + 1) (intsV T ++ [.int .i64 x])) (hb4 : BSet w4 w.heap.size U) (_hb6 : BSet w6 w.heap.size (x :: U)) (g6 : w4.grownBy w6 (some w.heap.size)) (h5 : w.heap.size ≤ w5.heap.size) (hof5 : Own w5 3 1 (.slice B n cf) n fsV) :
    Own w6 3 1 (.slice B4 (T.length + 1) c4) (T.length + 1) (intsV T ++ [.int .i64 x]) ∧ (∀ q, (Value.slice B4 (T.length + 1) c4).ownBlock = some q → w5.heap.size ≤ q) ∧ Fresh w w6 ∧ Own w6 3 1 (.slice B n cf) n fsV ∧ w5.heap.size ≤ w6.heap.size := by
  have hs4 := g4.size
  have hs6 := g6.size
  have hsa : (wr.alloc o).heap.size = wr.heap.size + 1 := World.size_alloc _ _
  have hx : ∀ q, (Value.slice B4 (T.length + 1) c4).ownBlock = some q → w5.heap.size ≤ q := fun q hq => by
    rcases b4 with e | e
    · exact hn q (e.symm.trans hq)
    · rw [hq] at e
      injection e with e
      omega
  have hf4 : Fresh w w4 := (hf.alloc o).grown g4 fun q hq => .inl (by have := hn q hq; omega)
  have hof4 : Own w4 3 1 (.slice B n cf) n fsV := (hof.alloc o).grown g4 fun k hk e => by
    have h3 := hof5.lt k hk
    have h4 := hn k e.symm
    omega
  refine ⟨o4.grown g6 fun k hk e => ?_, hx, hf4.grown g6 fun q hq => .inl (by injection hq with hq; omega), hof4.grown g6 fun k hk e => ?_, by omega⟩
  · exact hb4.ne_own o4 (by rw [← e, hk])
  · exact hb4.ne_own hof4 (by rw [← e, hk])
section
variable {w : World} {bl bd : Nat} {R S : Nat → Prop} {l : Lg} {sv rv : Value} {vs : List Value} {d : Dk} {K : Nat}
def FreeEnd (w : World) (l : Lg) (d : Dk) (e : Ending) (w' : World) : Prop :=
  Fresh w w' ∧ ∃ B c, e = .returned (.tuple #[.int .i64 (freeP (usedN d.fs l.base l.segs) l.base : Nat), .slice B (strangeN d.fs l.base l.segs).length c]) ∧
    Own w' 3 1 (.slice B (strangeN d.fs l.base l.segs).length c) (strangeN d.fs l.base l.segs).length (intsV (strangeN d.fs l.base l.segs)) ∧ ∀ q, (Value.slice B (strangeN d.fs l.base l.segs).length c).ownBlock = some q → w.heap.size ≤ q
set_option maxRecDepth 200000 in
set_option maxHeartbeats 8000000 in
theorem free_any (h : LM w bl bd R l sv rv vs) (hD : Disk w S bd d) (hs : d.small K) (hK : K ≤ 900000000) (hnd : (d.fs.map Fl.n).Nodup) (hfw : ∀ f ∈ d.fs, (Lit.int .i64 f.n).wf = true)
    (hsl : l.segs.length + d.fs.length ≤ 1000000) (hfl : ∀ s ∈ l.segs, s.file < 4611686018427387904) (hbase : l.base ≤ 100000000) :
    Calls Tryz.prog 64 #[.pointer (some ⟨bl, 0, none⟩)] w (FreeEnd w l d) := by
  have H := Lib.hid h; have HD := Lib.hid hD; have HS := Lib.hid hs; have HND := Lib.hid hnd; have HFW := Lib.hid hfw; have HFL := Lib.hid hfl
  obtain ⟨A, c, rfl, hnc, hcm, hA⟩ := h.segs.form
  have c0 : w.cell? ⟨bl, 0, none⟩ = some (.pointer (some ⟨bd, 0, none⟩)) := h.blk.cell 0
  have c1 : w.cell? ⟨bl, 1, none⟩ = some (.int .i64 (l.base : Int)) := h.blk.cell 1
  have c2 : w.cell? ⟨bl, 2, none⟩ = some (.slice A l.segs.length c) := h.blk.cell 2
  obtain ⟨w1, hw1⟩ : ∃ w1, w1 = w.alloc (.map #[] 0) := ⟨_, rfl⟩
  have hf1 : Fresh w w1 := by rw [hw1]; exact (Touch.refl _ w).alloc _
  have hb1 : BSet w1 w.heap.size [] := by rw [hw1]; exact BSet.new w
  have HF1 := Lib.hid hf1; have HB1 := Lib.hid hb1; have HW1 := Lib.hid hw1
  have d2 := hf1.cell c2 id
  rw [hw1] at d2
  clear h hD hs hnd hfw hfl hf1 hb1 hw1
  have hmm := @run_makeMap Tryz.prog
  go_enter Tryz.func64, Tryz.ntmps64
  go_wp2_with fail
  go_loopw [15] (fun i wr => ∃ k : Nat, k ≤ l.segs.length ∧ i = .int .i64 k ∧ Fresh w wr ∧ BSet wr w.heap.size (segF (l.segs.take k)).reverse) (fun i _ => l.segs.length - (intOf i).toNat)
  case atStart =>
    rw [← HW1.out]
    exact ⟨0, Nat.zero_le _, rfl, HF1.out, HB1.out⟩
  case round =>
    obtain ⟨k, hk, rfl, hf, hb⟩ := hrel
    have HF := Lib.hid hf; have HB := Lib.hid hb
    by_cases hlt : k < l.segs.length
    · obtain ⟨s, hsk⟩ : ∃ s, l.segs[k]? = some s := ⟨_, List.getElem?_eq_getElem hlt⟩
      obtain ⟨g, o, rfl⟩ : ∃ g o, A = some ⟨g, o * 8, none⟩ := by
        rcases hA with ⟨_, h2, _⟩ | ⟨g, o, e⟩
        · omega
        · exact ⟨g, _, e⟩
      have hsg := (H.out.segs.fresh hf)
      have cg : ∀ j, j < 8 → wr.cell? ⟨g, o * 8 + (k * 8 + j), none⟩ = (segC s)[j]? := fun j hj => by
        rw [hsg.cell (j := k * 8 + j) (by omega), segsC_get _ _ hsk hj]
      have g0 : wr.cell? ⟨g, o * 8 + k * 8, none⟩ = some (.int .i64 (s.number : Int)) := cg 0 (by omega)
      have g1 : wr.cell? ⟨g, o * 8 + k * 8 + 1, none⟩ = some (.int .i64 (s.ahead : Int)) := cg 1 (by omega)
      have g2 : wr.cell? ⟨g, o * 8 + k * 8 + 2, none⟩ = some (.int .i64 (s.first : Int)) := cg 2 (by omega)
      have g3 : wr.cell? ⟨g, o * 8 + k * 8 + 3, none⟩ = some (.int .i64 (s.next : Int)) := cg 3 (by omega)
      have g4 : wr.cell? ⟨g, o * 8 + k * 8 + 4, none⟩ = some (.bool s.whole) := cg 4 (by omega)
      have g5 : wr.cell? ⟨g, o * 8 + k * 8 + 5, none⟩ = some (.int .i64 (s.file : Int)) := cg 5 (by omega)
      have g6 : wr.cell? ⟨g, o * 8 + k * 8 + 6, none⟩ = some (.int .i64 (s.size : Int)) := cg 6 (by omega)
      have g7 : wr.cell? ⟨g, o * 8 + k * 8 + 7, none⟩ = some (.int .i64 (s.last : Int)) := cg 7 (by omega)
      have hws : (Lit.int .i64 (s.file : Int)).wf = true := nat_wf (by have := HFL.out s (List.mem_of_getElem? hsk); omega)
      have hbl : (segF (l.segs.take k)).reverse.length < maxLen := by unfold maxLen segF; rw [List.length_reverse, List.length_map, List.length_take]; omega
      obtain ⟨w4, hput, hb4, hg4⟩ := (hb.touch ((Touch.refl (fun _ => False) wr).alloc (.cells #[.int .i64 (s.number : Int), .int .i64 (s.ahead : Int), .int .i64 (s.first : Int), .int .i64 (s.next : Int), .bool s.whole, .int .i64 (s.file : Int), .int .i64 (s.size : Int), .int .i64 (s.last : Int)] 91)) id).put hws hbl
      have HF4 := Lib.hid (show Fresh w w4 from (hf.alloc _).grown hg4 fun q hq => .inl (by injection hq with hq; omega))
      have HB4 := Lib.hid hb4
      have hseg : segF (l.segs.take (k + 1)) = segF (l.segs.take k) ++ [(s.file : Int)] := by
        unfold segF
        rw [List.take_add_one, hsk, List.map_append]
        rfl
      have HSEG := Lib.hid hseg
      clear hf hb hsg cg hb4 hg4 hbl hws hseg
      go_wp2_with fail
      go_roundw
      case rel => exact ⟨k + 1, by omega, by go_num, HF4.out, by rw [HSEG.out, List.reverse_append]; exact HB4.out⟩
      case measure => simp [intOf] <;> omega
    · obtain rfl : k = l.segs.length := by omega
      rw [List.take_length] at HB
      have HFL2 := Lib.hid (disk_files (HD.out.fresh hf) HS.out (by omega))
      have e0 : wr.cell? ⟨bl, 0, none⟩ = some (.pointer (some ⟨bd, 0, none⟩)) := hf.cell c0 id
      clear hf hb hA
      go_wp2_with fail
      refine HFL2.out.mono ?_
      rintro e w5 ⟨hf5, B, cf, rfl, ho5, hn5⟩
      have HF5 := Lib.hid (HF.out.trans hf5 fun _ _ => id)
      have HB5 := Lib.hid (HB.out.touch hf5 id)
      have HO5 := Lib.hid ho5
      have HN5 := Lib.hid (show ∀ k, (Value.slice B d.fs.length cf).ownBlock = some k → w.heap.size ≤ k from fun k hk => Nat.le_trans HF.out.size (hn5 k hk))
      have HSZ5 := Lib.hid (show ∀ k, (Value.slice B d.fs.length cf).ownBlock = some k → wr.heap.size ≤ k from hn5)
      obtain ⟨BA, bc, hBv, _, _, hBA⟩ := ho5.form
      injection hBv with hB1 _ hB2
      subst hB1 hB2
      clear hf5 ho5 hn5 HFL2 e0
      go_wp2_with fail
      go_loopw [3, 29] (fun v i wx => ∃ (j : Nat) (T : List Int), j ≤ d.fs.length ∧ i = .int .i64 j ∧ T = strangeN (d.fs.take j) l.base l.segs ∧ Own wx 3 1 v T.length (intsV T) ∧ (∀ q, v.ownBlock = some q → w5.heap.size ≤ q) ∧ Fresh w wx ∧ Own wx 3 1 (.slice B d.fs.length cf) d.fs.length (intsV (d.fs.map Fl.n)) ∧ BSet wx w.heap.size (T.reverse ++ (segF l.segs).reverse) ∧ w5.heap.size ≤ wx.heap.size) (fun _ i _ => d.fs.length - (intOf i).toNat)
      case atStart => exact ⟨0, [], Nat.zero_le _, rfl, rfl, Own.nil_ _ _ _, fun q hq => (by cases hq), HF5.out, HO5.out, HB5.out, Nat.le_refl _⟩
      case round =>
        obtain ⟨j, T, hj, rfl, hT, ho, hn, hf, hof, hb, hsz⟩ := hrel
        obtain ⟨VA, vc, rfl, _, _, _⟩ := ho.form
        have HT := Lib.hid hT; have HO := Lib.hid ho; have HN := Lib.hid hn; have HF := Lib.hid hf; have HOF := Lib.hid hof; have HB := Lib.hid hb; have HZ := Lib.hid hsz
        clear hT
        by_cases hlt : j < d.fs.length
        · obtain ⟨f, hfj⟩ : ∃ f, d.fs[j]? = some f := ⟨_, List.getElem?_eq_getElem hlt⟩
          obtain ⟨gB, rfl⟩ : ∃ g, B = some ⟨g, 0, none⟩ := by
            rcases hBA with ⟨_, h2, _⟩ | ⟨g, e⟩
            · omega
            · exact ⟨g, e⟩
          have cfj : wr.cell? ⟨gB, j, none⟩ = some (.int .i64 f.n) := by
            rw [hof.cell (j := j) (by omega), intsV_get, List.getElem?_map, hfj]
            rfl
          have e1 : wr.cell? ⟨bl, 1, none⟩ = some (.int .i64 (l.base : Int)) := hf.cell c1 id
          have hsn : strangeN (d.fs.take (j + 1)) l.base l.segs = if (inR l.base f && !isSeg l.segs f) = true then T ++ [f.n] else T := by
            rw [List.take_add_one, hfj, HT.out]
            exact strangeN_snoc _ _ _ _
          have HSN := Lib.hid hsn
          have HFJ := Lib.hid hfj
          have hwr : IntKind.i64.wrap ((l.base : Int) + 1048576) = (l.base : Int) + 1048576 := IntWalk.i64_in _ (by omega)
          have hfw := HFW.out f (List.mem_of_getElem? hfj)
          have hlk := hb.look hfw
          have HFWF := Lib.hid hfw
          clear hsn hfj ho hn hof hb hf hfw
          by_cases h1 : (l.base : Int) ≤ f.n
          · by_cases h2 : f.n < (l.base : Int) + 1048576
            · have h1d : decide ((l.base : Int) ≤ f.n) = true := by simpa using h1
              have h2d : decide (f.n < (l.base : Int) + 1048576) = true := by simpa using h2
              by_cases h3 : f.n ∈ T.reverse ++ (segF l.segs).reverse
              · rw [decide_eq_true h3] at hlk
                have HEND := Lib.hid (show T = strangeN (d.fs.take (j + 1)) l.base l.segs by
                  have hs : isSeg l.segs f = true := by
                    rw [isSeg_mem]
                    rcases List.mem_append.1 h3 with h | h
                    · exfalso
                      rw [List.mem_reverse, HT.out] at h
                      have h4 := strangeN_mem h
                      rw [List.map_take] at h4
                      exact nodup_take HND.out (by rw [List.getElem?_map, HFJ.out]; rfl) h4
                    · exact List.mem_reverse.1 h
                  rw [HSN.out, if_neg (by rw [Bool.and_eq_true, hs]; simp)])
                clear h3
                go_wp2_with fail
                go_roundw
                case rel => exact ⟨j + 1, T, by omega, by go_num, HEND.out, HO.out, HN.out, HF.out, HOF.out, HB.out, HZ.out⟩
                case measure => simp [intOf] <;> omega
              · rw [decide_eq_false h3] at hlk
                have HEND := Lib.hid (show T ++ [f.n] = strangeN (d.fs.take (j + 1)) l.base l.segs by
                  have hs : ¬ isSeg l.segs f = true := fun e => h3 (List.mem_append_right _ (List.mem_reverse.2 ((isSeg_mem _ _).1 e)))
                  rw [HSN.out, if_pos (by rw [Bool.and_eq_true, inR_iff]; exact ⟨⟨h1, h2⟩, by simp [hs]⟩)])
                have hTl : T.length ≤ 1000000 := by
                  rw [HT.out]
                  unfold strangeN
                  rw [List.length_map]
                  have h5 := List.length_filter_le (fun f => inR l.base f && !isSeg l.segs f) (d.fs.take j)
                  rw [List.length_take] at h5
                  omega
                have hUl : (T.reverse ++ (segF l.segs).reverse).length < maxLen := by
                  rw [List.length_append, List.length_reverse, List.length_reverse]
                  unfold maxLen segF
                  rw [List.length_map]
                  omega
                have HUL := Lib.hid hUl
                clear h3 hUl
                go_wp2_with (at_builtin; refine wpList_own_src _ rfl _ _ 27 27 rfl 3 (.int .i64 0) 1 8 Tryz.info3 Tryz.underlying27 rfl (.slice VA T.length vc) T.length (intsV T) rfl (HO.out.alloc _) (intsV_one _) (.slice (some ⟨wr.heap.size, 0, none⟩) 1 1) 1 [.int .i64 f.n] rfl (int_new _ _) (by unfold maxLen; omega) (by omega) ?_; intro B4 c4 w4 o4 g4 b4; have hbw4 := (HB.out.touch ((Touch.refl (fun _ => False) wr).alloc _) id).grown g4 (HB.out.ne_own HO.out); obtain ⟨w6, hput, hb6, hg6⟩ := hbw4.put HFWF.out HUL.out; have HB6 := Lib.hid hb6; have HG6 := Lib.hid hg6; have HO4 := Lib.hid o4; have HG4 := Lib.hid g4; have HB4 := Lib.hid b4; have HBW4 := Lib.hid hbw4; clear hb6 hg6 o4 g4 b4 hbw4)
                have hfin := free_step HF.out HOF.out HO.out HN.out HZ.out HG4.out HB4.out HO4.out HBW4.out HB6.out HG6.out HF5.out.size HO5.out
                go_roundw
                case rel => exact ⟨j + 1, T ++ [f.n], by omega, by go_num, HEND.out, by rw [List.length_append, intsV_append]; exact hfin.1, hfin.2.1, hfin.2.2.1, hfin.2.2.2.1, by rw [List.reverse_append]; exact HB6.out, hfin.2.2.2.2⟩
                case measure => simp [intOf] <;> omega
            · have h2d : decide (f.n < (l.base : Int) + 1048576) = false := by simpa using h2
              have h1d : decide ((l.base : Int) ≤ f.n) = true := by simpa using h1
              have HEND := Lib.hid (show T = strangeN (d.fs.take (j + 1)) l.base l.segs by
                rw [HSN.out, if_neg (by rw [Bool.and_eq_true, inR_iff]; rintro ⟨⟨_, h⟩, _⟩; exact h2 h)])
              clear hlk
              go_wp2_with fail
              go_roundw
              case rel => exact ⟨j + 1, T, by omega, by go_num, HEND.out, HO.out, HN.out, HF.out, HOF.out, HB.out, HZ.out⟩
              case measure => simp [intOf] <;> omega
          · have h1d : decide ((l.base : Int) ≤ f.n) = false := by simpa using h1
            have HEND := Lib.hid (show T = strangeN (d.fs.take (j + 1)) l.base l.segs by
              rw [HSN.out, if_neg (by rw [Bool.and_eq_true, inR_iff]; rintro ⟨⟨h, _⟩, _⟩; exact h1 h)])
            clear hlk
            go_wp2_with fail
            go_roundw
            case rel => exact ⟨j + 1, T, by omega, by go_num, HEND.out, HO.out, HN.out, HF.out, HOF.out, HB.out, HZ.out⟩
            case measure => simp [intOf] <;> omega
        · obtain rfl : j = d.fs.length := by omega
          rw [List.take_length] at HT
          have e1 : wr.cell? ⟨bl, 1, none⟩ = some (.int .i64 (l.base : Int)) := hf.cell c1 id
          obtain ⟨p1, p2, p3, p4⟩ := freeP_spec (usedN d.fs l.base l.segs) l.base
          have hU : ∀ m : Int, m ∈ T.reverse ++ (segF l.segs).reverse ↔ m ∈ usedN d.fs l.base l.segs := fun m => by
            rw [← used_all, HT.out, List.mem_append, List.mem_append]
            exact or_congr Iff.rfl List.mem_reverse
          have hul : (usedN d.fs l.base l.segs).length ≤ 1000000 := by
            unfold usedN
            rw [List.length_append, List.length_map, List.length_map]
            have := List.length_filter_le (inR l.base) d.fs
            omega
          obtain ⟨FR, hFR⟩ : ∃ FR, FR = freeP (usedN d.fs l.base l.segs) l.base := ⟨_, rfl⟩
          rw [← hFR] at p1 p2 p3 p4
          have HFR := Lib.hid hFR
          have HLK := Lib.hid (show ∀ k : Nat, k ≤ 200000000 → (Instr.lookup 129 (.map (some w.heap.size)) (.int .i64 (k : Int)) false).run Tryz.prog wr = .ok (.bool (decide ((k : Int) ∈ usedN d.fs l.base l.segs))) wr from fun k hk => by
            rw [hb.look (nat_wf (by omega))]
            exact congrArg (fun x => Result.ok (Value.bool x) wr) (decide_eq_decide.2 (hU k)))
          have P3 := Lib.hid p3; have P4 := Lib.hid p4
          have hF2 : FR ≤ 200000000 := by omega
          clear hU hb hof hn ho hf hFR p3 p4
          go_wp2_with fail
          go_loopw [2] (fun i wx => ∃ k : Nat, l.base ≤ k ∧ k ≤ FR ∧ i = .int .i64 k ∧ wx = wr) (fun i _ => FR - (intOf i).toNat)
          case atStart => exact ⟨l.base, Nat.le_refl _, p1, rfl, rfl⟩
          case round =>
            obtain ⟨k, hk1, hk2, rfl, rfl⟩ := hrel
            have hlk := HLK.out k (by omega)
            by_cases hlt : k < FR
            · rw [decide_eq_true (P3.out k hk1 hlt)] at hlk
              go_wp2_with fail
              go_roundw
              case rel => exact ⟨k + 1, by omega, by omega, by go_num, trivial⟩
              case measure => simp [intOf] <;> omega
            · obtain rfl : k = FR := by omega
              rw [decide_eq_false P4.out] at hlk
              go_wp2_with fail
              go_ret2
              rw [HT.out] at HO HN
              exact ⟨HF.out, VA, vc, by rw [← HFR.out, HT.out]; rfl, HO.out, fun q hq => Nat.le_trans HF5.out.size (HN.out q hq)⟩
end
end Go.Proofs.YtlcmnihpfpmajaaGreat

/- A segment of a log in memory is stored into; a segment is appended; the log's last segment. No condition but those that stand with each. -/
namespace Go.Proofs.YtlcmnihpfpmajaaGreat
open Go.RowKit
theorem segsC_set : ∀ (l : List Seg) (k : Nat) {s s' : Seg} {j : Nat} {u : Value}, l[k]? = some s → j < 8 → segC s' = (segC s).set j u → (segsC l).set (k * 8 + j) u = segsC (l.set k s')
  | [], k, _, _, _, _, h, _, _ => by simp at h
  | a :: l, 0, s, s', j, u, h, hj, he => by
    simp only [List.getElem?_cons_zero, Option.some.injEq] at h
    subst h
    show (segC a ++ segsC l).set (0 * 8 + j) u = segC s' ++ segsC l
    rw [Nat.zero_mul, Nat.zero_add, List.set_append, if_pos (by rw [segC_len]; exact hj), he]
  | a :: l, k + 1, s, s', j, u, h, hj, he => by
    rw [List.getElem?_cons_succ] at h
    show (segC a ++ segsC l).set ((k + 1) * 8 + j) u = segC a ++ segsC (l.set k s')
    rw [List.set_append, if_neg (by rw [segC_len]; omega), segC_len, show (k + 1) * 8 + j - 8 = k * 8 + j by omega, segsC_set l k h hj he]
section
variable {w w' : World} {bl bd : Nat} {R S R' S' : Nat → Prop} {l' l2 : Lg} {sv rv sv' rv' : Value} {vs' : List Value} {d' : Dk}
theorem blk_type {w : World} {g : Nat} {t t' : TypeId} {cs cs' : Array Value} (h : Blk w g t cs) (h' : Blk w g t' cs') : t = t' := by
  have := h.symm.trans h'
  injection this with this
  injection this
/-- a cell of a segment is stored -/
theorem LX.seg {g q n c k j : Nat} {s s' : Seg} {u : Value} (h : LX w w' bl bd S R sv rv l' d' S' R' (.slice (some ⟨g, q, none⟩) n c) rv' vs') (hk : l'.segs[k]? = some s) (hj : j < 8) (he : segC s' = (segC s).set j u) (hl : l2 = { l' with segs := l'.segs.set k s' }) :
    LX w (w'.setCell ⟨g, q + (k * 8 + j), none⟩ u) bl bd S R sv rv l2 d' S' R' (.slice (some ⟨g, q, none⟩) n c) rv' vs' := by
  subst hl
  have hm := h.ld.lm
  have hT : Touch (· = g) w' (w'.setCell ⟨g, q + (k * 8 + j), none⟩ u) := (Touch.refl (· = g) w').setCell (p := ⟨g, q + (k * 8 + j), none⟩) (.inr rfl) _
  have hkl := (List.getElem?_eq_some_iff.1 hk).1
  have hn : n = l'.segs.length := by
    obtain ⟨A', c', e, _⟩ := hm.segs.form
    injection e
  have hso := hm.segs
  rw [← hn] at hso
  have hseg := hso.stored (j := k * 8 + j) (by omega) u
  rw [segsC_set l'.segs k hk hj he, hn] at hseg
  refine h.own (hT.mono fun k _ hk => .inr (.inl (by rw [hk]; rfl))) ⟨?_, ?_, ?_, ?_⟩ (fun k hk => .inl hk) fun k hk => .inl hk
  · exact hm.blk.touch hT fun e => hm.segs.ne_blk hm.blk (by decide) (by rw [e]; rfl)
  · show Ow _ _ 8 _ (l'.segs.set k s').length _
    rw [List.length_set, ← hn]
    rw [← hn] at hseg
    exact hseg
  · exact hm.rows.touch hT fun k hk e => hm.segs.ne_ow hm.rows (by decide) g rfl (by rw [hk, e])
  · exact hm.recs.touch hT fun k hk e => h.ld.nR k (.inr (.inl (by rw [e]; rfl))) hk
/-- a segment is appended: the row is stored back -/
theorem LX.snoc {w2 : World} {B : Option Addr} {c : Nat} {s : Seg} (h : LX w w' bl bd S R sv rv l' d' S' R' sv' rv' vs') (ho : Ow w2 91 8 (.slice B (l'.segs.length + 1) c) (l'.segs.length + 1) (segsC l'.segs ++ segC s)) {w1 : World} (hf : Fresh w' w1) (hg : w1.grownBy w2 sv'.ownBlock)
    (hb : (Value.slice B (l'.segs.length + 1) c).ownBlock = sv'.ownBlock ∨ (Value.slice B (l'.segs.length + 1) c).ownBlock = some w1.heap.size) (hl : l2 = { l' with segs := l'.segs ++ [s] }) :
    LX w (w2.setCell ⟨bl, 2, none⟩ (.slice B (l'.segs.length + 1) c)) bl bd S R sv rv l2 d' S' R' (.slice B (l'.segs.length + 1) c) rv' vs' := by
  subst hl
  have hm := h.ld.lm
  have hm1 := hm.fresh hf
  obtain ⟨x, hx⟩ : ∃ x, x = Value.slice B (l'.segs.length + 1) c := ⟨_, rfl⟩
  rw [← hx] at ho hb ⊢
  have hT1 : Touch (lfoot bl sv' rv') w' w2 := (hf.mono fun _ _ => False.elim).grown hg fun q hq => .inr (.inr (.inl hq))
  have hb2 : Blk w2 bl 85 _ := hm1.blk.grown hg fun e => hm1.segs.ne_blk hm1.blk (by decide) e.symm
  have hT : Touch (lfoot bl sv' rv') w' (w2.setCell ⟨bl, 2, none⟩ x) := hT1.setCell (p := ⟨bl, 2, none⟩) (.inr (.inl rfl)) _
  have hT2 : Touch (· = bl) w2 (w2.setCell ⟨bl, 2, none⟩ x) := (Touch.refl (· = bl) w2).setCell (p := ⟨bl, 2, none⟩) (.inr rfl) _
  have hs1 := hf.size
  refine h.own hT ⟨?_, ?_, ?_, ?_⟩ (fun k hk => ?_) fun k hk => .inl hk
  · simpa using hb2.set_ 2 x
  · show Ow _ _ 8 x (l'.segs ++ [s]).length _
    rw [List.length_append, List.length_singleton, segsC_append]
    rw [show segsC [s] = segC s from by simp [segsC]]
    exact ho.touch hT2 fun k hk e => ho.ne_blk hb2 (by decide) (by rw [hk, e])
  · refine (hm1.rows.grown hg fun k hk e => ?_).touch hT2 fun k hk e => ?_
    · exact hm1.segs.ne_ow hm1.rows (by decide) k e.symm hk
    · exact hm.rows.ne_blk hm.blk (by decide) (by rw [hk, e])
  · refine (hm.recs.touch ((hf.mono fun _ _ => False.elim : Touch (fun k => sv'.ownBlock = some k) w' w1).grown hg fun q hq => .inr hq) fun k hk e => h.ld.nR k (.inr (.inl e)) hk).touch hT2 fun k hk e => h.ld.nR k (.inl e) hk
  · rcases hk with hk | hk | hk
    · exact .inl (.inl hk)
    · rcases hb with e | e
      · exact .inl (.inr (.inl (e.symm.trans hk)))
      · refine .inr ?_
        rw [hk] at e
        injection e with e
        exact ⟨by omega, fun hr => by have := h.ld.Rlt k hr; omega⟩
    · exact .inl (.inr (.inr hk))
end
end Go.Proofs.YtlcmnihpfpmajaaGreat
