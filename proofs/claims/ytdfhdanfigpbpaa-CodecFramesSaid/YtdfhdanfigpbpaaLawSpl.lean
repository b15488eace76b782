/- The walk of the law CodecSplit: it answers true. Conditions stand with it. -/
import Derived.Test.YtdfhdanfigpbpaaRndQ
import Derived.Test.YtdfhdanfigpbpaaWakes
import Derived.Test.YtdfhdanfigpbpaaVrow
import Derived.Test.YtdfhdanfigpbpaaBounds
import Derived.Deep.AppendLies
import Derived.WalkSmall
namespace Go.Proofs.Ytdfhdanfigpbpaa
open Go.RowKit Go.Shelf
attribute [local go_sem] Oper.semAt_some

theorem Try.infoI : (Try.prog.info? 3).map (fun i => (i.zero, i.size, i.bytes)) = some (some (.int .i64 0), 1, 8) := by kernel_rfl

theorem Try.u81 : Try.prog.underlying 81 = some (.func #[49] #[] false) := by kernel_rfl
theorem run_equalIn_func_nil (P : Program) (w : World) (d : Nat) (t : TypeId) (a b : Array TypeId) (c : Bool) (fn : Fn) (x y : Array Value) (h : P.underlying t = some (.func a b c)) : (Op.equalIn (d + 1) t (.func fn x y) .nilFunc).run P w = .ok false w := by
  simp [Op.equalIn, run_underlying h]
theorem Try.eqNil81 (w : World) (fn : Fn) (b : Array Value) : (binOp .eql 81 (.func fn #[] b) .nilFunc).run Try.prog w = .ok (.bool false) w := by
  simp only [binOp]
  simp [Op.equal, Op.maxDepth, run_equalIn_func_nil Try.prog w 9999 81 _ _ _ fn #[] b Try.u81]

namespace Enc
/-- what the law lays: the first eight, each cut to a hundred bytes -/
def cuts (ps : List (List UInt8)) : List (List UInt8) := (ps.take 8).map (·.take 100)
theorem cuts_le {ps : List (List UInt8)} : ∀ p ∈ cuts ps, p.length ≤ 100 := by
  intro p hp
  obtain ⟨q, _, rfl⟩ := List.mem_map.1 hp
  simp only [List.length_take]
  omega
theorem cuts_length (ps : List (List UInt8)) : (cuts ps).length = min 8 ps.length := by simp [cuts]
theorem cuts_get {ps : List (List UInt8)} {k : Nat} {p : List UInt8} (h : ps[k]? = some p) (hk : k < 8) : (cuts ps)[k]? = some (p.take 100) := by
  unfold cuts
  rw [List.getElem?_map, List.getElem?_take_of_lt hk, h]
  rfl
theorem frames_take_succ {ps : List (List UInt8)} {k : Nat} {p : List UInt8} (h : ps[k]? = some p) : frames (ps.take (k + 1)) = frames (ps.take k) ++ frame p := by
  obtain ⟨hi, rfl⟩ := List.getElem?_eq_some_iff.1 h
  rw [List.take_succ_eq_append_getElem hi, frames_snoc]
theorem at_le {ps : List (List UInt8)} (h : ∀ p ∈ ps, p.length ≤ 100) : ∀ i, i ≤ ps.length → at_ ps i ≤ 108 * i
  | 0, _ => Nat.le_refl _
  | i + 1, hi => by
    have hg : ps[i]? = some ps[i] := List.getElem?_eq_getElem (by omega)
    rw [at_succ hg]
    have := at_le h i (by omega)
    have := h _ (List.getElem_mem (show i < ps.length by omega))
    omega
end Enc
/-- where the first k frames end -/
def endsV (qs : List (List UInt8)) (k : Nat) : List Value := (List.range k).map fun i => Value.int .i64 (Enc.at_ qs (i + 1) : Nat)
theorem endsV_length (qs : List (List UInt8)) (k : Nat) : (endsV qs k).length = k := by simp [endsV]
theorem endsV_succ (qs : List (List UInt8)) (k : Nat) : endsV qs (k + 1) = endsV qs k ++ [.int .i64 (Enc.at_ qs (k + 1) : Nat)] := by simp [endsV, List.range_succ]
theorem endsV_get (qs : List (List UInt8)) {k i : Nat} (h : i < k) : (endsV qs k)[i]? = some (.int .i64 (Enc.at_ qs (i + 1) : Nat)) := by simp [endsV, h]
/-- what has been told so far is what must be told -/
def OkP (qs : List (List UInt8)) (K : Nat) (pre : List FrX) : Prop := pre.length ≤ qs.length ∧ ∀ i, i < pre.length → (pre.map (·.1))[i]? = some ((Enc.at_ qs i : Nat) : Int) ∧ Enc.at_ qs (i + 1) ≤ K
theorem OkP.nil_ (qs : List (List UInt8)) (K : Nat) : OkP qs K [] := ⟨Nat.zero_le _, fun i h => by simp at h⟩
theorem OkP.snoc {qs : List (List UInt8)} {K : Nat} {pre : List FrX} {x : FrX} (h : OkP qs K pre) (h1 : pre.length < qs.length) (h2 : Enc.at_ qs (pre.length + 1) ≤ K) (h3 : x.1 = (Enc.at_ qs pre.length : Nat)) : OkP qs K (pre ++ [x]) := by
  refine ⟨by simp; omega, fun i hi => ?_⟩
  by_cases hlt : i < pre.length
  · obtain ⟨a, b⟩ := h.2 i hlt
    exact ⟨by rw [List.map_append, List.getElem?_append_left (by simpa using hlt)]; exact a, b⟩
  · simp only [List.length_append, List.length_cons, List.length_nil] at hi
    obtain rfl : i = pre.length := by omega
    exact ⟨by rw [List.map_append, List.getElem?_append_right (by simp)]; simp [h3], h2⟩
theorem OkP.last {qs : List (List UInt8)} {K : Nat} {pre : List FrX} {x : FrX} (h : OkP qs K (pre ++ [x])) : pre.length < qs.length ∧ Enc.at_ qs (pre.length + 1) ≤ K ∧ x.1 = (Enc.at_ qs pre.length : Nat) := by
  obtain ⟨a, b⟩ := h.2 pre.length (by simp)
  refine ⟨by have := h.1; simp at this; omega, b, ?_⟩
  rw [List.map_append, List.getElem?_append_right (by simp)] at a
  simpa using a
theorem told {qs : List (List UInt8)} (hq : ∀ p ∈ qs, p.length ≤ 100) {K : Nat} (hK : K ≤ (Enc.frames qs).length) :
    ∃ j, j ≤ qs.length ∧ toInts (Enc.offs ((Enc.frames qs).take K) (K + 1) 0) = (List.range j).map (fun i => ((Enc.at_ qs i : Nat) : Int)) ∧ (∀ m, 0 < m → m ≤ j → Enc.at_ qs m ≤ K) ∧ (j < qs.length → K < Enc.at_ qs (j + 1)) := by
  obtain ⟨j, _, h2, h3, h4, h5⟩ := Enc.offs_at (ps := qs) (fun p hp => by have := hq p hp; omega) hK (K + 1) 0 (Nat.zero_le _) (by rw [Enc.at_zero]; omega)
  refine ⟨j, h2, ?_, h4, h5⟩
  rw [Enc.at_zero] at h3
  rw [h3]
  simp [toInts, List.range_eq_range', List.map_map]
theorem told_pre {qs : List (List UInt8)} (hq : ∀ p ∈ qs, p.length ≤ 100) {K : Nat} (hK : K ≤ (Enc.frames qs).length) {pre : List FrX} {rest : List Int} (h : pre.map (·.1) ++ rest = toInts (Enc.offs ((Enc.frames qs).take K) (K + 1) 0)) : OkP qs K pre := by
  obtain ⟨j, h2, h3, h4, _⟩ := told hq hK
  rw [h3] at h
  have hl : pre.length ≤ j := by
    have := congrArg List.length h
    simp at this
    omega
  refine ⟨by omega, fun i hi => ⟨?_, h4 (i + 1) (by omega) (by omega)⟩⟩
  have hg := congrArg (fun l => l[i]?) h
  rw [List.getElem?_append_left (by simpa using hi)] at hg
  rw [hg]
  simp [show i < j by omega]
theorem told_all {qs : List (List UInt8)} (hq : ∀ p ∈ qs, p.length ≤ 100) {K : Nat} (hK : K ≤ (Enc.frames qs).length) {pre : List FrX} (h : pre.map (·.1) = toInts (Enc.offs ((Enc.frames qs).take K) (K + 1) 0)) : OkP qs K pre ∧ (pre.length < qs.length → K < Enc.at_ qs (pre.length + 1)) := by
  refine ⟨told_pre hq hK (rest := []) (by rw [List.append_nil]; exact h), ?_⟩
  obtain ⟨j, h2, h3, h4, h5⟩ := told hq hK
  rw [h3] at h
  have hl := congrArg List.length h
  simp at hl
  rw [hl]
  exact h5
theorem Blk.own_ {A B : World} {row : Option Nat} {g : Nat} {t : TypeId} {cs : Array Value} (h : Blk A g t cs) (hg : A.grownBy B row) (hr : ∀ r, row = some r → ∃ o : Obj, A.heap[r]? = some o ∧ o.isCells = false) : Blk B g t cs := by
  refine h.grown hg fun e => ?_
  obtain ⟨o, ho, hc⟩ := hr g e.symm
  have := h.symm.trans ho
  injection this with this
  subst this
  simp [Obj.isCells] at hc
theorem own_own_ {A B : World} {row : Option Nat} {b : Nat} {e : TypeId} {sz n : Nat} {v : Value} {us : List Value} (h : A.ownsRow b e sz v n us) (hg : A.grownBy B row) (hr : ∀ r, row = some r → ∃ o : Obj, A.heap[r]? = some o ∧ o.isCells = false) : B.ownsRow b e sz v n us := by
  refine ⟨h.1, ?_⟩
  rcases h.2 with hnil | ⟨g, cap, cur, rfl, hb', hh, rest⟩
  · exact .inl hnil
  · exact .inr ⟨g, cap, cur, rfl, hb', Blk.own_ (t := e) hh hg hr, rest⟩
/-- what lies in memory between two rounds -/
def SplI (rb eb kb nb fb : Nat) (qs : List (List UInt8)) (k K : Nat) (ev fv : Value) (ys : List UInt8) (n : Nat) (W : World) : Prop :=
  Blk W rb 4 #[.bool false] ∧ Blk W eb 77 #[ev] ∧ Blk W kb 3 #[.int .i64 K] ∧ Blk W nb 3 #[.int .i64 n] ∧ VRow W 3 1 ev k (endsV qs k) ∧ Blk W fb 24 #[fv] ∧ Row W fv ys
theorem SplI.own_ {rb eb kb nb fb : Nat} {qs : List (List UInt8)} {k K : Nat} {ev fv : Value} {ys : List UInt8} {n : Nat} {A B : World} {row : Option Nat} (h : SplI rb eb kb nb fb qs k K ev fv ys n A) (hg : A.grownBy B row)
    (hr : ∀ r, row = some r → ∃ o : Obj, A.heap[r]? = some o ∧ o.isCells = false) : SplI rb eb kb nb fb qs k K ev fv ys n B := by
  obtain ⟨h1, h2, h3, h4, h5, h6, h7⟩ := h
  exact ⟨h1.own_ hg hr, h2.own_ hg hr, h3.own_ hg hr, h4.own_ hg hr, own_own_ h5 hg hr, h6.own_ hg hr, own_own_ h7 hg hr⟩
theorem keepsN (V : World) (q : Nat) (p : Addr) (u : Value) : KeepsOthers V ((V.drewN q).setCell p u) :=
  KeepsOthers.trans (⟨Nat.le_refl _, fun _ _ h _ => h⟩ : KeepsOthers V (V.drewN q)) (KeepsOthers.setCell _ _ _)
theorem SplI.go_ {rb eb kb nb fb : Nat} {qs : List (List UInt8)} {k K : Nat} {ev fv : Value} {ys : List UInt8} {n : Nat} {V : World} (h : SplI rb eb kb nb fb qs k K ev fv ys n V) (h1 : kb ≠ nb) (h2 : ev.ownBlock ≠ some nb) (q : Nat) :
    FrKp fb fv V ((V.drewN q).setCell ⟨nb, 0, none⟩ (.int .i64 ((n : Int) + 1))) ∧ SplI rb eb kb nb fb qs k K ev fv ys (n + 1) ((V.drewN q).setCell ⟨nb, 0, none⟩ (.int .i64 ((n : Int) + 1))) := by
  obtain ⟨g1, g2, g3, g4, g5, g6, g7⟩ := h
  have n1 := g1.ne_ g4 (by decide)
  have n2 := g2.ne_ g4 (by decide)
  have n6 := g6.ne_ g4 (by decide)
  have n7 := g7.ne_blk g4 (by decide)
  refine ⟨fun j hj => ?_, (g1.drewN q).far n1 _, (g2.drewN q).far n2 _, (g3.drewN q).far h1 _, ?_, ?_, (g6.drewN q).far n6 _, (g7.drewN q).far n7 _⟩
  · refine Below.heap_setCell (V.drewN q) ⟨nb, 0, none⟩ _ j ?_
    rcases hj with rfl | hj
    · exact n6
    · intro e
      exact n7 (by rw [hj, e])
  · have := (g4.drewN q).set_ 0 (.int .i64 ((n : Int) + 1))
    simpa using this
  · exact VRow.touch (w := V.drewN q) (S := fun j => j = nb) g5 ((Touch.refl (fun j => j = nb) _).setCell (p := ⟨nb, 0, none⟩) (.inr rfl) _) (fun j e1 e2 => h2 (by rw [e1, e2]))
/-- slices of bytes that can be read -/
def Bss (w : World) (vs : List Value) (ps : List (List UInt8)) : Prop := ps.length = vs.length ∧ ∀ (i : Nat) (v : Value), vs[i]? = some v → ∃ (A : Option Addr) (n c : Nat) (p : List UInt8), v = Value.slice A n c ∧ ps[i]? = some p ∧ Bs w A n c p
theorem Bss.fresh {w w' : World} {vs : List Value} {ps : List (List UInt8)} (h : Bss w vs ps) (hf : Fresh w w') : Bss w' vs ps :=
  ⟨h.1, fun i v hv => by obtain ⟨A, n, c, p, e, hp, hb⟩ := h.2 i v hv; exact ⟨A, n, c, p, e, hp, hb.fresh hf⟩⟩

theorem row_vrow_ne {w : World} {v ev : Value} {xs : List UInt8} {t : TypeId} {sz n : Nat} {us : List Value} (hr : Row w v xs) (hv : VRow w t sz ev n us) (hne : 5 ≠ t) : ∀ j, v.ownBlock = some j → ev.ownBlock = some j → False := by
  intro j h1 h2
  rcases hv.2 with ⟨rfl, _⟩ | ⟨g, cap, cur, rfl, _, hg, _⟩
  · simp [Value.ownBlock] at h2
  · have hj : g = j := by simpa [Value.ownBlock] using h2
    subst hj
    exact hr.ne_blk (g := g) (t := t) (cs := cur) hg hne h1
theorem slice_own (A : Option Addr) (n c n' c' : Nat) : (Value.slice A n c).ownBlock = (Value.slice A n' c').ownBlock := by cases A <;> rfl

set_option maxRecDepth 100000 in
set_option maxHeartbeats 2000000 in
theorem law_split (X : Option Addr) (nx cx : Nat) (vs : List Value) (ps : List (List UInt8)) (cut : Int) (w : World) (hvx : Vs w 1 X nx cx vs) (hbs : Bss w vs ps) :
    Calls Try.prog 13 #[.slice X nx cx, .int .i64 cut] w fun e w' => e = .returned (.bool true) ∧ Below w.heap.size w w' := by
  have hvl : vs.length = nx := by have := hvx.1; omega
  have hpl : ps.length = nx := by rw [hbs.1, hvl]
  obtain ⟨qs, hqs⟩ : ∃ qs, qs = Enc.cuts ps := ⟨_, rfl⟩
  have hql : qs.length = min 8 nx := by rw [hqs, Enc.cuts_length, hpl]
  have hqle : ∀ p ∈ qs, p.length ≤ 100 := by rw [hqs]; exact Enc.cuts_le
  have HQ := Lib.hid (fun (k : Nat) (p : List UInt8) (h : ps[k]? = some p) (hk : k < 8) => show qs[k]? = some (p.take 100) by rw [hqs]; exact Enc.cuts_get h hk)
  have HAT := Lib.hid (Enc.at_le hqle)
  have HVX := Lib.hid hvx; have HBS := Lib.hid hbs; have HQLE := Lib.hid hqle
  clear hvx hbs hqle hqs
  refine (callsIn_wide (n := 3)).1 ?_
  refine callsIn_of_wp_marks Try.func13 rfl trivial ?_ rfl
  simp only [Try.ntmps13, List.size_toArray, List.length_cons, List.length_nil, Nat.reduceAdd, Nat.reduceSub, Array.replicate_succ, Array.replicate_zero, List.push_toArray, List.append_toArray, List.nil_append, List.cons_append]
  refine wpIn_wide.2 ?_
  obtain ⟨w0, hw0⟩ : ∃ w0, w0 = (w.alloc (.cells #[.bool false] 4)).alloc (.cells #[.slice none 0 0] 77) := ⟨_, rfl⟩
  have HW0 := Lib.hid hw0
  have HR0 := Lib.hid (show Blk w0 w.heap.size 4 #[.bool false] by rw [hw0]; exact (Blk.new _ _ _).alloc _)
  have HE0 := Lib.hid (show Blk w0 (w.heap.size + 1) 77 #[.slice none 0 0] by rw [hw0]; have := Blk.new (w.alloc (.cells #[.bool false] 4)) 77 #[.slice none 0 0]; rwa [World.size_alloc] at this)
  have HF0 := Lib.hid (show Fresh w w0 by rw [hw0]; exact ((Touch.refl _ w).alloc _).alloc _)
  clear hw0
  go_wp2_with fail
  rw [← HW0.out]
  go_loopw [5, 7] (fun av i wr => ∃ (k c : Nat) (A : Option Addr) (ev : Value), k ≤ qs.length ∧ i = .int .i64 k ∧ av = .slice A (Enc.at_ qs k) c ∧ Row wr (.slice A (Enc.at_ qs k) c) (Enc.frames (qs.take k)) ∧ VRow wr 3 1 ev k (endsV qs k) ∧
      Blk wr w.heap.size 4 #[.bool false] ∧ Blk wr (w.heap.size + 1) 77 #[ev] ∧ Fresh w wr ∧ (∀ j, (Value.slice A (Enc.at_ qs k) c).ownBlock = some j → w.heap.size ≤ j) ∧ (∀ j, ev.ownBlock = some j → w.heap.size ≤ j)) (fun _ i _ => qs.length - (intOf i).toNat)
  case atStart =>
    exact ⟨0, 0, none, _, Nat.zero_le _, rfl, rfl, Row.nil_ _, VRow.nil_ _ _ _, HR0.out, HE0.out, HF0.out, fun j h => (by simp [Value.ownBlock] at h), fun j h => (by simp [Value.ownBlock] at h)⟩
  case round =>
    obtain ⟨k, c, A, ev, hk, rfl, rfl, hrow, hvr, hbr, hbe, hfr, hna, hne⟩ := hrel
    have HROW := Lib.hid hrow; have HVR := Lib.hid hvr; have HBR := Lib.hid hbr; have HBE := Lib.hid hbe; have HFR := Lib.hid hfr; have HNA := Lib.hid hna; have HNE := Lib.hid hne
    clear hrow hvr hbr hbe hfr hna hne
    by_cases hlt : k < qs.length
    · have hk8 : (k : Int) < 8 := by omega
      have hkn : (k : Int) < (nx : Int) := by omega
      obtain ⟨v, hv⟩ : ∃ v, vs[k]? = some v := ⟨_, List.getElem?_eq_getElem (by omega)⟩
      obtain ⟨b, o, rfl⟩ := HVX.out.at_ (by omega)
      have hcell := (HVX.out.fresh HFR.out).cellAt hv
      obtain ⟨A1, n1, c1, p, rfl, hp, hb1⟩ := (HBS.out.fresh HFR.out).2 k v hv
      have hq := HQ.out k p hp (by omega)
      have HQK := Lib.hid hq
      have HBP := Lib.hid hb1
      have hn1c := hb1.2.1
      clear hq hv hp hb1
      have hat := HAT.out (k + 1) (by omega)
      by_cases hbig : 100 < n1
      · have hbI : (100 : Int) < (n1 : Int) := by omega
        have hcI : (100 : Int) ≤ (c1 : Int) := by omega
        have HQL := Lib.hid (show (p.take 100).length = 100 by rw [List.length_take]; have := HBP.out.1; omega)
        have HFC := Lib.hid (frame_any A1 100 c1 (p.take 100) wr (HBP.out.take (by omega)) (by omega))
        go_wp2_with fail
        refine HFC.out.mono ?_
        rintro e w1 ⟨hf1, g, cap, rfl, hg, hfb⟩
        have hbf : Bs w1 (some ⟨g, 0, none⟩) (100 + 8) cap (Enc.frame (p.take 100)) := by have := hfb.bs; rwa [Enc.frame_len, HQL.out] at this
        have HBF := Lib.hid hbf
        have HF1 := Lib.hid (HFR.out.trans hf1 (fun _ _ h => h))
        have HROW1 := Lib.hid (HROW.out.fresh_ hf1)
        have HVR1 := Lib.hid (HVR.out.touch hf1 (fun _ _ => id))
        have HBR1 := Lib.hid (HBR.out.touch hf1 id)
        have HBE1 := Lib.hid (HBE.out.touch hf1 id)
        have HLEN := Lib.hid (show (Enc.frames (qs.take k)).length + (Enc.frame (p.take 100)).length = Enc.at_ qs (k + 1) by rw [Enc.at_succ HQK.out, Enc.frame_len]; rfl)
        have hbnd : (Enc.frames (qs.take k)).length + (Enc.frame (p.take 100)).length ≤ 1000000 := by rw [HLEN.out]; have := HAT.out (k + 1) (by omega); omega
        have HBND := Lib.hid hbnd
        clear hf1 hfb hbf hbnd
        obtain ⟨ii, hi, hz, hi1, hi8⟩ := info_parts Try.infoI
        go_wp2_with (first | (at_builtin; (refine wpList_append_lies _ rfl _ _ 77 rfl 0 3 ii (.int .i64 0) 1 8 Try.underlying77 hi hz hi1 hi8 rfl (by decide) ev k (endsV qs k) rfl (HVR2.out.alloc _) ⟨w2.heap.size, 0, none⟩ 1 1 [.int .i64 (Enc.at_ qs (k + 1) : Nat)] rfl rfl HNC.out (by intro u hu; simp only [List.mem_cons, List.not_mem_nil, or_false] at hu; rcases hu with rfl; rfl) (by omega) (by unfold maxLen; omega) (by omega) (Nat.zero_le _) _ rfl ?_); intro g9 c9 w9 hr9 hg9 ho9 hl9; rw [← endsV_succ] at hr9; have hb9 := (HBE2.out.alloc (.cells #[.int .i64 (Enc.at_ qs (k + 1) : Nat)] 3)).grown hg9 (fun e => HVR2.out.ne_blk HBE2.out (by decide) e.symm); have HR9 := Lib.hid ((HR2.out.alloc (.cells #[.int .i64 (Enc.at_ qs (k + 1) : Nat)] 3)).touch ((Touch.refl (fun j => ev.ownBlock = some j) _).grown hg9 (fun j hj => .inr hj)) (fun j h1 h2 => row_vrow_ne HR2.out HVR2.out (by decide) j h1 h2)); have hx9 := hb9.cell 0; have hz9 := hb9.frozen 0; simp only [List.getElem?_toArray, List.getElem?_cons_zero] at hx9; have HBE9 := Lib.hid hb9; have HBR9 := Lib.hid ((HBR2.out.alloc (.cells #[.int .i64 (Enc.at_ qs (k + 1) : Nat)] 3)).grown hg9 (fun e => HVR2.out.ne_blk HBR2.out (by decide) e.symm)); have HF9 := Lib.hid ((HF2.out.alloc (.cells #[.int .i64 (Enc.at_ qs (k + 1) : Nat)] 3)).grown hg9 (fun j hj => .inl (HNE.out j hj))); have HV9 := Lib.hid (show VRow w9 3 1 (.slice (some ⟨g9, 0, none⟩) (k + 1) c9) (k + 1) (endsV qs (k + 1)) from hr9); have HO9 := Lib.hid ho9; have hsz2 := HF2.out.size; clear hr9 hg9 ho9 hl9 hb9) | (at_builtin; (refine wpList_row_bs _ rfl _ _ 24 rfl Try.info5 Try.underlying24 (.slice A (Enc.at_ qs k) c) (Enc.frames (qs.take k)) rfl HROW1.out (some ⟨g, 0, none⟩) (100 + 8) cap (Enc.frame (p.take 100)) rfl HBF.out (by have := HBND.out; omega) ?_); intro A2 c2 w2 hr2 hg2 ho2; rw [HLEN.out] at hr2 ho2 ⊢; rw [← Enc.frames_take_succ HQK.out] at hr2; have hb2 := HBE1.out.grown hg2 (fun e => HROW1.out.ne_blk HBE1.out (by decide) e.symm); have HBR2 := Lib.hid (HBR1.out.grown hg2 (fun e => HROW1.out.ne_blk HBR1.out (by decide) e.symm)); have hx2 := hb2.cell 0; simp only [List.getElem?_toArray, List.getElem?_cons_zero] at hx2; have HBE2 := Lib.hid hb2; have HVR2 := Lib.hid (HVR1.out.touch ((Touch.refl (fun j => (Value.slice A (Enc.at_ qs k) c).ownBlock = some j) w1).grown hg2 (fun j hj => .inr hj)) (fun j h1 h2 => row_vrow_ne HROW1.out HVR1.out (by decide) j h2 h1)); have HF2 := Lib.hid (HF1.out.grown hg2 (fun j hj => .inl (HNA.out j hj))); have HR2 := Lib.hid hr2; have HO2 := Lib.hid ho2; have HNC := Lib.hid (new_cells w2 3 [.int .i64 (Enc.at_ qs (k + 1) : Nat)]); clear hr2 hg2 ho2 hb2))
        have HEND := Lib.hid (HBE9.out.set_ 0 (.slice (some ⟨g9, 0, none⟩) (k + 1) c9))
        go_roundw
        case rel =>
          refine ⟨k + 1, c2, A2, _, by omega, by go_num, rfl, HR9.out.far (HR9.out.ne_blk HBE9.out (by decide)) _, HV9.out.touch ((Touch.refl (fun j => j = w.heap.size + 1) w9).setCell (p := ⟨w.heap.size + 1, 0, none⟩) (.inr rfl) _) (fun j h1 h2 => HV9.out.ne_blk HBE9.out (by decide) (by rw [← h2]; exact h1)), HBR9.out.far (by simp) _, HEND.out, HF9.out.setCell (.inl (by simp)) _, fun j hj => ?_, fun j hj => ?_⟩
          · rcases HO2.out with h | h <;> rw [h] at hj
            · exact HNA.out j hj
            · have := HF1.out.size
              simp only [Option.some.injEq] at hj
              omega
          · simp only [Value.ownBlock, Option.some.injEq] at hj
            subst hj
            rcases HO9.out with h | h
            · exact HNE.out _ h
            · rw [h, World.size_alloc]
              omega
        case measure => simp [intOf] <;> omega
      · have hbI : ¬ (100 : Int) < (n1 : Int) := by omega
        have hpt : p.take 100 = p := List.take_of_length_le (by have := HBP.out.1; omega)
        rw [hpt] at HQK
        have HQL := Lib.hid (show p.length = n1 from HBP.out.1)
        have HFC := Lib.hid (frame_any A1 n1 c1 p wr HBP.out (by omega))
        clear hpt
        go_wp2_with fail
        refine HFC.out.mono ?_
        rintro e w1 ⟨hf1, g, cap, rfl, hg, hfb⟩
        have hbf : Bs w1 (some ⟨g, 0, none⟩) (n1 + 8) cap (Enc.frame p) := by have := hfb.bs; rwa [Enc.frame_len, HQL.out] at this
        have HBF := Lib.hid hbf
        have HF1 := Lib.hid (HFR.out.trans hf1 (fun _ _ h => h))
        have HROW1 := Lib.hid (HROW.out.fresh_ hf1)
        have HVR1 := Lib.hid (HVR.out.touch hf1 (fun _ _ => id))
        have HBR1 := Lib.hid (HBR.out.touch hf1 id)
        have HBE1 := Lib.hid (HBE.out.touch hf1 id)
        have HLEN := Lib.hid (show (Enc.frames (qs.take k)).length + (Enc.frame p).length = Enc.at_ qs (k + 1) by rw [Enc.at_succ HQK.out, Enc.frame_len]; rfl)
        have hbnd : (Enc.frames (qs.take k)).length + (Enc.frame p).length ≤ 1000000 := by rw [HLEN.out]; have := HAT.out (k + 1) (by omega); omega
        have HBND := Lib.hid hbnd
        clear hf1 hfb hbf hbnd
        obtain ⟨ii, hi, hz, hi1, hi8⟩ := info_parts Try.infoI
        go_wp2_with (first | (at_builtin; (refine wpList_append_lies _ rfl _ _ 77 rfl 0 3 ii (.int .i64 0) 1 8 Try.underlying77 hi hz hi1 hi8 rfl (by decide) ev k (endsV qs k) rfl (HVR2.out.alloc _) ⟨w2.heap.size, 0, none⟩ 1 1 [.int .i64 (Enc.at_ qs (k + 1) : Nat)] rfl rfl HNC.out (by intro u hu; simp only [List.mem_cons, List.not_mem_nil, or_false] at hu; rcases hu with rfl; rfl) (by omega) (by unfold maxLen; omega) (by omega) (Nat.zero_le _) _ rfl ?_); intro g9 c9 w9 hr9 hg9 ho9 hl9; rw [← endsV_succ] at hr9; have hb9 := (HBE2.out.alloc (.cells #[.int .i64 (Enc.at_ qs (k + 1) : Nat)] 3)).grown hg9 (fun e => HVR2.out.ne_blk HBE2.out (by decide) e.symm); have HR9 := Lib.hid ((HR2.out.alloc (.cells #[.int .i64 (Enc.at_ qs (k + 1) : Nat)] 3)).touch ((Touch.refl (fun j => ev.ownBlock = some j) _).grown hg9 (fun j hj => .inr hj)) (fun j h1 h2 => row_vrow_ne HR2.out HVR2.out (by decide) j h1 h2)); have hx9 := hb9.cell 0; have hz9 := hb9.frozen 0; simp only [List.getElem?_toArray, List.getElem?_cons_zero] at hx9; have HBE9 := Lib.hid hb9; have HBR9 := Lib.hid ((HBR2.out.alloc (.cells #[.int .i64 (Enc.at_ qs (k + 1) : Nat)] 3)).grown hg9 (fun e => HVR2.out.ne_blk HBR2.out (by decide) e.symm)); have HF9 := Lib.hid ((HF2.out.alloc (.cells #[.int .i64 (Enc.at_ qs (k + 1) : Nat)] 3)).grown hg9 (fun j hj => .inl (HNE.out j hj))); have HV9 := Lib.hid (show VRow w9 3 1 (.slice (some ⟨g9, 0, none⟩) (k + 1) c9) (k + 1) (endsV qs (k + 1)) from hr9); have HO9 := Lib.hid ho9; have hsz2 := HF2.out.size; clear hr9 hg9 ho9 hl9 hb9) | (at_builtin; (refine wpList_row_bs _ rfl _ _ 24 rfl Try.info5 Try.underlying24 (.slice A (Enc.at_ qs k) c) (Enc.frames (qs.take k)) rfl HROW1.out (some ⟨g, 0, none⟩) (n1 + 8) cap (Enc.frame p) rfl HBF.out (by have := HBND.out; omega) ?_); intro A2 c2 w2 hr2 hg2 ho2; rw [HLEN.out] at hr2 ho2 ⊢; rw [← Enc.frames_take_succ HQK.out] at hr2; have hb2 := HBE1.out.grown hg2 (fun e => HROW1.out.ne_blk HBE1.out (by decide) e.symm); have HBR2 := Lib.hid (HBR1.out.grown hg2 (fun e => HROW1.out.ne_blk HBR1.out (by decide) e.symm)); have hx2 := hb2.cell 0; simp only [List.getElem?_toArray, List.getElem?_cons_zero] at hx2; have HBE2 := Lib.hid hb2; have HVR2 := Lib.hid (HVR1.out.touch ((Touch.refl (fun j => (Value.slice A (Enc.at_ qs k) c).ownBlock = some j) w1).grown hg2 (fun j hj => .inr hj)) (fun j h1 h2 => row_vrow_ne HROW1.out HVR1.out (by decide) j h2 h1)); have HF2 := Lib.hid (HF1.out.grown hg2 (fun j hj => .inl (HNA.out j hj))); have HR2 := Lib.hid hr2; have HO2 := Lib.hid ho2; have HNC := Lib.hid (new_cells w2 3 [.int .i64 (Enc.at_ qs (k + 1) : Nat)]); clear hr2 hg2 ho2 hb2))
        have HEND := Lib.hid (HBE9.out.set_ 0 (.slice (some ⟨g9, 0, none⟩) (k + 1) c9))
        go_roundw
        case rel =>
          refine ⟨k + 1, c2, A2, _, by omega, by go_num, rfl, HR9.out.far (HR9.out.ne_blk HBE9.out (by decide)) _, HV9.out.touch ((Touch.refl (fun j => j = w.heap.size + 1) w9).setCell (p := ⟨w.heap.size + 1, 0, none⟩) (.inr rfl) _) (fun j h1 h2 => HV9.out.ne_blk HBE9.out (by decide) (by rw [← h2]; exact h1)), HBR9.out.far (by simp) _, HEND.out, HF9.out.setCell (.inl (by simp)) _, fun j hj => ?_, fun j hj => ?_⟩
          · rcases HO2.out with h | h <;> rw [h] at hj
            · exact HNA.out j hj
            · have := HF1.out.size
              simp only [Option.some.injEq] at hj
              omega
          · simp only [Value.ownBlock, Option.some.injEq] at hj
            subst hj
            rcases HO9.out with h | h
            · exact HNE.out _ h
            · rw [h, World.size_alloc]
              omega
        case measure => simp [intOf] <;> omega
    · have hkq : k = qs.length := by omega
      have htk : qs.take k = qs := by rw [hkq, List.take_length]
      have hLl : Enc.at_ qs k ≤ 108 * k := HAT.out k hk
      have hLf : (Enc.frames qs).length = Enc.at_ qs k := by rw [hkq, Enc.at_len]
      rw [htk] at HROW
      obtain ⟨L, hL⟩ : ∃ L, L = Enc.at_ qs k := ⟨_, rfl⟩
      rw [← hL] at HROW HNA hLl hLf ⊢
      have HKQ := Lib.hid hkq; have HLF := Lib.hid hLf; have HL := Lib.hid hL
      clear hL
      have hk8 : k ≤ 8 := by omega
      have hknx : (nx ≤ 8 ∧ k = nx) ∨ (8 < nx ∧ k = 8) := by omega
      have hwi : ∀ v, Calls Try.prog 25 #[.int .i64 cut, .int .i64 ((L : Int) + 1)] v fun e w' => w' = v ∧ e = .returned (.int .i64 (cut % ((L : Int) + 1))) := fun v => within_any cut _ v (by omega) (by omega)
      have he0 := Int.emod_nonneg cut (show (L : Int) + 1 ≠ 0 by omega)
      have he1 := Int.emod_lt_of_pos cut (show (0 : Int) < (L : Int) + 1 by omega)
      obtain ⟨K, hK⟩ : ∃ K : Nat, cut % ((L : Int) + 1) = K := ⟨(cut % ((L : Int) + 1)).toNat, by omega⟩
      rw [hK] at hwi he1
      have HWI := Lib.hid hwi
      have hKL : K ≤ L := by omega
      have hlc := HROW.out.bs.2.1
      have hgw : IntKind.i64.wrap ((L : Int) + 1) = (L : Int) + 1 := IntWalk.i64_in _ (by omega)
      have hKc : (K : Int) ≤ (c : Int) := by omega
      clear hwi he0 he1 hK hkq htk hLf
      obtain ⟨W, hW⟩ : ∃ W, W = (wr.alloc (.cells #[.int .i64 K] 3)).alloc (.cells #[.int .i64 0] 3) := ⟨_, rfl⟩
      have HRW := Lib.hid (show Row W (.slice A L c) (Enc.frames qs) by rw [hW]; exact (HROW.out.alloc _).alloc _)
      have HVRW := Lib.hid (show VRow W 3 1 ev k (endsV qs k) by rw [hW]; exact (HVR.out.alloc _).alloc _)
      have HBRW := Lib.hid (show Blk W w.heap.size 4 #[.bool false] by rw [hW]; exact (HBR.out.alloc _).alloc _)
      have HBEW := Lib.hid (show Blk W (w.heap.size + 1) 77 #[ev] by rw [hW]; exact (HBE.out.alloc _).alloc _)
      have HKB := Lib.hid (show Blk W wr.heap.size 3 #[.int .i64 K] by rw [hW]; exact (Blk.new _ _ _).alloc _)
      have HNB := Lib.hid (show Blk W (wr.heap.size + 1) 3 #[.int .i64 0] by rw [hW]; have := Blk.new (wr.alloc (.cells #[.int .i64 K] 3)) 3 #[.int .i64 0]; rwa [World.size_alloc] at this)
      have HFW := Lib.hid (show Fresh w W by rw [hW]; exact (HFR.out.alloc _).alloc _)
      have HFC := Lib.hid (frames_any A K c ((Enc.frames qs).take K) W (HRW.out.bs.take hKL) (by omega))
      have HW := Lib.hid hW
      clear hW
      rcases hknx with ⟨h8, hkn⟩ | ⟨h8, hkn⟩
      · have hkI : ¬ (k : Int) < (nx : Int) := by omega
        clear hkn
        go_wp2_with fail
        refine (HWI.out wr).mono ?_
        rintro e wx ⟨rfl, rfl⟩
        go_wp2_with fail
        rw [← HW.out]
        refine HFC.out.mono ?_
        rintro e W2 ⟨hf2, rfl, B, c', hfb, hrf, hnewB⟩
        have HF2 := Lib.hid (HFW.out.trans hf2 fun _ _ h => h); have HFB := Lib.hid hfb; have HRF := Lib.hid hrf; have HNEWB := Lib.hid hnewB
        have HBR2 := Lib.hid (HBRW.out.touch hf2 id)
        have HBE2 := Lib.hid (HBEW.out.touch hf2 id)
        have HKB2 := Lib.hid (HKB.out.touch hf2 id)
        have HNB2 := Lib.hid (HNB.out.touch hf2 id)
        have HVR2 := Lib.hid (HVRW.out.touch hf2 (fun _ _ => id))
        clear hf2 hfb hrf hnewB
        have hq81 := Try.eqNil81
        obtain ⟨Ae, ce, rfl, hkce, hcem⟩ := HVR2.out.form
        have hK9 : K ≤ 1000 := by omega
        have HEN := Lib.hid (show (Value.slice Ae k ce).ownBlock ≠ some (wx.heap.size + 1) from fun e => by have := HVR.out.lt _ e; omega)
        clear hql hvl hpl hLl hlt hk
        go_wp2_with fail
        refine wpIn_wide (n := 3).1 ?_
        refine wpIn_rangeFunc_ownF (F := Fence.wide) (n := 3) rfl (by decide) (gf := 102) (lb := #[.pointer (some ⟨W.heap.size, 0, none⟩)]) rfl trivial (enters_of Try.func102 (by kernel_rfl) rfl)
          (frames_stops 2 W.heap.size B K c' ((Enc.frames qs).take K) W2 (by decide) HFB.out HRF.out (by omega)) (fun h1 h2 j hj => (h2 j hj).trans (h1 j hj)) ?hKb (Below.refl _ _) (fun _ => rfl)
          (fun pre V => (SplI w.heap.size (w.heap.size + 1) wx.heap.size (wx.heap.size + 1) W.heap.size qs k K (.slice Ae k ce) (.slice B K c') ((Enc.frames qs).take K) pre.length V ∧ OkP qs K pre) ∧ Below w.heap.size w V)
          (fun e pre _ => ∃ pre' x, pre = pre' ++ [x] ∧ ¬ OkP qs K (pre' ++ [x]))
          (OwnFrom.and (Own.from (fun s A B row hs hg hr => ⟨hs.1.own_ hg hr, hs.2⟩) _) (ownFrom_below (Nat.le_refl _) HF2.out.size)) (fun _ => Own.from (fun s A B row hs hg hr => hs) _)
          ⟨⟨⟨HBR2.out, HBE2.out, HKB2.out, HNB2.out, HVR2.out, HFB.out, HRF.out⟩, OkP.nil_ _ _⟩, Fresh.bel HF2.out⟩ ?a1 ?assign ?body ?done ?stop
        case hKb =>
          intro V l o o' hl ho _ _ j hj
          refine World.putObj_heap_other ?_
          rcases hj with rfl | hj
          · have := HFB.out.lt; omega
          · have := HRF.out.lt _ hj; omega
        case assign =>
          intro l x V K1 hK1
          simp only [frEnc, List.zip_toArray, List.size_toArray, List.zip_cons_cons, List.zip_nil_left]
          gi_wp2
          exact hK1
        case body =>
          rintro l pre x V ⟨⟨⟨hbr, hbe, hkb, hnb, hvr, hfb, hrow⟩, hok⟩, hbl⟩ hlt2
          have HBL := Lib.hid hbl
          clear hbl
          have hcr := hbr.cell 0
          have hfr0 := hbr.frozen 0
          have hce := hbe.cell 0
          have hck := hkb.cell 0
          have hcn := hnb.cell 0
          have hfn := hnb.frozen 0
          simp only [List.getElem?_toArray, List.getElem?_cons_zero] at hcr hce hck hcn
          have hnk : pre.length ≤ k := by rw [HKQ.out]; exact hok.1
          obtain ⟨n, hn⟩ : ∃ n, n = pre.length := ⟨_, rfl⟩
          rw [← hn] at hcn hnb hnk hlt2
          have HN := Lib.hid hn
          have HOK := Lib.hid hok
          have HS : Hid (SplI w.heap.size (w.heap.size + 1) wx.heap.size (wx.heap.size + 1) W.heap.size qs k K (.slice Ae k ce) (.slice B K c') ((Enc.frames qs).take K) n V) := Lib.hid ⟨hbr, hbe, hkb, hnb, hvr, hfb, hrow⟩
          clear hn hok
          rcases Nat.eq_zero_or_pos n with h0 | h0
          · have h0I : ¬ (0 : Int) < (n : Int) := by omega
            have hz : Enc.at_ qs n = 0 := by rw [h0, Enc.at_zero]
            have hzI : ((Enc.at_ qs n : Nat) : Int) = 0 := by omega
            clear h0 hz
            by_cases hA : n < k
            · have hAI : decide ((k : Int) ≤ (n : Int)) = false := by simp; omega
              have hAI2 : decide (k ≤ n) = false := by simp; omega
              obtain ⟨eg, eo, rfl⟩ := hvr.rd.at_ (by omega)
              have hcN := hvr.rd.cellAt (endsV_get qs hA)
              by_cases hB : Enc.at_ qs (n + 1) ≤ K
              · have hBI : decide ((K : Int) < ((Enc.at_ qs (n + 1) : Nat) : Int)) = false := by simp; omega
                have hBI2 : decide (K < Enc.at_ qs (n + 1)) = false := by simp; omega
                by_cases hC : x.1 = ((Enc.at_ qs n : Nat) : Int)
                · have HC := Lib.hid hC
                  gi_wp2
                  refine region_round l rfl (by simp) (by kernel_rfl) (by kernel_rfl) ?_
                  repeat (gi_big_quiet_step (fail))
                  refine wpQuietIn_nil ?_
                  intro _ hw'
                  obtain ⟨nq, hw''⟩ := hw'
                  subst hw''
                  gi_wp2
                  obtain ⟨z1, z2⟩ := HS.out.go_ (by omega) HEN.out nq
                  refine ⟨keepsN _ _ _ _, z1, ⟨?_, HOK.out.snoc (by rw [← HKQ.out, ← HN.out]; exact hA) (by rw [← HN.out]; exact hB) (by rw [← HN.out]; exact HC.out)⟩, (below_drewN HBL.out nq).setCell (p := ⟨wx.heap.size + 1, 0, none⟩) (Nat.le_succ_of_le HFR.out.size) _⟩
                  rw [List.length_append, ← HN.out]
                  exact z2
                · have HC := Lib.hid hC
                  gi_wp2
                  refine region_round l rfl (by simp) (by kernel_rfl) (by kernel_rfl) ?_
                  repeat (gi_big_quiet_step (fail))
                  refine wpQuietIn_nil ?_
                  intro _ hw'
                  obtain ⟨nq, hw''⟩ := hw'
                  subst hw''
                  gi_wp2
                  exact ⟨keepsN _ _ _ _, pre, x, rfl, fun hok => HC.out (by have := hok.last.2.2; rw [← HN.out] at this; exact this)⟩
              · have hBI : decide ((K : Int) < ((Enc.at_ qs (n + 1) : Nat) : Int)) = true := by simp; omega
                have hBI2 : decide (K < Enc.at_ qs (n + 1)) = true := by simp; omega
                gi_wp2
                refine region_round l rfl (by simp) (by kernel_rfl) (by kernel_rfl) ?_
                repeat (gi_big_quiet_step (fail))
                refine wpQuietIn_nil ?_
                intro _ hw'
                obtain ⟨nq, hw''⟩ := hw'
                subst hw''
                gi_wp2
                exact ⟨keepsN _ _ _ _, pre, x, rfl, fun hok => hB (by have := hok.last.2.1; rw [← HN.out] at this; exact this)⟩
            · have hAI : decide ((k : Int) ≤ (n : Int)) = true := by simp; omega
              have hAI2 : decide (k ≤ n) = true := by simp; omega
              gi_wp2
              refine region_round l rfl (by simp) (by kernel_rfl) (by kernel_rfl) ?_
              repeat (gi_big_quiet_step (fail))
              refine wpQuietIn_nil ?_
              intro _ hw'
              obtain ⟨nq, hw''⟩ := hw'
              subst hw''
              gi_wp2
              exact ⟨keepsN _ _ _ _, pre, x, rfl, fun hok => hA (by have := hok.last.1; rw [← HN.out, ← HKQ.out] at this; exact this)⟩
          · have h0I : (0 : Int) < (n : Int) := by omega
            obtain ⟨eg, eo, rfl⟩ := hvr.rd.at_ (by omega)
            have hcP := hvr.rd.cellAt (endsV_get qs (show n - 1 < k by omega))
            rw [show n - 1 + 1 = n by omega] at hcP
            have htn : ((n : Int) - 1).toNat = n - 1 := by omega
            have hsb : IntKind.i64.wrap ((n : Int) - 1) = (n : Int) - 1 := IntWalk.i64_in _ (by omega)
            by_cases hA : n < k
            · have hAI : decide ((k : Int) ≤ (n : Int)) = false := by simp; omega
              have hAI2 : decide (k ≤ n) = false := by simp; omega
              have hcN := hvr.rd.cellAt (endsV_get qs hA)
              by_cases hB : Enc.at_ qs (n + 1) ≤ K
              · have hBI : decide ((K : Int) < ((Enc.at_ qs (n + 1) : Nat) : Int)) = false := by simp; omega
                have hBI2 : decide (K < Enc.at_ qs (n + 1)) = false := by simp; omega
                by_cases hC : x.1 = ((Enc.at_ qs n : Nat) : Int)
                · have HC := Lib.hid hC
                  gi_wp2
                  refine region_round l rfl (by simp) (by kernel_rfl) (by kernel_rfl) ?_
                  repeat (gi_big_quiet_step (fail))
                  refine wpQuietIn_nil ?_
                  intro _ hw'
                  obtain ⟨nq, hw''⟩ := hw'
                  subst hw''
                  gi_wp2
                  obtain ⟨z1, z2⟩ := HS.out.go_ (by omega) HEN.out nq
                  refine ⟨keepsN _ _ _ _, z1, ⟨?_, HOK.out.snoc (by rw [← HKQ.out, ← HN.out]; exact hA) (by rw [← HN.out]; exact hB) (by rw [← HN.out]; exact HC.out)⟩, (below_drewN HBL.out nq).setCell (p := ⟨wx.heap.size + 1, 0, none⟩) (Nat.le_succ_of_le HFR.out.size) _⟩
                  rw [List.length_append, ← HN.out]
                  exact z2
                · have HC := Lib.hid hC
                  gi_wp2
                  refine region_round l rfl (by simp) (by kernel_rfl) (by kernel_rfl) ?_
                  repeat (gi_big_quiet_step (fail))
                  refine wpQuietIn_nil ?_
                  intro _ hw'
                  obtain ⟨nq, hw''⟩ := hw'
                  subst hw''
                  gi_wp2
                  exact ⟨keepsN _ _ _ _, pre, x, rfl, fun hok => HC.out (by have := hok.last.2.2; rw [← HN.out] at this; exact this)⟩
              · have hBI : decide ((K : Int) < ((Enc.at_ qs (n + 1) : Nat) : Int)) = true := by simp; omega
                have hBI2 : decide (K < Enc.at_ qs (n + 1)) = true := by simp; omega
                gi_wp2
                refine region_round l rfl (by simp) (by kernel_rfl) (by kernel_rfl) ?_
                repeat (gi_big_quiet_step (fail))
                refine wpQuietIn_nil ?_
                intro _ hw'
                obtain ⟨nq, hw''⟩ := hw'
                subst hw''
                gi_wp2
                exact ⟨keepsN _ _ _ _, pre, x, rfl, fun hok => hB (by have := hok.last.2.1; rw [← HN.out] at this; exact this)⟩
            · have hAI : decide ((k : Int) ≤ (n : Int)) = true := by simp; omega
              have hAI2 : decide (k ≤ n) = true := by simp; omega
              gi_wp2
              refine region_round l rfl (by simp) (by kernel_rfl) (by kernel_rfl) ?_
              repeat (gi_big_quiet_step (fail))
              refine wpQuietIn_nil ?_
              intro _ hw'
              obtain ⟨nq, hw''⟩ := hw'
              subst hw''
              gi_wp2
              exact ⟨keepsN _ _ _ _, pre, x, rfl, fun hok => hA (by have := hok.last.1; rw [← HN.out, ← HKQ.out] at this; exact this)⟩
        case done =>
          rintro D ys V hD hS ⟨⟨⟨hbr, hbe, hkb, hnb, hvr, hfb, hrow⟩, hok⟩, hbl⟩ hKD
          have HBL := Lib.hid hbl; have HD := Lib.hid (Nat.le_trans HF2.out.size hD)
          clear hbl hD
          have hall := told_all HQLE.out (by rw [HLF.out]; exact hKL) hS
          have hcr := hbr.cell 0
          have hfr0 := hbr.frozen 0
          have hce := hbe.cell 0
          have hck := hkb.cell 0
          have hcn := hnb.cell 0
          simp only [List.getElem?_toArray, List.getElem?_cons_zero] at hcr hce hck hcn
          have hnk : ys.length ≤ k := by rw [HKQ.out]; exact hok.1
          obtain ⟨n, hn⟩ : ∃ n, n = ys.length := ⟨_, rfl⟩
          have hfin : n < k → K < Enc.at_ qs (n + 1) := by rw [hn, HKQ.out]; exact hall.2
          rw [← hn] at hcn hnb hnk
          clear hn hok hall hS
          have HBR := Lib.hid hbr; have HKD := Lib.hid hKD
          by_cases hA : n = k
          · have hAI : ((n : Int) == (k : Int)) = true := by simp [hA]
            have hAI2 : decide ((n : Int) = (k : Int)) = true := by simp [hA]
            have hAI3 : decide (n = k) = true := by simp [hA]
            clear hA hfin hKD
            go_wp2_with fail
            refine region_tail 13 (by kernel_rfl) (by kernel_rfl) rfl rfl ?_
            simp only [List.take_succ_cons, List.take_zero, List.drop_succ_cons, List.drop_zero]
            repeat (go_big_quiet_step (fail))
            refine wpQuiet_nil ?_
            go_wp2_with fail
            refine (wakes_any _).mono ?_
            rintro e w4 ⟨rfl, hf4⟩
            have hb4 := HBR.out.drew.touch hf4 id
            have hc4 := hb4.cell 0
            have hz4 := hb4.frozen 0
            simp only [List.getElem?_toArray, List.getElem?_cons_zero] at hc4
            have hd4 : w4.heap[D]? = some (.deferred (some [])) := hf4.heap HKD.out id
            have HB4 := Lib.hid (HBL.out.drew.trans (hf4.bel.mono HBL.out.size)); have HD4 := Lib.hid hd4
            clear hf4 hb4 hd4
            go_wp2_with fail
            have hK' := (KeepsOthers.setCell w4 ⟨w.heap.size, 0, none⟩ (.bool true)).same D _ HD4.out rfl
            refine ⟨by simp, .inl ⟨_, _, rfl, run_takeDeferred hK', ?_⟩⟩
            have hc5 := cell_kept (World.cell?_setCell_same' w4 ⟨w.heap.size, 0, none⟩ (.bool true) (by rw [hc4]; rfl)) (grownBy_putObj' _ D (.deferred none)) (fun r e => by cases e; exact ⟨_, hK', rfl⟩)
            refine ⟨.bool true, ?_, rfl, (HB4.out.setCell (p := ⟨w.heap.size, 0, none⟩) (Nat.le_refl _) _).trans (belowK_b (w := w) (Nat.le_refl _) _ D _ _ HD.out hK' rfl rfl)⟩
            simp [results, Try.results13, go_sem, hc5]
          · have hAI : ((n : Int) == (k : Int)) = false := by simp; omega
            have hAI2 : decide ((n : Int) = (k : Int)) = false := by simp; omega
            have hAI3 : decide (n = k) = false := by simp; omega
            have hlt2 : n < k := by omega
            have hB := hfin hlt2
            have hBI : decide ((K : Int) < ((Enc.at_ qs (n + 1) : Nat) : Int)) = true := by simp; omega
            have hBI2 : decide (K < Enc.at_ qs (n + 1)) = true := by simp; omega
            obtain ⟨eg, eo, rfl⟩ := hvr.rd.at_ (by omega)
            have hcN := hvr.rd.cellAt (endsV_get qs hlt2)
            clear hA hfin hKD
            go_wp2_with fail
            refine region_tail 13 (by kernel_rfl) (by kernel_rfl) rfl rfl ?_
            simp only [List.take_succ_cons, List.take_zero, List.drop_succ_cons, List.drop_zero]
            repeat (go_big_quiet_step (fail))
            refine wpQuiet_nil ?_
            go_wp2_with fail
            refine (wakes_any _).mono ?_
            rintro e w4 ⟨rfl, hf4⟩
            have hb4 := HBR.out.drew.touch hf4 id
            have hc4 := hb4.cell 0
            have hz4 := hb4.frozen 0
            simp only [List.getElem?_toArray, List.getElem?_cons_zero] at hc4
            have hd4 : w4.heap[D]? = some (.deferred (some [])) := hf4.heap HKD.out id
            have HB4 := Lib.hid (HBL.out.drew.trans (hf4.bel.mono HBL.out.size)); have HD4 := Lib.hid hd4
            clear hf4 hb4 hd4
            go_wp2_with fail
            have hK' := (KeepsOthers.setCell w4 ⟨w.heap.size, 0, none⟩ (.bool true)).same D _ HD4.out rfl
            refine ⟨by simp, .inl ⟨_, _, rfl, run_takeDeferred hK', ?_⟩⟩
            have hc5 := cell_kept (World.cell?_setCell_same' w4 ⟨w.heap.size, 0, none⟩ (.bool true) (by rw [hc4]; rfl)) (grownBy_putObj' _ D (.deferred none)) (fun r e => by cases e; exact ⟨_, hK', rfl⟩)
            refine ⟨.bool true, ?_, rfl, (HB4.out.setCell (p := ⟨w.heap.size, 0, none⟩) (Nat.le_refl _) _).trans (belowK_b (w := w) (Nat.le_refl _) _ D _ _ HD.out hK' rfl rfl)⟩
            simp [results, Try.results13, go_sem, hc5]
        case stop =>
          rintro D e pre V _ ⟨rest, hpre⟩ ⟨pre', x, rfl, hno⟩ hK
          exact (hno (told_pre HQLE.out (by rw [HLF.out]; exact hKL) hpre)).elim
      · have hkI : (k : Int) < (nx : Int) := by omega
        have hkJ : ¬ (k : Int) < 8 := by omega
        clear hkn
        go_wp2_with fail
        refine (HWI.out wr).mono ?_
        rintro e wx ⟨rfl, rfl⟩
        go_wp2_with fail
        rw [← HW.out]
        refine HFC.out.mono ?_
        rintro e W2 ⟨hf2, rfl, B, c', hfb, hrf, hnewB⟩
        have HF2 := Lib.hid (HFW.out.trans hf2 fun _ _ h => h); have HFB := Lib.hid hfb; have HRF := Lib.hid hrf; have HNEWB := Lib.hid hnewB
        have HBR2 := Lib.hid (HBRW.out.touch hf2 id)
        have HBE2 := Lib.hid (HBEW.out.touch hf2 id)
        have HKB2 := Lib.hid (HKB.out.touch hf2 id)
        have HNB2 := Lib.hid (HNB.out.touch hf2 id)
        have HVR2 := Lib.hid (HVRW.out.touch hf2 (fun _ _ => id))
        clear hf2 hfb hrf hnewB
        have hq81 := Try.eqNil81
        obtain ⟨Ae, ce, rfl, hkce, hcem⟩ := HVR2.out.form
        have hK9 : K ≤ 1000 := by omega
        have HEN := Lib.hid (show (Value.slice Ae k ce).ownBlock ≠ some (wx.heap.size + 1) from fun e => by have := HVR.out.lt _ e; omega)
        clear hql hvl hpl hLl hlt hk
        go_wp2_with fail
        refine wpIn_wide (n := 3).1 ?_
        refine wpIn_rangeFunc_ownF (F := Fence.wide) (n := 3) rfl (by decide) (gf := 102) (lb := #[.pointer (some ⟨W.heap.size, 0, none⟩)]) rfl trivial (enters_of Try.func102 (by kernel_rfl) rfl)
          (frames_stops 2 W.heap.size B K c' ((Enc.frames qs).take K) W2 (by decide) HFB.out HRF.out (by omega)) (fun h1 h2 j hj => (h2 j hj).trans (h1 j hj)) ?hKb (Below.refl _ _) (fun _ => rfl)
          (fun pre V => (SplI w.heap.size (w.heap.size + 1) wx.heap.size (wx.heap.size + 1) W.heap.size qs k K (.slice Ae k ce) (.slice B K c') ((Enc.frames qs).take K) pre.length V ∧ OkP qs K pre) ∧ Below w.heap.size w V)
          (fun e pre _ => ∃ pre' x, pre = pre' ++ [x] ∧ ¬ OkP qs K (pre' ++ [x]))
          (OwnFrom.and (Own.from (fun s A B row hs hg hr => ⟨hs.1.own_ hg hr, hs.2⟩) _) (ownFrom_below (Nat.le_refl _) HF2.out.size)) (fun _ => Own.from (fun s A B row hs hg hr => hs) _)
          ⟨⟨⟨HBR2.out, HBE2.out, HKB2.out, HNB2.out, HVR2.out, HFB.out, HRF.out⟩, OkP.nil_ _ _⟩, Fresh.bel HF2.out⟩ ?a2 ?assign ?body ?done ?stop
        case hKb =>
          intro V l o o' hl ho _ _ j hj
          refine World.putObj_heap_other ?_
          rcases hj with rfl | hj
          · have := HFB.out.lt; omega
          · have := HRF.out.lt _ hj; omega
        case assign =>
          intro l x V K1 hK1
          simp only [frEnc, List.zip_toArray, List.size_toArray, List.zip_cons_cons, List.zip_nil_left]
          gi_wp2
          exact hK1
        case body =>
          rintro l pre x V ⟨⟨⟨hbr, hbe, hkb, hnb, hvr, hfb, hrow⟩, hok⟩, hbl⟩ hlt2
          have HBL := Lib.hid hbl
          clear hbl
          have hcr := hbr.cell 0
          have hfr0 := hbr.frozen 0
          have hce := hbe.cell 0
          have hck := hkb.cell 0
          have hcn := hnb.cell 0
          have hfn := hnb.frozen 0
          simp only [List.getElem?_toArray, List.getElem?_cons_zero] at hcr hce hck hcn
          have hnk : pre.length ≤ k := by rw [HKQ.out]; exact hok.1
          obtain ⟨n, hn⟩ : ∃ n, n = pre.length := ⟨_, rfl⟩
          rw [← hn] at hcn hnb hnk hlt2
          have HN := Lib.hid hn
          have HOK := Lib.hid hok
          have HS : Hid (SplI w.heap.size (w.heap.size + 1) wx.heap.size (wx.heap.size + 1) W.heap.size qs k K (.slice Ae k ce) (.slice B K c') ((Enc.frames qs).take K) n V) := Lib.hid ⟨hbr, hbe, hkb, hnb, hvr, hfb, hrow⟩
          clear hn hok
          rcases Nat.eq_zero_or_pos n with h0 | h0
          · have h0I : ¬ (0 : Int) < (n : Int) := by omega
            have hz : Enc.at_ qs n = 0 := by rw [h0, Enc.at_zero]
            have hzI : ((Enc.at_ qs n : Nat) : Int) = 0 := by omega
            clear h0 hz
            by_cases hA : n < k
            · have hAI : decide ((k : Int) ≤ (n : Int)) = false := by simp; omega
              have hAI2 : decide (k ≤ n) = false := by simp; omega
              obtain ⟨eg, eo, rfl⟩ := hvr.rd.at_ (by omega)
              have hcN := hvr.rd.cellAt (endsV_get qs hA)
              by_cases hB : Enc.at_ qs (n + 1) ≤ K
              · have hBI : decide ((K : Int) < ((Enc.at_ qs (n + 1) : Nat) : Int)) = false := by simp; omega
                have hBI2 : decide (K < Enc.at_ qs (n + 1)) = false := by simp; omega
                by_cases hC : x.1 = ((Enc.at_ qs n : Nat) : Int)
                · have HC := Lib.hid hC
                  gi_wp2
                  refine region_round l rfl (by simp) (by kernel_rfl) (by kernel_rfl) ?_
                  repeat (gi_big_quiet_step (fail))
                  refine wpQuietIn_nil ?_
                  intro _ hw'
                  obtain ⟨nq, hw''⟩ := hw'
                  subst hw''
                  gi_wp2
                  obtain ⟨z1, z2⟩ := HS.out.go_ (by omega) HEN.out nq
                  refine ⟨keepsN _ _ _ _, z1, ⟨?_, HOK.out.snoc (by rw [← HKQ.out, ← HN.out]; exact hA) (by rw [← HN.out]; exact hB) (by rw [← HN.out]; exact HC.out)⟩, (below_drewN HBL.out nq).setCell (p := ⟨wx.heap.size + 1, 0, none⟩) (Nat.le_succ_of_le HFR.out.size) _⟩
                  rw [List.length_append, ← HN.out]
                  exact z2
                · have HC := Lib.hid hC
                  gi_wp2
                  refine region_round l rfl (by simp) (by kernel_rfl) (by kernel_rfl) ?_
                  repeat (gi_big_quiet_step (fail))
                  refine wpQuietIn_nil ?_
                  intro _ hw'
                  obtain ⟨nq, hw''⟩ := hw'
                  subst hw''
                  gi_wp2
                  exact ⟨keepsN _ _ _ _, pre, x, rfl, fun hok => HC.out (by have := hok.last.2.2; rw [← HN.out] at this; exact this)⟩
              · have hBI : decide ((K : Int) < ((Enc.at_ qs (n + 1) : Nat) : Int)) = true := by simp; omega
                have hBI2 : decide (K < Enc.at_ qs (n + 1)) = true := by simp; omega
                gi_wp2
                refine region_round l rfl (by simp) (by kernel_rfl) (by kernel_rfl) ?_
                repeat (gi_big_quiet_step (fail))
                refine wpQuietIn_nil ?_
                intro _ hw'
                obtain ⟨nq, hw''⟩ := hw'
                subst hw''
                gi_wp2
                exact ⟨keepsN _ _ _ _, pre, x, rfl, fun hok => hB (by have := hok.last.2.1; rw [← HN.out] at this; exact this)⟩
            · omega
          · have h0I : (0 : Int) < (n : Int) := by omega
            obtain ⟨eg, eo, rfl⟩ := hvr.rd.at_ (by omega)
            have hcP := hvr.rd.cellAt (endsV_get qs (show n - 1 < k by omega))
            rw [show n - 1 + 1 = n by omega] at hcP
            have htn : ((n : Int) - 1).toNat = n - 1 := by omega
            have hsb : IntKind.i64.wrap ((n : Int) - 1) = (n : Int) - 1 := IntWalk.i64_in _ (by omega)
            by_cases hA : n < k
            · have hAI : decide ((k : Int) ≤ (n : Int)) = false := by simp; omega
              have hAI2 : decide (k ≤ n) = false := by simp; omega
              have hcN := hvr.rd.cellAt (endsV_get qs hA)
              by_cases hB : Enc.at_ qs (n + 1) ≤ K
              · have hBI : decide ((K : Int) < ((Enc.at_ qs (n + 1) : Nat) : Int)) = false := by simp; omega
                have hBI2 : decide (K < Enc.at_ qs (n + 1)) = false := by simp; omega
                by_cases hC : x.1 = ((Enc.at_ qs n : Nat) : Int)
                · have HC := Lib.hid hC
                  gi_wp2
                  refine region_round l rfl (by simp) (by kernel_rfl) (by kernel_rfl) ?_
                  repeat (gi_big_quiet_step (fail))
                  refine wpQuietIn_nil ?_
                  intro _ hw'
                  obtain ⟨nq, hw''⟩ := hw'
                  subst hw''
                  gi_wp2
                  obtain ⟨z1, z2⟩ := HS.out.go_ (by omega) HEN.out nq
                  refine ⟨keepsN _ _ _ _, z1, ⟨?_, HOK.out.snoc (by rw [← HKQ.out, ← HN.out]; exact hA) (by rw [← HN.out]; exact hB) (by rw [← HN.out]; exact HC.out)⟩, (below_drewN HBL.out nq).setCell (p := ⟨wx.heap.size + 1, 0, none⟩) (Nat.le_succ_of_le HFR.out.size) _⟩
                  rw [List.length_append, ← HN.out]
                  exact z2
                · have HC := Lib.hid hC
                  gi_wp2
                  refine region_round l rfl (by simp) (by kernel_rfl) (by kernel_rfl) ?_
                  repeat (gi_big_quiet_step (fail))
                  refine wpQuietIn_nil ?_
                  intro _ hw'
                  obtain ⟨nq, hw''⟩ := hw'
                  subst hw''
                  gi_wp2
                  exact ⟨keepsN _ _ _ _, pre, x, rfl, fun hok => HC.out (by have := hok.last.2.2; rw [← HN.out] at this; exact this)⟩
              · have hBI : decide ((K : Int) < ((Enc.at_ qs (n + 1) : Nat) : Int)) = true := by simp; omega
                have hBI2 : decide (K < Enc.at_ qs (n + 1)) = true := by simp; omega
                gi_wp2
                refine region_round l rfl (by simp) (by kernel_rfl) (by kernel_rfl) ?_
                repeat (gi_big_quiet_step (fail))
                refine wpQuietIn_nil ?_
                intro _ hw'
                obtain ⟨nq, hw''⟩ := hw'
                subst hw''
                gi_wp2
                exact ⟨keepsN _ _ _ _, pre, x, rfl, fun hok => hB (by have := hok.last.2.1; rw [← HN.out] at this; exact this)⟩
            · have hAI : decide ((k : Int) ≤ (n : Int)) = true := by simp; omega
              have hAI2 : decide (k ≤ n) = true := by simp; omega
              gi_wp2
              refine region_round l rfl (by simp) (by kernel_rfl) (by kernel_rfl) ?_
              repeat (gi_big_quiet_step (fail))
              refine wpQuietIn_nil ?_
              intro _ hw'
              obtain ⟨nq, hw''⟩ := hw'
              subst hw''
              gi_wp2
              exact ⟨keepsN _ _ _ _, pre, x, rfl, fun hok => hA (by have := hok.last.1; rw [← HN.out, ← HKQ.out] at this; exact this)⟩
        case done =>
          rintro D ys V hD hS ⟨⟨⟨hbr, hbe, hkb, hnb, hvr, hfb, hrow⟩, hok⟩, hbl⟩ hKD
          have HBL := Lib.hid hbl; have HD := Lib.hid (Nat.le_trans HF2.out.size hD)
          clear hbl hD
          have hall := told_all HQLE.out (by rw [HLF.out]; exact hKL) hS
          have hcr := hbr.cell 0
          have hfr0 := hbr.frozen 0
          have hce := hbe.cell 0
          have hck := hkb.cell 0
          have hcn := hnb.cell 0
          simp only [List.getElem?_toArray, List.getElem?_cons_zero] at hcr hce hck hcn
          have hnk : ys.length ≤ k := by rw [HKQ.out]; exact hok.1
          obtain ⟨n, hn⟩ : ∃ n, n = ys.length := ⟨_, rfl⟩
          have hfin : n < k → K < Enc.at_ qs (n + 1) := by rw [hn, HKQ.out]; exact hall.2
          rw [← hn] at hcn hnb hnk
          clear hn hok hall hS
          have HBR := Lib.hid hbr; have HKD := Lib.hid hKD
          by_cases hA : n = k
          · have hAI : ((n : Int) == (k : Int)) = true := by simp [hA]
            have hAI2 : decide ((n : Int) = (k : Int)) = true := by simp [hA]
            have hAI3 : decide (n = k) = true := by simp [hA]
            clear hA hfin hKD
            go_wp2_with fail
            refine region_tail 13 (by kernel_rfl) (by kernel_rfl) rfl rfl ?_
            simp only [List.take_succ_cons, List.take_zero, List.drop_succ_cons, List.drop_zero]
            repeat (go_big_quiet_step (fail))
            refine wpQuiet_nil ?_
            go_wp2_with fail
            refine (wakes_any _).mono ?_
            rintro e w4 ⟨rfl, hf4⟩
            have hb4 := HBR.out.drew.touch hf4 id
            have hc4 := hb4.cell 0
            have hz4 := hb4.frozen 0
            simp only [List.getElem?_toArray, List.getElem?_cons_zero] at hc4
            have hd4 : w4.heap[D]? = some (.deferred (some [])) := hf4.heap HKD.out id
            have HB4 := Lib.hid (HBL.out.drew.trans (hf4.bel.mono HBL.out.size)); have HD4 := Lib.hid hd4
            clear hf4 hb4 hd4
            go_wp2_with fail
            have hK' := (KeepsOthers.setCell w4 ⟨w.heap.size, 0, none⟩ (.bool true)).same D _ HD4.out rfl
            refine ⟨by simp, .inl ⟨_, _, rfl, run_takeDeferred hK', ?_⟩⟩
            have hc5 := cell_kept (World.cell?_setCell_same' w4 ⟨w.heap.size, 0, none⟩ (.bool true) (by rw [hc4]; rfl)) (grownBy_putObj' _ D (.deferred none)) (fun r e => by cases e; exact ⟨_, hK', rfl⟩)
            refine ⟨.bool true, ?_, rfl, (HB4.out.setCell (p := ⟨w.heap.size, 0, none⟩) (Nat.le_refl _) _).trans (belowK_b (w := w) (Nat.le_refl _) _ D _ _ HD.out hK' rfl rfl)⟩
            simp [results, Try.results13, go_sem, hc5]
          · have hAI : ((n : Int) == (k : Int)) = false := by simp; omega
            have hAI2 : decide ((n : Int) = (k : Int)) = false := by simp; omega
            have hAI3 : decide (n = k) = false := by simp; omega
            have hlt2 : n < k := by omega
            have hB := hfin hlt2
            have hBI : decide ((K : Int) < ((Enc.at_ qs (n + 1) : Nat) : Int)) = true := by simp; omega
            have hBI2 : decide (K < Enc.at_ qs (n + 1)) = true := by simp; omega
            obtain ⟨eg, eo, rfl⟩ := hvr.rd.at_ (by omega)
            have hcN := hvr.rd.cellAt (endsV_get qs hlt2)
            clear hA hfin hKD
            go_wp2_with fail
            refine region_tail 13 (by kernel_rfl) (by kernel_rfl) rfl rfl ?_
            simp only [List.take_succ_cons, List.take_zero, List.drop_succ_cons, List.drop_zero]
            repeat (go_big_quiet_step (fail))
            refine wpQuiet_nil ?_
            go_wp2_with fail
            refine (wakes_any _).mono ?_
            rintro e w4 ⟨rfl, hf4⟩
            have hb4 := HBR.out.drew.touch hf4 id
            have hc4 := hb4.cell 0
            have hz4 := hb4.frozen 0
            simp only [List.getElem?_toArray, List.getElem?_cons_zero] at hc4
            have hd4 : w4.heap[D]? = some (.deferred (some [])) := hf4.heap HKD.out id
            have HB4 := Lib.hid (HBL.out.drew.trans (hf4.bel.mono HBL.out.size)); have HD4 := Lib.hid hd4
            clear hf4 hb4 hd4
            go_wp2_with fail
            have hK' := (KeepsOthers.setCell w4 ⟨w.heap.size, 0, none⟩ (.bool true)).same D _ HD4.out rfl
            refine ⟨by simp, .inl ⟨_, _, rfl, run_takeDeferred hK', ?_⟩⟩
            have hc5 := cell_kept (World.cell?_setCell_same' w4 ⟨w.heap.size, 0, none⟩ (.bool true) (by rw [hc4]; rfl)) (grownBy_putObj' _ D (.deferred none)) (fun r e => by cases e; exact ⟨_, hK', rfl⟩)
            refine ⟨.bool true, ?_, rfl, (HB4.out.setCell (p := ⟨w.heap.size, 0, none⟩) (Nat.le_refl _) _).trans (belowK_b (w := w) (Nat.le_refl _) _ D _ _ HD.out hK' rfl rfl)⟩
            simp [results, Try.results13, go_sem, hc5]
        case stop =>
          rintro D e pre V _ ⟨rest, hpre⟩ ⟨pre', x, rfl, hno⟩ hK
          exact (hno (told_pre HQLE.out (by rw [HLF.out]; exact hKL) hpre)).elim
end Go.Proofs.Ytdfhdanfigpbpaa
