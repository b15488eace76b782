/- The walk of the law CodecFrames: it answers true. Conditions stand with it. -/
import Derived.Test.YtdfhdanfigpbpaaLawSpl
import Derived.Test.YtdfhdanfigpbpaaRefFs
import Derived.Test.YtdfhdanfigpbpaaUnfR
import Derived.Deep.RegionHeld3
namespace Go.Proofs.Ytdfhdanfigpbpaa
open Go.RowKit Go.Shelf
attribute [local go_sem] Oper.semAt_some
theorem wide_fn (f : FuncId) : Fence.wide.fn f = True := rfl
theorem wide_asked (P : Program) (o : Oper) (a : Act) (C : World → Prop) : o.askedIn Fence.wide P a C = True := eq_true fun _ _ _ _ => trivial
attribute [local go_sem] wide_fn wide_asked

theorem Row.len_ {w : World} {A : Option Addr} {n c : Nat} {xs : List UInt8} (h : Row w (.slice A n c) xs) : xs.length = n := by
  obtain ⟨_, _, e, _⟩ := h.form
  injection e with _ e _
  exact e.symm

theorem told2_len (xs : List UInt8) : ∀ (f p : Nat), (told2 xs f p).length ≤ f
  | 0, _ => Nat.le_refl _
  | f + 1, p => by
    rcases hu : Enc.unframe (xs.drop p) with _ | ⟨q, k⟩
    · rw [told2_none hu]; exact Nat.zero_le _
    · rw [told2_some hu, List.length_cons]
      exact Nat.succ_le_succ (told2_len xs f (p + k))
/-- what lies in memory between two rounds -/
def FrsI (sb rb pb qb kb fb : Nat) (stop : Int) (pv rv fv : Value) (ts : List (Int × List UInt8)) (full : List UInt8) (n : Nat) (W : World) : Prop :=
  Blk W sb 3 #[.int .i64 stop] ∧ Blk W rb 4 #[.bool false] ∧ Blk W pb 77 #[pv] ∧ Blk W qb 76 #[rv] ∧ Blk W kb 3 #[.int .i64 n] ∧ Own W 3 1 pv ts.length (intsV (ts.map (·.1))) ∧ PlRows W rv ts ∧ Blk W fb 24 #[fv] ∧ Row W fv full
theorem Own.own_ {A B : World} {row : Option Nat} {e : TypeId} {sz n : Nat} {v : Value} {us : List Value} (h : Own A e sz v n us) (hg : A.grownBy B row) (hr : ∀ r, row = some r → ∃ o : Obj, A.heap[r]? = some o ∧ o.isCells = false) : Own B e sz v n us := by
  rcases h.2 with hnil | ⟨g, cap, cur, rfl, hh, rest⟩
  · exact ⟨h.1, .inl hnil⟩
  · exact ⟨h.1, .inr ⟨g, cap, cur, rfl, Blk.own_ (t := e) hh hg hr, rest⟩⟩
theorem PlRows.own_ {A B : World} {row : Option Nat} {v : Value} {ts : List (Int × List UInt8)} (h : PlRows A v ts) (hg : A.grownBy B row) (hr : ∀ r, row = some r → ∃ o : Obj, A.heap[r]? = some o ∧ o.isCells = false) : PlRows B v ts := by
  obtain ⟨rs, h1, h2, h3, h4⟩ := h
  refine ⟨rs, h1, h2.own_ hg hr, h3, fun i u t hu ht => ?_⟩
  obtain ⟨C, c, e, hx⟩ := h4 i u t hu ht
  exact ⟨C, c, e, own_own_ hx hg hr⟩
theorem FrsI.own_ {sb rb pb qb kb fb : Nat} {stop : Int} {pv rv fv : Value} {ts : List (Int × List UInt8)} {full : List UInt8} {n : Nat} {A B : World} {row : Option Nat} (h : FrsI sb rb pb qb kb fb stop pv rv fv ts full n A) (hg : A.grownBy B row)
    (hr : ∀ r, row = some r → ∃ o : Obj, A.heap[r]? = some o ∧ o.isCells = false) : FrsI sb rb pb qb kb fb stop pv rv fv ts full n B := by
  obtain ⟨h1, h2, h3, h4, h5, h6, h7, h8, h9⟩ := h
  exact ⟨h1.own_ hg hr, h2.own_ hg hr, h3.own_ hg hr, h4.own_ hg hr, h5.own_ hg hr, h6.own_ hg hr, h7.own_ hg hr, h8.own_ hg hr, own_own_ h9 hg hr⟩
theorem FrsI.go_ {sb rb pb qb kb fb : Nat} {stop : Int} {pv rv fv : Value} {ts : List (Int × List UInt8)} {full : List UInt8} {n : Nat} {V : World} (h : FrsI sb rb pb qb kb fb stop pv rv fv ts full n V) (h1 : sb ≠ kb) (h2 : pv.ownBlock ≠ some kb) (q : Nat) :
    FrKp fb fv V ((V.drewN q).setCell ⟨kb, 0, none⟩ (.int .i64 ((n : Int) + 1))) ∧ FrsI sb rb pb qb kb fb stop pv rv fv ts full (n + 1) ((V.drewN q).setCell ⟨kb, 0, none⟩ (.int .i64 ((n : Int) + 1))) := by
  obtain ⟨g1, g2, g3, g4, g5, g6, g7, g8, g9⟩ := h
  have n2 := g2.ne_ g5 (by decide)
  have n3 := g3.ne_ g5 (by decide)
  have n4 := g4.ne_ g5 (by decide)
  have n8 := g8.ne_ g5 (by decide)
  have n9 := g9.ne_blk g5 (by decide)
  refine ⟨fun j hj => ?_, (g1.drewN q).far h1 _, (g2.drewN q).far n2 _, (g3.drewN q).far n3 _, (g4.drewN q).far n4 _, ?_, ?_, ?_, (g8.drewN q).far n8 _, (g9.drewN q).far n9 _⟩
  · refine Below.heap_setCell (V.drewN q) ⟨kb, 0, none⟩ _ j ?_
    rcases hj with rfl | hj
    · exact n8
    · intro e
      exact n9 (by rw [hj, e])
  · have := (g5.drewN q).set_ 0 (.int .i64 ((n : Int) + 1))
    simpa using this
  · exact (g6.drewN q).far (p := ⟨kb, 0, none⟩) h2 _
  · have hT : Touch (fun j => j = kb) V ((V.drewN q).setCell ⟨kb, 0, none⟩ (.int .i64 ((n : Int) + 1))) := ((Touch.refl (fun j => j = kb) V).drewN q).setCell (p := ⟨kb, 0, none⟩) (.inr rfl) _
    obtain ⟨rs, q1, q2, q3, q4⟩ := g7
    refine ⟨rs, q1, q2.touch hT fun k hk e => q2.ne_blk g5 (by decide) (by rw [hk, e]), q3, fun i u t hu ht => ?_⟩
    obtain ⟨C, c, e, hx⟩ := q4 i u t hu ht
    exact ⟨C, c, e, hx.touch hT fun k hk e => hx.ne_blk g5 (by decide) (by rw [hk, e])⟩
theorem keepsF {V W : World} (h : Fresh V W) : KeepsOthers V W := ⟨h.size, fun _ _ hk _ => h.heap hk id⟩
theorem keepsD (V : World) (q : Nat) : KeepsOthers V (V.drewN q) := ⟨Nat.le_refl _, fun _ _ h _ => h⟩
theorem bel_drewN (B : Nat) (V : World) : ∀ q, Below B V (V.drewN q)
  | 0 => Below.refl B V
  | q + 1 => (bel_drewN B V q).drew
theorem FrOk.put {x : FrY} {W : World} {l : Nat} {o o' : Obj} (h : FrOk x W) (hl : W.heap[l]? = some o) (hc : o.isCells = false) : FrOk x (W.putObj l o') := by
  obtain ⟨A, c, e, h1, h2, h3, h4⟩ := h
  refine ⟨A, c, e, h1, h2, h3, fun h0 => ?_⟩
  obtain ⟨b, off, eA, hcl⟩ := h4 h0
  exact ⟨b, off, eA, fun j y hy => cell_kept (hcl j y hy) (grownBy_putObj' W l o') fun r e => by cases e; exact ⟨o, hl, hc⟩⟩
/-- what has been told so far is what must be told -/
def OkT (ts : List (Int × List UInt8)) (pre : List FrY) : Prop := pre.length ≤ ts.length ∧ said pre = ts.take pre.length
theorem OkT.snoc {ts : List (Int × List UInt8)} {pre : List FrY} {x : FrY} (h : OkT ts pre) {q : Int × List UInt8} (hq : ts[pre.length]? = some q) (h1 : x.1 = q.1) (h2 : x.2.2 = q.2) : OkT ts (pre ++ [x]) := by
  obtain ⟨hl, rfl⟩ := List.getElem?_eq_some_iff.1 hq
  refine ⟨by simp; omega, ?_⟩
  rw [List.length_append, List.length_singleton, List.take_succ_eq_append_getElem hl, ← h.2]
  simp [said, h1, h2]
theorem OkT.last {ts : List (Int × List UInt8)} {pre : List FrY} {x : FrY} (h : OkT ts (pre ++ [x])) : ∃ q, ts[pre.length]? = some q ∧ x.1 = q.1 ∧ x.2.2 = q.2 := by
  have hl : pre.length < ts.length := by have := h.1; simp at this; omega
  refine ⟨ts[pre.length], List.getElem?_eq_getElem hl, ?_⟩
  have h2 := congrArg (fun l => l[pre.length]?) h.2
  have e1 : (said (pre ++ [x]))[pre.length]? = some (x.1, x.2.2) := by
    unfold said
    rw [List.map_append, List.getElem?_append_right (by simp)]
    simp
  simp only [e1] at h2
  rw [List.getElem?_take_of_lt (by simp), List.getElem?_eq_getElem hl] at h2
  injection h2 with h2
  exact ⟨congrArg Prod.fst h2, congrArg Prod.snd h2⟩
theorem OkT.told {ts : List (Int × List UInt8)} {pre : List FrY} {rest : List (Int × List UInt8)} (h : said pre ++ rest = ts) : OkT ts pre := by
  have hl : (said pre).length = pre.length := by simp [said]
  subst h
  exact ⟨by rw [List.length_append]; omega, by rw [← hl, List.take_left]⟩

set_option maxRecDepth 100000 in
set_option maxHeartbeats 8000000 in
theorem law_frames (X : Option Addr) (nx cx : Nat) (vs : List Value) (ps : List (List UInt8)) (A2 : Option Addr) (n2 c2 : Nat) (raw : List UInt8) (stop : Int) (w : World) (hvx : Vs w 1 X nx cx vs) (hbs : Bss w vs ps) (hraw : Bs w A2 n2 c2 raw) :
    Calls Try.prog 12 #[.slice X nx cx, .slice A2 n2 c2, .int .i64 stop] w fun e w' => e = .returned (.bool true) ∧ Below w.heap.size w w' := by
  have hvl : vs.length = nx := by have := hvx.1; omega
  have KCV := Lib.hid (fun (W : World) (A : Option Addr) (n c : Nat) (xs : List UInt8) (hb : Bs W A n c xs) => run_convert_Bs (P := Try.prog) 24 9 Try.underlying24 Try.underlying5 Try.underlying9 hb)
  have HVX := Lib.hid hvx; have HBS := Lib.hid hbs; have HRAW := Lib.hid hraw
  clear hvx hbs hraw
  refine (callsIn_wide (n := 3)).1 ?_
  refine callsIn_of_wp_marks Try.func12 rfl trivial ?_ rfl
  simp only [Try.ntmps12, List.size_toArray, List.length_cons, List.length_nil, Nat.reduceAdd, Nat.reduceSub, Array.replicate_succ, Array.replicate_zero, List.push_toArray, List.append_toArray, List.nil_append, List.cons_append]
  refine wpIn_wide.2 ?_
  obtain ⟨w0, hw0⟩ : ∃ w0, w0 = (w.alloc (.cells #[.int .i64 stop] 3)).alloc (.cells #[.bool false] 4) := ⟨_, rfl⟩
  have HW0 := Lib.hid hw0
  have HS0 := Lib.hid (show Blk w0 w.heap.size 3 #[.int .i64 stop] by rw [hw0]; exact (Blk.new _ _ _).alloc _)
  have HR0 := Lib.hid (show Blk w0 (w.heap.size + 1) 4 #[.bool false] by rw [hw0]; have := Blk.new (w.alloc (.cells #[.int .i64 stop] 3)) 4 #[.bool false]; rwa [World.size_alloc] at this)
  have HF0 := Lib.hid (show Fresh w w0 by rw [hw0]; exact ((Touch.refl _ w).alloc _).alloc _)
  clear hw0
  go_wp2_with fail
  rw [← HW0.out]
  go_loopw [7, 8, 9, 10, 11, 12, 13] (fun av i _ _ _ _ _ wr => ∃ (k c : Nat) (A : Option Addr) (all : List UInt8), k ≤ nx ∧ k ≤ 10 ∧ i = .int .i64 k ∧ av = .slice A all.length c ∧ Row wr (.slice A all.length c) all ∧ all.length ≤ k * 3008 ∧
      Blk wr w.heap.size 3 #[.int .i64 stop] ∧ Blk wr (w.heap.size + 1) 4 #[.bool false] ∧ Fresh w wr ∧ (∀ j, (Value.slice A all.length c).ownBlock = some j → w.heap.size ≤ j)) (fun _ i _ _ _ _ _ _ => nx - (intOf i).toNat)
  case atStart =>
    exact ⟨0, 0, none, [], Nat.zero_le _, Nat.zero_le _, rfl, rfl, Row.nil_ _, Nat.zero_le _, HS0.out, HR0.out, HF0.out, fun j h => (by simp [Value.ownBlock] at h)⟩
  case round =>
    obtain ⟨k, c, A, all, hk, hk10, rfl, rfl, hrow, hal, hbs0, hbr0, hfr, hna⟩ := hrel
    have HROW := Lib.hid hrow; have HBS0 := Lib.hid hbs0; have HBR0 := Lib.hid hbr0; have HFR := Lib.hid hfr; have HNA := Lib.hid hna
    clear hrow hbs0 hbr0 hfr hna
    by_cases hlt : k < nx ∧ k < 10
    · obtain ⟨hl1, hl2⟩ := hlt
      obtain ⟨v, hv⟩ : ∃ v, vs[k]? = some v := ⟨_, List.getElem?_eq_getElem (by omega)⟩
      obtain ⟨b, o, rfl⟩ := HVX.out.at_ (by omega)
      have hcell := (HVX.out.fresh HFR.out).cellAt hv
      obtain ⟨A1, n1, c1, p, rfl, hp, hb1⟩ := (HBS.out.fresh HFR.out).2 k v hv
      have HBP := Lib.hid hb1
      clear hv hp hb1
      go_wp2_with fail
      refine (clip_any A1 n1 c1 p wr HBP.out).mono ?_
      rintro e w1 ⟨rfl, m, hm1, hm2, rfl, hb1⟩
      generalize p.take m = q at hb1
      have hql : q.length = m := hb1.1
      have HQ := Lib.hid hb1; have HQL := Lib.hid hql
      have HFC := Lib.hid (frame_any A1 m c1 q w1 hb1 (by omega))
      clear hb1 HBP
      go_wp2_with fail
      refine HFC.out.mono ?_
      rintro e w2 ⟨hf2, g, cap, rfl, hg, hfb⟩
      have hbf : Bs w2 (some ⟨g, 0, none⟩) (m + 8) cap (Enc.frame q) := by have := hfb.bs; rwa [Enc.frame_len, hql] at this
      have HBF := Lib.hid hbf; have HF2 := Lib.hid hf2
      have HQ2 := Lib.hid (HQ.out.fresh hf2)
      have HS := Lib.hid (show ∀ W, Fresh w2 W → (Fresh w2 W ∧ (convert 24 9 (.slice (some ⟨g, 0, none⟩) (m + 8) cap)).run Try.prog W = .ok (.string ⟨(Enc.frame q).toArray⟩) W) from fun W hW => ⟨hW, run_convert_Bs (P := Try.prog) 24 9 Try.underlying24 Try.underlying5 Try.underlying9 (HBF.out.fresh hW)⟩)
      have KA := Lib.hid (show ∀ W, (Fresh w2 W ∧ (convert 24 9 (.slice (some ⟨g, 0, none⟩) (m + 8) cap)).run Try.prog W = .ok (.string ⟨(Enc.frame q).toArray⟩) W) → Fresh w2 W from fun _ h => h.1)
      have KR := Lib.hid (fun W (hW : Fresh w2 W) => refframe_any A1 m c1 q W (HQ2.out.fresh hW) (by omega))
      clear hf2 hfb hbf HFC
      go_upto_region 7 with fail
      refine wp_region_noPanic ?_
      go_region_held (fun w' => Fresh w2 w' ∧ (convert 24 9 (.slice (some ⟨g, 0, none⟩) (m + 8) cap)).run Try.prog w' = .ok (.string ⟨(Enc.frame q).toArray⟩) w')
        (first | exact HS.out _ ((Touch.refl _ w2).drew) | assumption)
        (first
          | (go_at_call 50; refine (KR.out _ (KA.out _ (by assumption))).mono ?_; rintro e w3 ⟨t3, B3, c3, rfl, hr3⟩; have k3 := HS.out w3 ((KA.out _ (by assumption)).trans t3 fun _ _ => id); have kc3 : (convert 24 9 (.slice B3 (m + 8) c3)).run Try.prog w3 = .ok (.string ⟨(Enc.frame q).toArray⟩) w3 := run_convert_Bs (P := Try.prog) 24 9 Try.underlying24 Try.underlying5 Try.underlying9 (by have := Row.bs (n := m + 8) hr3; exact this)))
      all_goals
        refine NoPanic.normal ?_
        have HT3 := Lib.hid (HF2.out.trans (KA.out _ k3) fun _ _ => id)
        have HBF3 := Lib.hid (HBF.out.fresh (KA.out _ k3)); have HQ3 := Lib.hid (HQ2.out.fresh (KA.out _ k3))
        have kf3 := KCV.out w3 _ _ _ _ HBF3.out
        clear k3 kc3 HS KA KR t3 hr3
        go_wp2_with (first
          | (at_builtin; (refine wpList_clone_bs _ rfl (.tmp 44) (.tmp 45) 24 rfl Try.info5 Try.underlying24 w3.heap.size rfl (Row.lit [] #[] rfl (by simp)) (some ⟨g, 0, none⟩) (m + 8) cap (Enc.frame q) rfl (HBF3.out.alloc _) (by omega) ?_); intro B4 c4 w4 r4 g4 o4; have HR4 := Lib.hid r4; have HG4 := Lib.hid g4; have HO4 := Lib.hid o4; clear r4 g4 o4)
          | (at_builtin; (refine wpList_row_bs _ rfl (.tmp 46) (.tmp 47) 24 rfl Try.info5 Try.underlying24 (.slice B4 (m + 8) c4) (Enc.frame q) rfl (HR4.out.alloc _) (some ⟨w4.heap.size, 0, none⟩) 3 3 [1, 2, 3] rfl (Row.bs (Row.lit [1, 2, 3] #[.int .u8 1, .int .u8 2, .int .u8 3] rfl (by decide))) (by rw [Enc.frame_len, HQL.out]; simp; omega) ?_); intro B5 c5 w5 r5 g5 o5; have HR5 := Lib.hid r5; have HG5 := Lib.hid g5; clear r5 g5 o5))
        have hT4 : Fresh w3 w4 := ((Touch.refl (fun _ => False) w3).alloc _).grown HG4.out fun k hk => .inl (by injection hk with hk; omega)
        have hN4 : ∀ j, (Value.slice B4 (m + 8) c4).ownBlock = some j → w3.heap.size ≤ j := by
          intro j hj
          rcases HO4.out with h | h
          · rw [hj] at h; injection h with h; omega
          · rw [hj, World.size_alloc] at h; injection h with h; omega
        have hT5 : Fresh w3 w5 := (hT4.alloc _).grown HG5.out fun j hj => .inl (hN4 j hj)
        have hr5 := HR5.out
        have hunf : Enc.unframe (Enc.frame q ++ [1, 2, 3]) = some (q, m + 8) := by rw [Enc.unframe_of (by rw [HQL.out]; omega), HQL.out, Nat.add_comm]
        have KU := Lib.hid (show Calls Try.prog 49 #[.slice B5 ((Enc.frame q).length + 3) c5] w5 fun e w' => Fresh w5 w' ∧ ∃ B c, e = .returned (.tuple #[.slice B m c, .int .i64 ((m + 8 : Nat) : Int), .int .i64 0]) ∧ Row w' (.slice B m c) q ∧ ∀ a, B = some a → w5.heap.size ≤ a.block from
          (unframe_row B5 ((Enc.frame q).length + 3) c5 (Enc.frame q ++ [1, 2, 3]) w5 (by have := Row.bs (n := (Enc.frame q).length + 3) hr5; exact this) (by rw [Enc.frame_len, HQL.out]; omega)).mono fun e w' ⟨h1, h2⟩ => by
            rw [hunf] at h2
            obtain ⟨B, c, e1, e2, e3⟩ := h2
            rw [HQL.out] at e1 e2
            exact ⟨h1, B, c, e1, e2, e3⟩)
        have HT5 := Lib.hid hT5
        clear hT4 hN4 hT5 hr5 hunf HG4 HG5 HO4 HR4 HR5 kf3
        refine KU.out.mono ?_
        rintro e w6 ⟨t6, B6, c6, rfl, hr6, hn6⟩
        have HT6 := Lib.hid (HT5.out.trans t6 fun _ _ => id)
        have kq6 := KCV.out w6 _ _ _ _ (show Bs w6 B6 m c6 q from by have := Row.bs (n := m) hr6; exact this)
        have kp6 := KCV.out w6 _ _ _ _ (HQ3.out.fresh HT6.out)
        have HSP := Lib.hid (spoil_any q (.slice B6 m c6) w6 hr6 (by rw [HQL.out]; omega))
        have HN6 := Lib.hid (show ∀ j, (Value.slice B6 m c6).ownBlock = some j → w3.heap.size ≤ j from by
          intro j hj
          cases B6 with
          | none => cases hj
          | some a =>
            have h1 := hn6 a rfl
            have h2 := HT5.out.size
            have hak : a.block = j := by simpa [Value.ownBlock] using hj
            omega)
        clear t6 hr6 hn6 KU
        go_wp2_with fail
        refine HSP.out.mono ?_
        rintro e w7 ⟨rfl, t7⟩
        have HT37 := Lib.hid (show Fresh w3 w7 from HT6.out.trans (S := fun _ => False) t7 fun j hj e => by have := HN6.out j e; omega)
        have HT17 := Lib.hid (HT3.out.trans HT37.out fun _ _ => id)
        have HROW7 := Lib.hid (HROW.out.touch HT17.out fun _ _ => id)
        have HBF7 := Lib.hid (HBF3.out.fresh HT37.out)
        clear t7 kq6 kp6 HSP
        go_wp2_with (at_builtin; (refine wpList_row_bs _ rfl (.tmp 70) (.tmp 71) 24 rfl Try.info5 Try.underlying24 (.slice A all.length c) all rfl HROW7.out (some ⟨g, 0, none⟩) (m + 8) cap (Enc.frame q) rfl HBF7.out (by rw [Enc.frame_len, HQL.out]; omega) ?_); intro B8 c8 w8 r8 g8 o8; have HR8 := Lib.hid r8; have HG8 := Lib.hid g8; have HO8 := Lib.hid o8; clear r8 g8 o8)
        have hT8 : Fresh w w8 := (HFR.out.trans HT17.out fun _ _ => id).grown HG8.out fun j hj => .inl (HNA.out j hj)
        have hB : ∀ {h : Nat} {t : TypeId} {cs : Array Value}, Blk w1 h t cs → 5 ≠ t → Blk w8 h t cs := fun {h t cs} hb hne => (hb.touch HT17.out id).grown HG8.out fun e => HROW.out.ne_blk hb hne e.symm
        go_roundw
        case rel =>
          refine ⟨k + 1, c8, B8, all ++ Enc.frame q, by omega, by omega, by go_num, by rw [List.length_append], by rw [List.length_append]; exact HR8.out, ?_, hB HBS0.out (by decide), hB HBR0.out (by decide), hT8, fun j hj => ?_⟩
          · rw [List.length_append, Enc.frame_len, HQL.out]; omega
          · rw [List.length_append] at hj
            rcases HO8.out with h | h
            · exact HNA.out j (h.symm.trans hj)
            · rw [hj] at h
              injection h with h
              have := HFR.out.size
              have := HT17.out.size
              omega
        case measure => simp [intOf] <;> omega
    · by_cases hkn : k < nx
      · have hk10e : k = 10 := by omega
        subst hk10e
        have hw2 := clip_any A2 n2 c2 raw wr (HRAW.out.fresh HFR.out)
        have HCL := Lib.hid hw2
        clear hw2
        go_wp2_with fail
        refine HCL.out.mono ?_
        rintro e wx ⟨rfl, m2, hm2, hm3, rfl, hbr2⟩
        generalize raw.take m2 = rw2 at hbr2
        have hrl : rw2.length = m2 := hbr2.1
        have HRL := Lib.hid hrl
        have HBR2 := Lib.hid hbr2
        clear hrl hbr2 HCL
        go_upto_region 15 with (at_builtin; (refine wpList_row_bs _ rfl (.tmp 73) (.tmp 75) 24 rfl Try.info5 Try.underlying24 (.slice A all.length c) all rfl HROW.out A2 m2 c2 rw2 rfl HBR2.out (by rw [HRL.out]; omega) ?_); intro B9 c9 w9 r9 g9 o9; have HR9 := Lib.hid r9; have HG9 := Lib.hid g9; clear r9 g9 o9)
        have hT9 : Fresh w w9 := HFR.out.grown HG9.out fun j hj => .inl (HNA.out j hj)
        have hB : ∀ {h : Nat} {t : TypeId} {cs : Array Value}, Blk wx h t cs → 5 ≠ t → Blk w9 h t cs := fun {h t cs} hb hne => hb.grown HG9.out fun e => HROW.out.ne_blk hb hne e.symm
        have HS9 := Lib.hid (hB HBS0.out (by decide)); have HB9 := Lib.hid (hB HBR0.out (by decide)); have HT9 := Lib.hid hT9
        have hN : all.length + rw2.length ≤ 100000 := by rw [HRL.out]; omega
        generalize all.length + rw2.length = N at *
        generalize all ++ rw2 = full at *
        clear hB hT9 HROW HNA HBS0 HBR0 HFR HG9 HBR2
        have HRF := Lib.hid (refframes_any B9 N c9 full w9 (Row.bs (n := N) (by have := HR9.out.len_; subst this; exact HR9.out) |> fun h => by have := HR9.out.len_; subst this; exact h) (by omega))
        obtain ⟨ts, hts⟩ : ∃ ts, ts = told2 full (N + 1) 0 := ⟨_, rfl⟩
        rw [← hts] at HRF
        have HTS := Lib.hid hts
        clear hts
        go_wp2_with fail
        refine HRF.out.mono ?_
        rintro e w10 ⟨t10, P, cp, R, cr, rfl, hop, hpr⟩
        have HP := Lib.hid hop; have HPR := Lib.hid hpr; have HT10 := Lib.hid t10
        clear t10 hop hpr HRF
        obtain ⟨W, hW⟩ : ∃ W, W = ((w10.alloc (.cells #[.slice P ts.length cp] 77)).alloc (.cells #[.slice R ts.length cr] 76)).alloc (.cells #[.int .i64 0] 3) := ⟨_, rfl⟩
        have HPNE := Lib.hid (show (Value.slice P ts.length cp).ownBlock ≠ some (w10.heap.size + 1 + 1) from fun e => by have := HP.out.lt _ e; omega)
        have hFW : Fresh w10 W := by rw [hW]; exact (((Touch.refl _ w10).alloc _).alloc _).alloc _
        have HSW := Lib.hid ((HS9.out.touch HT10.out id).touch hFW id); have HBW := Lib.hid ((HB9.out.touch HT10.out id).touch hFW id)
        have HOW := Lib.hid (HP.out.touch hFW fun _ _ => id); have HPW := Lib.hid (HPR.out.fresh hFW)
        have HPBW := Lib.hid (show Blk W w10.heap.size 77 #[.slice P ts.length cp] by rw [hW]; exact ((Blk.new _ _ _).alloc _).alloc _)
        have HQBW := Lib.hid (show Blk W (w10.heap.size + 1) 76 #[.slice R ts.length cr] by rw [hW]; have := (Blk.new (w10.alloc (.cells #[.slice P ts.length cp] 77)) 76 #[.slice R ts.length cr]).alloc (.cells #[.int .i64 0] 3); rwa [World.size_alloc] at this)
        have HKBW := Lib.hid (show Blk W (w10.heap.size + 1 + 1) 3 #[.int .i64 ((0 : Nat) : Int)] by rw [hW]; have := Blk.new ((w10.alloc (.cells #[.slice P ts.length cp] 77)).alloc (.cells #[.slice R ts.length cr] 76)) 3 #[.int .i64 0]; rwa [World.size_alloc, World.size_alloc] at this)
        have HRW := Lib.hid (show Row W (.slice B9 N c9) full from (HR9.out.touch HT10.out fun _ _ => id).touch hFW fun _ _ => id)
        have HFW := Lib.hid ((HT9.out.trans HT10.out fun _ _ => id).trans hFW fun _ _ => id)
        have hNl : full.length = N := HRW.out.len_
        have HFC := Lib.hid (frames_any B9 N c9 full W (by subst hNl; exact Row.bs HRW.out) (by omega))
        have HWW := Lib.hid hW
        have hKP : w10.heap.size + 1 + 1 < W.heap.size := HKBW.out.lt
        have hz10 : w.heap.size + 1 < w10.heap.size := by have := HB9.out.lt; have := HT10.out.size; omega
        clear hW hFW hNl HS9 HB9 HT9 HT10
        go_upto_region 17 with fail
        rw [← HWW.out]
        go_wp2_with fail
        refine HFC.out.mono ?_
        rintro e W2 ⟨hf2, rfl, Bf, cf, hfb, hrf, hnewB⟩
        have HS2 := Lib.hid (HSW.out.touch hf2 id); have HB2 := Lib.hid (HBW.out.touch hf2 id); have HPB2 := Lib.hid (HPBW.out.touch hf2 id); have HQB2 := Lib.hid (HQBW.out.touch hf2 id); have HKB2 := Lib.hid (HKBW.out.touch hf2 id)
        have HO2 := Lib.hid (HOW.out.touch hf2 fun _ _ => id); have HPR2 := Lib.hid (HPW.out.fresh hf2)
        have HFB := Lib.hid hfb; have HRF2 := Lib.hid hrf; have HF2 := Lib.hid (HFW.out.trans hf2 fun _ _ => id)
        clear hf2 hfb hrf hnewB HFC
        have hq81 := Try.eqNil81
        have hM0 := Int.emod_nonneg stop (show (12 : Int) ≠ 0 by omega)
        have hM1 := Int.emod_lt_of_pos stop (show (0 : Int) < 12 by omega)
        obtain ⟨M, hM⟩ : ∃ M : Nat, stop % 12 = M := ⟨(stop % 12).toNat, by omega⟩
        have HWI := Lib.hid (show ∀ v, Calls Try.prog 25 #[.int .i64 stop, .int .i64 12] v fun e w' => e = .returned (.int .i64 (M : Int)) ∧ w' = v from fun v => (within_any stop 12 v (by omega) (by omega)).mono fun e w' ⟨h1, h2⟩ => ⟨by rw [h2, hM], h1⟩)
        have hM12 : M < 12 := by omega
        clear hM0 hM1 hM
        have hL : ts.length ≤ 1000000 := by
          have h1 := told2_len full (N + 1) 0
          rw [← HTS.out] at h1
          omega
        go_wp2_with fail
        refine wpIn_wide (n := 3).1 ?_
        refine range_ok (F := Fence.wide) (n := 3) rfl (by decide) (gf := 102) (lb := #[.pointer (some ⟨W.heap.size, 0, none⟩)]) rfl trivial (enters_of Try.func102 (by kernel_rfl) rfl)
          (frames_told 2 W.heap.size Bf N cf full W2 (by decide) HFB.out HRF2.out (by omega)) (fun x V l o o' hok hl hc => hok.put hl hc) (fun h1 h2 j hj => (h2 j hj).trans (h1 j hj)) ?hKb (fun _ => rfl)
          (fun pre V => (FrsI w.heap.size (w.heap.size + 1) w10.heap.size (w10.heap.size + 1) (w10.heap.size + 1 + 1) W.heap.size stop (.slice P ts.length cp) (.slice R ts.length cr) (.slice Bf N cf) ts full pre.length V ∧ OkT ts pre) ∧ Below w.heap.size w V)
          (fun pre V => (¬ OkT ts pre) ∨ (Blk V (w.heap.size + 1) 4 #[.bool true] ∧ Below w.heap.size w V))
          (OwnFrom.and (Own.from (fun s A B row hs hg hr => ⟨hs.1.own_ hg hr, hs.2⟩) _) (ownFrom_below (Nat.le_refl _) HF2.out.size))
          (fun s A B row hs hg hr => hs.elim .inl fun h => .inr ⟨h.1.own_ hg fun r e => (hr r e).2, (ownFrom_below (β := Unit) (Nat.le_refl _) HF2.out.size) () A B row h.2 hg hr⟩)
          ⟨⟨⟨HS2.out, HB2.out, HPB2.out, HQB2.out, HKB2.out, HO2.out, HPR2.out, HFB.out, HRF2.out⟩, Nat.zero_le _, rfl⟩, Fresh.bel HF2.out⟩ ?a1 ?assign ?body ?done ?stop
        case hKb =>
          intro V l o o' hl ho _ _ j hj
          refine World.putObj_heap_other ?_
          rcases hj with rfl | hj
          · have := HFB.out.lt; omega
          · have := HRF2.out.lt _ hj; omega
        case assign =>
          intro l x V K1 hK1
          simp only [frEncY, List.zip_toArray, List.size_toArray, List.zip_cons_cons, List.zip_nil_left]
          gi_wp2
          exact hK1
        case body =>
          rintro l pre ⟨x1, x2, x3⟩ V ⟨⟨⟨hsb, hbr, hpb, hqb, hkb, ho, hpr, hfb, hrow⟩, hok⟩, hbl⟩ ⟨Ax, cx', hx2, hbx⟩ hlt2
          change x2 = .slice Ax x3.length cx' at hx2
          subst hx2
          have kx : ∀ r, (convert 24 9 (.slice Ax x3.length cx')).run Try.prog (V.drewN r) = .ok (.string ⟨x3.toArray⟩) (V.drewN r) := fun r => KCV.out (V.drewN r) _ _ _ _ (hbx.drewN r)
          have HBL := Lib.hid hbl
          have hcs := hsb.cell 0
          have hcr := hbr.cell 0
          have hfr0 := hbr.frozen 0
          have hcp := hpb.cell 0
          have hcq := hqb.cell 0
          have hck := hkb.cell 0
          have hfk := hkb.frozen 0
          simp only [List.getElem?_toArray, List.getElem?_cons_zero] at hcs hcr hcp hcq hck
          obtain ⟨n, hn⟩ : ∃ n, n = pre.length := ⟨_, rfl⟩
          rw [← hn] at hck hkb hlt2
          have HN := Lib.hid hn
          have HOK := Lib.hid hok
          have hnL : n ≤ ts.length := by rw [hn]; exact hok.1
          have HS : Hid (FrsI w.heap.size (w.heap.size + 1) w10.heap.size (w10.heap.size + 1) (w10.heap.size + 1 + 1) W.heap.size stop (.slice P ts.length cp) (.slice R ts.length cr) (.slice Bf N cf) ts full n V) := Lib.hid ⟨hsb, hbr, hpb, hqb, hkb, ho, hpr, hfb, hrow⟩
          have HBR := Lib.hid hbr
          have HWI2 := Lib.hid (fun v => callsIn_wide (n := 0).2 (HWI.out v))
          have hPne := HPNE.out
          clear hn hok hbl hbx
          by_cases hA : n < ts.length
          · have hAI : decide ((ts.length : Int) ≤ (n : Int)) = false := by simp; omega
            have hAI2 : decide (ts.length ≤ n) = false := by simp; omega
            have hnI : (n : Int) < (ts.length : Int) := by omega
            obtain ⟨⟨q1, q2⟩, hq⟩ : ∃ q, ts[n]? = some q := ⟨ts[n], List.getElem?_eq_getElem hA⟩
            obtain ⟨gp, rfl⟩ : ∃ g, P = some ⟨g, 0, none⟩ := by
              obtain ⟨A', c', hv, _, _, hA'⟩ := ho.form
              injection hv with e1 _ _
              rcases hA' with ⟨_, h0, _⟩ | ⟨g, hg⟩
              · omega
              · exact ⟨g, e1.trans hg⟩
            have hcP : V.cell? ⟨gp, n, none⟩ = some (.int .i64 q1) := by
              have := ho.cell (j := n) (by omega)
              rw [this, intsV_get, List.getElem?_map, hq]
              rfl
            obtain ⟨rs, r1, r2, r3, r4⟩ := hpr
            obtain ⟨gr, rfl⟩ : ∃ g, R = some ⟨g, 0, none⟩ := by
              obtain ⟨A', c', hv, _, _, hA'⟩ := r2.form
              injection hv with e1 _ _
              rcases hA' with ⟨_, h0, _⟩ | ⟨g, hg⟩
              · omega
              · exact ⟨g, e1.trans hg⟩
            obtain ⟨u, hu⟩ : ∃ u, rs[n]? = some u := ⟨rs[n]'(by omega), List.getElem?_eq_getElem _⟩
            obtain ⟨Bq, cq, rfl, hrq⟩ := r4 n u (q1, q2) hu hq
            have hcR : V.cell? ⟨gr, n, none⟩ = some (.slice Bq q2.length cq) := by
              have := r2.cell (j := n) (by omega)
              rw [this, hu]
            have kq : ∀ r, (convert 24 9 (.slice Bq q2.length cq)).run Try.prog (V.drewN r) = .ok (.string ⟨q2.toArray⟩) (V.drewN r) := fun r => KCV.out (V.drewN r) _ _ _ _ ((Row.bs hrq).drewN r)
            have HQ := Lib.hid (show ts[pre.length]? = some (q1, q2) by rw [← HN.out]; exact hq)
            clear hu hrq r1 r2 r3 r4 ho hrow hfb hq hsb hbr hpb hqb hkb
            by_cases hC : x1 = q1
            · subst hC
              by_cases hE : x3 = q2
              · subst hE
                by_cases hW : n = M
                · obtain rfl : M = n := hW.symm
                  have hWI : (((M : Int) + 1) == (1 + (M : Int))) = true := by simp; omega
                  gi_wp2
                  refine region_round l rfl (by simp) (by kernel_rfl) (by kernel_rfl) ?_
                  repeat (gi_big_quiet_step (fail))
                  refine wpQuietIn_nil ?_
                  intro _ hw'
                  obtain ⟨nq, hw''⟩ := hw'
                  subst hw''
                  obtain ⟨z1, z2⟩ := HS.out.go_ (by omega) hPne nq
                  obtain ⟨V2, hV2⟩ : ∃ V2, V2 = (V.drewN nq).setCell ⟨w10.heap.size + 1 + 1, 0, none⟩ (.int .i64 ((M : Int) + 1)) := ⟨_, rfl⟩
                  rw [← hV2] at z1 z2
                  have HV2 := Lib.hid hV2; have HZ1 := Lib.hid z1; have HZ2 := Lib.hid z2
                  have hck2 : V2.cell? ⟨w10.heap.size + 1 + 1, 0, none⟩ = some (.int .i64 ((M : Int) + 1)) := by have := z2.2.2.2.2.1.cell 0; simpa using this
                  have hcs2 : V2.cell? ⟨w.heap.size, 0, none⟩ = some (.int .i64 stop) := z2.1.cell 0
                  clear hV2 z1 z2
                  gi_wp2
                  rw [← HV2.out]
                  refine region_round l rfl (by simp) (by kernel_rfl) (by kernel_rfl) ?_
                  repeat (gi_big_quiet_step ((gi_at_call 25; exact CallsIn.quiet_of_same (HWI2.out _))))
                  refine wpQuietIn_nil ?_
                  intro _ hw'
                  obtain ⟨nr, hw''⟩ := hw'
                  subst hw''
                  gi_wp2
                  refine CallsIn.mono (show CallsIn (Fence.wide.inRound l) 0 Try.prog 22 #[] (V2.drewN nr) (fun e w' => e = .returned (.bool true) ∧ Fresh (V2.drewN nr) w') from (callsIn_wide (n := 0)).2 (wakes_any _)) ?_
                  rintro e w4 ⟨rfl, hf4⟩
                  have hb4 := (HZ2.out.2.1.drewN nr).touch hf4 id
                  have hc4 := hb4.cell 0
                  have hz4 := hb4.frozen 0
                  simp only [List.getElem?_toArray, List.getElem?_cons_zero] at hc4
                  have HB4 := Lib.hid hb4; have HF4 := Lib.hid hf4
                  clear hb4 hf4
                  gi_wp2
                  have hbl2 : Below w.heap.size w V2 := by rw [HV2.out]; exact (HBL.out.trans (bel_drewN _ V nq)).setCell (p := ⟨w10.heap.size + 1 + 1, 0, none⟩) (show w.heap.size ≤ w10.heap.size + 1 + 1 by omega) _
                  have hkp2 : KeepsOthers V V2 := by rw [HV2.out]; exact keepsN _ _ _ _
                  have hb5 : Below w.heap.size w w4 := (hbl2.trans (bel_drewN _ V2 nr)).trans (HF4.out.bel.mono hbl2.size)
                  have hk4 : KeepsOthers V w4 := KeepsOthers.trans (KeepsOthers.trans hkp2 (keepsD V2 nr)) (keepsF HF4.out)
                  refine ⟨KeepsOthers.trans hk4 (KeepsOthers.setCell _ _ _), rfl, .inr ⟨by simpa using HB4.out.set_ 0 (.bool true), hb5.setCell (p := ⟨w.heap.size + 1, 0, none⟩) (Nat.le_succ _) _⟩⟩
                · have hWI : (((n : Int) + 1) == (1 + (M : Int))) = false := by simp; omega
                  gi_wp2
                  refine region_round l rfl (by simp) (by kernel_rfl) (by kernel_rfl) ?_
                  repeat (gi_big_quiet_step (fail))
                  refine wpQuietIn_nil ?_
                  intro _ hw'
                  obtain ⟨nq, hw''⟩ := hw'
                  subst hw''
                  obtain ⟨z1, z2⟩ := HS.out.go_ (by omega) hPne nq
                  obtain ⟨V2, hV2⟩ : ∃ V2, V2 = (V.drewN nq).setCell ⟨w10.heap.size + 1 + 1, 0, none⟩ (.int .i64 ((n : Int) + 1)) := ⟨_, rfl⟩
                  rw [← hV2] at z1 z2
                  have HV2 := Lib.hid hV2; have HZ1 := Lib.hid z1; have HZ2 := Lib.hid z2
                  have hck2 : V2.cell? ⟨w10.heap.size + 1 + 1, 0, none⟩ = some (.int .i64 ((n : Int) + 1)) := by have := z2.2.2.2.2.1.cell 0; simpa using this
                  have hcs2 : V2.cell? ⟨w.heap.size, 0, none⟩ = some (.int .i64 stop) := z2.1.cell 0
                  clear hV2 z1 z2
                  gi_wp2
                  rw [← HV2.out]
                  refine region_round l rfl (by simp) (by kernel_rfl) (by kernel_rfl) ?_
                  repeat (gi_big_quiet_step ((gi_at_call 25; exact CallsIn.quiet_of_same (HWI2.out _))))
                  refine wpQuietIn_nil ?_
                  intro _ hw'
                  obtain ⟨nr, hw''⟩ := hw'
                  subst hw''
                  gi_wp2
                  have hbl2 : Below w.heap.size w V2 := by rw [HV2.out]; exact (HBL.out.trans (bel_drewN _ V nq)).setCell (p := ⟨w10.heap.size + 1 + 1, 0, none⟩) (show w.heap.size ≤ w10.heap.size + 1 + 1 by omega) _
                  have hkp2 : KeepsOthers V V2 := by rw [HV2.out]; exact keepsN _ _ _ _
                  have hnn : (pre ++ [(x1, Value.slice Ax x3.length cx', x3)]).length = n + 1 := by rw [List.length_append, HN.out]; rfl
                  refine ⟨KeepsOthers.trans hkp2 (keepsD V2 nr), HZ1.out, ⟨?_, HOK.out.snoc HQ.out rfl rfl⟩, hbl2.trans (bel_drewN _ V2 nr)⟩
                  rw [hnn]
                  obtain ⟨g1, g2, g3, g4, g5, g6, g7, g8, g9⟩ := HZ2.out
                  exact ⟨g1, g2, g3, g4, g5, g6.drewN nr, g7, g8, g9.drewN nr⟩
              · have hEI : (x3 == q2) = false := by simpa using hE
                have HE := Lib.hid hE
                clear hE
                gi_wp2
                refine region_round l rfl (by simp) (by kernel_rfl) (by kernel_rfl) ?_
                repeat (gi_big_quiet_step (fail))
                refine wpQuietIn_nil ?_
                intro _ hw'
                obtain ⟨nq, hw''⟩ := hw'
                subst hw''
                gi_wp2
                refine ⟨keepsN _ _ _ _, rfl, .inl fun hok' => ?_⟩
                obtain ⟨q', e1, _, e3⟩ := hok'.last
                rw [HQ.out] at e1
                injection e1 with e1
                subst e1
                exact HE.out e3
            · have HC := Lib.hid hC
              have hCI : (x1 == q1) = false := by simpa using hC
              have hCI2 : (x1 != q1) = true := by simpa using hC
              have hCI3 : decide (x1 = q1) = false := by simpa using hC
              gi_wp2
              refine region_round l rfl (by simp) (by kernel_rfl) (by kernel_rfl) ?_
              repeat (gi_big_quiet_step (fail))
              refine wpQuietIn_nil ?_
              intro _ hw'
              obtain ⟨nq, hw''⟩ := hw'
              subst hw''
              gi_wp2
              refine ⟨keepsN _ _ _ _, rfl, .inl fun hok' => ?_⟩
              obtain ⟨q', e1, e2, _⟩ := hok'.last
              rw [HQ.out] at e1
              injection e1 with e1
              subst e1
              exact HC.out e2
          · have hAI : decide ((ts.length : Int) ≤ (n : Int)) = true := by simp; omega
            have hAI2 : decide (ts.length ≤ n) = true := by simp; omega
            gi_wp2
            refine region_round l rfl (by simp) (by kernel_rfl) (by kernel_rfl) ?_
            repeat (gi_big_quiet_step (fail))
            refine wpQuietIn_nil ?_
            intro _ hw'
            obtain ⟨nq, hw''⟩ := hw'
            subst hw''
            gi_wp2
            refine ⟨keepsN _ _ _ _, rfl, .inl fun hok' => ?_⟩
            obtain ⟨q', e1, _⟩ := hok'.last
            have := (List.getElem?_eq_some_iff.1 e1).1
            have := HN.out
            omega
        case done =>
          rintro D ys V hD hS ⟨⟨⟨hsb, hbr, hpb, hqb, hkb, ho, hpr, hfb, hrow⟩, hok⟩, hbl⟩ hKD
          have HBL := Lib.hid hbl; have HD := Lib.hid (Nat.le_trans HF2.out.size hD)
          have hyl : ys.length = ts.length := by
            have := congrArg List.length hS
            rw [← HTS.out] at this
            simpa [said] using this
          rw [hyl] at hkb
          have hcr := hbr.cell 0
          have hfr0 := hbr.frozen 0
          have hcq := hqb.cell 0
          have hck := hkb.cell 0
          simp only [List.getElem?_toArray, List.getElem?_cons_zero] at hcr hcq hck
          have HBR := Lib.hid hbr; have HKD := Lib.hid hKD
          clear hbl hD hyl hsb hbr hpb hqb hkb ho hpr hfb hrow hok hKD hS
          go_wp2_with fail
          refine (wakes_any _).mono ?_
          rintro e w4 ⟨rfl, hf4⟩
          have hb4 := HBR.out.touch hf4 id
          have hc4 := hb4.cell 0
          have hz4 := hb4.frozen 0
          simp only [List.getElem?_toArray, List.getElem?_cons_zero] at hc4
          have hd4 : w4.heap[D]? = some (.deferred (some [])) := hf4.heap HKD.out id
          have HB4 := Lib.hid (HBL.out.trans (hf4.bel.mono HBL.out.size)); have HD4 := Lib.hid hd4
          clear hf4 hb4 hd4
          go_wp2_with fail
          have hK' := (KeepsOthers.setCell w4 ⟨w.heap.size + 1, 0, none⟩ (.bool true)).same D _ HD4.out rfl
          refine ⟨by simp, .inl ⟨_, _, rfl, run_takeDeferred hK', ?_⟩⟩
          have hc5 := cell_kept (World.cell?_setCell_same' w4 ⟨w.heap.size + 1, 0, none⟩ (.bool true) (by rw [hc4]; rfl)) (grownBy_putObj' _ D (.deferred none)) (fun r e => by cases e; exact ⟨_, hK', rfl⟩)
          refine ⟨.bool true, ?_, rfl, (HB4.out.setCell (p := ⟨w.heap.size + 1, 0, none⟩) (Nat.le_succ _) _).trans (belowK_b (w := w) (Nat.le_refl _) _ D _ _ HD.out hK' rfl rfl)⟩
          simp [results, Try.results12, go_sem, hc5]
        case stop =>
          rintro D pre V hD ⟨rest, hpre⟩ hix hKD
          rw [← HTS.out] at hpre
          rcases hix with h | ⟨hbr, hbl⟩
          · exact (h (OkT.told hpre)).elim
          · have HBL := Lib.hid hbl; have HD := Lib.hid (Nat.le_trans HF2.out.size hD)
            have hcr := hbr.cell 0
            simp only [List.getElem?_toArray, List.getElem?_cons_zero] at hcr
            have HKD := Lib.hid hKD
            clear hbl hD hbr hKD hpre
            refine wpIn_wide.2 ?_
            go_wp2_with fail
            refine ⟨by simp, .inl ⟨_, _, rfl, run_takeDeferred HKD.out, ?_⟩⟩
            have hc5 := cell_kept hcr (grownBy_putObj' _ D (.deferred none)) (fun r e => by cases e; exact ⟨_, HKD.out, rfl⟩)
            refine ⟨.bool true, ?_, rfl, HBL.out.trans (belowK_b (w := w) (Nat.le_refl _) _ D _ _ HD.out HKD.out rfl rfl)⟩
            simp [results, Try.results12, go_sem, hc5]
      · have hkn2 : k = nx := by omega
        subst hkn2
        have hw2 := clip_any A2 n2 c2 raw wr (HRAW.out.fresh HFR.out)
        have HCL := Lib.hid hw2
        clear hw2
        go_wp2_with fail
        refine HCL.out.mono ?_
        rintro e wx ⟨rfl, m2, hm2, hm3, rfl, hbr2⟩
        generalize raw.take m2 = rw2 at hbr2
        have hrl : rw2.length = m2 := hbr2.1
        have HRL := Lib.hid hrl
        have HBR2 := Lib.hid hbr2
        clear hrl hbr2 HCL
        go_upto_region 15 with (at_builtin; (refine wpList_row_bs _ rfl (.tmp 73) (.tmp 75) 24 rfl Try.info5 Try.underlying24 (.slice A all.length c) all rfl HROW.out A2 m2 c2 rw2 rfl HBR2.out (by rw [HRL.out]; omega) ?_); intro B9 c9 w9 r9 g9 o9; have HR9 := Lib.hid r9; have HG9 := Lib.hid g9; clear r9 g9 o9)
        have hT9 : Fresh w w9 := HFR.out.grown HG9.out fun j hj => .inl (HNA.out j hj)
        have hB : ∀ {h : Nat} {t : TypeId} {cs : Array Value}, Blk wx h t cs → 5 ≠ t → Blk w9 h t cs := fun {h t cs} hb hne => hb.grown HG9.out fun e => HROW.out.ne_blk hb hne e.symm
        have HS9 := Lib.hid (hB HBS0.out (by decide)); have HB9 := Lib.hid (hB HBR0.out (by decide)); have HT9 := Lib.hid hT9
        have hN : all.length + rw2.length ≤ 100000 := by rw [HRL.out]; omega
        generalize all.length + rw2.length = N at *
        generalize all ++ rw2 = full at *
        clear hB hT9 HROW HNA HBS0 HBR0 HFR HG9 HBR2
        have HRF := Lib.hid (refframes_any B9 N c9 full w9 (Row.bs (n := N) (by have := HR9.out.len_; subst this; exact HR9.out) |> fun h => by have := HR9.out.len_; subst this; exact h) (by omega))
        obtain ⟨ts, hts⟩ : ∃ ts, ts = told2 full (N + 1) 0 := ⟨_, rfl⟩
        rw [← hts] at HRF
        have HTS := Lib.hid hts
        clear hts
        go_wp2_with fail
        refine HRF.out.mono ?_
        rintro e w10 ⟨t10, P, cp, R, cr, rfl, hop, hpr⟩
        have HP := Lib.hid hop; have HPR := Lib.hid hpr; have HT10 := Lib.hid t10
        clear t10 hop hpr HRF
        obtain ⟨W, hW⟩ : ∃ W, W = ((w10.alloc (.cells #[.slice P ts.length cp] 77)).alloc (.cells #[.slice R ts.length cr] 76)).alloc (.cells #[.int .i64 0] 3) := ⟨_, rfl⟩
        have HPNE := Lib.hid (show (Value.slice P ts.length cp).ownBlock ≠ some (w10.heap.size + 1 + 1) from fun e => by have := HP.out.lt _ e; omega)
        have hFW : Fresh w10 W := by rw [hW]; exact (((Touch.refl _ w10).alloc _).alloc _).alloc _
        have HSW := Lib.hid ((HS9.out.touch HT10.out id).touch hFW id); have HBW := Lib.hid ((HB9.out.touch HT10.out id).touch hFW id)
        have HOW := Lib.hid (HP.out.touch hFW fun _ _ => id); have HPW := Lib.hid (HPR.out.fresh hFW)
        have HPBW := Lib.hid (show Blk W w10.heap.size 77 #[.slice P ts.length cp] by rw [hW]; exact ((Blk.new _ _ _).alloc _).alloc _)
        have HQBW := Lib.hid (show Blk W (w10.heap.size + 1) 76 #[.slice R ts.length cr] by rw [hW]; have := (Blk.new (w10.alloc (.cells #[.slice P ts.length cp] 77)) 76 #[.slice R ts.length cr]).alloc (.cells #[.int .i64 0] 3); rwa [World.size_alloc] at this)
        have HKBW := Lib.hid (show Blk W (w10.heap.size + 1 + 1) 3 #[.int .i64 ((0 : Nat) : Int)] by rw [hW]; have := Blk.new ((w10.alloc (.cells #[.slice P ts.length cp] 77)).alloc (.cells #[.slice R ts.length cr] 76)) 3 #[.int .i64 0]; rwa [World.size_alloc, World.size_alloc] at this)
        have HRW := Lib.hid (show Row W (.slice B9 N c9) full from (HR9.out.touch HT10.out fun _ _ => id).touch hFW fun _ _ => id)
        have HFW := Lib.hid ((HT9.out.trans HT10.out fun _ _ => id).trans hFW fun _ _ => id)
        have hNl : full.length = N := HRW.out.len_
        have HFC := Lib.hid (frames_any B9 N c9 full W (by subst hNl; exact Row.bs HRW.out) (by omega))
        have HWW := Lib.hid hW
        have hKP : w10.heap.size + 1 + 1 < W.heap.size := HKBW.out.lt
        have hz10 : w.heap.size + 1 < w10.heap.size := by have := HB9.out.lt; have := HT10.out.size; omega
        clear hW hFW hNl HS9 HB9 HT9 HT10
        go_upto_region 17 with fail
        rw [← HWW.out]
        go_wp2_with fail
        refine HFC.out.mono ?_
        rintro e W2 ⟨hf2, rfl, Bf, cf, hfb, hrf, hnewB⟩
        have HS2 := Lib.hid (HSW.out.touch hf2 id); have HB2 := Lib.hid (HBW.out.touch hf2 id); have HPB2 := Lib.hid (HPBW.out.touch hf2 id); have HQB2 := Lib.hid (HQBW.out.touch hf2 id); have HKB2 := Lib.hid (HKBW.out.touch hf2 id)
        have HO2 := Lib.hid (HOW.out.touch hf2 fun _ _ => id); have HPR2 := Lib.hid (HPW.out.fresh hf2)
        have HFB := Lib.hid hfb; have HRF2 := Lib.hid hrf; have HF2 := Lib.hid (HFW.out.trans hf2 fun _ _ => id)
        clear hf2 hfb hrf hnewB HFC
        have hq81 := Try.eqNil81
        have hM0 := Int.emod_nonneg stop (show (12 : Int) ≠ 0 by omega)
        have hM1 := Int.emod_lt_of_pos stop (show (0 : Int) < 12 by omega)
        obtain ⟨M, hM⟩ : ∃ M : Nat, stop % 12 = M := ⟨(stop % 12).toNat, by omega⟩
        have HWI := Lib.hid (show ∀ v, Calls Try.prog 25 #[.int .i64 stop, .int .i64 12] v fun e w' => e = .returned (.int .i64 (M : Int)) ∧ w' = v from fun v => (within_any stop 12 v (by omega) (by omega)).mono fun e w' ⟨h1, h2⟩ => ⟨by rw [h2, hM], h1⟩)
        have hM12 : M < 12 := by omega
        clear hM0 hM1 hM
        have hL : ts.length ≤ 1000000 := by
          have h1 := told2_len full (N + 1) 0
          rw [← HTS.out] at h1
          omega
        go_wp2_with fail
        refine wpIn_wide (n := 3).1 ?_
        refine range_ok (F := Fence.wide) (n := 3) rfl (by decide) (gf := 102) (lb := #[.pointer (some ⟨W.heap.size, 0, none⟩)]) rfl trivial (enters_of Try.func102 (by kernel_rfl) rfl)
          (frames_told 2 W.heap.size Bf N cf full W2 (by decide) HFB.out HRF2.out (by omega)) (fun x V l o o' hok hl hc => hok.put hl hc) (fun h1 h2 j hj => (h2 j hj).trans (h1 j hj)) ?hKb_2 (fun _ => rfl)
          (fun pre V => (FrsI w.heap.size (w.heap.size + 1) w10.heap.size (w10.heap.size + 1) (w10.heap.size + 1 + 1) W.heap.size stop (.slice P ts.length cp) (.slice R ts.length cr) (.slice Bf N cf) ts full pre.length V ∧ OkT ts pre) ∧ Below w.heap.size w V)
          (fun pre V => (¬ OkT ts pre) ∨ (Blk V (w.heap.size + 1) 4 #[.bool true] ∧ Below w.heap.size w V))
          (OwnFrom.and (Own.from (fun s A B row hs hg hr => ⟨hs.1.own_ hg hr, hs.2⟩) _) (ownFrom_below (Nat.le_refl _) HF2.out.size))
          (fun s A B row hs hg hr => hs.elim .inl fun h => .inr ⟨h.1.own_ hg fun r e => (hr r e).2, (ownFrom_below (β := Unit) (Nat.le_refl _) HF2.out.size) () A B row h.2 hg hr⟩)
          ⟨⟨⟨HS2.out, HB2.out, HPB2.out, HQB2.out, HKB2.out, HO2.out, HPR2.out, HFB.out, HRF2.out⟩, Nat.zero_le _, rfl⟩, Fresh.bel HF2.out⟩ ?a1_2 ?assign_2 ?body_2 ?done_2 ?stop_2
        case hKb_2 =>
          intro V l o o' hl ho _ _ j hj
          refine World.putObj_heap_other ?_
          rcases hj with rfl | hj
          · have := HFB.out.lt; omega
          · have := HRF2.out.lt _ hj; omega
        case assign_2 =>
          intro l x V K1 hK1
          simp only [frEncY, List.zip_toArray, List.size_toArray, List.zip_cons_cons, List.zip_nil_left]
          gi_wp2
          exact hK1
        case body_2 =>
          rintro l pre ⟨x1, x2, x3⟩ V ⟨⟨⟨hsb, hbr, hpb, hqb, hkb, ho, hpr, hfb, hrow⟩, hok⟩, hbl⟩ ⟨Ax, cx', hx2, hbx⟩ hlt2
          change x2 = .slice Ax x3.length cx' at hx2
          subst hx2
          have kx : ∀ r, (convert 24 9 (.slice Ax x3.length cx')).run Try.prog (V.drewN r) = .ok (.string ⟨x3.toArray⟩) (V.drewN r) := fun r => KCV.out (V.drewN r) _ _ _ _ (hbx.drewN r)
          have HBL := Lib.hid hbl
          have hcs := hsb.cell 0
          have hcr := hbr.cell 0
          have hfr0 := hbr.frozen 0
          have hcp := hpb.cell 0
          have hcq := hqb.cell 0
          have hck := hkb.cell 0
          have hfk := hkb.frozen 0
          simp only [List.getElem?_toArray, List.getElem?_cons_zero] at hcs hcr hcp hcq hck
          obtain ⟨n, hn⟩ : ∃ n, n = pre.length := ⟨_, rfl⟩
          rw [← hn] at hck hkb hlt2
          have HN := Lib.hid hn
          have HOK := Lib.hid hok
          have hnL : n ≤ ts.length := by rw [hn]; exact hok.1
          have HS : Hid (FrsI w.heap.size (w.heap.size + 1) w10.heap.size (w10.heap.size + 1) (w10.heap.size + 1 + 1) W.heap.size stop (.slice P ts.length cp) (.slice R ts.length cr) (.slice Bf N cf) ts full n V) := Lib.hid ⟨hsb, hbr, hpb, hqb, hkb, ho, hpr, hfb, hrow⟩
          have HBR := Lib.hid hbr
          have HWI2 := Lib.hid (fun v => callsIn_wide (n := 0).2 (HWI.out v))
          have hPne := HPNE.out
          clear hn hok hbl hbx
          by_cases hA : n < ts.length
          · have hAI : decide ((ts.length : Int) ≤ (n : Int)) = false := by simp; omega
            have hAI2 : decide (ts.length ≤ n) = false := by simp; omega
            have hnI : (n : Int) < (ts.length : Int) := by omega
            obtain ⟨⟨q1, q2⟩, hq⟩ : ∃ q, ts[n]? = some q := ⟨ts[n], List.getElem?_eq_getElem hA⟩
            obtain ⟨gp, rfl⟩ : ∃ g, P = some ⟨g, 0, none⟩ := by
              obtain ⟨A', c', hv, _, _, hA'⟩ := ho.form
              injection hv with e1 _ _
              rcases hA' with ⟨_, h0, _⟩ | ⟨g, hg⟩
              · omega
              · exact ⟨g, e1.trans hg⟩
            have hcP : V.cell? ⟨gp, n, none⟩ = some (.int .i64 q1) := by
              have := ho.cell (j := n) (by omega)
              rw [this, intsV_get, List.getElem?_map, hq]
              rfl
            obtain ⟨rs, r1, r2, r3, r4⟩ := hpr
            obtain ⟨gr, rfl⟩ : ∃ g, R = some ⟨g, 0, none⟩ := by
              obtain ⟨A', c', hv, _, _, hA'⟩ := r2.form
              injection hv with e1 _ _
              rcases hA' with ⟨_, h0, _⟩ | ⟨g, hg⟩
              · omega
              · exact ⟨g, e1.trans hg⟩
            obtain ⟨u, hu⟩ : ∃ u, rs[n]? = some u := ⟨rs[n]'(by omega), List.getElem?_eq_getElem _⟩
            obtain ⟨Bq, cq, rfl, hrq⟩ := r4 n u (q1, q2) hu hq
            have hcR : V.cell? ⟨gr, n, none⟩ = some (.slice Bq q2.length cq) := by
              have := r2.cell (j := n) (by omega)
              rw [this, hu]
            have kq : ∀ r, (convert 24 9 (.slice Bq q2.length cq)).run Try.prog (V.drewN r) = .ok (.string ⟨q2.toArray⟩) (V.drewN r) := fun r => KCV.out (V.drewN r) _ _ _ _ ((Row.bs hrq).drewN r)
            have HQ := Lib.hid (show ts[pre.length]? = some (q1, q2) by rw [← HN.out]; exact hq)
            clear hu hrq r1 r2 r3 r4 ho hrow hfb hq hsb hbr hpb hqb hkb
            by_cases hC : x1 = q1
            · subst hC
              by_cases hE : x3 = q2
              · subst hE
                by_cases hW : n = M
                · obtain rfl : M = n := hW.symm
                  have hWI : (((M : Int) + 1) == (1 + (M : Int))) = true := by simp; omega
                  gi_wp2
                  refine region_round l rfl (by simp) (by kernel_rfl) (by kernel_rfl) ?_
                  repeat (gi_big_quiet_step (fail))
                  refine wpQuietIn_nil ?_
                  intro _ hw'
                  obtain ⟨nq, hw''⟩ := hw'
                  subst hw''
                  obtain ⟨z1, z2⟩ := HS.out.go_ (by omega) hPne nq
                  obtain ⟨V2, hV2⟩ : ∃ V2, V2 = (V.drewN nq).setCell ⟨w10.heap.size + 1 + 1, 0, none⟩ (.int .i64 ((M : Int) + 1)) := ⟨_, rfl⟩
                  rw [← hV2] at z1 z2
                  have HV2 := Lib.hid hV2; have HZ1 := Lib.hid z1; have HZ2 := Lib.hid z2
                  have hck2 : V2.cell? ⟨w10.heap.size + 1 + 1, 0, none⟩ = some (.int .i64 ((M : Int) + 1)) := by have := z2.2.2.2.2.1.cell 0; simpa using this
                  have hcs2 : V2.cell? ⟨w.heap.size, 0, none⟩ = some (.int .i64 stop) := z2.1.cell 0
                  clear hV2 z1 z2
                  gi_wp2
                  rw [← HV2.out]
                  refine region_round l rfl (by simp) (by kernel_rfl) (by kernel_rfl) ?_
                  repeat (gi_big_quiet_step ((gi_at_call 25; exact CallsIn.quiet_of_same (HWI2.out _))))
                  refine wpQuietIn_nil ?_
                  intro _ hw'
                  obtain ⟨nr, hw''⟩ := hw'
                  subst hw''
                  gi_wp2
                  refine CallsIn.mono (show CallsIn (Fence.wide.inRound l) 0 Try.prog 22 #[] (V2.drewN nr) (fun e w' => e = .returned (.bool true) ∧ Fresh (V2.drewN nr) w') from (callsIn_wide (n := 0)).2 (wakes_any _)) ?_
                  rintro e w4 ⟨rfl, hf4⟩
                  have hb4 := (HZ2.out.2.1.drewN nr).touch hf4 id
                  have hc4 := hb4.cell 0
                  have hz4 := hb4.frozen 0
                  simp only [List.getElem?_toArray, List.getElem?_cons_zero] at hc4
                  have HB4 := Lib.hid hb4; have HF4 := Lib.hid hf4
                  clear hb4 hf4
                  gi_wp2
                  have hbl2 : Below w.heap.size w V2 := by rw [HV2.out]; exact (HBL.out.trans (bel_drewN _ V nq)).setCell (p := ⟨w10.heap.size + 1 + 1, 0, none⟩) (show w.heap.size ≤ w10.heap.size + 1 + 1 by omega) _
                  have hkp2 : KeepsOthers V V2 := by rw [HV2.out]; exact keepsN _ _ _ _
                  have hb5 : Below w.heap.size w w4 := (hbl2.trans (bel_drewN _ V2 nr)).trans (HF4.out.bel.mono hbl2.size)
                  have hk4 : KeepsOthers V w4 := KeepsOthers.trans (KeepsOthers.trans hkp2 (keepsD V2 nr)) (keepsF HF4.out)
                  refine ⟨KeepsOthers.trans hk4 (KeepsOthers.setCell _ _ _), rfl, .inr ⟨by simpa using HB4.out.set_ 0 (.bool true), hb5.setCell (p := ⟨w.heap.size + 1, 0, none⟩) (Nat.le_succ _) _⟩⟩
                · have hWI : (((n : Int) + 1) == (1 + (M : Int))) = false := by simp; omega
                  gi_wp2
                  refine region_round l rfl (by simp) (by kernel_rfl) (by kernel_rfl) ?_
                  repeat (gi_big_quiet_step (fail))
                  refine wpQuietIn_nil ?_
                  intro _ hw'
                  obtain ⟨nq, hw''⟩ := hw'
                  subst hw''
                  obtain ⟨z1, z2⟩ := HS.out.go_ (by omega) hPne nq
                  obtain ⟨V2, hV2⟩ : ∃ V2, V2 = (V.drewN nq).setCell ⟨w10.heap.size + 1 + 1, 0, none⟩ (.int .i64 ((n : Int) + 1)) := ⟨_, rfl⟩
                  rw [← hV2] at z1 z2
                  have HV2 := Lib.hid hV2; have HZ1 := Lib.hid z1; have HZ2 := Lib.hid z2
                  have hck2 : V2.cell? ⟨w10.heap.size + 1 + 1, 0, none⟩ = some (.int .i64 ((n : Int) + 1)) := by have := z2.2.2.2.2.1.cell 0; simpa using this
                  have hcs2 : V2.cell? ⟨w.heap.size, 0, none⟩ = some (.int .i64 stop) := z2.1.cell 0
                  clear hV2 z1 z2
                  gi_wp2
                  rw [← HV2.out]
                  refine region_round l rfl (by simp) (by kernel_rfl) (by kernel_rfl) ?_
                  repeat (gi_big_quiet_step ((gi_at_call 25; exact CallsIn.quiet_of_same (HWI2.out _))))
                  refine wpQuietIn_nil ?_
                  intro _ hw'
                  obtain ⟨nr, hw''⟩ := hw'
                  subst hw''
                  gi_wp2
                  have hbl2 : Below w.heap.size w V2 := by rw [HV2.out]; exact (HBL.out.trans (bel_drewN _ V nq)).setCell (p := ⟨w10.heap.size + 1 + 1, 0, none⟩) (show w.heap.size ≤ w10.heap.size + 1 + 1 by omega) _
                  have hkp2 : KeepsOthers V V2 := by rw [HV2.out]; exact keepsN _ _ _ _
                  have hnn : (pre ++ [(x1, Value.slice Ax x3.length cx', x3)]).length = n + 1 := by rw [List.length_append, HN.out]; rfl
                  refine ⟨KeepsOthers.trans hkp2 (keepsD V2 nr), HZ1.out, ⟨?_, HOK.out.snoc HQ.out rfl rfl⟩, hbl2.trans (bel_drewN _ V2 nr)⟩
                  rw [hnn]
                  obtain ⟨g1, g2, g3, g4, g5, g6, g7, g8, g9⟩ := HZ2.out
                  exact ⟨g1, g2, g3, g4, g5, g6.drewN nr, g7, g8, g9.drewN nr⟩
              · have hEI : (x3 == q2) = false := by simpa using hE
                have HE := Lib.hid hE
                clear hE
                gi_wp2
                refine region_round l rfl (by simp) (by kernel_rfl) (by kernel_rfl) ?_
                repeat (gi_big_quiet_step (fail))
                refine wpQuietIn_nil ?_
                intro _ hw'
                obtain ⟨nq, hw''⟩ := hw'
                subst hw''
                gi_wp2
                refine ⟨keepsN _ _ _ _, rfl, .inl fun hok' => ?_⟩
                obtain ⟨q', e1, _, e3⟩ := hok'.last
                rw [HQ.out] at e1
                injection e1 with e1
                subst e1
                exact HE.out e3
            · have HC := Lib.hid hC
              have hCI : (x1 == q1) = false := by simpa using hC
              have hCI2 : (x1 != q1) = true := by simpa using hC
              have hCI3 : decide (x1 = q1) = false := by simpa using hC
              gi_wp2
              refine region_round l rfl (by simp) (by kernel_rfl) (by kernel_rfl) ?_
              repeat (gi_big_quiet_step (fail))
              refine wpQuietIn_nil ?_
              intro _ hw'
              obtain ⟨nq, hw''⟩ := hw'
              subst hw''
              gi_wp2
              refine ⟨keepsN _ _ _ _, rfl, .inl fun hok' => ?_⟩
              obtain ⟨q', e1, e2, _⟩ := hok'.last
              rw [HQ.out] at e1
              injection e1 with e1
              subst e1
              exact HC.out e2
          · have hAI : decide ((ts.length : Int) ≤ (n : Int)) = true := by simp; omega
            have hAI2 : decide (ts.length ≤ n) = true := by simp; omega
            gi_wp2
            refine region_round l rfl (by simp) (by kernel_rfl) (by kernel_rfl) ?_
            repeat (gi_big_quiet_step (fail))
            refine wpQuietIn_nil ?_
            intro _ hw'
            obtain ⟨nq, hw''⟩ := hw'
            subst hw''
            gi_wp2
            refine ⟨keepsN _ _ _ _, rfl, .inl fun hok' => ?_⟩
            obtain ⟨q', e1, _⟩ := hok'.last
            have := (List.getElem?_eq_some_iff.1 e1).1
            have := HN.out
            omega
        case done_2 =>
          rintro D ys V hD hS ⟨⟨⟨hsb, hbr, hpb, hqb, hkb, ho, hpr, hfb, hrow⟩, hok⟩, hbl⟩ hKD
          have HBL := Lib.hid hbl; have HD := Lib.hid (Nat.le_trans HF2.out.size hD)
          have hyl : ys.length = ts.length := by
            have := congrArg List.length hS
            rw [← HTS.out] at this
            simpa [said] using this
          rw [hyl] at hkb
          have hcr := hbr.cell 0
          have hfr0 := hbr.frozen 0
          have hcq := hqb.cell 0
          have hck := hkb.cell 0
          simp only [List.getElem?_toArray, List.getElem?_cons_zero] at hcr hcq hck
          have HBR := Lib.hid hbr; have HKD := Lib.hid hKD
          clear hbl hD hyl hsb hbr hpb hqb hkb ho hpr hfb hrow hok hKD hS
          go_wp2_with fail
          refine (wakes_any _).mono ?_
          rintro e w4 ⟨rfl, hf4⟩
          have hb4 := HBR.out.touch hf4 id
          have hc4 := hb4.cell 0
          have hz4 := hb4.frozen 0
          simp only [List.getElem?_toArray, List.getElem?_cons_zero] at hc4
          have hd4 : w4.heap[D]? = some (.deferred (some [])) := hf4.heap HKD.out id
          have HB4 := Lib.hid (HBL.out.trans (hf4.bel.mono HBL.out.size)); have HD4 := Lib.hid hd4
          clear hf4 hb4 hd4
          go_wp2_with fail
          have hK' := (KeepsOthers.setCell w4 ⟨w.heap.size + 1, 0, none⟩ (.bool true)).same D _ HD4.out rfl
          refine ⟨by simp, .inl ⟨_, _, rfl, run_takeDeferred hK', ?_⟩⟩
          have hc5 := cell_kept (World.cell?_setCell_same' w4 ⟨w.heap.size + 1, 0, none⟩ (.bool true) (by rw [hc4]; rfl)) (grownBy_putObj' _ D (.deferred none)) (fun r e => by cases e; exact ⟨_, hK', rfl⟩)
          refine ⟨.bool true, ?_, rfl, (HB4.out.setCell (p := ⟨w.heap.size + 1, 0, none⟩) (Nat.le_succ _) _).trans (belowK_b (w := w) (Nat.le_refl _) _ D _ _ HD.out hK' rfl rfl)⟩
          simp [results, Try.results12, go_sem, hc5]
        case stop_2 =>
          rintro D pre V hD ⟨rest, hpre⟩ hix hKD
          rw [← HTS.out] at hpre
          rcases hix with h | ⟨hbr, hbl⟩
          · exact (h (OkT.told hpre)).elim
          · have HBL := Lib.hid hbl; have HD := Lib.hid (Nat.le_trans HF2.out.size hD)
            have hcr := hbr.cell 0
            simp only [List.getElem?_toArray, List.getElem?_cons_zero] at hcr
            have HKD := Lib.hid hKD
            clear hbl hD hbr hKD hpre
            refine wpIn_wide.2 ?_
            go_wp2_with fail
            refine ⟨by simp, .inl ⟨_, _, rfl, run_takeDeferred HKD.out, ?_⟩⟩
            have hc5 := cell_kept hcr (grownBy_putObj' _ D (.deferred none)) (fun r e => by cases e; exact ⟨_, HKD.out, rfl⟩)
            refine ⟨.bool true, ?_, rfl, HBL.out.trans (belowK_b (w := w) (Nat.le_refl _) _ D _ _ HD.out HKD.out rfl rfl)⟩
            simp [results, Try.results12, go_sem, hc5]
end Go.Proofs.Ytdfhdanfigpbpaa
