/- The contracts of the codec's straight writers (printed by gen_writers.py). -/
import Derived.Test.YtdfhdanfigpbpaaWritten
namespace Go.Proofs.Ytdfhdanfigpbpaa
open Go.RowKit

theorem PenGo.alloc {bp : Nat} {v v' : Value} {w w' : World} (h : PenGo bp v w v' w') (o : Obj) : PenGo bp v w v' (w'.alloc o) := ⟨h.touch.alloc o, h.own⟩
theorem EncEnd.of_alloc {w : World} {o : Obj} {r : Enc.Enc} {e : Ending} {w' : World} (h : EncEnd (w.alloc o) r e w') : EncEnd w r e w' := by
  have ht : Fresh w (w.alloc o) := (Touch.refl _ w).alloc o
  cases r with
  | none => exact ⟨h.1, ht.trans h.2 fun _ _ => id⟩
  | some ys =>
    obtain ⟨A, c, h1, h2, h3, h4⟩ := h
    exact ⟨A, c, h1, h2, fun k hk => by have := h3 k hk; simp at this; omega, ht.trans h4 fun _ _ => id⟩
theorem EncEnd.cases {w : World} {r : Enc.Enc} {e : Ending} {w' : World} (h : EncEnd w r e w') :
    (r = none ∧ e = .returned (.tuple #[.slice none 0 0, .int .i64 2]) ∧ Fresh w w') ∨
    (∃ ys A c, r = some ys ∧ e = .returned (.tuple #[.slice A ys.length c, .int .i64 0]) ∧ Row w' (.slice A ys.length c) ys ∧ (∀ k, (Value.slice A ys.length c).ownBlock = some k → w.heap.size ≤ k) ∧ Fresh w w') := by
  cases r with
  | none => exact .inl ⟨rfl, h.1, h.2⟩
  | some ys =>
    obtain ⟨A, c, h1, h2, h3, h4⟩ := h
    exact .inr ⟨ys, A, c, rfl, h1, h2, h3, h4⟩
theorem EncEnd.no {w w' : World} {r : Enc.Enc} (hr : r = none) (h : Fresh w w') : EncEnd w r (.returned (.tuple #[.slice none 0 0, .int .i64 2])) w' := hr ▸ ⟨rfl, h⟩
theorem EncEnd.yes {w w' : World} {r : Enc.Enc} {ys : List UInt8} {A : Option Addr} {c : Nat} (hr : r = some ys) (h1 : Row w' (.slice A ys.length c) ys) (h2 : ∀ k, (Value.slice A ys.length c).ownBlock = some k → w.heap.size ≤ k) (h : Fresh w w') :
    EncEnd w r (.returned (.tuple #[.slice A ys.length c, .int .i64 0])) w' := hr ▸ ⟨A, c, rfl, h1, h2, h⟩

set_option maxRecDepth 20000 in
set_option maxHeartbeats 2000000 in
theorem event1_any (bp be : Nat) (k n : Int) (node tx : ByteArray) (w : World) (hp : Pen w bp (.slice none 0 0) []) (he : Blk w be 23 #[.int .i64 k, .string node, .string tx, .int .i64 n]) (hnode : node.size ≤ maxLen) (htx : tx.size ≤ maxLen) :
    Calls Try.prog 54 #[.pointer (some ⟨bp, 0, none⟩), .pointer (some ⟨be, 0, none⟩)] w (PenEnd bp (.slice none 0 0) [] w (Enc.event k node.data.toList tx.data.toList n)) := by
  have hne : be ≠ bp := he.ne_ hp.1 (by decide)
  have HNE := Lib.hid hne
  have hnS : ∀ (v : Value) (ys : List UInt8) (w' : World), Row w' v ys → Blk w' be 23 #[.int .i64 k, .string node, .string tx, .int .i64 n] → ¬ PenS bp v be := by
    intro v ys w' hr hb hs
    rcases hs with hs | hs
    · exact HNE.out hs
    · exact hr.ne_blk hb (by decide) hs
  have HNS := Lib.hid hnS
  clear hne hnS
  have HP0 := Lib.hid hp; clear hp
  have HE0 := Lib.hid he; clear he
  have HG0 : Hid (PenGo bp (.slice none 0 0) w (.slice none 0 0) w) := PenGo.refl _ _ _
  have HA0 : Hid (Enc.nil0 = some ([] : List UInt8)) := Lib.hid rfl
  go_enter Try.func54, Try.ntmps54
  have hc0_0 : w.cell? ⟨be, 0, none⟩ = some (.int .i64 k) := HE0.out.cell 0
  go_wp2_with fail
  refine (number_any bp (.slice none 0 0) [] k 1 15 w (by omega) (by omega) HP0.out (by simp only [List.length_nil]; omega)).mono ?_
  intro e w1 h
  rcases h.cases with ⟨hr, rfl, ht⟩ | ⟨y0, v1, hr, rfl, hp, hg⟩
  · exact ⟨rfl, PenEnd.pan (by show Enc.event k node.data.toList tx.data.toList n = none; unfold Enc.event; rw [HA0.out, show Enc.number k 1 15 = none from hr]; rfl) (HG0.out.touch.trans ht HG0.out.subS)⟩
  have hl0 := Enc.number_size (by omega) hr
  replace hr : Enc.number k 1 15 = some y0 := hr
  obtain ⟨a1, ha⟩ : ∃ a, a = [] ++ y0 := ⟨_, rfl⟩
  have hal1 : a1.length = 0 + y0.length := by rw [ha, List.length_append, List.length_nil]
  have HA1 := Lib.hid (show Enc.cat (Enc.nil0) (Enc.number k 1 15) = some a1 by rw [HA0.out, hr, ha]; rfl)
  have hab1 : a1.length ≤ 8 := by omega
  rw [← ha] at hp
  have HP1 := Lib.hid hp
  have HG1 := Lib.hid (HG0.out.trans hg)
  have HE1 := Lib.hid (HE0.out.touch hg.touch (HNS.out _ _ _ HP0.out.2 HE0.out))
  clear hp hg hr ha h hl0 hal1
  clear hc0_0
  have hc1_1 : w1.cell? ⟨be, 1, none⟩ = some (.string node) := HE1.out.cell 1
  have hc1_2 : w1.cell? ⟨be, 2, none⟩ = some (.string tx) := HE1.out.cell 2
  go_wp2_with fail
  refine (texts_any bp v1 a1 [node, tx] w1.heap.size (w1.alloc (Obj.cells #[.string node, .string tx] 9)) ⟨HP1.out.1.alloc _, HP1.out.2.alloc _⟩ (Blk.new _ _ _) (by omega) (by simp) (by intro s hs; simp only [List.mem_cons, List.not_mem_nil, or_false] at hs; rcases hs with rfl | rfl <;> assumption)).mono ?_
  intro e w2 h
  rcases h.cases with ⟨hr, rfl, ht⟩ | ⟨y1, v2, hr, rfl, hp, hg⟩
  · exact ⟨rfl, PenEnd.pan (by show Enc.event k node.data.toList tx.data.toList n = none; unfold Enc.event; rw [HA1.out, show Enc.texts [node.data.toList, tx.data.toList] = none from hr]; rfl) ((HG1.out.touch.alloc _).trans ht HG1.out.subS)⟩
  have hl1 := texts_size hr
  replace hr : Enc.texts [node.data.toList, tx.data.toList] = some y1 := hr
  simp only [List.map_cons, List.map_nil, List.length_cons, List.length_nil] at hl1
  obtain ⟨a2, ha⟩ : ∃ a, a = a1 ++ y1 := ⟨_, rfl⟩
  have hal2 : a2.length = a1.length + y1.length := by rw [ha, List.length_append]
  have HA2 := Lib.hid (show Enc.cat (Enc.cat (Enc.nil0) (Enc.number k 1 15)) (Enc.texts [node.data.toList, tx.data.toList]) = some a2 by rw [HA1.out, hr, ha]; rfl)
  have hab2 : a2.length ≤ 2097176 := by omega
  rw [← ha] at hp
  have HP2 := Lib.hid hp
  have HG2 := Lib.hid (HG1.out.alloc (Obj.cells #[.string node, .string tx] 9) |>.trans hg)
  have HE2 := Lib.hid ((HE1.out.alloc (Obj.cells #[.string node, .string tx] 9)).touch hg.touch (HNS.out _ _ _ (HP1.out.2.alloc (Obj.cells #[.string node, .string tx] 9)) (HE1.out.alloc (Obj.cells #[.string node, .string tx] 9))))
  clear hp hg hr ha h hl1 hal2 hab1
  clear hc1_1 hc1_2
  have hc2_3 : w2.cell? ⟨be, 3, none⟩ = some (.int .i64 n) := HE2.out.cell 3
  go_wp2_with fail
  refine (signed_any bp v2 a2 n w2 HP2.out (by omega)).mono ?_
  intro e w3 h
  rcases h.cases with ⟨hr, rfl, ht⟩ | ⟨y2, v3, hr, rfl, hp, hg⟩
  · exact ⟨rfl, PenEnd.pan (by show Enc.event k node.data.toList tx.data.toList n = none; unfold Enc.event; rw [HA2.out, show Enc.signed n = none from hr]; rfl) (HG2.out.touch.trans ht HG2.out.subS)⟩
  have hl2 := Enc.signed_size hr
  replace hr : Enc.signed n = some y2 := hr
  obtain ⟨a3, ha⟩ : ∃ a, a = a2 ++ y2 := ⟨_, rfl⟩
  have hal3 : a3.length = a2.length + y2.length := by rw [ha, List.length_append]
  have HA3 := Lib.hid (show Enc.cat (Enc.cat (Enc.cat (Enc.nil0) (Enc.number k 1 15)) (Enc.texts [node.data.toList, tx.data.toList])) (Enc.signed n) = some a3 by rw [HA2.out, hr, ha]; rfl)
  have hab3 : a3.length ≤ 2097184 := by omega
  rw [← ha] at hp
  have HP3 := Lib.hid hp
  have HG3 := Lib.hid (HG2.out.trans hg)
  have HE3 := Lib.hid (HE2.out.touch hg.touch (HNS.out _ _ _ HP2.out.2 HE2.out))
  clear hp hg hr ha h hl2 hal3 hab2
  clear hc2_3
  go_wp2_with fail
  go_end0
  exact PenEnd.ret (ys := a3) (by show Enc.event k node.data.toList tx.data.toList n = _; unfold Enc.event; exact HA3.out) ⟨v3, by rw [List.nil_append]; exact HP3.out, HG3.out⟩
set_option maxRecDepth 20000 in
set_option maxHeartbeats 1000000 in
theorem event_any (k n : Int) (node tx : ByteArray) (w : World) (hnode : node.size ≤ maxLen) (htx : tx.size ≤ maxLen) : Calls Try.prog 15 #[.agg #[.int .i64 k, .string node, .string tx, .int .i64 n]] w (EncEnd w (Enc.event k node.data.toList tx.data.toList n)) := by
  have hmf : ∀ (fn : Fn) (first cap : Array Value) (w : World), (Instr.makeFunc fn first cap).run Try.prog w = .ok (.func fn first cap) w := fun _ _ _ _ => rfl
  have HK := Lib.hid (written_any 54 #[.pointer (some ⟨w.heap.size, 0, none⟩)] (Enc.event k node.data.toList tx.data.toList n) (w.alloc (.cells #[.int .i64 k, .string node, .string tx, .int .i64 n] 23)) (fun args w => by simp [go_sem])
    (fun w1 bp hf _ hp => by simpa using event1_any bp w.heap.size k n node tx w1 hp ((Blk.new w _ _).touch hf id) hnode htx))
  go_enter Try.func15, Try.ntmps15
  go_wp2_with fail
  refine HK.out.mono ?_
  intro e w1 h
  rcases h.of_alloc.cases with ⟨hr, rfl, ht⟩ | ⟨ys, A, c, hr, rfl, hrow, hnew, ht⟩
  · have HR := Lib.hid hr; clear hr h
    have HT := Lib.hid ht; clear ht
    go_wp2_with fail
    go_ret2
    exact EncEnd.no HR.out HT.out
  · have HR := Lib.hid hr; clear hr h
    have HT := Lib.hid ht; clear ht
    have HROW := Lib.hid hrow; clear hrow
    have HNEW := Lib.hid hnew; clear hnew
    go_wp2_with fail
    go_ret2
    exact EncEnd.yes HR.out HROW.out HNEW.out HT.out

set_option maxRecDepth 20000 in
set_option maxHeartbeats 2000000 in
theorem lease1_any (bp be : Nat) (o r : Int) (w : World) (hp : Pen w bp (.slice none 0 0) []) (he : Blk w be 42 #[.int .i64 o, .int .i64 r]) :
    Calls Try.prog 73 #[.pointer (some ⟨bp, 0, none⟩), .pointer (some ⟨be, 0, none⟩)] w (PenEnd bp (.slice none 0 0) [] w (Enc.lease o r)) := by
  have hne : be ≠ bp := he.ne_ hp.1 (by decide)
  have HNE := Lib.hid hne
  have hnS : ∀ (v : Value) (ys : List UInt8) (w' : World), Row w' v ys → Blk w' be 42 #[.int .i64 o, .int .i64 r] → ¬ PenS bp v be := by
    intro v ys w' hr hb hs
    rcases hs with hs | hs
    · exact HNE.out hs
    · exact hr.ne_blk hb (by decide) hs
  have HNS := Lib.hid hnS
  clear hne hnS
  have HP0 := Lib.hid hp; clear hp
  have HE0 := Lib.hid he; clear he
  have HG0 : Hid (PenGo bp (.slice none 0 0) w (.slice none 0 0) w) := PenGo.refl _ _ _
  have HA0 : Hid (Enc.nil0 = some ([] : List UInt8)) := Lib.hid rfl
  go_enter Try.func73, Try.ntmps73
  have hc0_0 : w.cell? ⟨be, 0, none⟩ = some (.int .i64 o) := HE0.out.cell 0
  go_wp2_with fail
  refine (signed_any bp (.slice none 0 0) [] o w HP0.out (by simp only [List.length_nil]; omega)).mono ?_
  intro e w1 h
  rcases h.cases with ⟨hr, rfl, ht⟩ | ⟨y0, v1, hr, rfl, hp, hg⟩
  · exact ⟨rfl, PenEnd.pan (by show Enc.lease o r = none; unfold Enc.lease; rw [HA0.out, show Enc.signed o = none from hr]; rfl) (HG0.out.touch.trans ht HG0.out.subS)⟩
  have hl0 := Enc.signed_size hr
  replace hr : Enc.signed o = some y0 := hr
  obtain ⟨a1, ha⟩ : ∃ a, a = [] ++ y0 := ⟨_, rfl⟩
  have hal1 : a1.length = 0 + y0.length := by rw [ha, List.length_append, List.length_nil]
  have HA1 := Lib.hid (show Enc.cat (Enc.nil0) (Enc.signed o) = some a1 by rw [HA0.out, hr, ha]; rfl)
  have hab1 : a1.length ≤ 8 := by omega
  rw [← ha] at hp
  have HP1 := Lib.hid hp
  have HG1 := Lib.hid (HG0.out.trans hg)
  have HE1 := Lib.hid (HE0.out.touch hg.touch (HNS.out _ _ _ HP0.out.2 HE0.out))
  clear hp hg hr ha h hl0 hal1
  clear hc0_0
  have hc1_1 : w1.cell? ⟨be, 1, none⟩ = some (.int .i64 r) := HE1.out.cell 1
  go_wp2_with fail
  refine (plain_any bp v1 a1 r w1 HP1.out (by omega)).mono ?_
  intro e w2 h
  rcases h.cases with ⟨hr, rfl, ht⟩ | ⟨y1, v2, hr, rfl, hp, hg⟩
  · exact ⟨rfl, PenEnd.pan (by show Enc.lease o r = none; unfold Enc.lease; rw [HA1.out, show Enc.plain r = none from hr]; rfl) (HG1.out.touch.trans ht HG1.out.subS)⟩
  have hl1 := Enc.plain_size hr
  replace hr : Enc.plain r = some y1 := hr
  obtain ⟨a2, ha⟩ : ∃ a, a = a1 ++ y1 := ⟨_, rfl⟩
  have hal2 : a2.length = a1.length + y1.length := by rw [ha, List.length_append]
  have HA2 := Lib.hid (show Enc.cat (Enc.cat (Enc.nil0) (Enc.signed o)) (Enc.plain r) = some a2 by rw [HA1.out, hr, ha]; rfl)
  have hab2 : a2.length ≤ 16 := by omega
  rw [← ha] at hp
  have HP2 := Lib.hid hp
  have HG2 := Lib.hid (HG1.out.trans hg)
  have HE2 := Lib.hid (HE1.out.touch hg.touch (HNS.out _ _ _ HP1.out.2 HE1.out))
  clear hp hg hr ha h hl1 hal2 hab1
  clear hc1_1
  go_wp2_with fail
  go_end0
  exact PenEnd.ret (ys := a2) (by show Enc.lease o r = _; unfold Enc.lease; exact HA2.out) ⟨v2, by rw [List.nil_append]; exact HP2.out, HG2.out⟩
set_option maxRecDepth 20000 in
set_option maxHeartbeats 1000000 in
theorem lease_any (o r : Int) (w : World) : Calls Try.prog 28 #[.agg #[.int .i64 o, .int .i64 r]] w (EncEnd w (Enc.lease o r)) := by
  have hmf : ∀ (fn : Fn) (first cap : Array Value) (w : World), (Instr.makeFunc fn first cap).run Try.prog w = .ok (.func fn first cap) w := fun _ _ _ _ => rfl
  have HK := Lib.hid (written_any 73 #[.pointer (some ⟨w.heap.size, 0, none⟩)] (Enc.lease o r) (w.alloc (.cells #[.int .i64 o, .int .i64 r] 42)) (fun args w => by simp [go_sem])
    (fun w1 bp hf _ hp => by simpa using lease1_any bp w.heap.size o r w1 hp ((Blk.new w _ _).touch hf id)))
  go_enter Try.func28, Try.ntmps28
  go_wp2_with fail
  refine HK.out.mono ?_
  intro e w1 h
  rcases h.of_alloc.cases with ⟨hr, rfl, ht⟩ | ⟨ys, A, c, hr, rfl, hrow, hnew, ht⟩
  · have HR := Lib.hid hr; clear hr h
    have HT := Lib.hid ht; clear ht
    go_wp2_with fail
    go_ret2
    exact EncEnd.no HR.out HT.out
  · have HR := Lib.hid hr; clear hr h
    have HT := Lib.hid ht; clear ht
    have HROW := Lib.hid hrow; clear hrow
    have HNEW := Lib.hid hnew; clear hnew
    go_wp2_with fail
    go_ret2
    exact EncEnd.yes HR.out HROW.out HNEW.out HT.out

set_option maxRecDepth 20000 in
set_option maxHeartbeats 2000000 in
theorem numberE1_any (bp be : Nat) (n : Int) (w : World) (hp : Pen w bp (.slice none 0 0) []) (he : Blk w be 3 #[.int .i64 n]) :
    Calls Try.prog 71 #[.pointer (some ⟨bp, 0, none⟩), .pointer (some ⟨be, 0, none⟩)] w (PenEnd bp (.slice none 0 0) [] w (Enc.numberE n)) := by
  have hne : be ≠ bp := he.ne_ hp.1 (by decide)
  have HNE := Lib.hid hne
  have hnS : ∀ (v : Value) (ys : List UInt8) (w' : World), Row w' v ys → Blk w' be 3 #[.int .i64 n] → ¬ PenS bp v be := by
    intro v ys w' hr hb hs
    rcases hs with hs | hs
    · exact HNE.out hs
    · exact hr.ne_blk hb (by decide) hs
  have HNS := Lib.hid hnS
  clear hne hnS
  have HP0 := Lib.hid hp; clear hp
  have HE0 := Lib.hid he; clear he
  have HG0 : Hid (PenGo bp (.slice none 0 0) w (.slice none 0 0) w) := PenGo.refl _ _ _
  have HA0 : Hid (Enc.nil0 = some ([] : List UInt8)) := Lib.hid rfl
  go_enter Try.func71, Try.ntmps71
  have hc0_0 : w.cell? ⟨be, 0, none⟩ = some (.int .i64 n) := HE0.out.cell 0
  go_wp2_with fail
  refine (plain_any bp (.slice none 0 0) [] n w HP0.out (by simp only [List.length_nil]; omega)).mono ?_
  intro e w1 h
  rcases h.cases with ⟨hr, rfl, ht⟩ | ⟨y0, v1, hr, rfl, hp, hg⟩
  · exact ⟨rfl, PenEnd.pan (by show Enc.numberE n = none; unfold Enc.numberE; rw [HA0.out, show Enc.plain n = none from hr]; rfl) (HG0.out.touch.trans ht HG0.out.subS)⟩
  have hl0 := Enc.plain_size hr
  replace hr : Enc.plain n = some y0 := hr
  obtain ⟨a1, ha⟩ : ∃ a, a = [] ++ y0 := ⟨_, rfl⟩
  have hal1 : a1.length = 0 + y0.length := by rw [ha, List.length_append, List.length_nil]
  have HA1 := Lib.hid (show Enc.cat (Enc.nil0) (Enc.plain n) = some a1 by rw [HA0.out, hr, ha]; rfl)
  have hab1 : a1.length ≤ 8 := by omega
  rw [← ha] at hp
  have HP1 := Lib.hid hp
  have HG1 := Lib.hid (HG0.out.trans hg)
  have HE1 := Lib.hid (HE0.out.touch hg.touch (HNS.out _ _ _ HP0.out.2 HE0.out))
  clear hp hg hr ha h hl0 hal1
  clear hc0_0
  go_wp2_with fail
  go_end0
  exact PenEnd.ret (ys := a1) (by show Enc.numberE n = _; unfold Enc.numberE; exact HA1.out) ⟨v1, by rw [List.nil_append]; exact HP1.out, HG1.out⟩
set_option maxRecDepth 20000 in
set_option maxHeartbeats 1000000 in
theorem numberE_any (n : Int) (w : World) : Calls Try.prog 26 #[.int .i64 n] w (EncEnd w (Enc.numberE n)) := by
  have hmf : ∀ (fn : Fn) (first cap : Array Value) (w : World), (Instr.makeFunc fn first cap).run Try.prog w = .ok (.func fn first cap) w := fun _ _ _ _ => rfl
  have HK := Lib.hid (written_any 71 #[.pointer (some ⟨w.heap.size, 0, none⟩)] (Enc.numberE n) (w.alloc (.cells #[.int .i64 n] 3)) (fun args w => by simp [go_sem])
    (fun w1 bp hf _ hp => by simpa using numberE1_any bp w.heap.size n w1 hp ((Blk.new w _ _).touch hf id)))
  go_enter Try.func26, Try.ntmps26
  go_wp2_with fail
  refine HK.out.mono ?_
  intro e w1 h
  rcases h.of_alloc.cases with ⟨hr, rfl, ht⟩ | ⟨ys, A, c, hr, rfl, hrow, hnew, ht⟩
  · have HR := Lib.hid hr; clear hr h
    have HT := Lib.hid ht; clear ht
    go_wp2_with fail
    go_ret2
    exact EncEnd.no HR.out HT.out
  · have HR := Lib.hid hr; clear hr h
    have HT := Lib.hid ht; clear ht
    have HROW := Lib.hid hrow; clear hrow
    have HNEW := Lib.hid hnew; clear hnew
    go_wp2_with fail
    go_ret2
    exact EncEnd.yes HR.out HROW.out HNEW.out HT.out

end Go.Proofs.Ytdfhdanfigpbpaa
