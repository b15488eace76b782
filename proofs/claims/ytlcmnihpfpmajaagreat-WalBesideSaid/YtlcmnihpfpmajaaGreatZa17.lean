/- The wal claims' texts, several in one: Par. Conditions stand with each theorem. -/
import Derived.Test.YtlcmnihpfpmajaaGreatZa03
import Derived.Test.YtlcmnihpfpmajaaGreatZa14
/- The plain law of a log's bytes: numbers, frames of a log, what is read of a segment, what a crash leaves of bytes that were not kept. No program is in sight here. -/
namespace Go.Proofs.YtlcmnihpfpmajaaGreat

/-- eight bytes of a number -/
def be8 (n : Nat) : List UInt8 := [UInt8.ofNat (n / 72057594037927936), UInt8.ofNat (n / 281474976710656), UInt8.ofNat (n / 1099511627776), UInt8.ofNat (n / 4294967296), UInt8.ofNat (n / 16777216), UInt8.ofNat (n / 65536), UInt8.ofNat (n / 256), UInt8.ofNat n]
theorem be8_len (n : Nat) : (be8 n).length = 8 := rfl
def un8 (b : List UInt8) : Nat := b.foldl (fun n c => n * 256 + c.toNat) 0
theorem un8_be8 {n : Nat} (h : n < 18446744073709551616) : un8 (be8 n) = n := by
  simp only [un8, be8, List.foldl_cons, List.foldl_nil, UInt8.toNat_ofNat']
  omega
/-- the i-th number of a payload -/
def num (p : List UInt8) (i : Nat) : Nat := un8 ((p.drop (1 + 8 * i)).take 8)
def metaP (k : UInt8) (l : List Nat) : List UInt8 := k :: l.flatMap be8
def metaF (k : UInt8) (l : List Nat) : List UInt8 := Enc.frame (metaP k l)
theorem flat8_len (l : List Nat) : (l.flatMap be8).length = 8 * l.length := by
  induction l with
  | nil => rfl
  | cons a l ih => rw [List.flatMap_cons, List.length_append, ih, be8_len, List.length_cons]; omega
theorem metaP_len (k : UInt8) (l : List Nat) : (metaP k l).length = 1 + 8 * l.length := by unfold metaP; rw [List.length_cons, flat8_len]; omega
theorem metaF_len (k : UInt8) (l : List Nat) : (metaF k l).length = 9 + 8 * l.length := by unfold metaF; rw [Enc.frame_len, metaP_len]; omega
theorem num_meta (k : UInt8) : ∀ (l : List Nat) (i n : Nat), l[i]? = some n → n < 18446744073709551616 → num (metaP k l) i = n := by
  intro l i n h hn
  have h1 : ∀ (l : List Nat) (i : Nat), l[i]? = some n → ((l.flatMap be8).drop (8 * i)).take 8 = be8 n := by
    intro l
    induction l with
    | nil => intro i h; cases h
    | cons a l ih =>
      intro i h
      cases i with
      | zero =>
        simp only [List.getElem?_cons_zero, Option.some.injEq] at h
        subst h
        rw [Nat.mul_zero, List.drop_zero, List.flatMap_cons]
        exact List.take_left' (be8_len _)
      | succ i =>
        rw [List.getElem?_cons_succ] at h
        rw [List.flatMap_cons, show 8 * (i + 1) = 8 + 8 * i by omega, ← List.drop_drop, List.drop_left' (be8_len _)]
        exact ih i h
  unfold num metaP
  rw [show 1 + 8 * i = 8 * i + 1 by omega, List.drop_succ_cons, h1 l i h, un8_be8 hn]

/-- what a log is told: its first index, its records -/
structure Ct where
  first : Nat
  rows : List (List UInt8)
namespace Ct
def next (c : Ct) : Nat := c.first + c.rows.length
def cut (c : Ct) (n : Nat) : Ct := if c.first < n then ⟨n, c.rows.drop (n - c.first)⟩ else c
def add (c : Ct) (b : List UInt8) : Ct := ⟨c.first, c.rows ++ [b]⟩
end Ct
/-- a frame or two of a log: a record with its index; a cut -/
inductive It where
  | put (i : Nat) (b : List UInt8)
  | cut (n : Nat)
def It.enc : It → List UInt8
  | .put i b => metaF 114 [i] ++ Enc.frame b
  | .cut n => metaF 99 [n]
def It.fine : It → Prop
  | .put i b => i < 18446744073709551616 ∧ b.length ≤ 1048576
  | .cut n => n < 18446744073709551616
def Ct.item (c : Ct) : It → Ct
  | .put i b => if i = c.next then c.add b else c
  | .cut n => c.cut n
def encs (l : List It) : List UInt8 := l.flatMap It.enc
theorem encs_append (l m : List It) : encs (l ++ m) = encs l ++ encs m := by simp [encs]
theorem encs_cons (a : It) (m : List It) : encs (a :: m) = a.enc ++ encs m := by simp [encs]
theorem encs_one (a : It) : encs [a] = a.enc := by simp [encs]
theorem It.enc_len (a : It) : 17 ≤ a.enc.length := by
  cases a with
  | put i b => simp only [It.enc, List.length_append, metaF_len, List.length_cons, List.length_nil]; omega
  | cut n => simp only [It.enc, metaF_len, List.length_cons, List.length_nil]; omega

/-- how far a segment has been read -/
structure RS where
  c : Ct
  last : Nat
  size : Nat
def stepB (raw : List UInt8) (counts : Nat) (s : RS) : Option RS :=
  match Enc.unframe (raw.drop s.size) with
  | none => none
  | some (p, k) =>
    if counts < s.size + k then none
    else if p.length = 9 ∧ p.headD 0 = 99 then some ⟨s.c.cut (num p 0), s.last, s.size + k⟩
    else if p.length = 9 ∧ p.headD 0 = 114 then
      match Enc.unframe (raw.drop (s.size + k)) with
      | none => none
      | some (b, k2) =>
        if counts < s.size + k + k2 then none
        else some ⟨s.c.item (.put (num p 0) b), (s.c.item (.put (num p 0) b)).next, s.size + k + k2⟩
    else some ⟨s.c, s.last, s.size + k⟩
def playB (raw : List UInt8) (counts : Nat) : Nat → RS → RS
  | 0, s => s
  | n + 1, s => match stepB raw counts s with
    | none => s
    | some s' => playB raw counts n s'

/-- bytes of which no item can be read -/
def Dead (T : List UInt8) : Prop := Enc.unframe T = none ∨ ∃ i T', T = metaF 114 [i] ++ T' ∧ Enc.unframe T' = none
theorem dead_nil : Dead [] := .inl (Enc.unframe_short (by simp))
theorem dead_step {pre T : List UInt8} {counts : Nat} {s : RS} (h : Dead T) (hs : s.size = pre.length) : stepB (pre ++ T) counts s = none := by
  unfold stepB
  rw [hs, List.drop_left' rfl]
  rcases h with h | ⟨i, T', rfl, h⟩
  · rw [h]
  · rw [metaF, Enc.unframe_of (by rw [metaP_len]; simp)]
    dsimp only
    split
    · rfl
    · rw [if_neg (by simp [metaP]), if_pos ⟨by rw [metaP_len]; rfl, rfl⟩]
      rw [show (pre ++ (Enc.frame (metaP 114 [i]) ++ T')).drop (pre.length + (8 + (metaP 114 [i]).length)) = T' by
        rw [← List.append_assoc]
        exact List.drop_left' (by rw [List.length_append, Enc.frame_len]; omega)]
      rw [h]
theorem full_step {pre T : List UInt8} {counts : Nat} {s : RS} (hs : s.size = pre.length) (hc : counts < pre.length + 8) : stepB (pre ++ T) counts s = none := by
  unfold stepB
  rw [hs, List.drop_left' rfl]
  cases h : Enc.unframe T with
  | none => rfl
  | some q =>
    obtain ⟨p, k⟩ := q
    have := Enc.unframe_le h
    dsimp only
    rw [if_pos (by omega)]
/-- the index behind the last record, one item on -/
def It.lastOf (a : It) (n last : Nat) : Nat := match a with
  | .put _ _ => n
  | .cut _ => last
theorem item_step {pre T : List UInt8} {counts : Nat} {s : RS} {a : It} (ha : a.fine) (hs : s.size = pre.length) (hc : pre.length + a.enc.length ≤ counts) :
    stepB (pre ++ (a.enc ++ T)) counts s = some ⟨s.c.item a, a.lastOf (s.c.item a).next s.last, s.size + a.enc.length⟩ := by
  unfold stepB
  rw [hs, List.drop_left' rfl]
  cases a with
  | cut n =>
    simp only [It.enc, metaF_len, List.length_cons, List.length_nil] at hc ⊢
    rw [metaF, Enc.unframe_of (by rw [metaP_len]; simp)]
    have hl : (metaP 99 [n]).length = 9 := by rw [metaP_len]; rfl
    dsimp only
    rw [if_neg (by omega), if_pos ⟨hl, rfl⟩, hl, num_meta 99 [n] 0 n rfl ha]
    rfl
  | put i b =>
    obtain ⟨h1, h2⟩ := ha
    simp only [It.enc, List.length_append, metaF_len, List.length_cons, List.length_nil, Enc.frame_len] at hc ⊢
    have hl : (metaP 114 [i]).length = 9 := by rw [metaP_len]; rfl
    rw [metaF, List.append_assoc, Enc.unframe_of (by rw [metaP_len]; simp)]
    dsimp only
    rw [if_neg (by omega), if_neg (by simp [metaP]), if_pos ⟨hl, rfl⟩, hl]
    rw [show (pre ++ (Enc.frame (metaP 114 [i]) ++ (Enc.frame b ++ T))).drop (pre.length + (8 + 9)) = Enc.frame b ++ T by
      rw [← List.append_assoc]
      exact List.drop_left' (by rw [List.length_append, Enc.frame_len, hl])]
    rw [Enc.unframe_of h2]
    dsimp only
    rw [if_neg (by omega), num_meta 114 [i] 0 i rfl h1]
    congr 2
    omega

/-- items one behind the other -/
def Ct.items (c : Ct) (l : List It) : Ct := l.foldl Ct.item c
/-- each record has the index that comes next; no cut goes beyond it -/
def GoodIts : Nat → List It → Prop
  | n, [] => n ≤ 900000000
  | n, .put i _ :: r => i = n ∧ GoodIts (n + 1) r
  | n, .cut m :: r => m ≤ n ∧ GoodIts n r
theorem Ct.next_add (c : Ct) (b : List UInt8) : (c.add b).next = c.next + 1 := by simp [Ct.next, Ct.add]; omega
theorem Ct.next_cut {c : Ct} {n : Nat} (h : n ≤ c.next) : (c.cut n).next = c.next := by
  unfold Ct.cut Ct.next at *
  split
  · simp; omega
  · rfl
/-- where the records end -/
def endOf : Nat → List It → Nat
  | n, [] => n
  | n, .put _ _ :: r => endOf (n + 1) r
  | n, .cut _ :: r => endOf n r
theorem endOf_append (l m : List It) : ∀ n, endOf n (l ++ m) = endOf (endOf n l) m := by
  induction l with
  | nil => intro n; rfl
  | cons a l ih => intro n; cases a <;> exact ih _
theorem goodIts_le : ∀ (l : List It) (n : Nat), GoodIts n l → n ≤ endOf n l ∧ endOf n l ≤ 900000000
  | [], _, h => ⟨Nat.le_refl _, h⟩
  | .put _ _ :: r, n, h => by
    have := goodIts_le r (n + 1) h.2
    show n ≤ endOf (n + 1) r ∧ endOf (n + 1) r ≤ _
    omega
  | .cut _ :: r, n, h => goodIts_le r n h.2
theorem goodIts_append (l m : List It) : ∀ n, GoodIts n (l ++ m) ↔ GoodIts n l ∧ GoodIts (endOf n l) m := by
  induction l with
  | nil => intro n; exact ⟨fun h => ⟨by have := goodIts_le m n h; show n ≤ 900000000; omega, h⟩, fun h => h.2⟩
  | cons a l ih => intro n; cases a <;> simp [GoodIts, endOf, ih, and_assoc]
theorem items_next : ∀ (l : List It) (c : Ct), GoodIts c.next l → (c.items l).next = endOf c.next l
  | [], _, _ => rfl
  | .put i b :: r, c, h => by
    have e : c.item (.put i b) = c.add b := if_pos h.1
    show ((c.item (.put i b)).items r).next = endOf (c.next + 1) r
    rw [e, items_next r _ (by rw [Ct.next_add]; exact h.2), Ct.next_add]
  | .cut m :: r, c, h => by
    show ((c.cut m).items r).next = endOf c.next r
    rw [items_next r _ (by rw [Ct.next_cut h.1]; exact h.2), Ct.next_cut h.1]
/-- the items of a segment are read, one by one, up to what is dead or does not count -/
theorem play_items {T : List UInt8} {counts : Nat} : ∀ (l : List It) (pre : List UInt8) (c : Ct) (last fuel : Nat), (∀ a ∈ l, a.fine) → GoodIts c.next l → last = c.next → (pre ++ encs l).length ≤ counts → (Dead T ∨ counts < (pre ++ encs l).length + 8) → l.length < fuel →
    playB (pre ++ (encs l ++ T)) counts fuel ⟨c, last, pre.length⟩ = ⟨c.items l, (c.items l).next, (pre ++ encs l).length⟩
  | [], pre, c, last, fuel, _, _, hl, h1, h2, hf => by
    obtain ⟨f, rfl⟩ : ∃ f, fuel = f + 1 := ⟨fuel - 1, by simp at hf; omega⟩
    subst hl
    have h0 : pre ++ (encs [] ++ T) = pre ++ T := by simp [encs]
    have h3 : (pre ++ encs []).length = pre.length := by simp [encs]
    rw [h3] at h1 h2 ⊢
    rw [h0]
    unfold playB
    rcases h2 with h2 | h2
    · rw [dead_step h2 rfl]; rfl
    · rw [full_step rfl h2]; rfl
  | a :: l, pre, c, last, fuel, hfi, hg, hl, h1, h2, hf => by
    obtain ⟨f, rfl⟩ : ∃ f, fuel = f + 1 := ⟨fuel - 1, by simp at hf; omega⟩
    have e0 : pre ++ (encs (a :: l) ++ T) = pre ++ (a.enc ++ (encs l ++ T)) := by rw [encs_cons, List.append_assoc]
    have e1 : (pre ++ encs (a :: l)).length = ((pre ++ a.enc) ++ encs l).length := by rw [encs_cons, List.append_assoc]
    rw [e1] at h1 h2 ⊢
    have ha := hfi a (List.mem_cons_self ..)
    have hlen : pre.length + a.enc.length ≤ counts := by simp only [List.length_append] at h1; omega
    rw [e0]
    unfold playB
    rw [item_step ha rfl hlen]
    dsimp only
    have hstep : GoodIts (c.item a).next l ∧ a.lastOf (c.item a).next last = (c.item a).next := by
      cases a with
      | put i b =>
        have e : c.item (.put i b) = c.add b := if_pos hg.1
        rw [e, Ct.next_add]
        exact ⟨hg.2, rfl⟩
      | cut m =>
        have e : (c.item (.cut m)).next = c.next := Ct.next_cut hg.1
        rw [e]
        exact ⟨hg.2, hl⟩
    have ih := play_items l (pre ++ a.enc) (c.item a) _ f (fun b hb => hfi b (List.mem_cons_of_mem _ hb)) hstep.1 hstep.2 h1 h2 (by simp at hf; omega)
    rw [List.append_assoc, List.length_append] at ih
    exact ih

/-- what a crash leaves of bytes that were not kept -/
def Torn (U T : List UInt8) : Prop := ∃ j, j ≤ U.length ∧ (T = U.take j ∨ (0 < j ∧ T = (U.take j).set (j - 1) (255 - U.getD (j - 1) 0)))
theorem torn_nil {T : List UInt8} (h : Torn [] T) : T = [] := by
  obtain ⟨j, hj, h⟩ := h
  simp at hj
  subst hj
  rcases h with rfl | ⟨h, _⟩
  · rfl
  · omega
theorem torn_take {W T : List UInt8} {k : Nat} (h : Torn (W.take k) T) : Torn W T := by
  obtain ⟨j, hj, h⟩ := h
  rw [List.length_take] at hj
  refine ⟨j, by omega, ?_⟩
  have e : (W.take k).take j = W.take j := by rw [List.take_take]; congr 1; omega
  rw [e] at h
  rcases h with h | ⟨h0, h⟩
  · exact .inl h
  · refine .inr ⟨h0, ?_⟩
    rw [h, List.getD_eq_getElem?_getD, List.getD_eq_getElem?_getD, List.getElem?_take_of_lt (by omega)]
theorem torn_append {A B T : List UInt8} (h : Torn (A ++ B) T) : Torn A T ∨ ∃ T', T = A ++ T' ∧ Torn B T' := by
  obtain ⟨j, hj, h⟩ := h
  rw [List.length_append] at hj
  by_cases hA : j ≤ A.length
  · left
    have e : (A ++ B).take j = A.take j := List.take_append_of_le_length hA
    rw [e] at h
    refine ⟨j, hA, ?_⟩
    rcases h with h | ⟨h0, h⟩
    · exact .inl h
    · refine .inr ⟨h0, ?_⟩
      rw [h, List.getD_eq_getElem?_getD, List.getD_eq_getElem?_getD, List.getElem?_append_left (by omega)]
  · right
    have e : (A ++ B).take j = A ++ B.take (j - A.length) := by rw [List.take_append, List.take_of_length_le (by omega)]
    rw [e] at h
    rcases h with h | ⟨h0, h⟩
    · exact ⟨_, h, j - A.length, by omega, .inl rfl⟩
    · refine ⟨_, ?_, j - A.length, by omega, .inr ⟨by omega, rfl⟩⟩
      rw [h, List.set_append_right _ _ (by omega), show j - 1 - A.length = j - A.length - 1 by omega, List.getD_eq_getElem?_getD, List.getD_eq_getElem?_getD, List.getElem?_append_right (by omega), show j - 1 - A.length = j - A.length - 1 by omega]
theorem flip_ne (x : UInt8) : (255 : UInt8) - x ≠ x := by
  intro h
  have := congrArg UInt8.toNat h
  have hx := x.toNat_lt
  rw [UInt8.toNat_sub] at this
  simp at this
  omega
/-- of a frame all or nothing is read -/
theorem frame_torn {p T : List UInt8} (hp : p.length ≤ 1048576) (h : Torn (Enc.frame p) T) : T = Enc.frame p ∨ Enc.unframe T = none := by
  obtain ⟨j, hj, h⟩ := h
  have hl := Enc.frame_len p
  by_cases hj8 : j < 8
  · right
    refine Enc.unframe_short ?_
    rcases h with rfl | ⟨_, rfl⟩
    · rw [List.length_take]; omega
    · rw [List.length_set, List.length_take]; omega
  · rcases h with rfl | ⟨h0, rfl⟩
    · by_cases he : j = (Enc.frame p).length
      · left; rw [he, List.take_length]
      · right
        have := Enc.unframe_cut (p := p) (post := []) hp (k := j) (by omega)
        rwa [List.append_nil] at this
    · right
      by_cases he : j = (Enc.frame p).length
      · rw [he, List.take_length]
        refine Enc.unframe_flip' hp (by omega) (by omega) ?_
        rw [List.getD_eq_getElem?_getD]
        cases hg : (Enc.frame p)[(Enc.frame p).length - 1]? with
        | none => rw [List.getElem?_eq_none_iff] at hg; omega
        | some x =>
          intro h
          injection h with h
          exact flip_ne x h.symm
      · have hd : ((Enc.frame p).take j).set (j - 1) (255 - (Enc.frame p).getD (j - 1) 0) = Enc.four p.length ++ ((((Enc.four (Enc.sum p) ++ p).take (j - 4)).set (j - 5) (255 - (Enc.frame p).getD (j - 1) 0))) := by
          have e : (Enc.frame p).take j = Enc.four p.length ++ (Enc.four (Enc.sum p) ++ p).take (j - 4) := by
            unfold Enc.frame
            rw [List.take_append, Enc.four_length, List.take_of_length_le (by rw [Enc.four_length]; omega)]
          rw [e, List.set_append_right _ _ (by rw [Enc.four_length]; omega), Enc.four_length, show j - 1 - 4 = j - 5 by omega]
        have hll : (((Enc.frame p).take j).set (j - 1) (255 - (Enc.frame p).getD (j - 1) 0)).length = j := by rw [List.length_set, List.length_take]; omega
        have hu : Enc.unfour (((Enc.frame p).take j).set (j - 1) (255 - (Enc.frame p).getD (j - 1) 0)) = p.length := by rw [hd]; exact Enc.unfour_four _ (by omega) _
        unfold Enc.unframe
        rw [hll, hu, if_neg (by omega), if_pos (.inr (by omega))]
/-- of an item all or nothing is read -/
theorem item_torn {a : It} {T : List UInt8} (ha : a.fine) (h : Torn a.enc T) : T = a.enc ∨ Dead T := by
  cases a with
  | cut n =>
    rcases frame_torn (by rw [metaP_len]; simp) h with h | h
    · exact .inl h
    · exact .inr (.inl h)
  | put i b =>
    rcases torn_append h with h | ⟨T', rfl, h2⟩
    · rcases frame_torn (p := metaP 114 [i]) (by rw [metaP_len]; simp) h with h | h
      · refine .inr (.inr ⟨i, [], by rw [List.append_nil]; exact h, Enc.unframe_short (by simp)⟩)
      · exact .inr (.inl h)
    · rcases frame_torn ha.2 h2 with h3 | h3
      · exact .inl (by rw [h3]; rfl)
      · exact .inr (.inr ⟨i, T', rfl, h3⟩)
/-- what a crash leaves of a file -/
theorem lose_torn (f : Fl) (hk : f.kept ≤ f.raw.length) (cut : Int) : ∃ T, Torn (f.raw.drop f.kept) T ∧ f.lose cut = ⟨f.n, f.raw.take f.kept ++ T, f.kept + T.length⟩ := by
  have hw : f.ways cut ≤ 2 * (f.raw.length - f.kept) := by
    unfold Fl.ways
    have h1 := Int.emod_lt_of_pos cut (show (0 : Int) < 2 * ((f.raw.length : Int) - f.kept) + 1 by omega)
    have h2 := Int.emod_nonneg cut (show (2 * ((f.raw.length : Int) - f.kept) + 1) ≠ 0 by omega)
    omega
  unfold Fl.lose
  generalize f.ways cut = k at *
  have hj : (k + 1) / 2 ≤ f.raw.length - f.kept := by omega
  have e : f.raw.take (f.kept + (k + 1) / 2) = f.raw.take f.kept ++ (f.raw.drop f.kept).take ((k + 1) / 2) := List.take_add
  have hlk : (f.raw.take f.kept).length = f.kept := by rw [List.length_take]; omega
  dsimp only
  by_cases hc : k % 2 = 0 ∧ 0 < k
  · rw [if_pos hc]
    refine ⟨((f.raw.drop f.kept).take ((k + 1) / 2)).set ((k + 1) / 2 - 1) (255 - (f.raw.drop f.kept).getD ((k + 1) / 2 - 1) 0), ⟨(k + 1) / 2, by rw [List.length_drop]; exact hj, .inr ⟨by omega, rfl⟩⟩, ?_⟩
    rw [e, List.set_append_right _ _ (by omega), hlk, show f.kept + (k + 1) / 2 - 1 - f.kept = (k + 1) / 2 - 1 by omega]
    rw [List.getD_eq_getElem?_getD, List.getD_eq_getElem?_getD, List.getElem?_drop, show f.kept + ((k + 1) / 2 - 1) = f.kept + (k + 1) / 2 - 1 by omega]
    rw [List.length_set, List.length_take, List.length_drop, Nat.min_eq_left hj]
  · rw [if_neg hc]
    refine ⟨(f.raw.drop f.kept).take ((k + 1) / 2), ⟨(k + 1) / 2, by rw [List.length_drop]; exact hj, .inl rfl⟩, ?_⟩
    rw [e, List.length_take, List.length_drop, Nat.min_eq_left hj]
end Go.Proofs.YtlcmnihpfpmajaaGreat
