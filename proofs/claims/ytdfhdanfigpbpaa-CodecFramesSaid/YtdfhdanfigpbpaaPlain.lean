/- The plain law that joins the codec's writers and readers: what is written is read, and only what is written is read. No program is in sight here. -/
import Derived.Test.YtdfhdanfigpbpaaDec
namespace Go.Proofs.Ytdfhdanfigpbpaa.Plain
open Enc Dec

theorem pow8 (k : Nat) : 2 ^ (8 * k) = 256 ^ k := by rw [Nat.pow_mul]
theorem pow8s (k : Nat) : (2 : Nat) ^ (8 * (k + 1)) = 2 ^ (8 * k) * 256 := by rw [show 8 * (k + 1) = 8 * k + 8 by omega, Nat.pow_add]
theorem fold_val (l : List UInt8) : ∀ a : Nat, l.foldl (fun n b => 256 * n + b.toNat) a = a * 256 ^ l.length + val l := by
  induction l with
  | nil => intro a; simp [val]
  | cons b l ih =>
    intro a
    have h1 := ih (256 * a + b.toNat)
    have h2 := ih (256 * 0 + b.toNat)
    unfold val at *
    simp only [List.foldl_cons, List.length_cons]
    rw [h1, h2, Nat.pow_succ, Nat.add_mul, Nat.mul_zero, Nat.zero_add, Nat.mul_comm (256 ^ l.length) 256, ← Nat.mul_assoc, Nat.mul_comm 256 a]
    omega
theorem val_cons (b : UInt8) (l : List UInt8) : val (b :: l) = b.toNat * 2 ^ (8 * l.length) + val l := by
  have h := fold_val l (256 * 0 + b.toNat)
  rw [pow8]
  unfold val at *
  rw [List.foldl_cons, h]
  simp
theorem val_be (k n : Nat) : val (be k n) = n % 2 ^ (8 * k) := by
  induction k with
  | zero => simp [be, val, Nat.mod_one]
  | succ k ih =>
    rw [be, val_cons, ih, be_length, pow8s, Nat.mod_mul]
    have : (UInt8.ofNat (n / 2 ^ (8 * k))).toNat = n / 2 ^ (8 * k) % 256 := by simp
    rw [this, Nat.mul_comm, Nat.add_comm]
theorem lt_two_nsz (n : Nat) : n < 2 ^ (8 * nsz n) := by
  have h := lt_nsz n (nsz n)
  have hp : 0 < 2 ^ (8 * nsz n) := Nat.two_pow_pos _
  rcases Nat.lt_or_ge n (2 ^ (8 * nsz n)) with h1 | h1
  · exact h1
  · exact absurd (h.2 (Nat.div_pos h1 hp)) (Nat.lt_irrefl _)
theorem val_numB (n : Nat) : val (be (nsz n) n) = n := by rw [val_be, Nat.mod_eq_of_lt (lt_two_nsz n)]
/-- the first byte is not zero -/
theorem be_head (n : Nat) (h : 0 < nsz n) : (be (nsz n) n).getD 0 0 ≠ 0 := by
  obtain ⟨k, hk⟩ : ∃ k, nsz n = k + 1 := ⟨nsz n - 1, by omega⟩
  have h1 := (lt_nsz n k).1 (by omega)
  have h2 := lt_two_nsz n
  rw [hk, pow8s] at h2
  have h3 : n / 2 ^ (8 * k) < 256 := Nat.div_lt_of_lt_mul h2
  rw [hk, be]
  simp only [List.getD_cons_zero]
  intro e
  have h4 := congrArg UInt8.toNat e
  simp at h4
  omega
theorem be_add (k : Nat) : ∀ a m n, k ≤ m → be k (a * 2 ^ (8 * m) + n) = be k n := by
  induction k with
  | zero => intros; rfl
  | succ k ih =>
    intro a m n h
    rw [be, be, ih a m n (by omega)]
    congr 1
    obtain ⟨d, rfl⟩ : ∃ d, m = k + 1 + d := ⟨m - (k + 1), by omega⟩
    have e : a * 2 ^ (8 * (k + 1 + d)) = 2 ^ (8 * k) * (256 * (a * 2 ^ (8 * d))) := by
      rw [show 8 * (k + 1 + d) = 8 * k + (8 + 8 * d) by omega, Nat.pow_add, Nat.pow_add, show (2 : Nat) ^ 8 = 256 from rfl]
      rw [Nat.mul_left_comm, Nat.mul_left_comm a 256]
    rw [e, Nat.mul_add_div (Nat.two_pow_pos _)]
    apply UInt8.toNat_inj.1
    simp
theorem be_val (l : List UInt8) : be l.length (val l) = l := by
  induction l with
  | nil => rfl
  | cons b l ih =>
    have hv : val l < 2 ^ (8 * l.length) := by rw [pow8]; exact val_lt l
    rw [val_cons, List.length_cons, be, be_add _ _ _ _ (Nat.le_refl _), ih]
    congr 1
    rw [Nat.mul_comm, Nat.mul_add_div (Nat.two_pow_pos _), Nat.div_eq_of_lt hv]
    simp
theorem nsz_val (l : List UInt8) (h : 0 < l.length → l.getD 0 0 ≠ 0) : nsz (val l) = l.length := by
  have hv : val l < 2 ^ (8 * l.length) := by rw [pow8]; exact val_lt l
  have h1 := nsz_le hv
  cases l with
  | nil => exact Nat.le_zero.1 h1
  | cons b l =>
    have hb : b ≠ 0 := by simpa using h (by simp)
    have hb2 : 0 < b.toNat := by
      rcases Nat.eq_zero_or_pos b.toNat with e | e
      · exact absurd (UInt8.toNat_inj.1 (by simpa using e)) hb
      · exact e
    have h2 : l.length < nsz (val (b :: l)) := by
      rw [lt_nsz]
      refine Nat.div_pos ?_ (Nat.two_pow_pos _)
      rw [val_cons]
      have := Nat.mul_le_mul_right (2 ^ (8 * l.length)) hb2
      omega
    simp only [List.length_cons] at h1 ⊢
    omega

/-- places in a row -/
theorem drop_more {raw ys post : List UInt8} {p : Nat} (h : raw.drop p = ys ++ post) : raw.drop (p + ys.length) = post := by
  rw [← List.drop_drop, h, List.drop_left]
theorem len_at {raw ys post : List UInt8} {p : Nat} (h : raw.drop p = ys ++ post) : raw.length - p = ys.length + post.length := by
  rw [← List.length_drop, h, List.length_append]
theorem getD_at (raw : List UInt8) (p i : Nat) : raw.getD (p + i) 0 = (raw.drop p).getD i 0 := by
  simp [List.getD_eq_getElem?_getD, List.getElem?_drop]

theorem number_nat {raw post : List UInt8} {p n : Nat} {lo hi : Int} (h : raw.drop p = numB n ++ post) (h1 : lo ≤ n) (h2 : (n : Int) ≤ hi) (_h3 : hi ≤ 4503599627370496) :
    Dec.number lo hi raw p = .ok ((n : Int), p + (numB n).length) := by
  have hl := len_at h
  rw [numB_length] at hl ⊢
  have h7 := nsz_7 (n := n) (by omega)
  have hg : raw.getD p 0 = UInt8.ofNat (nsz n) := by
    have := getD_at raw p 0
    rw [Nat.add_zero, h] at this
    rw [this]
    rfl
  have hk : (UInt8.ofNat (nsz n)).toNat = nsz n := by simp; omega
  have hd : (raw.drop (p + 1)).take (nsz n) = be (nsz n) n := by
    rw [← List.drop_drop, h]
    simp only [numB, List.cons_append, List.drop_succ_cons, List.drop_zero]
    rw [List.take_left' (be_length _ _)]
  have hz : 0 < nsz n → raw.getD (p + 1) 0 ≠ 0 := by
    intro h0
    rw [getD_at, h]
    have h4 := be_head n h0
    simp only [numB, List.cons_append, List.getD_cons_succ]
    obtain ⟨b, l, hb⟩ : ∃ b l, be (nsz n) n = b :: l := by
      cases e : be (nsz n) n with
      | nil => have := be_length (nsz n) n; rw [e] at this; simp at this; omega
      | cons b l => exact ⟨b, l, rfl⟩
    rw [hb] at h4 ⊢
    simpa using h4
  unfold Dec.number
  rw [hg, hk, hd, val_numB, if_neg (by omega), if_neg (by omega), if_neg (by omega), if_neg]
  · congr 2; omega
  · rintro (⟨h4, h5⟩ | h4 | h4)
    · exact hz h4 h5
    · omega
    · omega
theorem number_enc {raw ys post : List UInt8} {p : Nat} {n lo hi : Int} (h0 : 0 ≤ lo) (h3 : hi ≤ 4503599627370496) (he : Enc.number n lo hi = some ys) (h : raw.drop p = ys ++ post) :
    Dec.number lo hi raw p = .ok (n, p + ys.length) := by
  unfold Enc.number at he
  split at he
  · cases he
  · injection he with he
    subst he
    have hn : ((n.toNat : Nat) : Int) = n := by omega
    have := number_nat (n := n.toNat) (lo := lo) h (by omega) (by omega) h3
    rw [hn] at this
    exact this
theorem number_dec {raw : List UInt8} {p q : Nat} {v lo hi : Int} (_h3 : hi ≤ 4503599627370496) (h : Dec.number lo hi raw p = .ok (v, q)) :
    ∃ ys, Enc.number v lo hi = some ys ∧ raw.drop p = ys ++ raw.drop q ∧ q = p + ys.length := by
  unfold Dec.number at h
  split at h
  · cases h
  · rename_i hp
    split at h
    · cases h
    · rename_i hk
      split at h
      · cases h
      · rename_i hs
        split at h
        · cases h
        · rename_i hb
          injection h with h
          injection h with hv hq
          obtain ⟨k, hkE⟩ : ∃ k, k = (raw.getD p 0).toNat := ⟨_, rfl⟩
          rw [← hkE] at hk hs hb hv hq
          obtain ⟨ds, hds⟩ : ∃ ds, ds = (raw.drop (p + 1)).take k := ⟨_, rfl⟩
          rw [← hds] at hb hv
          have hdl : ds.length = k := by rw [hds, List.length_take, List.length_drop]; omega
          have hnz : nsz (val ds) = k := by
            rw [← hdl]
            refine nsz_val ds fun h0 => ?_
            intro e
            apply hb
            left
            refine ⟨by omega, ?_⟩
            rw [hds, List.getD_eq_getElem?_getD, List.getElem?_take, if_pos (by omega), List.getElem?_drop, Nat.add_zero] at e
            rw [List.getD_eq_getElem?_getD]
            exact e
          subst hv
          refine ⟨numB (val ds), ?_, ?_, by rw [numB_length, hnz]; omega⟩
          · unfold Enc.number
            rw [if_neg (fun h => hb (.inr h))]
            rfl
          · unfold numB
            rw [hnz]
            have hbe : be k (val ds) = ds := by rw [← hdl]; exact be_val ds
            rw [hbe, hkE, ← hq]
            have h1 : raw.drop p = raw.getD p 0 :: raw.drop (p + 1) := by
              rw [List.drop_eq_getElem_cons (by omega)]
              simp [List.getD_eq_getElem?_getD, List.getElem?_eq_getElem (show p < raw.length by omega)]
            rw [h1]
            have h2 : UInt8.ofNat (raw.getD p 0).toNat = raw.getD p 0 := by simp
            rw [h2, List.cons_append, hds]
            congr 1
            rw [← List.drop_drop (j := p + 1), List.take_append_drop]

theorem cat_inv {a b : Enc} {ys : List UInt8} (h : cat a b = some ys) : ∃ y1 y2, a = some y1 ∧ b = some y2 ∧ ys = y1 ++ y2 := by
  cases a with
  | none => cases h
  | some y1 =>
    cases b with
    | none => cases h
    | some y2 => exact ⟨y1, y2, rfl, rfl, (Option.some.inj h).symm⟩
theorem plain_enc {raw ys post : List UInt8} {p : Nat} {n : Int} (he : Enc.plain n = some ys) (h : raw.drop p = ys ++ post) : Dec.plain raw p = .ok (n, p + ys.length) :=
  number_enc (by omega) (by omega) he h
theorem plain_dec {raw : List UInt8} {p q : Nat} {v : Int} (h : Dec.plain raw p = .ok (v, q)) : ∃ ys, Enc.plain v = some ys ∧ raw.drop p = ys ++ raw.drop q ∧ q = p + ys.length :=
  number_dec (by omega) h
theorem signed_enc {raw ys post : List UInt8} {p : Nat} {n : Int} (he : Enc.signed n = some ys) (h : raw.drop p = ys ++ post) : Dec.signed raw p = .ok (n, p + ys.length) := by
  unfold Enc.signed at he
  split at he
  · cases he
  · split at he
    · unfold Dec.signed
      rw [plain_enc he h]
      simp only [sgn]
      rw [if_pos (by omega)]
      congr 2; omega
    · unfold Dec.signed
      rw [plain_enc he h]
      simp only [sgn]
      rw [if_neg (by omega)]
      congr 2; omega
theorem signed_dec {raw : List UInt8} {p q : Nat} {v : Int} (h : Dec.signed raw p = .ok (v, q)) : ∃ ys, Enc.signed v = some ys ∧ raw.drop p = ys ++ raw.drop q ∧ q = p + ys.length := by
  unfold Dec.signed at h
  split at h
  · cases h
  · rename_i n q' hn
    injection h with h
    injection h with h1 h2
    subst h1 h2
    obtain ⟨ys, hy, hd, hq⟩ := plain_dec hn
    refine ⟨ys, ?_, hd, hq⟩
    have hr := number_ok hn
    unfold Enc.signed sgn
    by_cases ho : n % 2 = 1
    · rw [if_pos ho, if_neg (by omega), if_pos (by omega), show -2 * -((n + 1) / 2) - 1 = n by omega]
      exact hy
    · rw [if_neg ho, if_neg (by omega), if_neg (by omega), show 2 * (n / 2) = n by omega]
      exact hy
theorem text_enc {raw ys post s : List UInt8} {p : Nat} (he : Enc.text s = some ys) (h : raw.drop p = ys ++ post) : Dec.text raw p = .ok (s, p + ys.length) := by
  obtain ⟨y1, y2, h1, h2, rfl⟩ := cat_inv he
  injection h2 with h2
  subst h2
  rw [List.append_assoc] at h
  have hn := number_enc (by omega) (by omega) h1 h
  have hd := drop_more h
  have hl := len_at hd
  unfold Dec.text
  rw [hn]
  simp only [Int.toNat_natCast]
  rw [if_neg (by omega), hd, List.take_left, List.length_append]
  congr 2
  omega
theorem text_dec {raw s : List UInt8} {p q : Nat} (h : Dec.text raw p = .ok (s, q)) : ∃ ys, Enc.text s = some ys ∧ raw.drop p = ys ++ raw.drop q ∧ q = p + ys.length := by
  unfold Dec.text at h
  split at h
  · cases h
  · rename_i n q' hn
    split at h
    · cases h
    · rename_i hs
      injection h with h
      injection h with h1 h2
      obtain ⟨ys, hy, hd, hq⟩ := number_dec (by omega) hn
      have hr := number_ok hn
      have hsl : s.length = n.toNat := by rw [← h1, List.length_take, List.length_drop]; omega
      have hsn : ((s.length : Nat) : Int) = n := by omega
      refine ⟨ys ++ s, ?_, ?_, by rw [List.length_append]; omega⟩
      · unfold Enc.text
        rw [hsn, hy]
        rfl
      · rw [hd, List.append_assoc, ← h1, ← h2, ← List.drop_drop (j := q'), List.take_append_drop]

theorem texts2_inv {a b ys : List UInt8} (h : Enc.texts [a, b] = some ys) : ∃ y1 y2, Enc.text a = some y1 ∧ Enc.text b = some y2 ∧ ys = y1 ++ y2 := by
  unfold Enc.texts at h
  simp only [List.map_cons, List.map_nil, catAll] at h
  obtain ⟨y1, y2, h1, h2, rfl⟩ := cat_inv h
  obtain ⟨y3, y4, h3, h4, rfl⟩ := cat_inv h2
  injection h4 with h4
  subst h4
  exact ⟨y1, y3, h1, h3, by simp⟩
theorem event_enc {raw ys post node tx : List UInt8} {p : Nat} {k n : Int} (he : Enc.event k node tx n = some ys) (h : raw.drop p = ys ++ post) : Dec.event raw p = .ok (⟨k, node, tx, n⟩, p + ys.length) := by
  unfold Enc.event at he
  obtain ⟨y1, y2, h1, h2, rfl⟩ := cat_inv he
  obtain ⟨y3, y4, h3, h4, rfl⟩ := cat_inv h1
  rw [nil0, nil_cat] at h3
  obtain ⟨y5, y6, h5, h6, rfl⟩ := texts2_inv h4
  simp only [List.append_assoc] at h
  have d1 := drop_more h
  have d2 := drop_more d1
  have d3 := drop_more d2
  unfold Dec.event Dec.bind
  rw [number_enc (by omega) (by omega) h3 h]
  simp only [text_enc h5 d1, text_enc h6 d2, signed_enc h2 d3]
  congr 2
  simp only [List.length_append]
  omega
theorem event_dec {raw : List UInt8} {p q : Nat} {e : Ev} (h : Dec.event raw p = .ok (e, q)) : ∃ ys, Enc.event e.k e.node e.tx e.n = some ys ∧ raw.drop p = ys ++ raw.drop q ∧ q = p + ys.length := by
  simp only [Dec.event, Dec.bind] at h
  split at h
  · cases h
  · rename_i k q1 hk
    split at h
    · cases h
    · rename_i node q2 hnode
      split at h
      · cases h
      · rename_i tx q3 htx
        split at h
        · cases h
        · rename_i n q4 hn
          injection h with h
          injection h with h1 h2
          subst h1 h2
          obtain ⟨y1, e1, d1, l1⟩ := number_dec (by omega) hk
          obtain ⟨y2, e2, d2, l2⟩ := text_dec hnode
          obtain ⟨y3, e3, d3, l3⟩ := text_dec htx
          obtain ⟨y4, e4, d4, l4⟩ := signed_dec hn
          refine ⟨y1 ++ (y2 ++ y3) ++ y4, ?_, ?_, by simp only [List.length_append]; omega⟩
          · unfold Enc.event Enc.texts
            simp only [List.map_cons, List.map_nil, catAll, nil0, e1, e2, e3, e4, cat_some, Option.map_some, List.append_nil, List.nil_append]
          · rw [d1, d2, d3, d4]; simp only [List.append_assoc]
theorem lease_enc {raw ys post : List UInt8} {p : Nat} {o r : Int} (he : Enc.lease o r = some ys) (h : raw.drop p = ys ++ post) : Dec.lease raw p = .ok (⟨o, r⟩, p + ys.length) := by
  unfold Enc.lease at he
  obtain ⟨y1, y2, h1, h2, rfl⟩ := cat_inv he
  rw [nil0, nil_cat] at h1
  simp only [List.append_assoc] at h
  have d1 := drop_more h
  unfold Dec.lease Dec.bind
  rw [signed_enc h1 h]
  simp only [plain_enc h2 d1]
  congr 2
  simp only [List.length_append]
  omega
theorem lease_dec {raw : List UInt8} {p q : Nat} {e : Le} (h : Dec.lease raw p = .ok (e, q)) : ∃ ys, Enc.lease e.o e.r = some ys ∧ raw.drop p = ys ++ raw.drop q ∧ q = p + ys.length := by
  simp only [Dec.lease, Dec.bind] at h
  split at h
  · cases h
  · rename_i o q1 ho
    split at h
    · cases h
    · rename_i r q2 hr
      injection h with h
      injection h with h1 h2
      subst h1 h2
      obtain ⟨y1, e1, d1, l1⟩ := signed_dec ho
      obtain ⟨y2, e2, d2, l2⟩ := plain_dec hr
      refine ⟨y1 ++ y2, ?_, ?_, by simp only [List.length_append]; omega⟩
      · unfold Enc.lease
        simp only [nil0, e1, e2, cat_some, Option.map_some, List.nil_append]
      · rw [d1, d2]; simp only [List.append_assoc]

/-- what is written whole is read whole, and the other way about -/
theorem whole_enc {α : Type} {f : List UInt8 → Nat → Rd α} {x : α} {ys : List UInt8} (h : f ys 0 = .ok (x, 0 + ys.length)) : Dec.whole (f ys 0) ys.length = .ok x := by
  rw [h, Dec.whole]
  simp
theorem event_whole {ys node tx : List UInt8} {k n : Int} (he : Enc.event k node tx n = some ys) : Dec.whole (Dec.event ys 0) ys.length = .ok ⟨k, node, tx, n⟩ :=
  whole_enc (event_enc (post := []) he (by simp))
theorem lease_whole {ys : List UInt8} {o r : Int} (he : Enc.lease o r = some ys) : Dec.whole (Dec.lease ys 0) ys.length = .ok ⟨o, r⟩ :=
  whole_enc (lease_enc (post := []) he (by simp))
theorem whole_dec {α : Type} {f : List UInt8 → Nat → Rd α} {x : α} {raw : List UInt8} (h : Dec.whole (f raw 0) raw.length = .ok x) : ∃ q, f raw 0 = .ok (x, q) ∧ raw.length ≤ q := by
  unfold Dec.whole at h
  split at h
  · cases h
  · rename_i y q hy
    split at h
    · cases h
    · injection h with h
      subst h
      exact ⟨q, hy, by omega⟩
theorem event_back {raw : List UInt8} {e : Ev} (h : Dec.whole (Dec.event raw 0) raw.length = .ok e) : Enc.event e.k e.node e.tx e.n = some raw := by
  obtain ⟨q, h1, h2⟩ := whole_dec (f := Dec.event) h
  obtain ⟨ys, h3, h4, _⟩ := event_dec h1
  rw [List.drop_eq_nil_of_le h2, List.append_nil, List.drop_zero] at h4
  rw [h3, h4]
theorem lease_back {raw : List UInt8} {e : Le} (h : Dec.whole (Dec.lease raw 0) raw.length = .ok e) : Enc.lease e.o e.r = some raw := by
  obtain ⟨q, h1, h2⟩ := whole_dec (f := Dec.lease) h
  obtain ⟨ys, h3, h4, _⟩ := lease_dec h1
  rw [List.drop_eq_nil_of_le h2, List.append_nil, List.drop_zero] at h4
  rw [h3, h4]
end Go.Proofs.Ytdfhdanfigpbpaa.Plain
