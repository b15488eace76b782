/- The plain law of a batch's changes: what is written is read, what is read is what was written. No program is in sight here. -/
import Derived.Test.YtdfhdanfigpbpaaPlain
namespace Go.Proofs.Ytdfhdanfigpbpaa.Dec
/-- a change, as it is read -/
structure Op where
  k : List UInt8
  v : List UInt8
  g : Bool
def op (raw : List UInt8) (p : Nat) : Rd Op :=
  bind (text raw p) fun k p => bind (flag raw p) fun g p => if g = true then .ok (⟨k, [], true⟩, p) else bind (text raw p) fun v p => .ok (⟨k, v, false⟩, p)
/-- so many, one behind the other -/
def many {α : Type} (f : List UInt8 → Nat → Rd α) (raw : List UInt8) : Nat → Nat → Rd (List α)
  | 0, p => .ok ([], p)
  | n + 1, p => bind (f raw p) fun x p => bind (many f raw n p) fun l p => .ok (x :: l, p)
/-- behind those that are read already -/
def pre {α : Type} (l : List α) (r : Rd (List α)) : Rd (List α) := bind r fun l' q => .ok (l ++ l', q)
theorem pre_nil {α : Type} (r : Rd (List α)) : pre [] r = r := by unfold pre bind; cases r <;> rfl
theorem pre_done {α : Type} (l : List α) (f : List UInt8 → Nat → Rd α) (raw : List UInt8) (p : Nat) : pre l (many f raw 0 p) = .ok (l, p) := by unfold pre bind many; simp
theorem pre_step {α : Type} {l : List α} {f : List UInt8 → Nat → Rd α} {raw : List UInt8} {m p q : Nat} {x : α} (h : f raw p = .ok (x, q)) : pre l (many f raw (m + 1) p) = pre (l ++ [x]) (many f raw m q) := by
  unfold pre
  rw [many]
  unfold bind
  rw [h]
  cases hm : many f raw m q with
  | error a => simp [hm]
  | ok y => simp [hm]
theorem pre_bad {α : Type} {l : List α} {f : List UInt8 → Nat → Rd α} {raw : List UInt8} {m p a : Nat} (h : f raw p = .error a) : pre l (many f raw (m + 1) p) = .error a := by
  unfold pre
  rw [many]
  unfold bind
  rw [h]
def ops (raw : List UInt8) (p : Nat) : Rd (List Op) := bind (plain raw p) fun n p => many op raw n.toNat p
end Go.Proofs.Ytdfhdanfigpbpaa.Dec
namespace Go.Proofs.Ytdfhdanfigpbpaa.Enc
def flag (g : Bool) : Enc := some [if g = true then 1 else 0]
def op (o : Dec.Op) : Enc := cat (cat (text o.k) (flag o.g)) (if o.g = true then (if o.v = [] then some [] else none) else text o.v)
def ops (l : List Dec.Op) : Enc := cat (plain l.length) (catAll (l.map op))
end Go.Proofs.Ytdfhdanfigpbpaa.Enc
namespace Go.Proofs.Ytdfhdanfigpbpaa.Plain
open Enc Dec
theorem flag_enc {raw post : List UInt8} {p : Nat} (g : Bool) (h : raw.drop p = [if g = true then 1 else 0] ++ post) : Dec.flag raw p = .ok (g, p + 1) := by
  have hl := len_at h
  simp only [List.length_singleton] at hl
  have hg : raw.getD p 0 = if g = true then 1 else 0 := by
    have := getD_at raw p 0
    rw [Nat.add_zero] at this
    rw [this, h]
    simp
  unfold Dec.flag
  rw [if_neg (by omega), hg]
  cases g <;> rfl
theorem flag_dec {raw : List UInt8} {p q : Nat} {g : Bool} (h : Dec.flag raw p = .ok (g, q)) : raw.drop p = [if g = true then 1 else 0] ++ raw.drop q ∧ q = p + 1 := by
  unfold Dec.flag at h
  split at h
  · cases h
  · rename_i h1
    split at h
    · cases h
    · rename_i h2
      injection h with h
      injection h with hg hq
      subst hq
      refine ⟨?_, rfl⟩
      have hlt : p < raw.length := by omega
      rw [List.drop_eq_getElem_cons hlt]
      have e : raw.getD p 0 = raw[p] := by simp [List.getD_eq_getElem?_getD, List.getElem?_eq_getElem hlt]
      rw [e] at hg h2
      have h3 : raw[p].toNat = 0 ∨ raw[p].toNat = 1 := by omega
      rcases h3 with h3 | h3
      · have h4 : raw[p] = 0 := UInt8.toNat_inj.1 h3
        rw [h4] at hg ⊢
        subst hg
        rfl
      · have h4 : raw[p] = 1 := UInt8.toNat_inj.1 h3
        rw [h4] at hg ⊢
        subst hg
        rfl
theorem op_enc {raw ys post : List UInt8} {p : Nat} (o : Dec.Op) (he : Enc.op o = some ys) (h : raw.drop p = ys ++ post) : Dec.op raw p = .ok (o, p + ys.length) := by
  obtain ⟨k, v, g⟩ := o
  unfold Enc.op at he
  obtain ⟨y1, y3, h1, h3, rfl⟩ := cat_inv he
  obtain ⟨y0, y2, h0, h2, rfl⟩ := cat_inv h1
  simp only [Enc.flag, Option.some.injEq] at h2
  subst h2
  simp only [List.append_assoc] at h
  have d1 := drop_more h
  have d2 := drop_more (ys := [if g = true then 1 else 0]) d1
  simp only [List.length_singleton] at d2
  unfold Dec.op Dec.bind
  rw [text_enc h0 h]
  simp only [flag_enc g d1]
  cases g with
  | true =>
    simp only [if_true] at h3 ⊢
    split at h3
    · rename_i hv
      injection h3 with h3
      subst h3
      have hv : v = [] := hv
      subst hv
      simp
      omega
    · cases h3
  | false =>
    simp only [Bool.false_eq_true, if_false] at h3 ⊢
    rw [text_enc h3 d2]
    simp
    omega
theorem op_dec {raw : List UInt8} {p q : Nat} {o : Dec.Op} (h : Dec.op raw p = .ok (o, q)) : ∃ ys, Enc.op o = some ys ∧ raw.drop p = ys ++ raw.drop q ∧ q = p + ys.length := by
  simp only [Dec.op, Dec.bind] at h
  split at h
  · cases h
  rename_i k q1 hk
  obtain ⟨y1, e1, d1, l1⟩ := text_dec hk
  split at h
  · cases h
  rename_i g q2 hg
  obtain ⟨d2, l2⟩ := flag_dec hg
  cases g with
  | true =>
    simp only [if_true] at h
    injection h with h
    injection h with ho hq
    subst ho hq
    refine ⟨y1 ++ [1], ?_, ?_, ?_⟩
    · simp [Enc.op, Enc.flag, e1, Enc.cat_some]
    · rw [d1, d2]; simp
    · simp; omega
  | false =>
    simp only [Bool.false_eq_true, if_false] at h
    split at h
    · cases h
    rename_i v q3 hv
    obtain ⟨y3, e3, d3, l3⟩ := text_dec hv
    injection h with h
    injection h with ho hq
    subst ho hq
    refine ⟨y1 ++ [0] ++ y3, ?_, ?_, ?_⟩
    · simp [Enc.op, Enc.flag, e1, e3, Enc.cat_some]
    · rw [d1, d2, d3]; simp
    · simp; omega
theorem many_enc {α : Type} {f : List UInt8 → Nat → Rd α} {e : α → Enc.Enc} {raw : List UInt8} (hf : ∀ (x : α) (ys post : List UInt8) (p : Nat), e x = some ys → raw.drop p = ys ++ post → f raw p = .ok (x, p + ys.length)) :
    ∀ (l : List α) (ys post : List UInt8) (p : Nat), catAll (l.map e) = some ys → raw.drop p = ys ++ post → Dec.many f raw l.length p = .ok (l, p + ys.length)
  | [], ys, post, p, he, _ => by
    simp only [List.map_nil, catAll, Option.some.injEq] at he
    subst he
    rfl
  | x :: l, ys, post, p, he, h => by
    simp only [List.map_cons, catAll] at he
    obtain ⟨y1, y2, h1, h2, rfl⟩ := cat_inv he
    rw [List.append_assoc] at h
    have d1 := drop_more h
    rw [List.length_cons, Dec.many]
    unfold Dec.bind
    rw [hf x y1 _ p h1 h]
    simp only [many_enc hf l y2 post _ h2 d1]
    rw [List.length_append, Nat.add_assoc]
theorem many_dec {α : Type} {f : List UInt8 → Nat → Rd α} {e : α → Enc.Enc} {raw : List UInt8} (hf : ∀ (x : α) (p q : Nat), f raw p = .ok (x, q) → ∃ ys, e x = some ys ∧ raw.drop p = ys ++ raw.drop q ∧ q = p + ys.length) :
    ∀ (n : Nat) (l : List α) (p q : Nat), Dec.many f raw n p = .ok (l, q) → l.length = n ∧ ∃ ys, catAll (l.map e) = some ys ∧ raw.drop p = ys ++ raw.drop q ∧ q = p + ys.length
  | 0, l, p, q, h => by
    simp only [Dec.many] at h
    injection h with h
    injection h with h1 h2
    subst h1 h2
    exact ⟨rfl, [], rfl, rfl, rfl⟩
  | n + 1, l, p, q, h => by
    simp only [Dec.many, Dec.bind] at h
    split at h
    · cases h
    rename_i x q1 hx
    obtain ⟨y1, e1, d1, l1⟩ := hf x p q1 hx
    split at h
    · cases h
    rename_i l' q2 hl
    obtain ⟨hn, y2, e2, d2, l2⟩ := many_dec hf n l' q1 q2 hl
    injection h with h
    injection h with h1 h2
    subst h1 h2
    refine ⟨by simp [hn], y1 ++ y2, ?_, ?_, ?_⟩
    · simp only [List.map_cons, catAll, e1, e2]; rfl
    · rw [d1, d2, List.append_assoc]
    · rw [List.length_append]; omega
theorem ops_enc {raw ys post : List UInt8} {p : Nat} (l : List Dec.Op) (he : Enc.ops l = some ys) (h : raw.drop p = ys ++ post) : Dec.ops raw p = .ok (l, p + ys.length) := by
  obtain ⟨y1, y2, h1, h2, rfl⟩ := cat_inv he
  rw [List.append_assoc] at h
  have d1 := drop_more h
  unfold Dec.ops Dec.bind
  rw [plain_enc h1 h]
  simp only [Int.toNat_natCast, many_enc (fun x ys post p => op_enc x) l y2 post _ h2 d1]
  rw [List.length_append, Nat.add_assoc]
theorem ops_dec {raw : List UInt8} {p q : Nat} {l : List Dec.Op} (h : Dec.ops raw p = .ok (l, q)) : ∃ ys, Enc.ops l = some ys ∧ raw.drop p = ys ++ raw.drop q ∧ q = p + ys.length := by
  simp only [Dec.ops, Dec.bind] at h
  split at h
  · cases h
  rename_i n q1 hn
  obtain ⟨y1, e1, d1, l1⟩ := plain_dec hn
  obtain ⟨hl, y2, e2, d2, l2⟩ := many_dec (fun x p q => op_dec) _ _ _ _ h
  have hn0 : 0 ≤ n := (number_ok hn).2.2.2.2.2
  refine ⟨y1 ++ y2, ?_, ?_, ?_⟩
  · unfold Enc.ops
    rw [hl, show ((n.toNat : Nat) : Int) = n by omega, e1, e2]; rfl
  · rw [d1, d2, List.append_assoc]
  · rw [List.length_append]; omega
theorem ops_whole {ys : List UInt8} (l : List Dec.Op) (he : Enc.ops l = some ys) : Dec.whole (Dec.ops ys 0) ys.length = .ok l :=
  whole_enc (ops_enc (post := []) l he (by simp))
theorem ops_back {raw : List UInt8} {l : List Dec.Op} (h : Dec.whole (Dec.ops raw 0) raw.length = .ok l) : Enc.ops l = some raw := by
  obtain ⟨q, h1, hq⟩ := whole_dec (f := Dec.ops) h
  obtain ⟨ys, hy, hd, hl⟩ := ops_dec h1
  rw [List.drop_eq_nil_of_le hq, List.append_nil, List.drop_zero] at hd
  rw [hy, hd]
end Go.Proofs.Ytdfhdanfigpbpaa.Plain
