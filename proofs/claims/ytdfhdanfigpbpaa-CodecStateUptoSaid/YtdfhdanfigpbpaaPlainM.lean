/- The plain law of a mail and of an envelope: what is written is read, what is read is what was written. -/
import Derived.Test.YtdfhdanfigpbpaaPlain
import Derived.Test.YtdfhdanfigpbpaaMail
namespace Go.Proofs.Ytdfhdanfigpbpaa.Dec
/-- a mail and an envelope, as they are read -/
structure Ml where
  k : Int
  to : List UInt8
  fr : List UInt8
  node : List UInt8
  name : List UInt8
  tx : List UInt8
  st : Int
structure En where
  k : Int
  f : Int
  t : Int
  q : Int
  m : Ml
def mail (raw : List UInt8) (p : Nat) : Rd Ml :=
  bind (number 0 4 raw p) fun k p => if k = 0 then .ok (⟨0, [], [], [], [], [], 0⟩, p) else bind (text raw p) fun to p => bind (text raw p) fun fr p => bind (text raw p) fun node p => bind (text raw p) fun name p => bind (text raw p) fun tx p => bind (number 0 4 raw p) fun st p => .ok (⟨k, to, fr, node, name, tx, st⟩, p)
def envelope (raw : List UInt8) (p : Nat) : Rd En :=
  bind (number 1 2 raw p) fun k p => bind (plain raw p) fun f p => bind (plain raw p) fun t p => bind (plain raw p) fun q p => bind (mail raw p) fun m p => .ok (⟨k, f, t, q, m⟩, p)
end Go.Proofs.Ytdfhdanfigpbpaa.Dec
namespace Go.Proofs.Ytdfhdanfigpbpaa.Plain
open Enc Dec

def mailOf (m : Ml) : Enc.Enc := Enc.mail m.k m.to m.fr m.node m.name m.tx m.st
theorem texts5_inv {a b c d e ys : List UInt8} (h : Enc.texts [a, b, c, d, e] = some ys) : ∃ y1 y2 y3 y4 y5, Enc.text a = some y1 ∧ Enc.text b = some y2 ∧ Enc.text c = some y3 ∧ Enc.text d = some y4 ∧ Enc.text e = some y5 ∧ ys = y1 ++ (y2 ++ (y3 ++ (y4 ++ y5))) := by
  unfold Enc.texts at h
  simp only [List.map_cons, List.map_nil, catAll] at h
  obtain ⟨y1, z1, h1, k1, rfl⟩ := cat_inv h
  obtain ⟨y2, z2, h2, k2, rfl⟩ := cat_inv k1
  obtain ⟨y3, z3, h3, k3, rfl⟩ := cat_inv k2
  obtain ⟨y4, z4, h4, k4, rfl⟩ := cat_inv k3
  obtain ⟨y5, z5, h5, k5, rfl⟩ := cat_inv k4
  injection k5 with k5
  subst k5
  exact ⟨y1, y2, y3, y4, y5, h1, h2, h3, h4, h5, by simp⟩
theorem mail_enc {raw ys post : List UInt8} {p : Nat} (m : Ml) (he : mailOf m = some ys) (h : raw.drop p = ys ++ post) : Dec.mail raw p = .ok (m, p + ys.length) := by
  obtain ⟨k, to, fr, node, name, tx, st⟩ := m
  unfold mailOf at he
  by_cases hk : k = 0
  · unfold Enc.mail at he
    rw [if_pos hk] at he
    split at he
    · rename_i hz
      obtain ⟨rfl, rfl, rfl, rfl, rfl, rfl⟩ := hz
      subst hk
      unfold Dec.mail Dec.bind
      rw [number_enc (by omega) (by omega) he h]
      simp
    · cases he
  · rw [show Enc.mail k to fr node name tx st = _ from if_neg hk] at he
    obtain ⟨y1, y6, h1, h6, rfl⟩ := cat_inv he
    obtain ⟨y0, y5, h0, h5, rfl⟩ := cat_inv h1
    obtain ⟨x1, x2, x3, x4, x5, e1, e2, e3, e4, e5, rfl⟩ := texts5_inv h5
    simp only [List.append_assoc] at h
    have d1 := drop_more h
    have d2 := drop_more d1
    have d3 := drop_more d2
    have d4 := drop_more d3
    have d5 := drop_more d4
    have d6 := drop_more d5
    unfold Dec.mail Dec.bind
    rw [number_enc (by omega) (by omega) h0 h]
    simp only [if_neg hk, text_enc e1 d1, text_enc e2 d2, text_enc e3 d3, text_enc e4 d4, text_enc e5 d5]
    rw [number_enc (by omega) (by omega) h6 d6]
    simp only [List.length_append]
    congr 2
    omega
theorem mail_dec {raw : List UInt8} {p q : Nat} {m : Ml} (h : Dec.mail raw p = .ok (m, q)) : ∃ ys, mailOf m = some ys ∧ raw.drop p = ys ++ raw.drop q ∧ q = p + ys.length := by
  simp only [Dec.mail, Dec.bind] at h
  split at h
  · cases h
  rename_i k q1 hk
  obtain ⟨y1, e1, d1, l1⟩ := number_dec (by omega) hk
  split at h
  · rename_i hz
    injection h with h
    injection h with h1 h2
    subst h1 h2 hz
    refine ⟨y1, ?_, d1, l1⟩
    unfold mailOf Enc.mail
    rw [if_pos rfl, if_pos ⟨rfl, rfl, rfl, rfl, rfl, rfl⟩]
    exact e1
  rename_i hz
  split at h
  · cases h
  rename_i to q2 hto
  obtain ⟨y2, e2, d2, l2⟩ := text_dec hto
  split at h
  · cases h
  rename_i fr q3 hfr
  obtain ⟨y3, e3, d3, l3⟩ := text_dec hfr
  split at h
  · cases h
  rename_i node q4 hnode
  obtain ⟨y4, e4, d4, l4⟩ := text_dec hnode
  split at h
  · cases h
  rename_i name q5 hname
  obtain ⟨y5, e5, d5, l5⟩ := text_dec hname
  split at h
  · cases h
  rename_i tx q6 htx
  obtain ⟨y6, e6, d6, l6⟩ := text_dec htx
  split at h
  · cases h
  rename_i st q7 hst
  obtain ⟨y7, e7, d7, l7⟩ := number_dec (by omega) hst
  injection h with h
  injection h with h1 h2
  subst h1 h2
  refine ⟨y1 ++ (y2 ++ (y3 ++ (y4 ++ (y5 ++ y6)))) ++ y7, ?_, ?_, by simp only [List.length_append]; omega⟩
  · unfold mailOf
    rw [show Enc.mail k to fr node name tx st = _ from if_neg hz]
    unfold Enc.texts
    simp only [List.map_cons, List.map_nil, catAll, e1, e2, e3, e4, e5, e6, e7, cat_some, Option.map_some, List.append_nil]
  · rw [d1, d2, d3, d4, d5, d6, d7]; simp only [List.append_assoc]
theorem envelope_enc {raw ys post : List UInt8} {p : Nat} {k f t q : Int} (m : Ml) (he : Enc.envelope k f t q (mailOf m) = some ys) (h : raw.drop p = ys ++ post) : Dec.envelope raw p = .ok (⟨k, f, t, q, m⟩, p + ys.length) := by
  unfold Enc.envelope at he
  obtain ⟨z4, y5, g4, h5, rfl⟩ := cat_inv he
  obtain ⟨z3, y4, g3, h4, rfl⟩ := cat_inv g4
  obtain ⟨z2, y3, g2, h3, rfl⟩ := cat_inv g3
  obtain ⟨z1, y2, g1, h2, rfl⟩ := cat_inv g2
  rw [nil0, nil_cat] at g1
  simp only [List.append_assoc] at h
  have d1 := drop_more h
  have d2 := drop_more d1
  have d3 := drop_more d2
  have d4 := drop_more d3
  unfold Dec.envelope Dec.bind
  rw [number_enc (by omega) (by omega) g1 h]
  simp only [plain_enc h2 d1, plain_enc h3 d2, plain_enc h4 d3, mail_enc m h5 d4]
  congr 2
  simp only [List.length_append]
  omega
theorem envelope_dec {raw : List UInt8} {p q : Nat} {e : En} (h : Dec.envelope raw p = .ok (e, q)) : ∃ ys, Enc.envelope e.k e.f e.t e.q (mailOf e.m) = some ys ∧ raw.drop p = ys ++ raw.drop q ∧ q = p + ys.length := by
  simp only [Dec.envelope, Dec.bind] at h
  split at h
  · cases h
  rename_i k q1 hk
  obtain ⟨y1, e1, d1, l1⟩ := number_dec (by omega) hk
  split at h
  · cases h
  rename_i f q2 hf
  obtain ⟨y2, e2, d2, l2⟩ := plain_dec hf
  split at h
  · cases h
  rename_i t q3 ht
  obtain ⟨y3, e3, d3, l3⟩ := plain_dec ht
  split at h
  · cases h
  rename_i s q4 hs
  obtain ⟨y4, e4, d4, l4⟩ := plain_dec hs
  split at h
  · cases h
  rename_i m q5 hm
  obtain ⟨y5, e5, d5, l5⟩ := mail_dec hm
  injection h with h
  injection h with h1 h2
  subst h1 h2
  refine ⟨y1 ++ y2 ++ y3 ++ y4 ++ y5, ?_, ?_, by simp only [List.length_append]; omega⟩
  · unfold Enc.envelope
    simp only [nil0, e1, e2, e3, e4, e5, cat_some, Option.map_some, List.nil_append]
  · rw [d1, d2, d3, d4, d5]; simp only [List.append_assoc]
theorem envelope_whole {ys : List UInt8} {k f t q : Int} (m : Ml) (he : Enc.envelope k f t q (mailOf m) = some ys) : Dec.whole (Dec.envelope ys 0) ys.length = .ok ⟨k, f, t, q, m⟩ :=
  whole_enc (envelope_enc (post := []) m he (by simp))
theorem envelope_back {raw : List UInt8} {e : En} (h : Dec.whole (Dec.envelope raw 0) raw.length = .ok e) : Enc.envelope e.k e.f e.t e.q (mailOf e.m) = some raw := by
  obtain ⟨q, h1, hq⟩ := whole_dec (f := Dec.envelope) h
  obtain ⟨ys, hy, hd, hl⟩ := envelope_dec h1
  rw [List.drop_eq_nil_of_le hq, List.append_nil, List.drop_zero] at hd
  rw [hy, hd]
end Go.Proofs.Ytdfhdanfigpbpaa.Plain
