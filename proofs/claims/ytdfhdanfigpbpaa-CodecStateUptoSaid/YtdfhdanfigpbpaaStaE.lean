/- The plain law of a workflow's state: what is written is read, what is read is what was written. No program is in sight here. -/
import Derived.Test.YtdfhdanfigpbpaaOpsE
import Derived.Test.YtdfhdanfigpbpaaPlainM
namespace Go.Proofs.Ytdfhdanfigpbpaa.Dec
/-- a node's state, a signal, a workflow's state, as they are read -/
structure Nd where
  s : Int
  t : Int
  x : List UInt8
structure Sg where
  n : List UInt8
  x : List UInt8
structure Sta where
  df : List UInt8
  id : List UInt8
  pa : List UInt8
  pn : List UInt8
  st : Int
  tx : List UInt8
  nd : List Nd
  sg : List Sg
  ev : Int
def nod (raw : List UInt8) (p : Nat) : Rd Nd := bind (number 0 4 raw p) fun s p => bind (plain raw p) fun t p => bind (text raw p) fun x p => .ok (⟨s, t, x⟩, p)
def sig (raw : List UInt8) (p : Nat) : Rd Sg := bind (text raw p) fun n p => bind (text raw p) fun x p => .ok (⟨n, x⟩, p)
def state (raw : List UInt8) (p : Nat) : Rd Sta :=
  bind (text raw p) fun df p => bind (text raw p) fun id p => bind (text raw p) fun pa p => bind (text raw p) fun pn p => bind (number 0 4 raw p) fun st p => bind (text raw p) fun tx p =>
    bind (plain raw p) fun k p => bind (many nod raw k.toNat p) fun nd p => bind (plain raw p) fun m p => bind (many sig raw m.toNat p) fun sg p => bind (plain raw p) fun ev p => .ok (⟨df, id, pa, pn, st, tx, nd, sg, ev⟩, p)
end Go.Proofs.Ytdfhdanfigpbpaa.Dec
namespace Go.Proofs.Ytdfhdanfigpbpaa.Enc
def nod (n : Dec.Nd) : Enc := cat (cat (number n.s 0 4) (plain n.t)) (text n.x)
def sig (s : Dec.Sg) : Enc := cat (text s.n) (text s.x)
def state (s : Dec.Sta) : Enc :=
  cat (cat (cat (cat (cat (cat (cat (cat (cat (cat (text s.df) (text s.id)) (text s.pa)) (text s.pn)) (number s.st 0 4)) (text s.tx)) (plain s.nd.length)) (catAll (s.nd.map nod))) (plain s.sg.length)) (catAll (s.sg.map sig))) (plain s.ev)
end Go.Proofs.Ytdfhdanfigpbpaa.Enc
namespace Go.Proofs.Ytdfhdanfigpbpaa.Plain
open Enc Dec
theorem nod_enc {raw ys post : List UInt8} {p : Nat} (o : Dec.Nd) (he : Enc.nod o = some ys) (h : raw.drop p = ys ++ post) : Dec.nod raw p = .ok (o, p + ys.length) := by
  obtain ⟨z1, y2, g1, h2, rfl⟩ := cat_inv he
  obtain ⟨y0, y1, h0, h1, rfl⟩ := cat_inv g1
  simp only [List.append_assoc] at h
  have d1 := drop_more h
  have d2 := drop_more d1
  unfold Dec.nod Dec.bind
  rw [number_enc (by omega) (by omega) h0 h]
  simp only [plain_enc h1 d1, text_enc h2 d2]
  simp only [List.length_append]
  congr 2
  omega
theorem nod_dec {raw : List UInt8} {p q : Nat} {o : Dec.Nd} (h : Dec.nod raw p = .ok (o, q)) : ∃ ys, Enc.nod o = some ys ∧ raw.drop p = ys ++ raw.drop q ∧ q = p + ys.length := by
  simp only [Dec.nod, Dec.bind] at h
  split at h
  · cases h
  rename_i s q1 hs
  obtain ⟨y1, e1, d1, l1⟩ := number_dec (by omega) hs
  split at h
  · cases h
  rename_i t q2 ht
  obtain ⟨y2, e2, d2, l2⟩ := plain_dec ht
  split at h
  · cases h
  rename_i x q3 hx
  obtain ⟨y3, e3, d3, l3⟩ := text_dec hx
  injection h with h
  injection h with ho hq
  subst ho hq
  refine ⟨y1 ++ y2 ++ y3, ?_, ?_, ?_⟩
  · simp [Enc.nod, e1, e2, e3, Enc.cat_some]
  · rw [d1, d2, d3]; simp
  · simp; omega
theorem sig_enc {raw ys post : List UInt8} {p : Nat} (o : Dec.Sg) (he : Enc.sig o = some ys) (h : raw.drop p = ys ++ post) : Dec.sig raw p = .ok (o, p + ys.length) := by
  obtain ⟨y0, y1, h0, h1, rfl⟩ := cat_inv he
  simp only [List.append_assoc] at h
  have d1 := drop_more h
  unfold Dec.sig Dec.bind
  rw [text_enc h0 h]
  simp only [text_enc h1 d1]
  simp only [List.length_append]
  congr 2
  omega
theorem sig_dec {raw : List UInt8} {p q : Nat} {o : Dec.Sg} (h : Dec.sig raw p = .ok (o, q)) : ∃ ys, Enc.sig o = some ys ∧ raw.drop p = ys ++ raw.drop q ∧ q = p + ys.length := by
  simp only [Dec.sig, Dec.bind] at h
  split at h
  · cases h
  rename_i s q1 hs
  obtain ⟨y1, e1, d1, l1⟩ := text_dec hs
  split at h
  · cases h
  rename_i t q2 ht
  obtain ⟨y2, e2, d2, l2⟩ := text_dec ht
  injection h with h
  injection h with ho hq
  subst ho hq
  refine ⟨y1 ++ y2, ?_, ?_, ?_⟩
  · simp [Enc.sig, e1, e2, Enc.cat_some]
  · rw [d1, d2]; simp
  · simp; omega
theorem state_inv {s : Dec.Sta} {ys : List UInt8} (h : Enc.state s = some ys) : ∃ y0 y1 y2 y3 y4 y5 y6 y7 y8 y9 y10, Enc.text s.df = some y0 ∧ Enc.text s.id = some y1 ∧ Enc.text s.pa = some y2 ∧ Enc.text s.pn = some y3 ∧ Enc.number s.st 0 4 = some y4 ∧ Enc.text s.tx = some y5 ∧
    Enc.plain s.nd.length = some y6 ∧ catAll (s.nd.map Enc.nod) = some y7 ∧ Enc.plain s.sg.length = some y8 ∧ catAll (s.sg.map Enc.sig) = some y9 ∧ Enc.plain s.ev = some y10 ∧ ys = y0 ++ (y1 ++ (y2 ++ (y3 ++ (y4 ++ (y5 ++ (y6 ++ (y7 ++ (y8 ++ (y9 ++ y10))))))))) := by
  obtain ⟨z9, y10, g9, h10, rfl⟩ := cat_inv h
  obtain ⟨z8, y9, g8, h9, rfl⟩ := cat_inv g9
  obtain ⟨z7, y8, g7, h8, rfl⟩ := cat_inv g8
  obtain ⟨z6, y7, g6, h7, rfl⟩ := cat_inv g7
  obtain ⟨z5, y6, g5, h6, rfl⟩ := cat_inv g6
  obtain ⟨z4, y5, g4, h5, rfl⟩ := cat_inv g5
  obtain ⟨z3, y4, g3, h4, rfl⟩ := cat_inv g4
  obtain ⟨z2, y3, g2, h3, rfl⟩ := cat_inv g3
  obtain ⟨z1, y2, g1, h2, rfl⟩ := cat_inv g2
  obtain ⟨y0, y1, h0, h1, rfl⟩ := cat_inv g1
  exact ⟨y0, y1, y2, y3, y4, y5, y6, y7, y8, y9, y10, h0, h1, h2, h3, h4, h5, h6, h7, h8, h9, h10, by simp only [List.append_assoc]⟩
theorem state_enc {raw ys post : List UInt8} {p : Nat} (s : Dec.Sta) (he : Enc.state s = some ys) (h : raw.drop p = ys ++ post) : Dec.state raw p = .ok (s, p + ys.length) := by
  obtain ⟨y0, y1, y2, y3, y4, y5, y6, y7, y8, y9, y10, h0, h1, h2, h3, h4, h5, h6, h7, h8, h9, h10, rfl⟩ := state_inv he
  simp only [List.append_assoc] at h
  have d1 := drop_more h
  have d2 := drop_more d1
  have d3 := drop_more d2
  have d4 := drop_more d3
  have d5 := drop_more d4
  have d6 := drop_more d5
  have d7 := drop_more d6
  have d8 := drop_more d7
  have d9 := drop_more d8
  have d10 := drop_more d9
  unfold Dec.state Dec.bind
  rw [text_enc h0 h]
  simp only [text_enc h1 d1, text_enc h2 d2, text_enc h3 d3]
  rw [number_enc (by omega) (by omega) h4 d4]
  simp only [text_enc h5 d5]
  rw [plain_enc h6 d6]
  simp only [Int.toNat_natCast, many_enc (fun x ys post p => nod_enc x) s.nd y7 _ _ h7 d7]
  rw [plain_enc h8 d8]
  simp only [Int.toNat_natCast, many_enc (fun x ys post p => sig_enc x) s.sg y9 _ _ h9 d9]
  rw [plain_enc h10 d10]
  simp only [List.length_append]
  congr 2
  omega
theorem state_dec {raw : List UInt8} {p q : Nat} {s : Dec.Sta} (h : Dec.state raw p = .ok (s, q)) : ∃ ys, Enc.state s = some ys ∧ raw.drop p = ys ++ raw.drop q ∧ q = p + ys.length := by
  simp only [Dec.state, Dec.bind] at h
  split at h
  · cases h
  rename_i x0 q0 k0
  obtain ⟨y0, e0, d0, l0⟩ := text_dec k0
  split at h
  · cases h
  rename_i x1 q1 k1
  obtain ⟨y1, e1, d1, l1⟩ := text_dec k1
  split at h
  · cases h
  rename_i x2 q2 k2
  obtain ⟨y2, e2, d2, l2⟩ := text_dec k2
  split at h
  · cases h
  rename_i x3 q3 k3
  obtain ⟨y3, e3, d3, l3⟩ := text_dec k3
  split at h
  · cases h
  rename_i x4 q4 k4
  obtain ⟨y4, e4, d4, l4⟩ := number_dec (by omega) k4
  split at h
  · cases h
  rename_i x5 q5 k5
  obtain ⟨y5, e5, d5, l5⟩ := text_dec k5
  split at h
  · cases h
  rename_i x6 q6 k6
  obtain ⟨y6, e6, d6, l6⟩ := plain_dec k6
  split at h
  · cases h
  rename_i x7 q7 k7
  obtain ⟨c7, y7, e7, d7, l7⟩ := many_dec (fun x p q => nod_dec) _ _ _ _ k7
  split at h
  · cases h
  rename_i x8 q8 k8
  obtain ⟨y8, e8, d8, l8⟩ := plain_dec k8
  split at h
  · cases h
  rename_i x9 q9 k9
  obtain ⟨c9, y9, e9, d9, l9⟩ := many_dec (fun x p q => sig_dec) _ _ _ _ k9
  split at h
  · cases h
  rename_i x10 q10 k10
  obtain ⟨y10, e10, d10, l10⟩ := plain_dec k10
  have n6 : 0 ≤ x6 := (number_ok k6).2.2.2.2.2
  have n8 : 0 ≤ x8 := (number_ok k8).2.2.2.2.2
  injection h with h
  injection h with hs hq
  subst hs hq
  refine ⟨y0 ++ (y1 ++ (y2 ++ (y3 ++ (y4 ++ (y5 ++ (y6 ++ (y7 ++ (y8 ++ (y9 ++ y10))))))))), ?_, ?_, ?_⟩
  · simp only [Enc.state, e0, e1, e2, e3, e4, e5, e7, e9, e10]
    rw [c7, c9, show ((x6.toNat : Nat) : Int) = x6 by omega, show ((x8.toNat : Nat) : Int) = x8 by omega, e6, e8]
    simp only [Enc.cat_some, Option.map_some, List.append_assoc]
  · rw [d0, d1, d2, d3, d4, d5, d6, d7, d8, d9, d10]
    simp only [List.append_assoc]
  · simp only [List.length_append]; omega
theorem state_whole {ys : List UInt8} (s : Dec.Sta) (he : Enc.state s = some ys) : Dec.whole (Dec.state ys 0) ys.length = .ok s :=
  whole_enc (state_enc (post := []) s he (by simp))
theorem state_back {raw : List UInt8} {s : Dec.Sta} (h : Dec.whole (Dec.state raw 0) raw.length = .ok s) : Enc.state s = some raw := by
  obtain ⟨q, h1, hq⟩ := whole_dec (f := Dec.state) h
  obtain ⟨ys, hy, hd, hl⟩ := state_dec h1
  rw [List.drop_eq_nil_of_le hq, List.append_nil, List.drop_zero] at hd
  rw [hy, hd]
end Go.Proofs.Ytdfhdanfigpbpaa.Plain
