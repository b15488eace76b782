/- The plain law of the codec's writers: what bytes a number, a text, a record has. No program is in sight here. -/
import Derived.Test.YtdfhdanfigpbpaaBase
namespace Go.Proofs.Ytdfhdanfigpbpaa.Enc

/-- how many bytes a number needs -/
def nsz (n : Nat) : Nat := if n = 0 then 0 else n.log2 / 8 + 1
theorem lt_nsz (n k : Nat) : k < nsz n ↔ 0 < n / 2 ^ (8 * k) := by
  unfold nsz
  have hp : 0 < 2 ^ (8 * k) := Nat.two_pow_pos _
  by_cases h : n = 0
  · subst h; simp
  · rw [if_neg h, Nat.div_pos_iff]
    have h1 : n.log2 < 8 * k ↔ n < 2 ^ (8 * k) := Nat.log2_lt h
    constructor
    · intro h2; exact ⟨hp, by omega⟩
    · intro ⟨_, h2⟩; omega
theorem nsz_le {n k : Nat} (h : n < 2 ^ (8 * k)) : nsz n ≤ k := by
  rcases Nat.lt_or_ge k (nsz n) with h1 | h1
  · have := (lt_nsz n k).1 h1
    rw [Nat.div_eq_of_lt h] at this
    omega
  · exact h1
theorem nsz_7 {n : Nat} (h : n ≤ 4503599627370496) : nsz n ≤ 7 := nsz_le (by omega)
/-- the last k bytes of a number, the highest first -/
def be : Nat → Nat → List UInt8
  | 0, _ => []
  | k + 1, n => UInt8.ofNat (n / 2 ^ (8 * k)) :: be k n
theorem be_length (k n : Nat) : (be k n).length = k := by induction k <;> simp_all [be]
/-- a number's bytes -/
def numB (n : Nat) : List UInt8 := UInt8.ofNat (nsz n) :: be (nsz n) n
theorem numB_length (n : Nat) : (numB n).length = nsz n + 1 := by simp [numB, be_length]

abbrev Enc := Option (List UInt8)
def nil0 : Enc := some []
/-- one behind the other -/
def cat (a b : Enc) : Enc := a.bind fun x => b.map (x ++ ·)
theorem cat_none (b : Enc) : cat none b = none := rfl
theorem cat_some (x : List UInt8) (b : Enc) : cat (some x) b = b.map (x ++ ·) := rfl
theorem cat_none_r (a : Enc) : cat a none = none := by cases a <;> rfl
theorem cat_assoc (a b c : Enc) : cat (cat a b) c = cat a (cat b c) := by
  cases a <;> cases b <;> cases c <;> simp [cat_none, cat_some]
theorem cat_nil (a : Enc) : cat a (some []) = a := by cases a <;> simp [cat_none, cat_some]
theorem nil_cat (a : Enc) : cat (some []) a = a := by cases a <;> simp [cat_some]
def catAll : List Enc → Enc
  | [] => some []
  | a :: l => cat a (catAll l)

abbrev most : Int := 4503599627370496
/-- a number of lo to hi -/
def number (n lo hi : Int) : Enc := if n < lo ∨ hi < n then none else some (numB n.toNat)
def plain (n : Int) : Enc := number n 0 4503599627370496
def signed (n : Int) : Enc := if n < -2251799813685248 ∨ 2251799813685248 < n then none else if n < 0 then plain (-2 * n - 1) else plain (2 * n)
def text (s : List UInt8) : Enc := cat (number s.length 0 1048576) (some s)
def texts (l : List (List UInt8)) : Enc := catAll (l.map text)
theorem number_size {n lo hi : Int} {b : List UInt8} (hh : hi ≤ 4503599627370496) (h : number n lo hi = some b) : b.length ≤ 8 := by
  unfold number at h
  split at h
  · cases h
  · injection h with h
    subst h
    rw [numB_length]
    have := nsz_7 (n := n.toNat) (by omega)
    omega
theorem plain_size {n : Int} {b : List UInt8} (h : plain n = some b) : b.length ≤ 8 := number_size (by omega) h
theorem signed_size {n : Int} {b : List UInt8} (h : signed n = some b) : b.length ≤ 8 := by
  unfold signed at h
  split at h
  · cases h
  · split at h <;> exact plain_size h
/-- the records -/
def event (k : Int) (node tx : List UInt8) (n : Int) : Enc := cat (cat (cat nil0 (number k 1 15)) (texts [node, tx])) (signed n)
def lease (o r : Int) : Enc := cat (cat nil0 (signed o)) (plain r)
def numberE (n : Int) : Enc := cat nil0 (plain n)
def mail (k : Int) (to fr node name tx : List UInt8) (st : Int) : Enc :=
  if k = 0 then (if to = [] ∧ fr = [] ∧ node = [] ∧ name = [] ∧ tx = [] ∧ st = 0 then number 0 0 4 else none)
  else cat (cat (number k 0 4) (texts [to, fr, node, name, tx])) (number st 0 4)
def envelope (k f t q : Int) (m : Enc) : Enc := cat (cat (cat (cat (cat nil0 (number k 1 2)) (plain f)) (plain t)) (plain q)) m
end Go.Proofs.Ytdfhdanfigpbpaa.Enc
