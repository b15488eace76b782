/- The plain law of the codec's readers: what a number, a text, a record is read as. No program is in sight here. -/
import Derived.Test.YtdfhdanfigpbpaaEnc
namespace Go.Proofs.Ytdfhdanfigpbpaa.Dec

def val (l : List UInt8) : Nat := l.foldl (fun n b => 256 * n + b.toNat) 0
theorem val_nil : val [] = 0 := rfl
theorem val_snoc (l : List UInt8) (b : UInt8) : val (l ++ [b]) = 256 * val l + b.toNat := by simp [val]
theorem val_lt_aux (l : List UInt8) : ∀ a : Nat, l.foldl (fun n b => 256 * n + b.toNat) a + 1 ≤ (a + 1) * 256 ^ l.length := by
  induction l with
  | nil => intro a; simp
  | cons b l ih =>
    intro a
    simp only [List.foldl_cons, List.length_cons]
    have h1 := ih (256 * a + b.toNat)
    have h2 := b.toNat_lt
    have h3 : (256 * a + b.toNat + 1) * 256 ^ l.length ≤ ((a + 1) * 256) * 256 ^ l.length := Nat.mul_le_mul_right _ (by omega)
    rw [Nat.pow_succ, Nat.mul_comm (256 ^ l.length) 256, ← Nat.mul_assoc]
    omega
theorem val_lt (l : List UInt8) : val l < 256 ^ l.length := by
  have := val_lt_aux l 0
  unfold val
  omega
theorem val_take (l : List UInt8) (i : Nat) (h : i < l.length) : val (l.take (i + 1)) = 256 * val (l.take i) + l[i].toNat := by
  rw [List.take_succ_eq_append_getElem h, val_snoc]
theorem val_lt7 (l : List UInt8) (h : l.length ≤ 7) : val l < 72057594037927936 := by
  have h1 := val_lt l
  have h2 : 256 ^ l.length ≤ 256 ^ 7 := Nat.pow_le_pow_right (by omega) h
  have h3 : (256 : Nat) ^ 7 = 72057594037927936 := by decide
  omega

/-- A reading at a place: what is read and the place behind it, or the place of the fault. -/
abbrev Rd (α : Type) := Except Nat (α × Nat)
def number (lo hi : Int) (raw : List UInt8) (p : Nat) : Rd Int :=
  if raw.length ≤ p then .error raw.length
  else if 7 < (raw.getD p 0).toNat then .error p
  else if raw.length - p - 1 < (raw.getD p 0).toNat then .error raw.length
  else if (0 < (raw.getD p 0).toNat ∧ raw.getD (p + 1) 0 = 0) ∨ (val ((raw.drop (p + 1)).take (raw.getD p 0).toNat) : Int) < lo ∨ hi < (val ((raw.drop (p + 1)).take (raw.getD p 0).toNat) : Int) then .error p
  else .ok ((val ((raw.drop (p + 1)).take (raw.getD p 0).toNat) : Int), p + 1 + (raw.getD p 0).toNat)
theorem number_ok {lo hi v : Int} {raw : List UInt8} {p q : Nat} (h : number lo hi raw p = .ok (v, q)) : p < raw.length ∧ p < q ∧ q ≤ raw.length ∧ lo ≤ v ∧ v ≤ hi ∧ 0 ≤ v := by
  unfold number at h
  split at h
  · cases h
  · split at h
    · cases h
    · split at h
      · cases h
      · split at h
        · cases h
        · injection h with h
          injection h with h1 h2
          subst h1 h2
          omega
def plain (raw : List UInt8) (p : Nat) : Rd Int := number 0 4503599627370496 raw p
def sgn (n : Int) : Int := if n % 2 = 1 then -((n + 1) / 2) else n / 2
def signed (raw : List UInt8) (p : Nat) : Rd Int :=
  match plain raw p with
  | .error a => .error a
  | .ok (n, q) => .ok (sgn n, q)
def text (raw : List UInt8) (p : Nat) : Rd (List UInt8) :=
  match number 0 1048576 raw p with
  | .error a => .error a
  | .ok (n, q) => if raw.length - q < n.toNat then .error raw.length else .ok ((raw.drop q).take n.toNat, q + n.toNat)
def flag (raw : List UInt8) (p : Nat) : Rd Bool :=
  if raw.length ≤ p then .error raw.length else if 1 < (raw.getD p 0).toNat then .error p else .ok ((raw.getD p 0).toNat == 1, p + 1)
/-- one reading behind the other -/
def bind {α β : Type} (r : Rd α) (f : α → Nat → Rd β) : Rd β :=
  match r with
  | .error a => .error a
  | .ok (x, q) => f x q
/-- the records, as they are read -/
structure Ev where
  k : Int
  node : List UInt8
  tx : List UInt8
  n : Int
structure Le where
  o : Int
  r : Int
def event (raw : List UInt8) (p : Nat) : Rd Ev :=
  bind (number 1 15 raw p) fun k p => bind (text raw p) fun node p => bind (text raw p) fun tx p => bind (signed raw p) fun n p => .ok (⟨k, node, tx, n⟩, p)
def lease (raw : List UInt8) (p : Nat) : Rd Le :=
  bind (signed raw p) fun o p => bind (plain raw p) fun r p => .ok (⟨o, r⟩, p)
/-- a whole record: nothing is left -/
def whole {α : Type} (r : Rd α) (n : Nat) : Except Nat α :=
  match r with
  | .error a => .error a
  | .ok (x, q) => if q < n then .error q else .ok x
end Go.Proofs.Ytdfhdanfigpbpaa.Dec
