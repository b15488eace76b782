/- The ring as a list of keys (point, host) in one order: sorted rows of the same keys are one row; whose a shard is; what goes and comes with a host. No condition. -/
import Derived.Test.YtnbpmlbhigchnaaGreatDoorPt
namespace Go.Proofs.YtnbpmlbhigchnaaGreatDoor
open Go

/-- a spot's key: its point, its host -/
abbrev Key := (Int × Int) × Int
def ltK (a b : Key) : Bool := befZ a.1 b.1 || (!befZ b.1 a.1 && decide (a.2 < b.2))
theorem befZ_iff (a b : Int × Int) : befZ a b = true ↔ a.1 < b.1 ∨ (a.1 = b.1 ∧ a.2 < b.2) := by simp [befZ]
theorem befZ_irrefl (a : Int × Int) : befZ a a = false := by simp [befZ]
theorem ltK_iff (a b : Key) : ltK a b = true ↔ a.1.1 < b.1.1 ∨ (a.1.1 = b.1.1 ∧ (a.1.2 < b.1.2 ∨ (a.1.2 = b.1.2 ∧ a.2 < b.2))) := by
  have h : befZ b.1 a.1 = true ↔ b.1.1 < a.1.1 ∨ (b.1.1 = a.1.1 ∧ b.1.2 < a.1.2) := befZ_iff _ _
  unfold ltK
  rw [Bool.or_eq_true, Bool.and_eq_true, befZ_iff, Bool.not_eq_true', decide_eq_true_eq]
  constructor
  · rintro (h1 | ⟨h1, h2⟩)
    · omega
    · have h3 : ¬ (b.1.1 < a.1.1 ∨ (b.1.1 = a.1.1 ∧ b.1.2 < a.1.2)) := fun h' => by rw [h.2 h'] at h1; cases h1
      omega
  · intro h1
    by_cases h4 : a.1.1 < b.1.1 ∨ (a.1.1 = b.1.1 ∧ a.1.2 < b.1.2)
    · exact .inl h4
    · refine .inr ⟨?_, by omega⟩
      cases h5 : befZ b.1 a.1 with
      | false => rfl
      | true =>
        have := h.1 h5
        omega
theorem ltK_irrefl (a : Key) : ltK a a = false := by
  cases h : ltK a a with
  | false => rfl
  | true => have := (ltK_iff a a).1 h; omega
theorem ltK_trans {a b c : Key} (h : ltK a b = true) (h2 : ltK b c = true) : ltK a c = true := by
  rw [ltK_iff] at *
  omega
theorem ltK_total {a b : Key} (h : ltK a b = false) (h2 : ltK b a = false) : a = b := by
  have h3 : ¬ (a.1.1 < b.1.1 ∨ (a.1.1 = b.1.1 ∧ (a.1.2 < b.1.2 ∨ (a.1.2 = b.1.2 ∧ a.2 < b.2)))) := fun h' => by rw [(ltK_iff a b).2 h'] at h; cases h
  have h4 : ¬ (b.1.1 < a.1.1 ∨ (b.1.1 = a.1.1 ∧ (b.1.2 < a.1.2 ∨ (b.1.2 = a.1.2 ∧ b.2 < a.2)))) := fun h' => by rw [(ltK_iff b a).2 h'] at h2; cases h2
  obtain ⟨⟨a1, a2⟩, a3⟩ := a
  obtain ⟨⟨b1, b2⟩, b3⟩ := b
  dsimp only at h3 h4
  have e1 : a1 = b1 := by omega
  have e2 : a2 = b2 := by omega
  have e3 : a3 = b3 := by omega
  rw [e1, e2, e3]
/-- a row in its order -/
def SortK (l : List Key) : Prop := l.Pairwise fun a b => ltK b a = false
theorem SortK.tail {a : Key} {l : List Key} (h : SortK (a :: l)) : SortK l := (List.pairwise_cons.1 h).2
/-- sorted rows of the same keys are one row -/
theorem SortK.uniq : ∀ {l m : List Key}, SortK l → SortK m → l.Perm m → l = m
  | [], m, _, _, h => (List.nil_perm.1 h).symm
  | a :: l, [], _, _, h => absurd h.length_eq (by simp)
  | a :: l, b :: m, hl, hm, h => by
    have hab : a = b := by
      have h1 : a ∈ b :: m := h.mem_iff.1 (List.mem_cons_self ..)
      have h2 : b ∈ a :: l := h.mem_iff.2 (List.mem_cons_self ..)
      rcases List.mem_cons.1 h1 with rfl | h1
      · rfl
      · rcases List.mem_cons.1 h2 with rfl | h2
        · rfl
        · exact ltK_total ((List.pairwise_cons.1 hm).1 a h1) ((List.pairwise_cons.1 hl).1 b h2)
    subst hab
    rw [SortK.uniq hl.tail hm.tail (List.perm_cons a |>.1 h)]
theorem SortK.filter {l : List Key} (h : SortK l) (p : Key → Bool) : SortK (l.filter p) := List.Pairwise.filter p h

/-- the spot that comes next behind a point, round about -/
def nextK (l : List Key) (z : Int × Int) : Option Key := match l.find? fun s => !befZ s.1 z with
  | some s => some s
  | none => l.head?
theorem nextK_mem {l : List Key} {z : Int × Int} {s : Key} (h : nextK l z = some s) : s ∈ l := by
  unfold nextK at h
  split at h
  · rename_i s' hs
    cases h
    exact List.mem_of_find?_eq_some hs
  · exact List.mem_of_head? h
theorem nextK_some {l : List Key} (z : Int × Int) (h : l ≠ []) : ∃ s, nextK l z = some s := by
  unfold nextK
  split
  · exact ⟨_, rfl⟩
  · cases l with
    | nil => exact absurd rfl h
    | cons a l => exact ⟨a, rfl⟩
theorem find_filter {α : Type} {p q : α → Bool} {s : α} : ∀ {l : List α}, l.find? q = some s → p s = true → (l.filter p).find? q = some s
  | [], h, _ => by cases h
  | a :: l, h, hp => by
    rw [List.find?_cons] at h
    rw [List.filter_cons]
    cases ha : q a with
    | true =>
      rw [ha] at h
      cases h
      rw [if_pos hp, List.find?_cons, ha]
    | false =>
      rw [ha] at h
      split
      · rw [List.find?_cons, ha]
        exact find_filter h hp
      · exact find_filter h hp
/-- what stays where others go -/
theorem nextK_filter {l : List Key} {z : Int × Int} {s : Key} {p : Key → Bool} (h : nextK l z = some s) (hp : p s = true) : nextK (l.filter p) z = some s := by
  unfold nextK at h ⊢
  cases hf : l.find? (fun s => !befZ s.1 z) with
  | some s' =>
    rw [hf] at h
    cases h
    rw [find_filter hf hp]
  | none =>
    rw [hf] at h
    have hn : (l.filter p).find? (fun s => !befZ s.1 z) = none := by
      rw [List.find?_eq_none] at hf ⊢
      intro x hx
      exact hf x (List.mem_filter.1 hx).1
    rw [hn]
    cases l with
    | nil => cases h
    | cons a l =>
      cases h
      simp [hp]
end Go.Proofs.YtnbpmlbhigchnaaGreatDoor
