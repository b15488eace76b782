/- The wal claims' texts, several in one: Nic. Conditions stand with each theorem. -/
import Derived.Test.YtlcmnihpfpmajaaGreatZa20
/- The plain law of opening a log: what its walk asks of the bytes follows from the files' shape. No program is in sight here. -/
namespace Go.Proofs.YtlcmnihpfpmajaaGreat
/-- what a file must hold for its head's numbers to be an int's -/
def Sane (raw : List UInt8) : Prop := ∀ p k, Enc.unframe raw = some (p, k) → p.length = 49 → (p.headD 0 = 104 ∨ p.headD 0 = 119) → big6 p = false
/-- what is read of a segment's numbers is an int's -/
def NiceB (raw : List UInt8) (counts : Nat) : Nat → RS → Prop
  | 0, _ => True
  | n + 1, s => s.c.next ≤ 900000000 ∧ (∀ p k, Enc.unframe (raw.drop s.size) = some (p, k) → s.size + k ≤ counts → p.length = 9 → stepB raw counts s ≠ none → num p 0 ≤ 900000000) ∧ ∀ s', stepB raw counts s = some s' → NiceB raw counts n s'
/-- what replay may read of all segments -/
def NiceAll (fs : List Fl) : Ct → List Seg → Prop
  | _, [] => True
  | c, s :: r => (s.file < 9223372036854775808 ∧ s.first ≤ 900000000 ∧ s.next ≤ 900000000) ∧ s.size ≤ (keptB fs s.file).length ∧ countsOf r ≤ 4611686018427387904 ∧ c.next ≤ 900000000 ∧
    NiceB (keptB fs s.file) (countsOf r) ((keptB fs s.file).length + 1) ⟨startS s c, s.last, s.size⟩ ∧ NiceAll fs (replayP fs c s (countsOf r)).1 r
theorem num_one {k : UInt8} {n : Nat} (h : n ≤ 900000000) : num (metaP k [n]) 0 ≤ 900000000 := by rw [num_meta k [n] 0 n rfl (by omega)]; exact h
theorem nice_items {T : List UInt8} {counts : Nat} : ∀ (l : List It) (pre : List UInt8) (c : Ct) (last fuel : Nat), (∀ a ∈ l, a.fine) → GoodIts c.next l → last = c.next → (pre ++ encs l).length ≤ counts → (Dead T ∨ counts < (pre ++ encs l).length + 8) →
    NiceB (pre ++ (encs l ++ T)) counts fuel ⟨c, last, pre.length⟩
  | _, _, _, _, 0, _, _, _, _, _ => trivial
  | [], pre, c, last, f + 1, _, hg, _, h1, h2 => by
    have h0 : pre ++ (encs [] ++ T) = pre ++ T := by simp [encs]
    have h3 : (pre ++ encs []).length = pre.length := by simp [encs]
    rw [h3] at h1 h2
    rw [h0]
    have hn : stepB (pre ++ T) counts ⟨c, last, pre.length⟩ = none := by
      rcases h2 with h2 | h2
      · exact dead_step h2 rfl
      · exact full_step rfl h2
    exact ⟨hg, fun p k _ _ _ hne => absurd hn hne, fun s' hs => by rw [hn] at hs; cases hs⟩
  | a :: l, pre, c, last, f + 1, hfi, hg, hl, h1, h2 => by
    have e0 : pre ++ (encs (a :: l) ++ T) = pre ++ (a.enc ++ (encs l ++ T)) := by rw [encs_cons, List.append_assoc]
    have e1 : (pre ++ encs (a :: l)).length = ((pre ++ a.enc) ++ encs l).length := by rw [encs_cons, List.append_assoc]
    rw [e1] at h1 h2
    have ha := hfi a (List.mem_cons_self ..)
    have hlen : pre.length + a.enc.length ≤ counts := by simp only [List.length_append] at h1; omega
    have hle := goodIts_le _ _ hg
    rw [e0]
    have hstep : GoodIts (c.item a).next l ∧ a.lastOf (c.item a).next last = (c.item a).next := by
      cases a with
      | put i b =>
        have e : c.item (.put i b) = c.add b := if_pos hg.1
        rw [e, Ct.next_add]
        exact ⟨hg.2, rfl⟩
      | cut m =>
        have e : (c.item (.cut m)).next = c.next := Ct.next_cut hg.1
        rw [e]
        exact ⟨hg.2, hl⟩
    have ih := nice_items l (pre ++ a.enc) (c.item a) _ f (fun b hb => hfi b (List.mem_cons_of_mem _ hb)) hstep.1 hstep.2 h1 h2
    rw [List.append_assoc, List.length_append] at ih
    refine ⟨by dsimp only; omega, fun p k hu _ _ _ => ?_, fun s' hs => ?_⟩
    · dsimp only at hu
      rw [List.drop_left' rfl] at hu
      cases a with
      | put i b =>
        have hi : i = c.next := hg.1
        simp only [It.enc, metaF, List.append_assoc] at hu
        rw [Enc.unframe_of (by rw [metaP_len]; simp)] at hu
        injection hu with hu
        injection hu with hu _
        rw [← hu]
        exact num_one (by omega)
      | cut m =>
        have hi : m ≤ c.next := hg.1
        simp only [It.enc, metaF] at hu
        rw [Enc.unframe_of (by rw [metaP_len]; simp)] at hu
        injection hu with hu
        injection hu with hu _
        rw [← hu]
        exact num_one (by omega)
    · rw [item_step ha rfl hlen] at hs
      injection hs with hs
      rw [← hs]
      exact ih
section
variable {fs : List Fl} {base : Nat} {ss : List AS} {c : Ct} {A : Ct → Prop}
theorem Shape.sane (h : Shape fs base ss c A) {f : Fl} (hf : f ∈ fs) (hr : inR base f = true) : Sane f.good := by
  intro p k hu hl hh
  cases hb : big6 p with
  | false => rfl
  | true =>
    have he : begunP f.good = some ⟨0, 0, 0, 0, false, 0⟩ := by
      unfold begunP
      rw [hu]
      dsimp only
      rw [if_neg (fun hn => hn ⟨hl, hh⟩), if_pos hb]
    rcases h.seen hf hr with ⟨h1, _⟩ | ⟨a, _, _, _, h1⟩
    · rw [he] at h1; cases h1
    · rw [he] at h1
      injection h1 with h1
      have h2 : (0 : Nat) = 57 := congrArg Hd.size h1
      omega
theorem Shape.numbers (h : Shape fs base ss c A) : ((found fs base).map Seg.number).Nodup := by
  refine (h.founds.map Seg.number).nodup_iff.2 ?_
  rw [List.map_map]
  refine List.pairwise_map.2 (h.chain.rise.imp fun {a b} hab => ?_)
  show a.number ≠ b.number
  omega
theorem AS.fine.le_ {a : AS} (h : a.fine) : a.first ≤ a.next ∧ a.next ≤ a.stop ∧ a.stop ≤ 900000000 := ⟨h.le, goodIts_le _ _ h.good⟩
theorem nice_all : ∀ {ss : List AS} {c : Ct}, Chain ss → (∀ a ∈ ss, a.fine) → (∀ a ∈ ss, a.bytes.length ≤ 1099511627776) → (∀ a ∈ ss, a.file < 9223372036854775808) → (∀ a ∈ ss, ∃ junk, keptB fs a.file = a.bytes ++ junk) →
    (∀ ss0 a, ss = ss0 ++ [a] → ∃ junk, keptB fs a.file = a.bytes ++ junk ∧ Dead junk) → (∀ a, ss.head? = some a → a.whole = true ∨ c.next ≤ a.next) → c.next ≤ 900000000 →
    NiceAll fs c (ss.map fun a => a.hd.seg a.file)
  | [], _, _, _, _, _, _, _, _, _ => trivial
  | a :: r, c, hch, hfi, hsz, hfl, hk, hl, hc, hcn => by
    have hst : startS (a.hd.seg a.file) c = a.start c := rfl
    have hfa := hfi a (List.mem_cons_self ..)
    have hca := hc a rfl
    have hle := hfa.le_
    have hsn := start_next hfa.le hca
    have hsza := hsz a (by simp)
    have hil : ∃ junk, keptB fs a.file = a.bytes ++ junk ∧ a.bytes.length ≤ countsOf (r.map fun a => a.hd.seg a.file) ∧ countsOf (r.map fun a => a.hd.seg a.file) ≤ 1099511627776 ∧ (Dead junk ∨ countsOf (r.map fun a => a.hd.seg a.file) < a.bytes.length + 8) := by
      cases r with
      | nil =>
        obtain ⟨junk, h1, h2⟩ := hl [] a rfl
        exact ⟨junk, h1, hsza, Nat.le_refl _, .inl h2⟩
      | cons b r =>
        obtain ⟨junk, h1⟩ := hk a (by simp)
        have hcn : countsOf ((b :: r).map fun a => a.hd.seg a.file) = a.bytes.length := hch.1.ahead
        exact ⟨junk, h1, by omega, by omega, .inr (by omega)⟩
    obtain ⟨junk, h1, h2, h3, h4⟩ := hil
    have e : a.bytes ++ junk = a.head ++ (encs a.items ++ junk) := by unfold AS.bytes; rw [List.append_assoc]
    have hb : a.head ++ encs a.items = a.bytes := rfl
    have hone : replayP fs c (a.hd.seg a.file) (countsOf (r.map fun a => a.hd.seg a.file)) = (AS.play c a, a.seg a.stop) := by
      unfold replayP
      rw [hst]
      have : playB (keptB fs ((a.hd.seg a.file).file : Nat)) (countsOf (r.map fun a => a.hd.seg a.file)) ((keptB fs ((a.hd.seg a.file).file : Nat)).length + 1) ⟨a.start c, (a.hd.seg a.file).last, (a.hd.seg a.file).size⟩ = ⟨AS.play c a, a.stop, a.bytes.length⟩ := by
        rw [show keptB fs ((a.hd.seg a.file).file : Nat) = a.bytes ++ junk from h1]
        exact replay_of hfa hca h2 h4
      rw [this]
      rfl
    have hpn := play_next hfa hca
    have ih := nice_all (ss := r) (c := AS.play c a) hch.tail (fun x hx => hfi x (List.mem_cons_of_mem _ hx)) (fun x hx => hsz x (List.mem_cons_of_mem _ hx)) (fun x hx => hfl x (List.mem_cons_of_mem _ hx)) (fun x hx => hk x (List.mem_cons_of_mem _ hx))
      (fun l x e => hl (a :: l) x (by rw [e]; rfl)) (fun x hx => by
        cases r with
        | nil => cases hx
        | cons b r =>
          injection hx with hx
          subst hx
          rcases hch.1.next with h1 | h1
          · exact .inl h1
          · exact .inr (by rw [hpn, h1]; exact Nat.le_refl _)) (by omega)
    rw [List.map_cons]
    unfold NiceAll
    rw [hone, hst]
    refine ⟨⟨hfl a (by simp), by show a.first ≤ _; omega, by show a.next ≤ _; omega⟩, ?_, by omega, hcn, ?_, ih⟩
    · show 57 ≤ (keptB fs a.file).length
      rw [h1, e, List.length_append, AS.head_len]
      omega
    · show NiceB (keptB fs a.file) _ ((keptB fs a.file).length + 1) ⟨a.start c, a.next, 57⟩
      rw [h1, e]
      have := nice_items (T := junk) (counts := countsOf (r.map fun a => a.hd.seg a.file)) a.items a.head (a.start c) a.next ((a.head ++ (encs a.items ++ junk)).length + 1) hfa.its (by rw [hsn]; exact hfa.good) hsn.symm (by rw [hb]; exact h2) (by rw [hb]; exact h4)
      rw [AS.head_len] at this
      exact this
theorem Shape.nice (h : Shape fs base ss c A) (hb : base ≤ 16777216) (hr : ∀ f ∈ fs, f.raw.length ≤ 1099511627776) : NiceAll fs ⟨0, []⟩ (sortS (found fs base)) := by
  have hs : sortS (found fs base) = ss.map fun a => a.hd.seg a.file := by
    refine sort_seg h.founds ?_
    rw [List.pairwise_map]
    exact h.chain.rise
  rw [hs]
  refine nice_all h.chain h.fine (h.small hr) (fun a ha => by have := h.range a ha; omega) (fun a ha => ?_) (fun ss0 a e => ?_) (fun a _ => .inr (Nat.zero_le _)) (Nat.zero_le _)
  · obtain ⟨f, junk, h1, h2⟩ := h.held a ha
    exact ⟨junk, by rw [keptB_of h1]; exact h2⟩
  · obtain ⟨f, _, h1, _⟩ := h.held a (by rw [e]; simp)
    obtain ⟨junk, h2, h3, _⟩ := h.tail ss0 a e f h1
    exact ⟨junk, by rw [keptB_of h1]; exact h2, h3⟩
end
end Go.Proofs.YtlcmnihpfpmajaaGreat
