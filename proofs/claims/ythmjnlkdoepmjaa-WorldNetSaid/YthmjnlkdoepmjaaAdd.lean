/- The disk's add and Append, at whatever disk. Conditions stand with each. -/
import Derived.Test.YthmjnlkdoepmjaaLose
namespace Go.Proofs.Ythmjnlkdoepmjaa
open Go.RowKit

theorem uniq {fs : List FR} (h : fs.Pairwise fun a b => a.n < b.n ∧ a.g ≠ b.g ∧ a.v.ownBlock ≠ b.v.ownBlock) : ∀ a ∈ fs, ∀ b ∈ fs, a.n = b.n → a = b := by
  induction fs with
  | nil => intro a ha; cases ha
  | cons x r ih =>
    obtain ⟨h1, h2⟩ := List.pairwise_cons.1 h
    intro a ha b hb e
    rcases List.mem_cons.1 ha with rfl | ha' <;> rcases List.mem_cons.1 hb with rfl | hb'
    · rfl
    · have := (h1 b hb').1; omega
    · have := (h1 a ha').1; omega
    · exact ih h2 a ha' b hb' e
theorem apart_ne {fs : List FR} (h : fs.Pairwise fun a b => a.n < b.n ∧ a.g ≠ b.g ∧ a.v.ownBlock ≠ b.v.ownBlock) : ∀ a ∈ fs, ∀ b ∈ fs, a.n ≠ b.n → a.g ≠ b.g ∧ a.v.ownBlock ≠ b.v.ownBlock := by
  induction fs with
  | nil => intro a ha; cases ha
  | cons x r ih =>
    obtain ⟨h1, h2⟩ := List.pairwise_cons.1 h
    intro a ha b hb e
    rcases List.mem_cons.1 ha with rfl | ha' <;> rcases List.mem_cons.1 hb with rfl | hb'
    · exact absurd rfl e
    · exact (h1 b hb').2
    · exact ⟨fun e => (h1 a ha').2.1 e.symm, fun e => (h1 a ha').2.2 e.symm⟩
    · exact ih h2 a ha' b hb' e
/-- one file turned -/
def updR (n : Int) (F : FR → FR) (fs : List FR) : List FR := fs.map fun f => if f.n = n then F f else f
def insR (r : FR) : List FR → List FR
  | [] => [r]
  | f :: l => if r.n < f.n then r :: f :: l else f :: insR r l
theorem mem_insR {r x : FR} {l : List FR} : x ∈ insR r l ↔ x = r ∨ x ∈ l := by
  induction l with
  | nil => simp [insR]
  | cons f l ih =>
    unfold insR
    split
    · simp
    · rw [List.mem_cons, ih, List.mem_cons]
      constructor
      · rintro (h | h | h) <;> simp [h]
      · rintro (h | h | h) <;> simp [h]
theorem ins_old {n : Int} {b : List UInt8} {v : Value} {fs : List FR} (h : fs.Pairwise fun a b => a.n < b.n ∧ a.g ≠ b.g ∧ a.v.ownBlock ≠ b.v.ownBlock) (hn : ∃ f ∈ fs, f.n = n) :
    Fl.ins n b (fs.map FR.fl) = (updR n (fun f => ⟨f.n, f.raw ++ b, f.kept, f.g, v⟩) fs).map FR.fl := by
  induction fs with
  | nil => obtain ⟨f, hf, _⟩ := hn; cases hf
  | cons x r ih =>
    obtain ⟨h1, h2⟩ := List.pairwise_cons.1 h
    show (if n < x.n then _ else if x.n = n then _ else _) = FR.fl (if x.n = n then _ else x) :: (updR n _ r).map FR.fl
    by_cases e : x.n = n
    · rw [if_neg (by omega), if_pos e, if_pos e]
      have : updR n (fun f => ⟨f.n, f.raw ++ b, f.kept, f.g, v⟩) r = r := by
        unfold updR
        conv => rhs; rw [← List.map_id r]
        refine List.map_congr_left fun f hf => ?_
        rw [if_neg (by have := (h1 f hf).1; omega)]
        rfl
      rw [this]
      show (⟨n, x.raw ++ b, x.kept⟩ : Fl) :: _ = ⟨x.n, _, _⟩ :: _
      rw [e]
    · have hr : ∃ f ∈ r, f.n = n := by
        obtain ⟨f, hf, hfn⟩ := hn
        rcases List.mem_cons.1 hf with rfl | hf
        · exact absurd hfn e
        · exact ⟨f, hf, hfn⟩
      obtain ⟨f, hf, hfn⟩ := hr
      rw [if_neg (by have := (h1 f hf).1; omega), if_neg e, if_neg e, ih h2 ⟨f, hf, hfn⟩]
theorem ins_new {n : Int} {b : List UInt8} {g : Nat} {v : Value} {fs : List FR} (hn : ∀ f ∈ fs, f.n ≠ n) : Fl.ins n b (fs.map FR.fl) = (insR ⟨n, b, 0, g, v⟩ fs).map FR.fl := by
  induction fs with
  | nil => rfl
  | cons x r ih =>
    show (if n < x.n then _ else if x.n = n then _ else _) = List.map FR.fl (if n < x.n then _ else _)
    by_cases e : n < x.n
    · rw [if_pos e, if_pos e]
      rfl
    · rw [if_neg e, if_neg (hn x (by simp)), if_neg e, ih fun f hf => hn f (by simp [hf])]
      rfl
theorem insE_insR {n : Int} {b : List UInt8} {g : Nat} {v : Value} {fs : List FR} : insE n g (fs.map fun f => (f.n, f.g)) = (insR ⟨n, b, 0, g, v⟩ fs).map fun f => (f.n, f.g) := by
  induction fs with
  | nil => rfl
  | cons x r ih =>
    show (if n < x.n then _ else _) = List.map _ (if n < x.n then _ else _)
    by_cases e : n < x.n
    · rw [if_pos e, if_pos e]
      rfl
    · rw [if_neg e, if_neg e]
      show _ :: insE n g _ = _ :: _
      rw [ih]
theorem pairwise_insR {r : FR} {fs : List FR} (h : fs.Pairwise fun a b => a.n < b.n ∧ a.g ≠ b.g ∧ a.v.ownBlock ≠ b.v.ownBlock) (hn : ∀ f ∈ fs, f.n ≠ r.n ∧ f.g ≠ r.g ∧ f.v.ownBlock ≠ r.v.ownBlock) : (insR r fs).Pairwise fun a b => a.n < b.n ∧ a.g ≠ b.g ∧ a.v.ownBlock ≠ b.v.ownBlock := by
  induction fs with
  | nil => exact List.pairwise_singleton _ _
  | cons x l ih =>
    obtain ⟨h1, h2⟩ := List.pairwise_cons.1 h
    obtain ⟨n1, n2, n3⟩ := hn x (by simp)
    unfold insR
    by_cases e : r.n < x.n
    · rw [if_pos e]
      refine List.pairwise_cons.2 ⟨fun f hf => ?_, h⟩
      have := hn f hf
      refine ⟨?_, fun e => this.2.1 e.symm, fun e => this.2.2 e.symm⟩
      rcases List.mem_cons.1 hf with rfl | hf
      · exact e
      · have := (h1 f hf).1; omega
    · rw [if_neg e]
      refine List.pairwise_cons.2 ⟨fun f hf => ?_, ih h2 fun f hf => hn f (by simp [hf])⟩
      rcases mem_insR.1 hf with rfl | hf
      · exact ⟨by omega, n2, n3⟩
      · exact h1 f hf

theorem DK.ready {w : World} {bd bm : Nat} {fv : Value} {fs : List FR} {d : Dk} (h : DK w bd bm fv fs d) {n : Int} {f : FR} (hf : fs.find? (fun f => decide (f.n = n)) = some f) : Ready w bd bm n f.g f.v f.raw f.kept :=
  ⟨⟨_, h.blk, rfl⟩, ⟨_, h.map, entV_some hf⟩, (h.file f (find_mem hf).1).blk, (h.file f (find_mem hf).1).row⟩

def AddEnd (w : World) (bd bm : Nat) (fv : Value) (fs : List FR) (d : Dk) (n : Int) (xs : List UInt8) (e : Ending) (w' : World) : Prop :=
  e = .returned (.tuple #[]) ∧ Touch (fun k => k = bm ∨ ∃ f ∈ fs, k = f.g ∨ f.v.ownBlock = some k) w w' ∧ ∃ fs', DK w' bd bm fv fs' { d with fs := Fl.add n xs d.fs } ∧ ∀ k, foot bd bm fv fs' k → foot bd bm fv fs k ∨ w.heap.size ≤ k

theorem add_any (w : World) (bd bm : Nat) (fv : Value) (fs : List FR) (d : Dk) (n : Int) (A : Option Addr) (m c : Nat) (xs : List UInt8) (h : DK w bd bm fv fs d) (hn : (Lit.int .i64 n).wf = true) (hx : Bs w A m c xs) (hxb : ∀ a, A = some a → 0 < m → ¬ foot bd bm fv fs a.block ∧ a.block < w.heap.size)
    (hb : ∀ f ∈ fs, f.raw.length + xs.length ≤ 140737488355000) (hb0 : xs.length ≤ 140737488355000) (hfl : fs.length < maxLen) :
    Calls Try.prog 51 #[.pointer (some ⟨bd, 0, none⟩), .int .i64 n, .slice A m c] w (AddEnd w bd bm fv fs d n xs) := by
  by_cases h0 : xs = []
  · have hm : m = 0 := by have := hx.1; rw [h0] at this; exact this.symm
    subst hm
    have H := Lib.hid h; have H0 := Lib.hid h0
    clear h h0 hx hxb hb hb0
    go_enter Try.func51, Try.ntmps51
    go_wp2_with fail
    go_end0
    refine ⟨rfl, Touch.refl _ _, fs, ?_, fun _ h => .inl h⟩
    rw [H0.out, show Fl.add n [] d.fs = d.fs from if_pos rfl]
    exact H.out
  · have hadd : Fl.add n xs d.fs = Fl.ins n xs (fs.map FR.fl) := by rw [← h.fls]; exact if_neg h0
    cases hf : fs.find? (fun f => decide (f.n = n)) with
    | some f =>
      obtain ⟨hfm, hfn⟩ := find_mem hf
      refine (add_old w bd bm n f.g f.v f.raw f.kept A m c xs (h.ready hf) hn hx h0 (hb f hfm)).mono fun e w' ⟨he, ht, v', hblk, hrow, hv'⟩ => ?_
      have htS : Touch (fun k => k = bm ∨ ∃ f ∈ fs, k = f.g ∨ f.v.ownBlock = some k) w w' := ht.mono fun k _ hk => .inr ⟨f, hfm, hk⟩
      have hne : ∀ f' ∈ fs, f'.n ≠ n → f'.g ≠ f.g ∧ f'.v.ownBlock ≠ f.v.ownBlock := fun f' hf' hn' => apart_ne h.apart f' hf' f hfm (by rw [hfn]; exact hn')
      refine ⟨he, htS, updR n (fun f => ⟨f.n, f.raw ++ xs, f.kept, f.g, v'⟩) fs, ⟨hadd.trans (ins_old h.apart ⟨f, hfm, hfn⟩), ?_, ?_, ?_, ?_, ?_⟩, ?_⟩
      · exact h.blk.touch ht (by
          rintro (e | e)
          · exact h.blk.ne_ (h.file f hfm).blk (by decide) e
          · exact Own.ne_blk (h.file f hfm).row h.blk (by decide) e)
      · have : (updR n (fun f => ⟨f.n, f.raw ++ xs, f.kept, f.g, v'⟩) fs).map (fun f => (f.n, f.g)) = fs.map fun f => (f.n, f.g) := by
          unfold updR
          rw [List.map_map]
          refine List.map_congr_left fun f' _ => ?_
          simp only [Function.comp]
          split <;> rfl
        rw [this]
        refine h.map.heap (ht.block _ h.map.lt ?_)
        rintro (e | e)
        · exact h.map.ne_blk (h.file f hfm).blk e
        · exact h.map.ne_own (h.file f hfm).row e
      · exact h.flt.touch ht (by
          rintro k hk (e | e)
          · exact h.flt.ne_blk (h.file f hfm).blk (by decide) (by rw [hk, e])
          · exact Own.ne_own h.flt (h.file f hfm).row (by decide) k hk e)
      · intro f' hf'
        obtain ⟨f0, hf0, rfl⟩ := List.mem_map.1 hf'
        by_cases e0 : f0.n = n
        · rw [if_pos e0]
          have : f0 = f := uniq h.apart f0 hf0 f hfm (by rw [e0, hfn])
          subst this
          exact ⟨hblk, hrow, by have := (h.file f0 hfm).le; show f0.kept ≤ (f0.raw ++ xs).length; rw [List.length_append]; omega, by show f0.raw ++ xs ≠ []; simp [h0], (h.file f0 hfm).key⟩
        · rw [if_neg e0]
          obtain ⟨n1, n2⟩ := hne f0 hf0 e0
          refine (h.file f0 hf0).heap (ht.block _ (h.file f0 hf0).blk.lt ?_) fun k hk => ht.block _ (Own.lt (h.file f0 hf0).row k hk) ?_
          · rintro (e | e)
            · exact n1 e
            · exact Own.ne_blk (h.file f hfm).row (h.file f0 hf0).blk (by decide) e
          · rintro (e | e)
            · exact Own.ne_blk (h.file f0 hf0).row (h.file f hfm).blk (by decide) (by rw [hk, e])
            · exact n2 (hk.trans e.symm)
      · refine List.pairwise_map.2 (h.apart.imp_of_mem fun {a b} ha hb' ⟨q1, q2, q3⟩ => ?_)
        have hlt : ∀ x ∈ fs, x.v.ownBlock ≠ some w.heap.size := fun x hx e => Nat.lt_irrefl _ (Own.lt (h.file x hx).row _ e)
        by_cases ea : a.n = n
        · have : a = f := uniq h.apart a ha f hfm (by rw [ea, hfn])
          subst this
          rw [if_pos ea, if_neg (by omega)]
          refine ⟨q1, q2, ?_⟩
          rcases hv' with e | e
          · show v'.ownBlock ≠ _; rw [e]; exact q3
          · show v'.ownBlock ≠ _; rw [e]; exact fun e => hlt b hb' e.symm
        · rw [if_neg ea]
          by_cases eb : b.n = n
          · have : b = f := uniq h.apart b hb' f hfm (by rw [eb, hfn])
            subst this
            rw [if_pos eb]
            refine ⟨q1, q2, ?_⟩
            rcases hv' with e | e
            · show _ ≠ v'.ownBlock; rw [e]; exact q3
            · show _ ≠ v'.ownBlock; rw [e]; exact hlt a ha
          · rw [if_neg eb]
            exact ⟨q1, q2, q3⟩
      · rintro k (e | e | e | ⟨f', hf', e⟩)
        · exact .inl (.inl e)
        · exact .inl (.inr (.inl e))
        · exact .inl (.inr (.inr (.inl e)))
        · obtain ⟨f0, hf0, rfl⟩ := List.mem_map.1 hf'
          by_cases e0 : f0.n = n
          · rw [if_pos e0] at e
            have : f0 = f := uniq h.apart f0 hf0 f hfm (by rw [e0, hfn])
            subst this
            rcases e with e | e
            · exact .inl (.inr (.inr (.inr ⟨f0, hf0, .inl e⟩)))
            · have e : v'.ownBlock = some k := e
              rcases hv' with e2 | e2
              · exact .inl (.inr (.inr (.inr ⟨f0, hf0, .inr (e2.symm.trans e)⟩)))
              · rw [e] at e2
                injection e2 with e2
                exact .inr (Nat.le_of_eq e2.symm)
          · rw [if_neg e0] at e
            exact .inl (.inr (.inr (.inr ⟨f0, hf0, e⟩)))
    | none =>
      have hno : ∀ f ∈ fs, f.n ≠ n := fun f hf' => by have := List.find?_eq_none.1 hf f hf'; simpa using this
      have hfil : (fs.map fun f => (f.n, f.g)).filter (fun p => decide (p.1 ≠ n)) = fs.map fun f => (f.n, f.g) := by
        refine List.filter_eq_self.2 fun p hp => ?_
        obtain ⟨f, hf', rfl⟩ := List.mem_map.1 hp
        simpa using hno f hf'
      refine (add_new w bd bm n _ _ A m c xs h.blk rfl h.map (entV_none hf) (by rw [List.length_map]; exact hfl) hn hx (fun a ha => by
        have hm0 : 0 < m := by have := hx.1; have := List.length_pos_iff.2 h0; omega
        exact ⟨fun e => (hxb a ha hm0).1 (.inr (.inl e)), (hxb a ha hm0).2⟩) h0 hb0).mono fun e w' ⟨he, w2, him, hg, ht, v', hblk, hrow, hv'⟩ => ?_
      rw [hfil] at him
      have hT2 : Touch (fun k => k = bm) w w2 := ((Touch.refl _ w).alloc _).grown hg fun k hk => .inr (by injection hk with hk; exact hk.symm)
      have hs2 : w.heap.size < w2.heap.size := by have := hg.size; rw [alloc_size] at this; omega
      have hT : Touch (fun k => k = bm) w w' := hT2.trans ht (by
        rintro k hk (e | e)
        · omega
        · cases e)
      have hvlt : ∀ k, v'.ownBlock = some k → w.heap.size < k := fun k hk => by
        rcases hv' with e | e
        · rw [hk] at e; cases e
        · rw [hk] at e; injection e with e; omega
      rw [List.nil_append] at hrow
      have hbm : ∀ f ∈ fs, FileAt w' f := fun f hf' => (h.file f hf').heap (hT.block _ (h.file f hf').blk.lt fun e => h.map.ne_blk (h.file f hf').blk e.symm) fun k hk => hT.block _ (Own.lt (h.file f hf').row k hk) fun e => h.map.ne_own (h.file f hf').row (by rw [hk, e])
      refine ⟨he, hT.mono fun k _ hk => .inl hk, insR ⟨n, xs, 0, w.heap.size, v'⟩ fs, ⟨hadd.trans (ins_new hno), ?_, ?_, ?_, ?_, ?_⟩, ?_⟩
      · exact h.blk.touch hT fun e => h.map.ne_blk h.blk e.symm
      · rw [← insE_insR]
        exact him.heap (ht.block _ him.lt (by
          rintro (e | e)
          · have := h.map.lt; omega
          · cases e))
      · exact h.flt.touch hT fun k hk e => h.map.ne_own h.flt (by rw [hk, e])
      · intro f hf'
        rcases mem_insR.1 hf' with rfl | hf'
        · exact ⟨hblk, hrow, Nat.zero_le _, h0, hn⟩
        · exact hbm f hf'
      · refine pairwise_insR h.apart fun f hf' => ⟨hno f hf', fun e => ?_, fun e => ?_⟩
        · have := (h.file f hf').blk.lt
          have e : f.g = w.heap.size := e
          omega
        · have e : f.v.ownBlock = v'.ownBlock := e
          obtain ⟨b, c', hv, _⟩ := (h.file f hf').addr
          have hk : f.v.ownBlock = some b := by rw [hv]; rfl
          have h1 := Own.lt (h.file f hf').row b hk
          have h2 := hvlt b (e.symm.trans hk)
          omega
      · rintro k (e | e | e | ⟨f', hf', e⟩)
        · exact .inl (.inl e)
        · exact .inl (.inr (.inl e))
        · exact .inl (.inr (.inr (.inl e)))
        · rcases mem_insR.1 hf' with rfl | hf'
          · rcases e with e | e
            · exact .inr (Nat.le_of_eq e.symm)
            · have := hvlt k e
              exact .inr (by omega)
          · exact .inl (.inr (.inr (.inr ⟨f', hf', e⟩)))
end Go.Proofs.Ythmjnlkdoepmjaa
