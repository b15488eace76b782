/- The wal claims' texts, several in one: Add, Append. Conditions stand with each theorem. -/
import Derived.Test.YtlcmnihpfpmajaaGreatZa07
/- The disk's add and Append, at whatever disk. Conditions stand with each. -/
namespace Go.Proofs.YtlcmnihpfpmajaaGreat
open Go.RowKit

theorem uniq {fs : List FR} (h : fs.Pairwise fun a b => a.n < b.n ∧ a.g ≠ b.g ∧ a.v.ownBlock ≠ b.v.ownBlock) : ∀ a ∈ fs, ∀ b ∈ fs, a.n = b.n → a = b := by
  induction fs with
  | nil => intro a ha; cases ha
  | cons x r ih =>
    obtain ⟨h1, h2⟩ := List.pairwise_cons.1 h
    intro a ha b hb e
    rcases List.mem_cons.1 ha with rfl | ha' <;> rcases List.mem_cons.1 hb with rfl | hb'
    · rfl
    · have := (h1 b hb').1; omega
    · have := (h1 a ha').1; omega
    · exact ih h2 a ha' b hb' e
theorem apart_ne {fs : List FR} (h : fs.Pairwise fun a b => a.n < b.n ∧ a.g ≠ b.g ∧ a.v.ownBlock ≠ b.v.ownBlock) : ∀ a ∈ fs, ∀ b ∈ fs, a.n ≠ b.n → a.g ≠ b.g ∧ a.v.ownBlock ≠ b.v.ownBlock := by
  induction fs with
  | nil => intro a ha; cases ha
  | cons x r ih =>
    obtain ⟨h1, h2⟩ := List.pairwise_cons.1 h
    intro a ha b hb e
    rcases List.mem_cons.1 ha with rfl | ha' <;> rcases List.mem_cons.1 hb with rfl | hb'
    · exact absurd rfl e
    · exact (h1 b hb').2
    · exact ⟨fun e => (h1 a ha').2.1 e.symm, fun e => (h1 a ha').2.2 e.symm⟩
    · exact ih h2 a ha' b hb' e
/-- one file turned -/
def updR (n : Int) (F : FR → FR) (fs : List FR) : List FR := fs.map fun f => if f.n = n then F f else f
def insR (r : FR) : List FR → List FR
  | [] => [r]
  | f :: l => if r.n < f.n then r :: f :: l else f :: insR r l
theorem mem_insR {r x : FR} {l : List FR} : x ∈ insR r l ↔ x = r ∨ x ∈ l := by
  induction l with
  | nil => simp [insR]
  | cons f l ih =>
    unfold insR
    split
    · simp
    · rw [List.mem_cons, ih, List.mem_cons]
      constructor
      · rintro (h | h | h) <;> simp [h]
      · rintro (h | h | h) <;> simp [h]
theorem ins_old {n : Int} {b : List UInt8} {v : Value} {fs : List FR} (h : fs.Pairwise fun a b => a.n < b.n ∧ a.g ≠ b.g ∧ a.v.ownBlock ≠ b.v.ownBlock) (hn : ∃ f ∈ fs, f.n = n) :
    Fl.ins n b (fs.map FR.fl) = (updR n (fun f => ⟨f.n, f.raw ++ b, f.kept, f.g, v⟩) fs).map FR.fl := by
  induction fs with
  | nil => obtain ⟨f, hf, _⟩ := hn; cases hf
  | cons x r ih =>
    obtain ⟨h1, h2⟩ := List.pairwise_cons.1 h
    show (if n < x.n then _ else if x.n = n then _ else _) = FR.fl (if x.n = n then _ else x) :: (updR n _ r).map FR.fl
    by_cases e : x.n = n
    · rw [if_neg (by omega), if_pos e, if_pos e]
      have : updR n (fun f => ⟨f.n, f.raw ++ b, f.kept, f.g, v⟩) r = r := by
        unfold updR
        conv => rhs; rw [← List.map_id r]
        refine List.map_congr_left fun f hf => ?_
        rw [if_neg (by have := (h1 f hf).1; omega)]
        rfl
      rw [this]
      show (⟨n, x.raw ++ b, x.kept⟩ : Fl) :: _ = ⟨x.n, _, _⟩ :: _
      rw [e]
    · have hr : ∃ f ∈ r, f.n = n := by
        obtain ⟨f, hf, hfn⟩ := hn
        rcases List.mem_cons.1 hf with rfl | hf
        · exact absurd hfn e
        · exact ⟨f, hf, hfn⟩
      obtain ⟨f, hf, hfn⟩ := hr
      rw [if_neg (by have := (h1 f hf).1; omega), if_neg e, if_neg e, ih h2 ⟨f, hf, hfn⟩]
theorem ins_new {n : Int} {b : List UInt8} {g : Nat} {v : Value} {fs : List FR} (hn : ∀ f ∈ fs, f.n ≠ n) : Fl.ins n b (fs.map FR.fl) = (insR ⟨n, b, 0, g, v⟩ fs).map FR.fl := by
  induction fs with
  | nil => rfl
  | cons x r ih =>
    show (if n < x.n then _ else if x.n = n then _ else _) = List.map FR.fl (if n < x.n then _ else _)
    by_cases e : n < x.n
    · rw [if_pos e, if_pos e]
      rfl
    · rw [if_neg e, if_neg (hn x (by simp)), if_neg e, ih fun f hf => hn f (by simp [hf])]
      rfl
theorem insE_insR {n : Int} {b : List UInt8} {g : Nat} {v : Value} {fs : List FR} : insE n g (fs.map fun f => (f.n, f.g)) = (insR ⟨n, b, 0, g, v⟩ fs).map fun f => (f.n, f.g) := by
  induction fs with
  | nil => rfl
  | cons x r ih =>
    show (if n < x.n then _ else _) = List.map _ (if n < x.n then _ else _)
    by_cases e : n < x.n
    · rw [if_pos e, if_pos e]
      rfl
    · rw [if_neg e, if_neg e]
      show _ :: insE n g _ = _ :: _
      rw [ih]
theorem pairwise_insR {r : FR} {fs : List FR} (h : fs.Pairwise fun a b => a.n < b.n ∧ a.g ≠ b.g ∧ a.v.ownBlock ≠ b.v.ownBlock) (hn : ∀ f ∈ fs, f.n ≠ r.n ∧ f.g ≠ r.g ∧ f.v.ownBlock ≠ r.v.ownBlock) : (insR r fs).Pairwise fun a b => a.n < b.n ∧ a.g ≠ b.g ∧ a.v.ownBlock ≠ b.v.ownBlock := by
  induction fs with
  | nil => exact List.pairwise_singleton _ _
  | cons x l ih =>
    obtain ⟨h1, h2⟩ := List.pairwise_cons.1 h
    obtain ⟨n1, n2, n3⟩ := hn x (by simp)
    unfold insR
    by_cases e : r.n < x.n
    · rw [if_pos e]
      refine List.pairwise_cons.2 ⟨fun f hf => ?_, h⟩
      have := hn f hf
      refine ⟨?_, fun e => this.2.1 e.symm, fun e => this.2.2 e.symm⟩
      rcases List.mem_cons.1 hf with rfl | hf
      · exact e
      · have := (h1 f hf).1; omega
    · rw [if_neg e]
      refine List.pairwise_cons.2 ⟨fun f hf => ?_, ih h2 fun f hf => hn f (by simp [hf])⟩
      rcases mem_insR.1 hf with rfl | hf
      · exact ⟨by omega, n2, n3⟩
      · exact h1 f hf

theorem DK.ready {w : World} {bd bm : Nat} {fv : Value} {fs : List FR} {d : Dk} (h : DK w bd bm fv fs d) {n : Int} {f : FR} (hf : fs.find? (fun f => decide (f.n = n)) = some f) : Ready w bd bm n f.g f.v f.raw f.kept :=
  ⟨⟨_, h.blk, rfl⟩, ⟨_, h.map, entV_some hf⟩, (h.file f (find_mem hf).1).blk, (h.file f (find_mem hf).1).row⟩

def AddEnd (w : World) (bd bm : Nat) (fv : Value) (fs : List FR) (d : Dk) (n : Int) (xs : List UInt8) (e : Ending) (w' : World) : Prop :=
  e = .returned (.tuple #[]) ∧ Touch (fun k => k = bm ∨ ∃ f ∈ fs, k = f.g ∨ f.v.ownBlock = some k) w w' ∧ ∃ fs', DK w' bd bm fv fs' { d with fs := Fl.add n xs d.fs } ∧ ∀ k, foot bd bm fv fs' k → foot bd bm fv fs k ∨ w.heap.size ≤ k

theorem add_any (w : World) (bd bm : Nat) (fv : Value) (fs : List FR) (d : Dk) (n : Int) (A : Option Addr) (m c : Nat) (xs : List UInt8) (h : DK w bd bm fv fs d) (hn : (Lit.int .i64 n).wf = true) (hx : Bs w A m c xs) (hxb : ∀ a, A = some a → 0 < m → ¬ foot bd bm fv fs a.block ∧ a.block < w.heap.size)
    (hb : ∀ f ∈ fs, f.raw.length + xs.length ≤ 140737488355000) (hb0 : xs.length ≤ 140737488355000) (hfl : fs.length < maxLen) :
    Calls Tryz.prog 94 #[.pointer (some ⟨bd, 0, none⟩), .int .i64 n, .slice A m c] w (AddEnd w bd bm fv fs d n xs) := by
  by_cases h0 : xs = []
  · have hm : m = 0 := by have := hx.1; rw [h0] at this; exact this.symm
    subst hm
    have H := Lib.hid h; have H0 := Lib.hid h0
    clear h h0 hx hxb hb hb0
    go_enter Tryz.func94, Tryz.ntmps94
    go_wp2_with fail
    go_end0
    refine ⟨rfl, Touch.refl _ _, fs, ?_, fun _ h => .inl h⟩
    rw [H0.out, show Fl.add n [] d.fs = d.fs from if_pos rfl]
    exact H.out
  · have hadd : Fl.add n xs d.fs = Fl.ins n xs (fs.map FR.fl) := by rw [← h.fls]; exact if_neg h0
    cases hf : fs.find? (fun f => decide (f.n = n)) with
    | some f =>
      obtain ⟨hfm, hfn⟩ := find_mem hf
      refine (add_old w bd bm n f.g f.v f.raw f.kept A m c xs (h.ready hf) hn hx h0 (hb f hfm)).mono fun e w' ⟨he, ht, v', hblk, hrow, hv'⟩ => ?_
      have htS : Touch (fun k => k = bm ∨ ∃ f ∈ fs, k = f.g ∨ f.v.ownBlock = some k) w w' := ht.mono fun k _ hk => .inr ⟨f, hfm, hk⟩
      have hne : ∀ f' ∈ fs, f'.n ≠ n → f'.g ≠ f.g ∧ f'.v.ownBlock ≠ f.v.ownBlock := fun f' hf' hn' => apart_ne h.apart f' hf' f hfm (by rw [hfn]; exact hn')
      refine ⟨he, htS, updR n (fun f => ⟨f.n, f.raw ++ xs, f.kept, f.g, v'⟩) fs, ⟨hadd.trans (ins_old h.apart ⟨f, hfm, hfn⟩), ?_, ?_, ?_, ?_, ?_⟩, ?_⟩
      · exact h.blk.touch ht (by
          rintro (e | e)
          · exact h.blk.ne_ (h.file f hfm).blk (by decide) e
          · exact Own.ne_blk (h.file f hfm).row h.blk (by decide) e)
      · have : (updR n (fun f => ⟨f.n, f.raw ++ xs, f.kept, f.g, v'⟩) fs).map (fun f => (f.n, f.g)) = fs.map fun f => (f.n, f.g) := by
          unfold updR
          rw [List.map_map]
          refine List.map_congr_left fun f' _ => ?_
          simp only [Function.comp]
          split <;> rfl
        rw [this]
        refine h.map.heap (ht.block _ h.map.lt ?_)
        rintro (e | e)
        · exact h.map.ne_blk (h.file f hfm).blk e
        · exact h.map.ne_own (h.file f hfm).row e
      · exact h.flt.touch ht (by
          rintro k hk (e | e)
          · exact h.flt.ne_blk (h.file f hfm).blk (by decide) (by rw [hk, e])
          · exact Own.ne_own h.flt (h.file f hfm).row (by decide) k hk e)
      · intro f' hf'
        obtain ⟨f0, hf0, rfl⟩ := List.mem_map.1 hf'
        by_cases e0 : f0.n = n
        · rw [if_pos e0]
          have : f0 = f := uniq h.apart f0 hf0 f hfm (by rw [e0, hfn])
          subst this
          exact ⟨hblk, hrow, by have := (h.file f0 hfm).le; show f0.kept ≤ (f0.raw ++ xs).length; rw [List.length_append]; omega, by show f0.raw ++ xs ≠ []; simp [h0], (h.file f0 hfm).key⟩
        · rw [if_neg e0]
          obtain ⟨n1, n2⟩ := hne f0 hf0 e0
          refine (h.file f0 hf0).heap (ht.block _ (h.file f0 hf0).blk.lt ?_) fun k hk => ht.block _ (Own.lt (h.file f0 hf0).row k hk) ?_
          · rintro (e | e)
            · exact n1 e
            · exact Own.ne_blk (h.file f hfm).row (h.file f0 hf0).blk (by decide) e
          · rintro (e | e)
            · exact Own.ne_blk (h.file f0 hf0).row (h.file f hfm).blk (by decide) (by rw [hk, e])
            · exact n2 (hk.trans e.symm)
      · refine List.pairwise_map.2 (h.apart.imp_of_mem fun {a b} ha hb' ⟨q1, q2, q3⟩ => ?_)
        have hlt : ∀ x ∈ fs, x.v.ownBlock ≠ some w.heap.size := fun x hx e => Nat.lt_irrefl _ (Own.lt (h.file x hx).row _ e)
        by_cases ea : a.n = n
        · have : a = f := uniq h.apart a ha f hfm (by rw [ea, hfn])
          subst this
          rw [if_pos ea, if_neg (by omega)]
          refine ⟨q1, q2, ?_⟩
          rcases hv' with e | e
          · show v'.ownBlock ≠ _; rw [e]; exact q3
          · show v'.ownBlock ≠ _; rw [e]; exact fun e => hlt b hb' e.symm
        · rw [if_neg ea]
          by_cases eb : b.n = n
          · have : b = f := uniq h.apart b hb' f hfm (by rw [eb, hfn])
            subst this
            rw [if_pos eb]
            refine ⟨q1, q2, ?_⟩
            rcases hv' with e | e
            · show _ ≠ v'.ownBlock; rw [e]; exact q3
            · show _ ≠ v'.ownBlock; rw [e]; exact hlt a ha
          · rw [if_neg eb]
            exact ⟨q1, q2, q3⟩
      · rintro k (e | e | e | ⟨f', hf', e⟩)
        · exact .inl (.inl e)
        · exact .inl (.inr (.inl e))
        · exact .inl (.inr (.inr (.inl e)))
        · obtain ⟨f0, hf0, rfl⟩ := List.mem_map.1 hf'
          by_cases e0 : f0.n = n
          · rw [if_pos e0] at e
            have : f0 = f := uniq h.apart f0 hf0 f hfm (by rw [e0, hfn])
            subst this
            rcases e with e | e
            · exact .inl (.inr (.inr (.inr ⟨f0, hf0, .inl e⟩)))
            · have e : v'.ownBlock = some k := e
              rcases hv' with e2 | e2
              · exact .inl (.inr (.inr (.inr ⟨f0, hf0, .inr (e2.symm.trans e)⟩)))
              · rw [e] at e2
                injection e2 with e2
                exact .inr (Nat.le_of_eq e2.symm)
          · rw [if_neg e0] at e
            exact .inl (.inr (.inr (.inr ⟨f0, hf0, e⟩)))
    | none =>
      have hno : ∀ f ∈ fs, f.n ≠ n := fun f hf' => by have := List.find?_eq_none.1 hf f hf'; simpa using this
      have hfil : (fs.map fun f => (f.n, f.g)).filter (fun p => decide (p.1 ≠ n)) = fs.map fun f => (f.n, f.g) := by
        refine List.filter_eq_self.2 fun p hp => ?_
        obtain ⟨f, hf', rfl⟩ := List.mem_map.1 hp
        simpa using hno f hf'
      refine (add_new w bd bm n _ _ A m c xs h.blk rfl h.map (entV_none hf) (by rw [List.length_map]; exact hfl) hn hx (fun a ha => by
        have hm0 : 0 < m := by have := hx.1; have := List.length_pos_iff.2 h0; omega
        exact ⟨fun e => (hxb a ha hm0).1 (.inr (.inl e)), (hxb a ha hm0).2⟩) h0 hb0).mono fun e w' ⟨he, w2, him, hg, ht, v', hblk, hrow, hv'⟩ => ?_
      rw [hfil] at him
      have hT2 : Touch (fun k => k = bm) w w2 := ((Touch.refl _ w).alloc _).grown hg fun k hk => .inr (by injection hk with hk; exact hk.symm)
      have hs2 : w.heap.size < w2.heap.size := by have := hg.size; rw [alloc_size] at this; omega
      have hT : Touch (fun k => k = bm) w w' := hT2.trans ht (by
        rintro k hk (e | e)
        · omega
        · cases e)
      have hvlt : ∀ k, v'.ownBlock = some k → w.heap.size < k := fun k hk => by
        rcases hv' with e | e
        · rw [hk] at e; cases e
        · rw [hk] at e; injection e with e; omega
      rw [List.nil_append] at hrow
      have hbm : ∀ f ∈ fs, FileAt w' f := fun f hf' => (h.file f hf').heap (hT.block _ (h.file f hf').blk.lt fun e => h.map.ne_blk (h.file f hf').blk e.symm) fun k hk => hT.block _ (Own.lt (h.file f hf').row k hk) fun e => h.map.ne_own (h.file f hf').row (by rw [hk, e])
      refine ⟨he, hT.mono fun k _ hk => .inl hk, insR ⟨n, xs, 0, w.heap.size, v'⟩ fs, ⟨hadd.trans (ins_new hno), ?_, ?_, ?_, ?_, ?_⟩, ?_⟩
      · exact h.blk.touch hT fun e => h.map.ne_blk h.blk e.symm
      · rw [← insE_insR]
        exact him.heap (ht.block _ him.lt (by
          rintro (e | e)
          · have := h.map.lt; omega
          · cases e))
      · exact h.flt.touch hT fun k hk e => h.map.ne_own h.flt (by rw [hk, e])
      · intro f hf'
        rcases mem_insR.1 hf' with rfl | hf'
        · exact ⟨hblk, hrow, Nat.zero_le _, h0, hn⟩
        · exact hbm f hf'
      · refine pairwise_insR h.apart fun f hf' => ⟨hno f hf', fun e => ?_, fun e => ?_⟩
        · have := (h.file f hf').blk.lt
          have e : f.g = w.heap.size := e
          omega
        · have e : f.v.ownBlock = v'.ownBlock := e
          obtain ⟨b, c', hv, _⟩ := (h.file f hf').addr
          have hk : f.v.ownBlock = some b := by rw [hv]; rfl
          have h1 := Own.lt (h.file f hf').row b hk
          have h2 := hvlt b (e.symm.trans hk)
          omega
      · rintro k (e | e | e | ⟨f', hf', e⟩)
        · exact .inl (.inl e)
        · exact .inl (.inr (.inl e))
        · exact .inl (.inr (.inr (.inl e)))
        · rcases mem_insR.1 hf' with rfl | hf'
          · rcases e with e | e
            · exact .inr (Nat.le_of_eq e.symm)
            · have := hvlt k e
              exact .inr (by omega)
          · exact .inl (.inr (.inr (.inr ⟨f', hf', e⟩)))
end Go.Proofs.YtlcmnihpfpmajaaGreat

/- The disk's Append and Sync. Conditions stand with each. -/
namespace Go.Proofs.YtlcmnihpfpmajaaGreat
open Go.RowKit

/-- one file turned, the others as they were -/
theorem DK.upd {w w' : World} {bd bm : Nat} {fv : Value} {fs : List FR} {d : Dk} (h : DK w bd bm fv fs d) {n : Int} {f : FR} (hf : f ∈ fs) (hfn : f.n = n) (F : FR → FR) (ht : Touch (fun k => k = f.g ∨ f.v.ownBlock = some k) w w') (hF : FileAt w' (F f)) (h1 : (F f).n = n) (h2 : (F f).g = f.g) (h3 : (F f).v.ownBlock = f.v.ownBlock) :
    DK w' bd bm fv (updR n F fs) { d with fs := (updR n F fs).map FR.fl } ∧ ∀ k, foot bd bm fv (updR n F fs) k → foot bd bm fv fs k := by
  have hne : ∀ f' ∈ fs, f'.n ≠ n → f'.g ≠ f.g ∧ f'.v.ownBlock ≠ f.v.ownBlock := fun f' hf' hn' => apart_ne h.apart f' hf' f hf (by rw [hfn]; exact hn')
  have hu : ∀ f' ∈ fs, f'.n = n → f' = f := fun f' hf' e => uniq h.apart f' hf' f hf (by rw [e, hfn])
  refine ⟨⟨rfl, ?_, ?_, ?_, ?_, ?_⟩, ?_⟩
  · exact h.blk.touch ht (by
      rintro (e | e)
      · exact h.blk.ne_ (h.file f hf).blk (by decide) e
      · exact Own.ne_blk (h.file f hf).row h.blk (by decide) e)
  · have : (updR n F fs).map (fun f => (f.n, f.g)) = fs.map fun f => (f.n, f.g) := by
      unfold updR
      rw [List.map_map]
      refine List.map_congr_left fun f' hf' => ?_
      simp only [Function.comp]
      by_cases e : f'.n = n
      · have := hu f' hf' e
        subst this
        rw [if_pos e, h1, h2, hfn]
      · rw [if_neg e]
    rw [this]
    refine h.map.heap (ht.block _ h.map.lt ?_)
    rintro (e | e)
    · exact h.map.ne_blk (h.file f hf).blk e
    · exact h.map.ne_own (h.file f hf).row e
  · exact h.flt.touch ht (by
      rintro k hk (e | e)
      · exact h.flt.ne_blk (h.file f hf).blk (by decide) (by rw [hk, e])
      · exact Own.ne_own h.flt (h.file f hf).row (by decide) k hk e)
  · intro f' hf'
    obtain ⟨f0, hf0, rfl⟩ := List.mem_map.1 hf'
    by_cases e0 : f0.n = n
    · rw [if_pos e0, hu f0 hf0 e0]
      exact hF
    · rw [if_neg e0]
      obtain ⟨n1, n2⟩ := hne f0 hf0 e0
      refine (h.file f0 hf0).heap (ht.block _ (h.file f0 hf0).blk.lt ?_) fun k hk => ht.block _ (Own.lt (h.file f0 hf0).row k hk) ?_
      · rintro (e | e)
        · exact n1 e
        · exact Own.ne_blk (h.file f hf).row (h.file f0 hf0).blk (by decide) e
      · rintro (e | e)
        · exact Own.ne_blk (h.file f0 hf0).row (h.file f hf).blk (by decide) (by rw [hk, e])
        · exact n2 (hk.trans e.symm)
  · refine List.pairwise_map.2 (h.apart.imp_of_mem fun {a b} ha hb' ⟨q1, q2, q3⟩ => ?_)
    by_cases ea : a.n = n
    · have := hu a ha ea
      subst this
      rw [if_pos ea, if_neg (by omega), h1, h2, h3]
      exact ⟨by omega, q2, q3⟩
    · rw [if_neg ea]
      by_cases eb : b.n = n
      · have := hu b hb' eb
        subst this
        rw [if_pos eb, h1, h2, h3]
        exact ⟨by omega, q2, q3⟩
      · rw [if_neg eb]
        exact ⟨q1, q2, q3⟩
  · rintro k (e | e | e | ⟨f', hf', e⟩)
    · exact .inl e
    · exact .inr (.inl e)
    · exact .inr (.inr (.inl e))
    · obtain ⟨f0, hf0, rfl⟩ := List.mem_map.1 hf'
      by_cases e0 : f0.n = n
      · rw [if_pos e0, hu f0 hf0 e0, h2, h3] at e
        exact .inr (.inr (.inr ⟨f, hf, e⟩))
      · rw [if_neg e0] at e
        exact .inr (.inr (.inr ⟨f0, hf0, e⟩))

def StepEnd (w : World) (bd bm : Nat) (fv : Value) (fs : List FR) (d' : Dk) (r : Ending) (e : Ending) (w' : World) : Prop :=
  e = r ∧ Touch (foot bd bm fv fs) w w' ∧ ∃ fv' fs', DK w' bd bm fv' fs' d' ∧ ∀ k, foot bd bm fv' fs' k → foot bd bm fv fs k ∨ w.heap.size ≤ k
theorem StepEnd.next {w w1 w2 : World} {bd bm : Nat} {fv fv1 : Value} {fs fs1 : List FR} {d2 : Dk} {r e : Ending} (ht : Touch (foot bd bm fv fs) w w1) (hs : ∀ k, foot bd bm fv1 fs1 k → foot bd bm fv fs k ∨ w.heap.size ≤ k) (h : StepEnd w1 bd bm fv1 fs1 d2 r e w2) : StepEnd w bd bm fv fs d2 r e w2 := by
  obtain ⟨he, h1, fv2, fs2, h2, h3⟩ := h
  refine ⟨he, ht.trans h1 fun k hk hf => (hs k hf).resolve_right (by omega), fv2, fs2, h2, fun k hk => ?_⟩
  rcases h3 k hk with e | e
  · exact hs k e
  · exact .inr (Nat.le_trans ht.size e)
theorem why_cases (d : Dk) (n : Int) : d.why n = 0 ∨ d.why n = 1 ∨ d.why n = 3 ∨ d.why n = 4 := by
  unfold Dk.why
  cases d.dead <;> cases d.hit <;> by_cases h : n < 0 <;> simp [h]
theorem foot_begin {bd bm : Nat} {fv fv' : Value} {fs : List FR} (h : fv'.ownBlock = fv.ownBlock) : ∀ k, foot bd bm fv' fs k → foot bd bm fv fs k := by
  intro k hk
  unfold foot at hk ⊢
  rwa [h] at hk

set_option maxRecDepth 20000 in
set_option maxHeartbeats 2000000 in
theorem append_any (w : World) (bd bm : Nat) (fv : Value) (fs : List FR) (d : Dk) (n : Int) (A : Option Addr) (m c : Nat) (xs : List UInt8) (h : DK w bd bm fv fs d) (hn : (Lit.int .i64 n).wf = true) (hx : Bs w A m c xs) (hxb : ∀ a, A = some a → 0 < m → ¬ foot bd bm fv fs a.block ∧ a.block < w.heap.size)
    (hb : ∀ f ∈ fs, f.raw.length + xs.length ≤ 140737488355000) (hb0 : xs.length ≤ 140737488355000) (hfl : fs.length < maxLen) (ho : d.ops ≤ 4611686018427387904) (hl : d.faults.length ≤ 4611686018427387904) :
    Calls Tryz.prog 75 #[.pointer (some ⟨bd, 0, none⟩), .int .i64 n, .slice A m c] w (StepEnd w bd bm fv fs (d.append n xs) (.returned (.int .i64 (d.why n)))) := by
  have hmc := hx.2.1
  have hcm := hx.2.2.1
  unfold maxLen at hcm
  have hml := hx.1
  have HB := Lib.hid (begin_any w bd bm fv fs d n h ho hl)
  have HADD := Lib.hid (fun w1 fv1 d1 k => add_any w1 bd bm fv1 fs d1 n A k c (xs.take k))
  have HX := Lib.hid hx; have HXB := Lib.hid hxb; have HML := Lib.hid hml; have HBB := Lib.hid hb; have HFL := Lib.hid hfl
  clear h hx hxb hml hb hfl
  have hd : d.append n xs = if d.why n = 0 then { d.next with fs := Fl.add n xs d.fs } else if d.why n = 3 ∧ d.kind = 2 ∧ 0 ≤ n then { d.next with fs := Fl.add n (xs.take (xs.length / 2)) d.fs } else d.next := rfl
  have HD := Lib.hid hd
  clear hd
  go_enter Tryz.func75, Tryz.ntmps75
  go_wp2_with fail
  refine HB.out.mono ?_
  rintro e w1 ⟨he, ht1, fv1, hdk1, hown1⟩
  have hty : Touch (foot bd bm fv fs) w w1 := ht1.mono fun k _ hk => hk.elim .inl fun e => .inr (.inr (.inl e))
  have hx1 : Bs w1 A m c xs := HX.out.touch hty fun a ha h0 hf => (HXB.out a ha h0).1 hf
  have hfoot := foot_begin (bd := bd) (bm := bm) (fs := fs) hown1
  have HDK := Lib.hid hdk1; have HT1 := Lib.hid hty; have HX1 := Lib.hid hx1; have HF := Lib.hid hfoot
  have hfin : ∀ (y : Int) (w2 : World), y = d.why n → (∃ fs', DK w2 bd bm fv1 fs' (d.append n xs) ∧ (∀ k, foot bd bm fv1 fs' k → foot bd bm fv1 fs k ∨ w1.heap.size ≤ k) ∧ Touch (foot bd bm fv1 fs) w1 w2) → StepEnd w bd bm fv fs (d.append n xs) (.returned (.int .i64 (d.why n))) (.returned (.int .i64 y)) w2 := by
    rintro y w2 rfl ⟨fs', h1, h2, h3⟩
    exact StepEnd.next HT1.out (fun k hk => .inl (HF.out k hk)) ⟨rfl, h3, fv1, fs', h1, h2⟩
  have FIN := Lib.hid hfin
  clear ht1 hdk1 hown1 hty hx1 hfoot hfin HB
  have hsame : d.append n xs = d.next → ∃ fs', DK w1 bd bm fv1 fs' (d.append n xs) ∧ (∀ k, foot bd bm fv1 fs' k → foot bd bm fv1 fs k ∨ w1.heap.size ≤ k) ∧ Touch (foot bd bm fv1 fs) w1 w1 := fun e => ⟨fs, by rw [e]; exact HDK.out, fun _ h => .inl h, Touch.refl _ _⟩
  have HS := Lib.hid hsame
  clear hsame
  rcases why_cases d n with hw | hw | hw | hw
  · rw [hw] at he
    subst he
    have HW := Lib.hid hw
    clear hw
    go_wp2_with fail
    have hc := HADD.out w1 fv1 d.next m HDK.out hn
    rw [List.take_of_length_le (by rw [HML.out]; exact Nat.le_refl _)] at hc
    refine (hc HX1.out (fun a ha h0 => ⟨fun hf => (HXB.out a ha h0).1 (HF.out _ hf), Nat.lt_of_lt_of_le (HXB.out a ha h0).2 HT1.out.size⟩) HBB.out hb0 HFL.out).mono ?_
    rintro e w2 ⟨rfl, ht2, fs2, hdk2, hf2⟩
    have R := Lib.hid (FIN.out 0 w2 HW.out.symm ⟨fs2, by rw [HD.out, if_pos HW.out]; exact hdk2, hf2, ht2.mono fun k _ hk => by
      rcases hk with e | e
      · exact .inr (.inl e)
      · exact .inr (.inr (.inr e))⟩)
    clear hc ht2 hdk2 hf2
    go_wp2_with fail
    go_ret
    exact R.out
  · rw [hw] at he
    subst he
    have R := Lib.hid (FIN.out 1 w1 hw.symm (HS.out (by rw [HD.out, hw]; rfl)))
    clear hw
    go_wp2_with fail
    go_ret
    exact R.out
  · rw [hw] at he
    by_cases hk : d.kind = 2
    · by_cases h0 : 0 ≤ n
      · rw [hk] at he
        subst he
        have HW := Lib.hid (show d.why n = 3 ∧ d.kind = 2 ∧ 0 ≤ n from ⟨hw, hk, h0⟩)
        clear hw hk
        go_wp2_with fail
        have hlt : (xs.take (m / 2)).length ≤ xs.length := by rw [List.length_take]; omega
        refine (HADD.out w1 fv1 d.next (m / 2) HDK.out hn (HX1.out.take (by omega)) (fun a ha h0 => ⟨fun hf => (HXB.out a ha (by omega)).1 (HF.out _ hf), Nat.lt_of_lt_of_le (HXB.out a ha (by omega)).2 HT1.out.size⟩) (fun f hf => by have := HBB.out f hf; omega) (by omega) HFL.out).mono ?_
        rintro e w2 ⟨rfl, ht2, fs2, hdk2, hf2⟩
        have R := Lib.hid (FIN.out 3 w2 HW.out.1.symm ⟨fs2, by rw [HD.out, if_neg (by rw [HW.out.1]; decide), if_pos HW.out, HML.out]; exact hdk2, hf2, ht2.mono fun k _ hk => by
          rcases hk with e | e
          · exact .inr (.inl e)
          · exact .inr (.inr (.inr e))⟩)
        clear ht2 hdk2 hf2 hlt
        go_wp2_with fail
        go_ret
        exact R.out
      · rw [hk] at he
        subst he
        have hdn : decide (0 ≤ n) = false := by simpa using h0
        have R := Lib.hid (FIN.out 3 w1 hw.symm (HS.out (by rw [HD.out, if_neg (by rw [hw]; decide), if_neg (fun h => h0 h.2.2)])))
        clear hw hk h0
        go_wp2_with fail
        go_ret
        exact R.out
    · have R := Lib.hid (FIN.out 3 w1 hw.symm (HS.out (by rw [HD.out, if_neg (by rw [hw]; decide), if_neg (fun h => hk h.2.1)])))
      have hkb : (d.kind == 2) = false := by simpa using hk
      subst he
      clear hw hk
      go_wp2_with fail
      go_ret
      exact R.out
  · rw [hw] at he
    subst he
    have R := Lib.hid (FIN.out 4 w1 hw.symm (HS.out (by rw [HD.out, hw]; rfl)))
    clear hw
    go_wp2_with fail
    go_ret
    exact R.out

set_option maxRecDepth 20000 in
set_option maxHeartbeats 2000000 in
theorem sync_any (w : World) (bd bm : Nat) (fv : Value) (fs : List FR) (d : Dk) (n : Int) (h : DK w bd bm fv fs d) (hn : (Lit.int .i64 n).wf = true) (ho : d.ops ≤ 4611686018427387904) (hl : d.faults.length ≤ 4611686018427387904) :
    Calls Tryz.prog 76 #[.pointer (some ⟨bd, 0, none⟩), .int .i64 n] w (StepEnd w bd bm fv fs (d.sync n) (.returned (.int .i64 (d.why n)))) := by
  have HB := Lib.hid (begin_any w bd bm fv fs d n h ho hl)
  have hfls := h.fls
  have HFLS := Lib.hid hfls
  clear h hfls
  have hd : d.sync n = if d.why n = 0 then { d.next with fs := Fl.sync n d.fs } else d.next := rfl
  have HD := Lib.hid hd
  clear hd
  go_enter Tryz.func76, Tryz.ntmps76
  go_wp2_with fail
  refine HB.out.mono ?_
  rintro e w1 ⟨he, ht1, fv1, hdk1, hown1⟩
  have hty : Touch (foot bd bm fv fs) w w1 := ht1.mono fun k _ hk => hk.elim .inl fun e => .inr (.inr (.inl e))
  have hfoot := foot_begin (bd := bd) (bm := bm) (fs := fs) hown1
  have hc0 : w1.cell? ⟨bd, 0, none⟩ = some (.map (some bm)) := hdk1.blk.cell 0
  have hlk := hdk1.map.look hn
  have HDK := Lib.hid hdk1; have HT1 := Lib.hid hty; have HF := Lib.hid hfoot
  have hfin : ∀ (y : Int) (w2 : World), y = d.why n → (∃ fs', DK w2 bd bm fv1 fs' (d.sync n) ∧ (∀ k, foot bd bm fv1 fs' k → foot bd bm fv1 fs k ∨ w1.heap.size ≤ k) ∧ Touch (foot bd bm fv1 fs) w1 w2) → StepEnd w bd bm fv fs (d.sync n) (.returned (.int .i64 (d.why n))) (.returned (.int .i64 y)) w2 := by
    rintro y w2 rfl ⟨fs', h1, h2, h3⟩
    exact StepEnd.next HT1.out (fun k hk => .inl (HF.out k hk)) ⟨rfl, h3, fv1, fs', h1, h2⟩
  have FIN := Lib.hid hfin
  have hsame : d.sync n = d.next → ∃ fs', DK w1 bd bm fv1 fs' (d.sync n) ∧ (∀ k, foot bd bm fv1 fs' k → foot bd bm fv1 fs k ∨ w1.heap.size ≤ k) ∧ Touch (foot bd bm fv1 fs) w1 w1 := fun e => ⟨fs, by rw [e]; exact HDK.out, fun _ h => .inl h, Touch.refl _ _⟩
  have HS := Lib.hid hsame
  clear ht1 hdk1 hown1 hty hfoot hfin HB hsame
  by_cases hw : d.why n = 0
  · cases hf : fs.find? (fun f => decide (f.n = n)) with
    | none =>
      rw [entV_none hf] at hlk
      have hno : Fl.sync n d.fs = d.fs := by
        rw [HFLS.out]
        unfold Fl.sync
        conv => rhs; rw [← List.map_id (fs.map FR.fl)]
        refine List.map_congr_left fun f hf' => ?_
        obtain ⟨f0, h0, rfl⟩ := List.mem_map.1 hf'
        have := List.find?_eq_none.1 hf f0 h0
        rw [if_neg (show ¬ (FR.fl f0).n = n from fun e => by have e : f0.n = n := e; simp [e] at this)]
        rfl
      rw [hw] at he
      subst he
      have R := Lib.hid (FIN.out 0 w1 hw.symm (HS.out (by rw [HD.out, if_pos hw, hno]; rfl)))
      clear hw hf hno
      go_wp2_with fail
      go_ret
      exact R.out
    | some f =>
      rw [entV_some hf] at hlk
      obtain ⟨hfm, hfn⟩ := find_mem hf
      have hFA := HDK.out.file f hfm
      obtain ⟨b, cc, hv, hl1, hl2⟩ := hFA.addr
      have hc1 : w1.cell? ⟨f.g, 0, none⟩ = some f.v := hFA.blk.cell 0
      rw [hv] at hc1
      have hc2 : w1.cell? ⟨f.g, 1, none⟩ = some (.int .i64 f.kept) := hFA.blk.cell 1
      have hq2 : w1.frozen? ⟨f.g, 1, none⟩ = false := hFA.blk.frozen 1
      have ht : Touch (fun k => k = f.g ∨ f.v.ownBlock = some k) w1 (w1.setCell ⟨f.g, 1, none⟩ (.int .i64 f.raw.length)) := (Touch.refl _ w1).setCell (p := ⟨f.g, 1, none⟩) (.inr (.inl rfl)) _
      have hne : f.v.ownBlock ≠ some f.g := Own.ne_blk hFA.row hFA.blk (by decide)
      obtain ⟨q1, q2⟩ := HDK.out.upd hfm hfn (fun f => ⟨f.n, f.raw, f.raw.length, f.g, f.v⟩) ht ⟨hFA.blk.set_ 1 _, Own.far hFA.row (p := ⟨f.g, 1, none⟩) hne _, Nat.le_refl _, hFA.some_, hFA.key⟩ hfn rfl rfl
      have hd2 : d.sync n = { d.next with fs := (updR n (fun f => (⟨f.n, f.raw, f.raw.length, f.g, f.v⟩ : FR)) fs).map FR.fl } := by
        rw [HD.out, if_pos hw, HFLS.out]
        have : Fl.sync n (fs.map FR.fl) = (updR n (fun f => (⟨f.n, f.raw, f.raw.length, f.g, f.v⟩ : FR)) fs).map FR.fl := by
          unfold Fl.sync updR
          rw [List.map_map, List.map_map]
          refine List.map_congr_left fun f0 _ => ?_
          simp only [Function.comp]
          by_cases e : f0.n = n
          · rw [if_pos e, if_pos (show (FR.fl f0).n = n from e)]
            rfl
          · rw [if_neg e, if_neg (show ¬ (FR.fl f0).n = n from e)]
        rw [this]
      have R := Lib.hid (FIN.out 0 (w1.setCell ⟨f.g, 1, none⟩ (.int .i64 f.raw.length)) hw.symm ⟨_, by rw [hd2]; exact q1, fun k hk => .inl (q2 k hk), ht.mono fun k _ hk => .inr (.inr (.inr ⟨f, hfm, hk⟩))⟩)
      rw [hw] at he
      subst he
      clear hw hf hfm hfn hFA hv ht hne q1 q2 hd2
      go_wp2_with fail
      go_ret
      exact R.out
  · have R := Lib.hid (FIN.out (d.why n) w1 rfl (HS.out (by rw [HD.out, if_neg hw])))
    have hwb : (d.why n == 0) = false := by simpa using hw
    subst he
    clear hw
    go_wp2_with fail
    go_ret
    exact R.out
end Go.Proofs.YtlcmnihpfpmajaaGreat
