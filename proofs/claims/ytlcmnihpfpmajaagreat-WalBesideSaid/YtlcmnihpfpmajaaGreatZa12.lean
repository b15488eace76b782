/- The wal claims' texts, several in one: Crash2. Conditions stand with each theorem. -/
import Derived.Test.YtlcmnihpfpmajaaGreatZa09
import Derived.Test.YtlcmnihpfpmajaaGreatZa11
import Derived.WalkMore
import Derived.ScopeJumps
/- The disk's Crash (printed by gen_wcrash2.py). Conditions stand with it. -/
namespace Go.Proofs.YtlcmnihpfpmajaaGreat
open Go.RowKit Go.MapKept Go.ChangeMaps

/-- ints that can be read -/
def IsInts (w : World) (A : Option Addr) (n c : Nat) (xs : List Int) : Prop :=
  xs.length = n ∧ n ≤ c ∧ c ≤ maxLen ∧ (0 < n → ∃ b o, A = some ⟨b, o, none⟩ ∧ ∀ j x, xs[j]? = some x → w.cell? ⟨b, o + j, none⟩ = some (.int .i64 x))
theorem IsInts.touch {w w' : World} {A : Option Addr} {n c : Nat} {xs : List Int} {S : Nat → Prop} (h : IsInts w A n c xs) (ht : Touch S w w') (hn : ∀ a, A = some a → 0 < n → ¬ S a.block) : IsInts w' A n c xs :=
  ⟨h.1, h.2.1, h.2.2.1, fun h0 => by
    obtain ⟨b, o, e, hc⟩ := h.2.2.2 h0
    exact ⟨b, o, e, fun j x hx => ht.cell (hc j x hx) (hn ⟨b, o, none⟩ e h0)⟩⟩
theorem IsInts.nil_ {w : World} (A : Option Addr) : IsInts w A 0 0 [] := ⟨rfl, Nat.le_refl _, by simp [maxLen], fun h => by omega⟩
theorem IsInts.cons {w : World} {A : Option Addr} {n c : Nat} {x : Int} {xs : List Int} (h : IsInts w A n c (x :: xs)) : ∃ b o, A = some ⟨b, o, none⟩ ∧ w.cell? ⟨b, o, none⟩ = some (.int .i64 x) ∧ n = xs.length + 1 ∧ IsInts w (some ⟨b, o + 1, none⟩) xs.length (c - 1) xs := by
  have hl := h.1
  simp only [List.length_cons] at hl
  obtain ⟨b, o, e, hc⟩ := h.2.2.2 (by omega)
  refine ⟨b, o, e, hc 0 x rfl, hl.symm, rfl, by have := h.2.1; omega, by have := h.2.2.1; omega, fun _ => ⟨b, o + 1, rfl, fun j y hy => ?_⟩⟩
  have := hc (j + 1) y (by simpa using hy)
  rwa [show o + (j + 1) = o + 1 + j by omega] at this

theorem wp_scope_head {P : Program} {Q : Exit → Act → World → Prop} {a : Act} {w : World} {c0 R : Code} (l : Nat) (J : Act → World → Prop) (μ : Act → World → Nat) (hc : findLabel c0 l = none) (first : c0.wp P (Exit.then J (Exit.jump l J Q)) a w)
    (pass : ∀ a w, J a w → R.wp P (Exit.jump l (fun a' w' => J a' w' ∧ μ a' w' < μ a w) Q) a w) : (Code.scope (c0.seq ((Code.label l).seq R))).wp P Q a w := by
  refine wp_scope_jumps l J μ (rest := Code.skip.seq R) (by simp [findLabel, hc]) (wp_seq (Code.wp_mono (fun e a' w' q => ?_) first)) (fun a w h => wp_seq (wp_skip (pass a w h)))
  cases e with
  | normal =>
    refine wp_seq (wp_label (Code.wp_mono (fun e a2 w2 q2 => ?_) (pass a' w' q)))
    cases e with
    | goto l' => exact ⟨q2.1, q2.2.1⟩
    | _ => exact q2
  | _ => exact q
theorem mapTurned_touch {w w' : World} {b : Nat} (h : w.mapTurned w' b) : Touch (fun k => k = b) w w' := by
  obtain ⟨es, clock, es', clock', hb, rfl⟩ := h
  exact ⟨rfl, rfl, rfl, by simp [setBlock], fun i _ hi => heap_setBlock_other hb _ hi⟩
theorem IMap.del_all {w : World} {b : Nat} {es : List (Int × Nat)} (h : IMap w b es) {n : Int} (hn : (Lit.int .i64 n).wf = true) :
    ∃ w', (∀ ty, (Builtin.delete_ #[78, 3] ty #[.map (some b), .int .i64 n]).run Tryz.prog w = .ok (.tuple #[]) w') ∧ IMap w' b (es.filter fun p => decide (p.1 ≠ n)) ∧ Touch (fun k => k = b) w w' := by
  obtain ⟨w', hrun, h1, h2⟩ := h.del hn 0
  exact ⟨w', fun ty => hrun, h1, mapTurned_touch h2⟩
theorem updR_mid {done r : List FR} {f : FR} (F : FR → FR) (h : (done ++ f :: r).Pairwise fun a b => a.n < b.n ∧ a.g ≠ b.g ∧ a.v.ownBlock ≠ b.v.ownBlock) : updR f.n F (done ++ f :: r) = done ++ F f :: r := by
  obtain ⟨h1, h2, h3⟩ := List.pairwise_append.1 h
  obtain ⟨h4, h5⟩ := List.pairwise_cons.1 h2
  unfold updR
  rw [List.map_append, List.map_cons, if_pos rfl]
  congr 1
  · conv => rhs; rw [← List.map_id done]
    refine List.map_congr_left fun x hx => ?_
    rw [if_neg (by have := (h3 x hx f (by simp)).1; omega)]
    rfl
  · congr 1
    conv => rhs; rw [← List.map_id r]
    refine List.map_congr_left fun x hx => ?_
    rw [if_neg (by have := (h4 x hx).1; omega)]
    rfl
theorem DK.lost {w w' : World} {bd bm : Nat} {fv : Value} {done r : List FR} {f : FR} {d : Dk} {cut : Int} {e : Ending} (h : DK w bd bm fv (done ++ f :: r) d) (he : LoseEnd w f cut e w') (hk : (f.fl.lose cut).kept ≠ 0) :
    ∃ f' : FR, f'.fl = f.fl.lose cut ∧ DK w' bd bm fv (done ++ f' :: r) { d with fs := (done ++ f' :: r).map FR.fl } ∧ ∀ k, foot bd bm fv (done ++ f' :: r) k → foot bd bm fv (done ++ f :: r) k := by
  obtain ⟨_, ht, v', hb, hr, hv⟩ := he
  have hf : f ∈ done ++ f :: r := by simp
  have hle : (f.fl.lose cut).kept ≤ f.raw.length := by
    show f.kept + (f.fl.ways cut + 1) / 2 ≤ _
    have hle := (h.file f hf).le
    have : ((f.fl.ways cut : Nat) : Int) = cut % (2 * ((f.raw.length : Int) - f.kept) + 1) := by
      unfold Fl.ways
      exact Int.toNat_of_nonneg (Int.emod_nonneg _ (by show 2 * ((f.raw.length : Int) - f.kept) + 1 ≠ 0; omega))
    have hlt : cut % (2 * ((f.raw.length : Int) - f.kept) + 1) < 2 * ((f.raw.length : Int) - f.kept) + 1 := Int.emod_lt_of_pos _ (by omega)
    omega
  have hrl : (f.fl.lose cut).raw.length = (f.fl.lose cut).kept := by
    have htl : (f.raw.take (f.kept + (f.fl.ways cut + 1) / 2)).length = f.kept + (f.fl.ways cut + 1) / 2 := by
      rw [List.length_take]
      have : f.kept + (f.fl.ways cut + 1) / 2 ≤ f.raw.length := hle
      omega
    show (if _ then (f.raw.take (f.kept + (f.fl.ways cut + 1) / 2)).set _ _ else f.raw.take (f.kept + (f.fl.ways cut + 1) / 2)).length = f.kept + (f.fl.ways cut + 1) / 2
    split
    · rw [List.length_set, htl]
    · exact htl
  obtain ⟨q1, q2⟩ := h.upd (n := f.n) hf rfl (fun _ => ⟨f.n, (f.fl.lose cut).raw, (f.fl.lose cut).kept, f.g, v'⟩) ht ⟨hb, hr, Nat.le_of_eq hrl.symm, fun e => hk (by rw [← hrl]; exact congrArg List.length e), (h.file f hf).key⟩ rfl rfl hv
  rw [updR_mid _ h.apart] at q1 q2
  exact ⟨⟨f.n, (f.fl.lose cut).raw, (f.fl.lose cut).kept, f.g, v'⟩, rfl, q1, q2⟩
theorem DK.gone {w w' w2 : World} {bd bm : Nat} {fv : Value} {done r : List FR} {f : FR} {d : Dk} (h : DK w bd bm fv (done ++ f :: r) d) (ht : Touch (fun k => k = f.g ∨ f.v.ownBlock = some k) w w') (hm : IMap w2 bm (((done ++ f :: r).map fun f => (f.n, f.g)).filter fun p => decide (p.1 ≠ f.n))) (ht2 : Touch (fun k => k = bm) w' w2) :
    DK w2 bd bm fv (done ++ r) { d with fs := (done ++ r).map FR.fl } ∧ ∀ k, foot bd bm fv (done ++ r) k → foot bd bm fv (done ++ f :: r) k := by
  obtain ⟨h1, h2, h3⟩ := List.pairwise_append.1 h.apart
  obtain ⟨h4, h5⟩ := List.pairwise_cons.1 h2
  have hf : f ∈ done ++ f :: r := by simp
  have hsub : ∀ x ∈ done ++ r, x ∈ done ++ f :: r ∧ x.n ≠ f.n := by
    intro x hx
    rcases List.mem_append.1 hx with hx | hx
    · exact ⟨by simp [hx], by have := (h3 x hx f (by simp)).1; omega⟩
    · exact ⟨by simp [hx], by have := (h4 x hx).1; omega⟩
  have hT : Touch (fun k => k = bm ∨ k = f.g ∨ f.v.ownBlock = some k) w w2 := (ht.mono fun _ _ h => .inr h).trans ht2 fun _ _ h => .inl h
  have hfil : (((done ++ f :: r).map fun f => (f.n, f.g)).filter fun p => decide (p.1 ≠ f.n)) = (done ++ r).map fun f => (f.n, f.g) := by
    rw [List.map_append, List.map_cons, List.filter_append, List.filter_cons_of_neg (by simp), List.map_append]
    congr 1
    · refine List.filter_eq_self.2 fun p hp => ?_
      obtain ⟨x, hx, rfl⟩ := List.mem_map.1 hp
      simpa using (hsub x (by simp [hx])).2
    · refine List.filter_eq_self.2 fun p hp => ?_
      obtain ⟨x, hx, rfl⟩ := List.mem_map.1 hp
      simpa using (hsub x (by simp [hx])).2
  rw [hfil] at hm
  refine ⟨⟨rfl, ?_, hm, ?_, ?_, ?_⟩, ?_⟩
  · exact h.blk.touch hT (by
      rintro (e | e | e)
      · exact h.map.ne_blk h.blk e.symm
      · exact h.blk.ne_ (h.file f hf).blk (by decide) e
      · exact Own.ne_blk (h.file f hf).row h.blk (by decide) e)
  · exact h.flt.touch hT (by
      rintro k hk (e | e | e)
      · exact h.map.ne_own h.flt (by rw [hk, e])
      · exact h.flt.ne_blk (h.file f hf).blk (by decide) (by rw [hk, e])
      · exact Own.ne_own h.flt (h.file f hf).row (by decide) k hk e)
  · intro x hx
    obtain ⟨hx1, hx2⟩ := hsub x hx
    obtain ⟨n1, n2⟩ := apart_ne h.apart x hx1 f hf hx2
    refine (h.file x hx1).heap (hT.block _ (h.file x hx1).blk.lt ?_) fun k hk => hT.block _ (Own.lt (h.file x hx1).row k hk) ?_
    · rintro (e | e | e)
      · exact h.map.ne_blk (h.file x hx1).blk e.symm
      · exact n1 e
      · exact Own.ne_blk (h.file f hf).row (h.file x hx1).blk (by decide) e
    · rintro (e | e | e)
      · exact h.map.ne_own (h.file x hx1).row (by rw [hk, e])
      · exact Own.ne_blk (h.file x hx1).row (h.file f hf).blk (by decide) (by rw [hk, e])
      · exact n2 (hk.trans e.symm)
  · exact List.pairwise_append.2 ⟨h1, h5, fun a ha b hb => h3 a ha b (by simp [hb])⟩
  · rintro k (e | e | e | ⟨x, hx, e⟩)
    · exact .inl e
    · exact .inr (.inl e)
    · exact .inr (.inr (.inl e))
    · exact .inr (.inr (.inr ⟨x, (hsub x hx).1, e⟩))

theorem IsInts.tail {w : World} {A : Option Addr} {n c : Nat} {x : Int} {xs : List Int} (h : IsInts w A n c (x :: xs)) : ∃ A2 c2, (∀ W, (Instr.slice 27 (.slice A n c) (some (.int .i64 1)) none none).run Tryz.prog W = .ok (.slice A2 xs.length c2) W) ∧ IsInts w A2 xs.length c2 xs ∧ ∀ a, A2 = some a → ∃ a0, A = some a0 ∧ a.block = a0.block := by
  obtain ⟨b, o, rfl, _, hn, h2⟩ := h.cons
  have hnc := h.2.1
  have ht : Tryz.prog.underlying 27 = some (.slice 3) := Tryz.underlying27
  have ht' : Tryz.prog.underlying 27 = some (.slice (Tryz.prog.elem 27)) := by simp [Program.elem, ht]
  have he : Tryz.prog.elem 27 = 3 := by simp [Program.elem, ht]
  have hz : ∀ W, (Go.sizeOf 3).run Tryz.prog W = .ok 1 W := fun W => by kernel_rfl
  have hrun : ∀ W, (Instr.slice 27 (.slice (some ⟨b, o, none⟩) n c) (some (.int .i64 1)) none none).run Tryz.prog W = .ok (.slice (some (if c = 1 then ⟨b, o, none⟩ else ⟨b, o + 1, none⟩)) xs.length (c - 1)) W := by
    intro W
    rw [run_slice_l W 27 _ _ _ ht' .i64 _ (by omega) (by omega), he, hz]
    subst hn
    by_cases h1 : c = 1
    · simp [Result.andThen, sliced, h1]
    · simp [Result.andThen, sliced, h1, add_flat]
  refine ⟨_, _, hrun, ?_, ?_⟩
  · by_cases h1 : c = 1
    · have hx : xs = [] := List.eq_nil_of_length_eq_zero (by omega)
      subst hx
      rw [h1]
      exact IsInts.nil_ _
    · rw [if_neg h1]
      exact h2
  · intro a ha
    injection ha with ha
    refine ⟨_, rfl, ?_⟩
    rw [← ha]
    split <;> rfl
theorem find_mid {done r : List FR} {f : FR} (h : (done ++ f :: r).Pairwise fun a b => a.n < b.n ∧ a.g ≠ b.g ∧ a.v.ownBlock ≠ b.v.ownBlock) : (done ++ f :: r).find? (fun x => decide (x.n = f.n)) = some f := by
  obtain ⟨h1, h2, h3⟩ := List.pairwise_append.1 h
  rw [List.find?_eq_some_iff_append]
  exact ⟨by simp, done, r, rfl, fun x hx => by have := (h3 x hx f (by simp)).1; simp; omega⟩

/-- what holds at each jump -/
def CrashJ (w : World) (bd bm : Nat) (fv : Value) (fs : List FR) (d : Dk) (cuts : List Int) (L A : Option Addr) (nl cl m c : Nat) (wr : World) : Prop :=
  ∃ done rest cs, IsInts wr L nl cl (rest.map FR.n) ∧ IsInts wr A m c cs ∧ (∀ a, L = some a → ¬ foot bd bm fv fs a.block) ∧ (∀ a, A = some a → 0 < m → ¬ foot bd bm fv fs a.block) ∧ (∀ x ∈ cs, -9223372036854775808 ≤ x ∧ x ≤ 9223372036854775807) ∧
    Fl.crash d.fs cuts = done.map FR.fl ++ Fl.crash (rest.map FR.fl) cs ∧ DK wr bd bm fv (done ++ rest) { d with fs := (done ++ rest).map FR.fl } ∧ Touch (foot bd bm fv fs) w wr ∧ (∀ k, foot bd bm fv (done ++ rest) k → foot bd bm fv fs k) ∧ (∀ f ∈ done ++ rest, f.raw.length ≤ 140737488355328)
theorem lose_len (f : FR) (cut : Int) : (f.fl.lose cut).raw.length ≤ f.raw.length := by
  show (if _ then (f.raw.take (f.kept + (f.fl.ways cut + 1) / 2)).set _ _ else f.raw.take (f.kept + (f.fl.ways cut + 1) / 2)).length ≤ _
  split
  · rw [List.length_set]; simp [List.length_take]; omega
  · simp [List.length_take]; omega
theorem CrashJ.keep {w wr w2 : World} {bd bm : Nat} {fv : Value} {fs done r : List FR} {f : FR} {d : Dk} {cuts cs : List Int} {L2 A2 : Option Addr} {cl2 m2 c2 nq : Nat} {e : Ending} (hL2 : IsInts wr L2 r.length cl2 (r.map FR.n)) (hA2 : IsInts wr A2 m2 c2 cs.tail)
    (hLf : ∀ a, L2 = some a → ¬ foot bd bm fv fs a.block) (hAf : ∀ a, A2 = some a → 0 < m2 → ¬ foot bd bm fv fs a.block) (hcw : ∀ x ∈ cs, -9223372036854775808 ≤ x ∧ x ≤ 9223372036854775807)
    (hcr : Fl.crash d.fs cuts = done.map FR.fl ++ Fl.crash ((f :: r).map FR.fl) cs) (hdk : DK wr bd bm fv (done ++ f :: r) { d with fs := (done ++ f :: r).map FR.fl }) (ht : Touch (foot bd bm fv fs) w wr) (hsub : ∀ k, foot bd bm fv (done ++ f :: r) k → foot bd bm fv fs k)
    (hlen : ∀ f' ∈ done ++ f :: r, f'.raw.length ≤ 140737488355328) (he : LoseEnd (wr.drewN nq) f (cs.headD 0) e w2) (hk : (f.fl.lose (cs.headD 0)).kept ≠ 0) : CrashJ w bd bm fv fs d cuts L2 A2 r.length cl2 m2 c2 w2 := by
  have hfm : f ∈ done ++ f :: r := by simp
  have hT : Touch (fun k => k = f.g ∨ f.v.ownBlock = some k) wr w2 := ((Touch.refl _ wr).drewN nq).trans he.2.1 fun _ _ h => h
  have hF : ∀ k, (k = f.g ∨ f.v.ownBlock = some k) → foot bd bm fv fs k := fun k hk => hsub k (.inr (.inr (.inr ⟨f, hfm, hk⟩)))
  obtain ⟨f', h1, h2, h3⟩ := (show DK (wr.drewN nq) bd bm fv (done ++ f :: r) _ from hdk.touch ((Touch.refl (fun _ => False) wr).drewN nq) fun _ _ => id).lost he hk
  refine ⟨done ++ [f'], r, cs.tail, hL2.touch hT (fun a ha _ hs => hLf a ha (hF _ hs)), hA2.touch hT (fun a ha h0 hs => hAf a ha h0 (hF _ hs)), hLf, hAf, fun x hx => hcw x (List.mem_of_mem_tail hx), ?_, ?_, ht.trans hT fun k _ hs => hF k hs, ?_, ?_⟩
  · rw [hcr]
    show _ ++ (if (f.fl.lose (cs.headD 0)).kept = 0 then _ else f.fl.lose (cs.headD 0) :: Fl.crash (r.map FR.fl) cs.tail) = _
    rw [if_neg hk, List.map_append, List.append_assoc, ← h1]
    rfl
  · rw [List.append_assoc]
    exact h2
  · intro k hk'
    rw [List.append_assoc] at hk'
    exact hsub k (h3 k hk')
  · intro x hx
    rw [List.append_assoc] at hx
    rcases List.mem_append.1 hx with hx | hx
    · exact hlen x (List.mem_append.2 (.inl hx))
    · rcases List.mem_cons.1 hx with rfl | hx
      · have h4 : x.raw = (f.fl.lose (cs.headD 0)).raw := congrArg Fl.raw h1
        rw [h4]
        exact Nat.le_trans (lose_len f _) (hlen f hfm)
      · exact hlen x (List.mem_append.2 (.inr (List.mem_cons_of_mem _ hx)))
theorem CrashJ.drop {w wr w2 w3 : World} {bd bm : Nat} {fv : Value} {fs done r : List FR} {f : FR} {d : Dk} {cuts cs : List Int} {L2 A2 : Option Addr} {cl2 m2 c2 nq : Nat} {e : Ending} (hL2 : IsInts wr L2 r.length cl2 (r.map FR.n)) (hA2 : IsInts wr A2 m2 c2 cs.tail)
    (hLf : ∀ a, L2 = some a → ¬ foot bd bm fv fs a.block) (hAf : ∀ a, A2 = some a → 0 < m2 → ¬ foot bd bm fv fs a.block) (hcw : ∀ x ∈ cs, -9223372036854775808 ≤ x ∧ x ≤ 9223372036854775807)
    (hcr : Fl.crash d.fs cuts = done.map FR.fl ++ Fl.crash ((f :: r).map FR.fl) cs) (hdk : DK wr bd bm fv (done ++ f :: r) { d with fs := (done ++ f :: r).map FR.fl }) (ht : Touch (foot bd bm fv fs) w wr) (hsub : ∀ k, foot bd bm fv (done ++ f :: r) k → foot bd bm fv fs k)
    (hlen : ∀ f' ∈ done ++ f :: r, f'.raw.length ≤ 140737488355328) (he : LoseEnd (wr.drewN nq) f (cs.headD 0) e w2) (hk : (f.fl.lose (cs.headD 0)).kept = 0)
    (hm : IMap w3 bm (((done ++ f :: r).map fun f => (f.n, f.g)).filter fun p => decide (p.1 ≠ f.n))) (ht3 : Touch (fun k => k = bm) w2 w3) : CrashJ w bd bm fv fs d cuts L2 A2 r.length cl2 m2 c2 w3 := by
  have hfm : f ∈ done ++ f :: r := by simp
  have hT : Touch (fun k => k = f.g ∨ f.v.ownBlock = some k) wr w2 := ((Touch.refl _ wr).drewN nq).trans he.2.1 fun _ _ h => h
  have hF : ∀ k, (k = bm ∨ k = f.g ∨ f.v.ownBlock = some k) → foot bd bm fv fs k := fun k hk => hsub k (hk.elim (fun e => .inr (.inl e)) fun hk => .inr (.inr (.inr ⟨f, hfm, hk⟩)))
  have hT3 : Touch (fun k => k = bm ∨ k = f.g ∨ f.v.ownBlock = some k) wr w3 := (hT.mono fun _ _ h => .inr h).trans ht3 fun _ _ h => .inl h
  obtain ⟨h2, h3⟩ := hdk.gone hT hm ht3
  refine ⟨done, r, cs.tail, hL2.touch hT3 (fun a ha _ hs => hLf a ha (hF _ hs)), hA2.touch hT3 (fun a ha h0 hs => hAf a ha h0 (hF _ hs)), hLf, hAf, fun x hx => hcw x (List.mem_of_mem_tail hx), ?_, h2, ht.trans hT3 fun k _ hs => hF k hs, fun k hk' => hsub k (h3 k hk'), ?_⟩
  · rw [hcr]
    show _ ++ (if (f.fl.lose (cs.headD 0)).kept = 0 then _ else f.fl.lose (cs.headD 0) :: Fl.crash (r.map FR.fl) cs.tail) = _
    rw [if_pos hk]
  · intro x hx
    rcases List.mem_append.1 hx with hx | hx
    · exact hlen x (List.mem_append.2 (.inl hx))
    · exact hlen x (List.mem_append.2 (.inr (List.mem_cons_of_mem _ hx)))
def leftLen (a : Act) : Nat := match a.tmps.getD 4 undef with | .slice _ n _ => n | _ => 0

set_option maxRecDepth 100000 in
set_option maxHeartbeats 8000000 in
theorem crash_any (w : World) (bd bm : Nat) (fv : Value) (fs : List FR) (d : Dk) (A : Option Addr) (m c : Nat) (cuts : List Int) (h : DK w bd bm fv fs d) (hfl : fs.length ≤ 1000000000000) (hb : ∀ f ∈ fs, f.raw.length ≤ 140737488355328) (hx : IsInts w A m c cuts) (hxw : ∀ x ∈ cuts, -9223372036854775808 ≤ x ∧ x ≤ 9223372036854775807) (hxb : ∀ a, A = some a → 0 < m → ¬ foot bd bm fv fs a.block) :
    Calls Tryz.prog 14 #[.pointer (some ⟨bd, 0, none⟩), .slice A m c] w (StepEnd w bd bm fv fs (d.crash cuts) (.returned (.tuple #[]))) := by
  have HFI := Lib.hid (files_any w bd bm fv fs d h hfl)
  have H := Lib.hid h; have HX := Lib.hid hx; have HXW := Lib.hid hxw; have HXB := Lib.hid hxb; have HBB := Lib.hid hb
  clear h hx hxw hxb hb
  go_enter Tryz.func14, Tryz.ntmps14
  go_wp2_with fail
  refine wp_scope_head 0 (fun a' wr => ∃ (L A' : Option Addr) (nl cl m' c' : Nat) (u2 u3 u5 u6 u7 u8 u9 u10 u11 u12 u13 u14 u15 u16 u17 u18 u19 u20 u21 u22 u23 u24 u25 u26 u27 u28 u29 u30 u31 u32 u33 u34 u35 u36 u37 u38 u39 u40 u41 u42 u43 u44 u45 u46 : Value), a' = { tmps := #[.pointer (some ⟨bd, 0, none⟩), .slice A' m' c', u2, u3, .slice L nl cl, u5, u6, u7, u8, u9, u10, u11, u12, u13, u14, u15, u16, u17, u18, u19, u20, u21, u22, u23, u24, u25, u26, u27, u28, u29, u30, u31, u32, u33, u34, u35, u36, u37, u38, u39, u40, u41, u42, u43, u44, u45, u46], defers := [] } ∧ CrashJ w bd bm fv fs d cuts L A' nl cl m' c' wr) (fun a' _ => leftLen a') rfl ?_ ?_
  · go_wp2_with fail
    refine HFI.out.mono ?_
    rintro e w1 ⟨v, rfl, hrow, hf1⟩
    have hI : ∃ L c0, v = .slice L fs.length c0 ∧ IsInts w1 L fs.length c0 (fs.map FR.n) ∧ ∀ a, L = some a → w.heap.size ≤ a.block := by
      have hO := Own.ofRow hrow
      obtain ⟨L, c0, rfl, e1, e2, e3⟩ := hO.form
      refine ⟨L, c0, rfl, ⟨List.length_map _, e1, e2, fun h0 => ?_⟩, ?_⟩
      · rcases e3 with ⟨_, e4, _⟩ | ⟨g, rfl⟩
        · omega
        · refine ⟨g, 0, rfl, fun j x hx => ?_⟩
          have hj : j < fs.length := by have := (List.getElem?_eq_some_iff.1 hx).1; rwa [List.length_map] at this
          rw [Nat.zero_add, hO.cell (by omega), List.getElem?_map, hx]
          rfl
      · rintro a rfl
        have := hrow.lt a.block rfl
        exact this.1
    obtain ⟨L, c0, rfl, hI1, hI2⟩ := hI
    have hJ : CrashJ w bd bm fv fs d cuts L A fs.length c0 m c w1 := by
      refine ⟨[], fs, cuts, hI1, HX.out.touch hf1 (fun _ _ _ => id), fun a ha hk => ?_, HXB.out, HXW.out, by rw [H.out.fls]; rfl, ?_, hf1.mono fun _ _ h => h.elim, fun _ h => h, HBB.out⟩
      · have := H.out.lt _ hk
        have := hI2 a ha
        omega
      · have := H.out.fresh hf1
        exact ⟨rfl, this.blk, this.map, this.flt, this.file, this.apart⟩
    have HJ := Lib.hid hJ
    clear hI1 hI2 hrow hf1 hJ HFI
    go_wp2_with fail
    exact ⟨L, A, fs.length, c0, m, c, _, _, _, _, _, _, _, _, _, _, _, _, _, _, _, _, _, _, _, _, _, _, _, _, _, _, _, _, _, _, _, _, _, _, _, _, _, _, _, _, _, _, _, _, rfl, HJ.out⟩
  · rintro a1 wr ⟨L, A', nl, cl, m', c', u2, u3, u5, u6, u7, u8, u9, u10, u11, u12, u13, u14, u15, u16, u17, u18, u19, u20, u21, u22, u23, u24, u25, u26, u27, u28, u29, u30, u31, u32, u33, u34, u35, u36, u37, u38, u39, u40, u41, u42, u43, u44, u45, u46, rfl, done, rest, cs, hL, hA, hLf, hAf, hcw, hcr, hdk, ht, hsub, hlen⟩
    have HL := Lib.hid hL; have HA := Lib.hid hA; have HLF := Lib.hid hLf; have HAF := Lib.hid hAf; have HCW := Lib.hid hcw; have HCR := Lib.hid hcr; have HDK := Lib.hid hdk; have HT := Lib.hid ht; have HSUB := Lib.hid hsub; have HLEN := Lib.hid hlen
    clear hLf hAf hcw hcr ht hsub hlen HFI
    cases rest with
    | nil =>
      obtain rfl : nl = 0 := hL.1.symm
      have k2 : wr.cell? ⟨bd, 2, none⟩ = some fv := hdk.blk.cell 2
      have q2 := hdk.blk.frozen 2
      have q3 := hdk.blk.frozen 3
      have k3 : (wr.setCell ⟨bd, 2, none⟩ (.slice none 0 0)).cell? ⟨bd, 3, none⟩ = some (.bool d.stopped) := (hdk.blk.set_ 2 _).cell 3
      clear hL hA hdk
      go_wp2_with fail
      simp only [Exit.jump]
      go_end0
      obtain ⟨W1, hW1⟩ : ∃ W1, W1 = (wr.setCell ⟨bd, 2, none⟩ (.slice none 0 0)).setCell ⟨bd, 3, none⟩ (.bool false) := ⟨_, rfl⟩
      rw [← hW1]
      have hT1 : Touch (fun k => k = bd ∨ fv.ownBlock = some k) wr W1 := by
        rw [hW1]
        exact ((Touch.refl (fun k => k = bd ∨ fv.ownBlock = some k) wr).setCell (p := ⟨bd, 2, none⟩) (.inr (.inl rfl)) _).setCell (p := ⟨bd, 3, none⟩) (.inr (.inl rfl)) _
      obtain ⟨r1, r2⟩ := HDK.out.rest hT1
      refine ⟨rfl, HT.out.trans hT1 (fun k _ hk => hk.elim .inl fun e => .inr (.inr (.inl e))), .slice none 0 0, done ++ [], ⟨?_, ?_, r1, Own.nil_ _ _ _, r2, HDK.out.apart⟩, ?_⟩
      · show Fl.crash d.fs cuts = _
        rw [HCR.out, List.map_append]
        rfl
      · rw [hW1]
        exact (HDK.out.blk.set_ 2 _).set_ 3 _
      · rintro k (e | e | e | e)
        · exact .inl (.inl e)
        · exact .inl (.inr (.inl e))
        · cases e
        · exact .inl (HSUB.out k (.inr (.inr (.inr e))))
    | cons f r =>
      obtain ⟨lb, lo, hLe, hl0, hnl, _⟩ := (show IsInts wr L nl cl (f.n :: r.map FR.n) from hL).cons
      obtain ⟨L2, cl2, hsl, hL2, hLb⟩ := (show IsInts wr L nl cl (f.n :: r.map FR.n) from hL).tail
      rw [List.length_map] at hnl hsl hL2
      subst hLe
      subst hnl
      have hlb := hL.2.1
      have hlm := hL.2.2.1
      unfold maxLen at hlm
      have hfm : f ∈ done ++ f :: r := by simp
      have hfind := find_mid hdk.apart
      have hkey := (hdk.file f hfm).key
      have hlk := hdk.map.look hkey
      rw [entV_some hfind] at hlk
      have hlkj : ∀ j, (Instr.lookup 78 (.map (some bm)) (.int .i64 f.n) false).run Tryz.prog (wr.drewN j) = .ok (.pointer (some ⟨f.g, 0, none⟩)) (wr.drewN j) := fun j => by
        have := (show IMap (wr.drewN j) bm _ from hdk.map).look hkey
        rwa [entV_some hfind] at this
      have k0 : wr.cell? ⟨bd, 0, none⟩ = some (.map (some bm)) := hdk.blk.cell 0
      have hF : ∀ j, FileAt (wr.drewN j) f := fun j => (hdk.file f hfm).heap rfl fun _ _ => rfl
      have hrb := HLEN.out f hfm
      have HF := Lib.hid hF; have HL2 := Lib.hid hL2; have HLB := Lib.hid hLb; have HKEY := Lib.hid hkey
      have hpos : (0 : Int) < ((r.length + 1 : Nat) : Int) := by omega
      clear hL hdk hL2 hLb hF hfind hkey
      cases cs with
      | nil =>
        obtain rfl : m' = 0 := hA.1.symm
        clear hA
        go_wp2_with fail
        go_quiet (fail)
        go_wp2_with fail
        refine (lose_any (wr.drewN nq) f 0 (HF.out nq) hrb (by have := hpos; omega) (by have := hpos; omega)).mono ?_
        intro e w2 he
        obtain rfl := he.1
        have hT2 : Touch (fun k => k = f.g ∨ f.v.ownBlock = some k) wr w2 := ((Touch.refl _ wr).drewN _).trans he.2.1 fun _ _ h => h
        have HE := Lib.hid he
        by_cases hk : (f.fl.lose 0).kept = 0
        · have k0' : w2.cell? ⟨bd, 0, none⟩ = some (.map (some bm)) := (HDK.out.blk.touch hT2 (by
            rintro (e | e)
            · exact HDK.out.blk.ne_ (HDK.out.file f hfm).blk (by decide) e
            · exact Own.ne_blk (HDK.out.file f hfm).row HDK.out.blk (by decide) e)).cell 0
          have hl0' : w2.cell? ⟨lb, lo, none⟩ = some (.int .i64 f.n) := hT2.cell hl0 fun hs => HLF.out _ rfl (HSUB.out _ (.inr (.inr (.inr ⟨f, hfm, hs⟩))))
          have him : IMap w2.drew bm ((done ++ f :: r).map fun f => (f.n, f.g)) := HDK.out.map.heap (hT2.block _ HDK.out.map.lt (by
            rintro (e | e)
            · exact HDK.out.map.ne_blk (HDK.out.file f hfm).blk e
            · exact HDK.out.map.ne_own (HDK.out.file f hfm).row e))
          obtain ⟨w3, hdel, him3, ht3⟩ := him.del_all HKEY.out
          have hJ := Lib.hid (CrashJ.drop (cuts := cuts) (cs := []) HL2.out HA.out (fun a ha => by obtain ⟨a0, h0, h1⟩ := HLB.out a ha; rw [h1]; exact HLF.out a0 h0) HAF.out HCW.out HCR.out HDK.out HT.out HSUB.out HLEN.out HE.out hk him3 (show Touch (fun k => k = bm) w2 w3 from ((Touch.refl _ w2).drew).trans ht3 fun _ _ h => h))
          rw [hk]
          clear hk hT2 him him3 ht3 he k0 hl0 hlk hlkj
          go_wp2_with fail
          go_region
          go_wp2_with fail
          go_step3
          exact ⟨rfl, ⟨L2, A', r.length, cl2, 0, c', _, _, _, _, _, _, _, _, _, _, _, _, _, _, _, _, _, _, _, _, _, _, _, _, _, _, _, _, _, _, _, _, _, _, _, _, _, _, _, _, _, _, _, _, rfl, hJ.out⟩, by show r.length < r.length + 1; omega⟩
        · have hJ := Lib.hid (CrashJ.keep (cuts := cuts) (cs := []) HL2.out HA.out (fun a ha => by obtain ⟨a0, h0, h1⟩ := HLB.out a ha; rw [h1]; exact HLF.out a0 h0) HAF.out HCW.out HCR.out HDK.out HT.out HSUB.out HLEN.out HE.out hk)
          have hkb : (((f.fl.lose 0).kept : Int) == 0) = false := by simpa using hk
          clear hk hT2 he k0 hl0 hlk hlkj
          go_wp2_with fail
          go_step3
          exact ⟨rfl, ⟨L2, A', r.length, cl2, 0, c', _, _, _, _, _, _, _, _, _, _, _, _, _, _, _, _, _, _, _, _, _, _, _, _, _, _, _, _, _, _, _, _, _, _, _, _, _, _, _, _, _, _, _, _, rfl, hJ.out⟩, by show r.length < r.length + 1; omega⟩
      | cons x xs =>
        obtain ⟨cb, co, hCe, hc0, hmn, _⟩ := hA.cons
        obtain ⟨A2, c2, hslA, hA2, hAb⟩ := hA.tail
        subst hCe
        subst hmn
        have hcb := hA.2.1
        have hcm := hA.2.2.1
        unfold maxLen at hcm
        have hxr := HCW.out x (by simp)
        have hposc : (0 : Int) < ((xs.length + 1 : Nat) : Int) := by omega
        have HA2 := Lib.hid hA2; have HAB := Lib.hid hAb
        clear hA hA2 hAb
        go_wp2_with fail
        go_quiet (fail)
        go_wp2_with fail
        go_quiet (fail)
        go_wp2_with fail
        refine (lose_any (wr.drewN _) f x (HF.out _) hrb (by omega) (by omega)).mono ?_
        intro e w2 he
        obtain rfl := he.1
        have hT2 : Touch (fun k => k = f.g ∨ f.v.ownBlock = some k) wr w2 := ((Touch.refl _ wr).drewN _).trans he.2.1 fun _ _ h => h
        have HE := Lib.hid he
        by_cases hk : (f.fl.lose x).kept = 0
        · have k0' : w2.cell? ⟨bd, 0, none⟩ = some (.map (some bm)) := (HDK.out.blk.touch hT2 (by
            rintro (e | e)
            · exact HDK.out.blk.ne_ (HDK.out.file f hfm).blk (by decide) e
            · exact Own.ne_blk (HDK.out.file f hfm).row HDK.out.blk (by decide) e)).cell 0
          have hl0' : w2.cell? ⟨lb, lo, none⟩ = some (.int .i64 f.n) := hT2.cell hl0 fun hs => HLF.out _ rfl (HSUB.out _ (.inr (.inr (.inr ⟨f, hfm, hs⟩))))
          have him : IMap w2.drew bm ((done ++ f :: r).map fun f => (f.n, f.g)) := HDK.out.map.heap (hT2.block _ HDK.out.map.lt (by
            rintro (e | e)
            · exact HDK.out.map.ne_blk (HDK.out.file f hfm).blk e
            · exact HDK.out.map.ne_own (HDK.out.file f hfm).row e))
          obtain ⟨w3, hdel, him3, ht3⟩ := him.del_all HKEY.out
          have hJ := Lib.hid (CrashJ.drop (cuts := cuts) (cs := x :: xs) HL2.out HA2.out (fun a ha => by obtain ⟨a0, h0, h1⟩ := HLB.out a ha; rw [h1]; exact HLF.out a0 h0) (fun a ha h0 => by obtain ⟨a0, h0', h1⟩ := HAB.out a ha; rw [h1]; exact HAF.out a0 h0' (by omega)) HCW.out HCR.out HDK.out HT.out HSUB.out HLEN.out HE.out hk him3 (show Touch (fun k => k = bm) w2 w3 from ((Touch.refl _ w2).drew).trans ht3 fun _ _ h => h))
          rw [hk]
          clear hk hT2 him him3 ht3 he k0 hl0 hlk hlkj hc0
          go_wp2_with fail
          go_region
          go_wp2_with fail
          go_step3
          exact ⟨rfl, ⟨L2, A2, r.length, cl2, xs.length, c2, _, _, _, _, _, _, _, _, _, _, _, _, _, _, _, _, _, _, _, _, _, _, _, _, _, _, _, _, _, _, _, _, _, _, _, _, _, _, _, _, _, _, _, _, rfl, hJ.out⟩, by show r.length < r.length + 1; omega⟩
        · have hJ := Lib.hid (CrashJ.keep (cuts := cuts) (cs := x :: xs) HL2.out HA2.out (fun a ha => by obtain ⟨a0, h0, h1⟩ := HLB.out a ha; rw [h1]; exact HLF.out a0 h0) (fun a ha h0 => by obtain ⟨a0, h0', h1⟩ := HAB.out a ha; rw [h1]; exact HAF.out a0 h0' (by omega)) HCW.out HCR.out HDK.out HT.out HSUB.out HLEN.out HE.out hk)
          have hkb : (((f.fl.lose x).kept : Int) == 0) = false := by simpa using hk
          clear hk hT2 he k0 hl0 hlk hlkj hc0
          go_wp2_with fail
          go_step3
          exact ⟨rfl, ⟨L2, A2, r.length, cl2, xs.length, c2, _, _, _, _, _, _, _, _, _, _, _, _, _, _, _, _, _, _, _, _, _, _, _, _, _, _, _, _, _, _, _, _, _, _, _, _, _, _, _, _, _, _, _, _, rfl, hJ.out⟩, by show r.length < r.length + 1; omega⟩
end Go.Proofs.YtlcmnihpfpmajaaGreat
