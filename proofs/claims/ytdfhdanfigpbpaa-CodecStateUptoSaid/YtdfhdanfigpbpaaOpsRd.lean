/- The contract of the codec's ReadOps. Conditions stand with it. -/
import Derived.Test.YtdfhdanfigpbpaaOpsW
import Derived.Test.YtdfhdanfigpbpaaRecO
namespace Go.Proofs.Ytdfhdanfigpbpaa
open Go.RowKit

theorem Try.infoOp : (Try.prog.info? 114).map (fun i => (i.zero, i.size, i.bytes)) = some (some (.agg #[.string ⟨#[]⟩, .string ⟨#[]⟩, .bool false]), 3, 40) := by kernel_rfl
theorem op_go {xs : List UInt8} {p q : Nat} {o : Dec.Op} (h : Dec.op xs p = .ok (o, q)) (hp : p ≤ xs.length) : p < q ∧ q ≤ xs.length := by
  obtain ⟨ys, he, hd, hq⟩ := Plain.op_dec h
  have hl := congrArg List.length hd
  simp only [List.length_drop, List.length_append] at hl
  have h1 : 0 < ys.length := by
    obtain ⟨y1, y3, h1, _, rfl⟩ := Plain.cat_inv he
    obtain ⟨y0, y2, _, h2, rfl⟩ := Plain.cat_inv h1
    simp only [Enc.flag, Option.some.injEq] at h2
    subst h2
    simp
    omega
  omega

/-- what a reading of a batch's changes gives, behind e's first bytes -/
def OpsGood (B : Nat) (xs : List UInt8) (x : Option Addr × Nat × Nat) (q : Nat) (w2 : World) : Prop :=
  ∃ l, Dec.ops xs 0 = .ok (l, q) ∧ VRow w2 114 3 (slV x) l.length (opsV l) ∧ ∀ k, (slV x).ownBlock = some k → B ≤ k
theorem own_none {k : Nat} {B : Nat} (h : (Value.slice none 0 0).ownBlock = some k) : B ≤ k := by cases h
theorem opsV_snoc (l : List Dec.Op) (o : Dec.Op) : opsV (l ++ [o]) = opsV l ++ opV o := by simp [opsV]

set_option maxRecDepth 100000 in
set_option maxHeartbeats 4000000 in
theorem ops1_read (be B : Nat) (A : Option Addr) (n c : Nat) (xs : List UInt8) (w : World) (he : Eye w be A n c xs 0) (hB : B ≤ w.heap.size) (hn : n ≤ 3000000000000) :
    Calls Try.prog 83 #[.pointer (some ⟨be, 0, none⟩)] w (RecG slV be (fun _ => False) A n c xs (fun a => Dec.ops xs 0 = .error a) (OpsGood B xs) w) := by
  have hxl : xs.length = n := he.2.1.1
  have hbe := he.1.lt
  have HK := Lib.hid (eplain_any be A n c xs 0 w he)
  have HN := Lib.hid he.2.2.2
  clear he
  go_enter Try.func83, Try.ntmps83
  go_wp2_with fail
  refine HK.out.mono ?_
  intro e w1 h
  rcases h.cases with ⟨a, hr, rfl, ht⟩ | ⟨N, p1, hr, rfl, he, ht⟩
  · exact ⟨rfl, .inl ⟨a, rfl, by unfold Dec.ops Dec.bind; rw [hr], ht.mono fun _ _ h => .inl h⟩⟩
  have hN0 : 0 ≤ N := (Dec.number_ok hr).2.2.2.2.2
  have hN1 : N ≤ 4503599627370496 := (Dec.number_ok hr).2.2.2.2.1
  have HR := Lib.hid hr; clear hr h
  have HE1 := Lib.hid he; clear he
  have HT1 := Lib.hid ht; clear ht
  go_wp2_with fail
  go_loopw [2, 6] (fun lv i wr => ∃ k : Nat, (k : Int) ≤ N ∧ i = .int .i64 k ∧ ∃ (lst : List Dec.Op) (p : Nat), lst.length = k ∧ k ≤ p ∧ VRow wr 114 3 lv k (opsV lst) ∧ (∀ j, lv.ownBlock = some j → B ≤ j ∧ w.heap.size ≤ j) ∧
      Dec.ops xs 0 = Dec.pre lst (Dec.many Dec.op xs (N.toNat - k) p) ∧ Eye wr be A n c xs p ∧ Touch (· = be) w wr) (fun _ i _ => N.toNat - (intOf i).toNat)
  case atStart =>
    refine ⟨0, by omega, rfl, [], p1, rfl, by omega, VRow.nil_ _ _ _, fun j h => ⟨own_none h, own_none h⟩, ?_, HE1.out, HT1.out⟩
    rw [Dec.pre_nil]
    unfold Dec.ops Dec.bind
    rw [HR.out]
    rfl
  case round =>
    obtain ⟨k, hk, rfl, lst, p, hlk, hkp, hvr, hown, hsp, he, ht⟩ := hrel
    have hpn := he.2.2.1
    have HVR := Lib.hid hvr; clear hvr
    have HOWN := Lib.hid hown; clear hown
    have HSP := Lib.hid hsp; clear hsp
    have HE := Lib.hid he; clear he
    have HT := Lib.hid ht; clear ht
    by_cases hlt : (k : Int) < N
    · have hm : N.toNat - k = (N.toNat - (k + 1)) + 1 := by omega
      go_wp2_with fail
      refine (etext_any be A n c xs p wr HE.out).mono ?_
      intro e w2 h
      rcases h.cases with ⟨a, hr, rfl, ht⟩ | ⟨x1, p2, hr, rfl, he, ht⟩
      · exact ⟨rfl, .inl ⟨a, rfl, by rw [HSP.out, hm]; exact Dec.pre_bad (by unfold Dec.op Dec.bind; rw [hr]), (HT.out.trans ht fun _ _ h => h).mono fun _ _ h => .inl h⟩⟩
      have HR1 := Lib.hid hr
      obtain ⟨ob, hob⟩ : ∃ ob, ob = w2.heap.size := ⟨_, rfl⟩
      obtain ⟨S2, hS2⟩ : ∃ S2, S2 = w2.alloc (.cells #[.string ⟨x1.toArray⟩, .string ⟨#[]⟩, .bool false] 114) := ⟨_, rfl⟩
      have HBO2 := Lib.hid (show Blk S2 ob 114 #[.string ⟨x1.toArray⟩, .string ⟨#[]⟩, .bool false] by rw [hS2, hob]; exact Blk.new _ _ _)
      have HE2 := Lib.hid (show Eye S2 be A n c xs p2 by rw [hS2]; exact ⟨he.1.alloc _, he.2.1.alloc _, he.2.2.1, he.2.2.2⟩)
      have HTR2 := Lib.hid (show Touch (· = be) wr S2 by rw [hS2]; exact ht.alloc _)
      have HT2 := Lib.hid (show Touch (· = be) w S2 from HT.out.trans HTR2.out fun _ _ h => h)
      have hobw : wr.heap.size ≤ ob := by rw [hob]; exact ht.size
      have hobe : ob ≠ be := by have := HE.out.1.lt; omega
      have hnb : ∀ j, u2.ownBlock = some j → ¬ (j = be) := fun j hj e => HVR.out.ne_blk HE.out.1 (by decide) (by rw [hj, e])
      have HNB := Lib.hid hnb
      have hww : w.heap.size ≤ wr.heap.size := HT.out.size
      have HOB := Lib.hid hob
      have HS2 := Lib.hid hS2
      clear hr h he ht hnb hS2 hob
      go_wp2_with fail
      rw [← HS2.out, ← HOB.out]
      refine (eflag_any be A n c xs p2 S2 HE2.out).mono ?_
      intro e w3 h
      rcases h.cases with ⟨a, hr, rfl, ht⟩ | ⟨g, p3, hr, rfl, he, ht⟩
      · exact ⟨rfl, .inl ⟨a, rfl, by rw [HSP.out, hm]; exact Dec.pre_bad (by unfold Dec.op Dec.bind; simp only [HR1.out]; simp only [hr]), (HT2.out.trans ht fun _ _ h => h).mono fun _ _ h => .inl h⟩⟩
      have HR2 := Lib.hid hr
      have hbo := HBO2.out.touch ht hobe
      have hc2 := hbo.cell 2
      have hf2 := hbo.frozen 2
      simp only [List.getElem?_toArray, List.getElem?_cons_zero, List.getElem?_cons_succ] at hc2
      obtain ⟨S3, hS3⟩ : ∃ S3, S3 = w3.setCell ⟨ob, 2, none⟩ (.bool g) := ⟨_, rfl⟩
      have HBO3 := Lib.hid (show Blk S3 ob 114 #[.string ⟨x1.toArray⟩, .string ⟨#[]⟩, .bool g] by rw [hS3]; exact hbo.set_ 2 (.bool g))
      have HSTEP : Hid (∀ (wa : World) (i : Nat) (u : Value) (q : Nat), Eye wa be A n c xs q → Eye (wa.setCell ⟨ob, i, none⟩ u) be A n c xs q) := Lib.hid (by
        intro wa i u q h
        refine ⟨h.1.far (p := ⟨ob, i, none⟩) (fun e => hobe e.symm) _, h.2.1.keep fun h0 p v hp ⟨a, ha, e⟩ => ?_, h.2.2.1, h.2.2.2⟩
        have := HN.out a ha h0
        rw [World.cell?_setCell_other _ _ _ _ (by intro h9; rw [← h9] at e; simp at e; omega)]
        exact hp)
      have HE3 := Lib.hid (show Eye S3 be A n c xs p3 by rw [hS3]; exact HSTEP.out _ _ _ _ he)
      have HTR3 := Lib.hid (show Touch (· = be) wr S3 by rw [hS3]; exact (HTR2.out.trans ht fun _ _ h => h).setCell (p := ⟨ob, 2, none⟩) (.inl hobw) _)
      have HT3 := Lib.hid (show Touch (· = be) w S3 from HT.out.trans HTR3.out fun _ _ h => h)
      have HS3 := Lib.hid hS3
      clear hr h he ht hbo hS3
      obtain ⟨ii, hi, hz, hi3, hi40⟩ := info_parts Try.infoOp
      have hc3 := HBO3.out.cell 2
      simp only [List.getElem?_toArray, List.getElem?_cons_zero, List.getElem?_cons_succ] at hc3
      rw [HS3.out] at hc3
      cases hg : g with
      | true =>
        subst hg
        have hd0 := HBO3.out.cell 0
        have hd1 := HBO3.out.cell 1
        have hd2 := HBO3.out.cell 2
        simp only [List.getElem?_toArray, List.getElem?_cons_zero, List.getElem?_cons_succ] at hd0 hd1 hd2
        rw [HS3.out] at hd0 hd1 hd2
        have HVR2 := Lib.hid (show VRow ((w3.setCell ⟨ob, 2, none⟩ (.bool true)).alloc (.cells #[.string ⟨x1.toArray⟩, .string ⟨#[]⟩, .bool true] 114)) 114 3 u2 k (opsV lst) from by
          rw [← HS3.out]
          exact (HVR.out.touch HTR3.out (fun j hj => HNB.out j hj)).alloc _)
        have HNC : Hid (∀ j u, [.string ⟨x1.toArray⟩, .string ⟨#[]⟩, .bool true][j]? = some u → ((w3.setCell ⟨ob, 2, none⟩ (.bool true)).alloc (.cells #[.string ⟨x1.toArray⟩, .string ⟨#[]⟩, .bool true] 114)).cell? ((⟨w3.heap.size, 0, none⟩ : Addr).add j) = some u) := Lib.hid (by
          have h := new_cells (w3.setCell ⟨ob, 2, none⟩ (.bool true)) 114 [.string ⟨x1.toArray⟩, .string ⟨#[]⟩, .bool true]
          rw [show (w3.setCell ⟨ob, 2, none⟩ (.bool true)).heap.size = w3.heap.size from by simp] at h
          exact h)
        have HSP2 := Lib.hid (show Dec.ops xs 0 = Dec.pre (lst ++ [⟨x1, [], true⟩]) (Dec.many Dec.op xs (N.toNat - (k + 1)) p3) from HSP.out.trans (by rw [hm]; exact Dec.pre_step (show Dec.op xs p = .ok (⟨x1, [], true⟩, p3) by unfold Dec.op Dec.bind; simp only [HR1.out]; simp only [HR2.out]; rfl)))
        have hgo := op_go (show Dec.op xs p = .ok (⟨x1, [], true⟩, p3) by unfold Dec.op Dec.bind; simp only [HR1.out]; simp only [HR2.out]; rfl) (by rw [hxl]; exact hpn)
        have hsz : w.heap.size ≤ w3.heap.size := by have h := HT3.out.size; rw [HS3.out] at h; simpa using h
        go_wp2_with (at_builtin; (refine wpList_append_lies _ rfl _ _ 50 rfl 0 114 ii (.agg #[.string ⟨#[]⟩, .string ⟨#[]⟩, .bool false]) 3 40 Try.underlying50 hi hz hi3 hi40 rfl (by decide) u2 k (opsV lst) rfl HVR2.out ⟨w3.heap.size, 0, none⟩ 1 1 [.string ⟨x1.toArray⟩, .string ⟨#[]⟩, .bool true] rfl rfl HNC.out (by intro u hu; simp only [List.mem_cons, List.not_mem_nil, or_false] at hu; rcases hu with rfl | rfl | rfl <;> rfl) (by omega) (by unfold maxLen; omega) (by omega) (Nat.zero_le _) _ rfl ?_); intro g9 c9 w9 hr9 hg9 ho9 hl9)
        have hend9 : Eye w9 be A n c xs p3 ∧ Touch (· = be) w w9 := by
          rw [← HS3.out] at hg9
          have h1 : Touch (· = be) w (S3.alloc (.cells #[.string ⟨x1.toArray⟩, .string ⟨#[]⟩, .bool true] 114)) := HT3.out.alloc _
          have h2 : Eye (S3.alloc (.cells #[.string ⟨x1.toArray⟩, .string ⟨#[]⟩, .bool true] 114)) be A n c xs p3 := ⟨HE3.out.1.alloc _, HE3.out.2.1.alloc _, HE3.out.2.2.1, HE3.out.2.2.2⟩
          refine ⟨⟨h2.1.grown hg9 (fun e => HNB.out be e.symm rfl), ?_, h2.2.2.1, h2.2.2.2⟩, h1.grown hg9 (fun j hj => .inl (HOWN.out j hj).2)⟩
          refine h2.2.1.keep fun h0 p v hp ⟨a, ha, e⟩ => ?_
          have h4 := HN.out a ha h0
          have h6 : a.block < w.heap.size := by omega
          refine (World.cell?_of_block (hg9.block p.block ?_ ?_)).trans hp
          · rw [e]
            exact Nat.lt_of_lt_of_le h6 h1.size
          · intro e5
            rw [e] at e5
            have := (HOWN.out _ e5.symm).2
            omega
        have hown9 : ∀ j, (Value.slice (some ⟨g9, 0, none⟩) (k + 1) c9).ownBlock = some j → B ≤ j ∧ w.heap.size ≤ j := by
          intro j hj
          have hj' : g9 = j := by simpa [Value.ownBlock] using hj
          subst hj'
          rcases ho9 with h | h
          · exact HOWN.out _ h
          · have : w.heap.size ≤ g9 := by rw [h]; simp; omega
            exact ⟨by omega, this⟩
        have HEND9 := Lib.hid hend9
        have HOWN9 := Lib.hid hown9
        have HR9 := Lib.hid (show VRow w9 114 3 (.slice (some ⟨g9, 0, none⟩) (k + 1) c9) (k + 1) (opsV (lst ++ [⟨x1, [], true⟩])) from by rw [opsV_snoc]; exact hr9)
        clear hend9 hown9 hr9 hg9 ho9 hl9
        go_roundw
        case rel => exact ⟨k + 1, by omega, by go_num, lst ++ [⟨x1, [], true⟩], p3, by simp [hlk], by omega, HR9.out, HOWN9.out, HSP2.out, HEND9.out.1, HEND9.out.2⟩
        case measure => simp [intOf] <;> omega
      | false =>
        subst hg
        go_wp2_with fail
        rw [← HS3.out]
        refine (etext_any be A n c xs p3 S3 HE3.out).mono ?_
        intro e w4 h
        rcases h.cases with ⟨a, hr, rfl, ht⟩ | ⟨x2, p4, hr, rfl, he, ht⟩
        · exact ⟨rfl, .inl ⟨a, rfl, by rw [HSP.out, hm]; exact Dec.pre_bad (by unfold Dec.op Dec.bind; simp only [HR1.out]; simp only [HR2.out]; simp only [hr]; rfl), (HT3.out.trans ht fun _ _ h => h).mono fun _ _ h => .inl h⟩⟩
        have HR3 := Lib.hid hr
        have hbo := HBO3.out.touch ht hobe
        have hc1 := hbo.cell 1
        have hf1 := hbo.frozen 1
        simp only [List.getElem?_toArray, List.getElem?_cons_zero, List.getElem?_cons_succ] at hc1
        obtain ⟨S4, hS4⟩ : ∃ S4, S4 = w4.setCell ⟨ob, 1, none⟩ (.string ⟨x2.toArray⟩) := ⟨_, rfl⟩
        have HBO4 := Lib.hid (show Blk S4 ob 114 #[.string ⟨x1.toArray⟩, .string ⟨x2.toArray⟩, .bool false] by rw [hS4]; exact hbo.set_ 1 (.string ⟨x2.toArray⟩))
        have HE4 := Lib.hid (show Eye S4 be A n c xs p4 by rw [hS4]; exact HSTEP.out _ _ _ _ he)
        have HTR4 := Lib.hid (show Touch (· = be) wr S4 by rw [hS4]; exact (HTR3.out.trans ht fun _ _ h => h).setCell (p := ⟨ob, 1, none⟩) (.inl hobw) _)
        have HT4 := Lib.hid (show Touch (· = be) w S4 from HT.out.trans HTR4.out fun _ _ h => h)
        have HS4 := Lib.hid hS4
        clear hr h he ht hbo hS4
        have hd0 := HBO4.out.cell 0
        have hd1 := HBO4.out.cell 1
        have hd2 := HBO4.out.cell 2
        simp only [List.getElem?_toArray, List.getElem?_cons_zero, List.getElem?_cons_succ] at hd0 hd1 hd2
        rw [HS4.out] at hd0 hd1 hd2
        have HVR2 := Lib.hid (show VRow ((w4.setCell ⟨ob, 1, none⟩ (.string ⟨x2.toArray⟩)).alloc (.cells #[.string ⟨x1.toArray⟩, .string ⟨x2.toArray⟩, .bool false] 114)) 114 3 u2 k (opsV lst) from by
          rw [← HS4.out]
          exact (HVR.out.touch HTR4.out (fun j hj => HNB.out j hj)).alloc _)
        have HNC : Hid (∀ j u, [.string ⟨x1.toArray⟩, .string ⟨x2.toArray⟩, .bool false][j]? = some u → ((w4.setCell ⟨ob, 1, none⟩ (.string ⟨x2.toArray⟩)).alloc (.cells #[.string ⟨x1.toArray⟩, .string ⟨x2.toArray⟩, .bool false] 114)).cell? ((⟨w4.heap.size, 0, none⟩ : Addr).add j) = some u) := Lib.hid (by
          have h := new_cells (w4.setCell ⟨ob, 1, none⟩ (.string ⟨x2.toArray⟩)) 114 [.string ⟨x1.toArray⟩, .string ⟨x2.toArray⟩, .bool false]
          rw [show (w4.setCell ⟨ob, 1, none⟩ (.string ⟨x2.toArray⟩)).heap.size = w4.heap.size from by simp] at h
          exact h)
        have HSP2 := Lib.hid (show Dec.ops xs 0 = Dec.pre (lst ++ [⟨x1, x2, false⟩]) (Dec.many Dec.op xs (N.toNat - (k + 1)) p4) from HSP.out.trans (by rw [hm]; exact Dec.pre_step (show Dec.op xs p = .ok (⟨x1, x2, false⟩, p4) by unfold Dec.op Dec.bind; simp only [HR1.out]; simp only [HR2.out]; simp only [HR3.out]; rfl)))
        have hgo := op_go (show Dec.op xs p = .ok (⟨x1, x2, false⟩, p4) by unfold Dec.op Dec.bind; simp only [HR1.out]; simp only [HR2.out]; simp only [HR3.out]; rfl) (by rw [hxl]; exact hpn)
        have hsz : w.heap.size ≤ w4.heap.size := by have h := HT4.out.size; rw [HS4.out] at h; simpa using h
        go_wp2_with (at_builtin; (refine wpList_append_lies _ rfl _ _ 50 rfl 0 114 ii (.agg #[.string ⟨#[]⟩, .string ⟨#[]⟩, .bool false]) 3 40 Try.underlying50 hi hz hi3 hi40 rfl (by decide) u2 k (opsV lst) rfl HVR2.out ⟨w4.heap.size, 0, none⟩ 1 1 [.string ⟨x1.toArray⟩, .string ⟨x2.toArray⟩, .bool false] rfl rfl HNC.out (by intro u hu; simp only [List.mem_cons, List.not_mem_nil, or_false] at hu; rcases hu with rfl | rfl | rfl <;> rfl) (by omega) (by unfold maxLen; omega) (by omega) (Nat.zero_le _) _ rfl ?_); intro g9 c9 w9 hr9 hg9 ho9 hl9)
        have hend9 : Eye w9 be A n c xs p4 ∧ Touch (· = be) w w9 := by
          rw [← HS4.out] at hg9
          have h1 : Touch (· = be) w (S4.alloc (.cells #[.string ⟨x1.toArray⟩, .string ⟨x2.toArray⟩, .bool false] 114)) := HT4.out.alloc _
          have h2 : Eye (S4.alloc (.cells #[.string ⟨x1.toArray⟩, .string ⟨x2.toArray⟩, .bool false] 114)) be A n c xs p4 := ⟨HE4.out.1.alloc _, HE4.out.2.1.alloc _, HE4.out.2.2.1, HE4.out.2.2.2⟩
          refine ⟨⟨h2.1.grown hg9 (fun e => HNB.out be e.symm rfl), ?_, h2.2.2.1, h2.2.2.2⟩, h1.grown hg9 (fun j hj => .inl (HOWN.out j hj).2)⟩
          refine h2.2.1.keep fun h0 p v hp ⟨a, ha, e⟩ => ?_
          have h4 := HN.out a ha h0
          have h6 : a.block < w.heap.size := by omega
          refine (World.cell?_of_block (hg9.block p.block ?_ ?_)).trans hp
          · rw [e]
            exact Nat.lt_of_lt_of_le h6 h1.size
          · intro e5
            rw [e] at e5
            have := (HOWN.out _ e5.symm).2
            omega
        have hown9 : ∀ j, (Value.slice (some ⟨g9, 0, none⟩) (k + 1) c9).ownBlock = some j → B ≤ j ∧ w.heap.size ≤ j := by
          intro j hj
          have hj' : g9 = j := by simpa [Value.ownBlock] using hj
          subst hj'
          rcases ho9 with h | h
          · exact HOWN.out _ h
          · have : w.heap.size ≤ g9 := by rw [h]; simp; omega
            exact ⟨by omega, this⟩
        have HEND9 := Lib.hid hend9
        have HOWN9 := Lib.hid hown9
        have HR9 := Lib.hid (show VRow w9 114 3 (.slice (some ⟨g9, 0, none⟩) (k + 1) c9) (k + 1) (opsV (lst ++ [⟨x1, x2, false⟩])) from by rw [opsV_snoc]; exact hr9)
        clear hend9 hown9 hr9 hg9 ho9 hl9
        go_roundw
        case rel => exact ⟨k + 1, by omega, by go_num, lst ++ [⟨x1, x2, false⟩], p4, by simp [hlk], by omega, HR9.out, HOWN9.out, HSP2.out, HEND9.out.1, HEND9.out.2⟩
        case measure => simp [intOf] <;> omega
    · obtain rfl : (k : Int) = N := by omega
      obtain ⟨A', c', rfl, _⟩ := HVR.out.form
      go_wp2_with fail
      refine bodyPost_ret (v := .slice A' k c') (by simp [results, Try.results83, go_sem]) rfl ?_
      have h0 : ((k : Int).toNat - k) = 0 := by omega
      have hfin := HSP.out
      rw [h0, Dec.pre_done] at hfin
      exact .inr ⟨(A', k, c'), p, rfl, ⟨lst, hfin, by rw [hlk]; exact HVR.out, fun j hj => (HOWN.out j hj).1⟩, HE.out, HT.out.mono fun _ _ h => .inl h⟩

/-- What a reading of a whole batch gives. -/
def OpsEnd (w : World) (r : Except Nat (List Dec.Op)) (e : Ending) (w' : World) : Prop :=
  Fresh w w' ∧ match r with
  | .ok l => ∃ A c, e = .returned (.tuple #[.slice A l.length c, .int .i64 0, .int .i64 0]) ∧ VRow w' 114 3 (.slice A l.length c) l.length (opsV l) ∧ ∀ k, (Value.slice A l.length c).ownBlock = some k → w.heap.size ≤ k
  | .error a => e = .returned (.tuple #[.slice none 0 0, .int .i64 (a : Nat), .int .i64 2])
theorem OpsEnd.cases {w : World} {r : Except Nat (List Dec.Op)} {e : Ending} {w' : World} (h : OpsEnd w r e w') :
    (∃ a, r = .error a ∧ e = .returned (.tuple #[.slice none 0 0, .int .i64 a, .int .i64 2]) ∧ Fresh w w') ∨
    (∃ l A c, r = .ok l ∧ e = .returned (.tuple #[.slice A l.length c, .int .i64 0, .int .i64 0]) ∧ VRow w' 114 3 (.slice A l.length c) l.length (opsV l) ∧ (∀ k, (Value.slice A l.length c).ownBlock = some k → w.heap.size ≤ k) ∧ Fresh w w') := by
  cases r with
  | error a => exact .inl ⟨a, rfl, h.2, h.1⟩
  | ok l =>
    obtain ⟨ht, A, c, h1, h2, h3⟩ := h
    exact .inr ⟨l, A, c, rfl, h1, h2, h3, ht⟩
theorem OpsEnd.bad {w w' : World} {r : Except Nat (List Dec.Op)} {a : Nat} (hr : r = .error a) (h : Fresh w w') : OpsEnd w r (.returned (.tuple #[.slice none 0 0, .int .i64 a, .int .i64 2])) w' := hr ▸ ⟨h, rfl⟩
theorem OpsEnd.good {w w' : World} {r : Except Nat (List Dec.Op)} {l : List Dec.Op} {A : Option Addr} {m c : Nat} (hr : r = .ok l) (hm : m = l.length) (h1 : VRow w' 114 3 (.slice A m c) m (opsV l)) (h2 : ∀ k, (Value.slice A m c).ownBlock = some k → w.heap.size ≤ k) (h : Fresh w w') :
    OpsEnd w r (.returned (.tuple #[.slice A m c, .int .i64 0, .int .i64 0])) w' := by subst hm; exact hr ▸ ⟨h, A, c, rfl, h1, h2⟩

set_option maxRecDepth 20000 in
set_option maxHeartbeats 1000000 in
theorem ops_read (A : Option Addr) (n c : Nat) (xs : List UInt8) (w : World) (hbs : Bs w A n c xs) (hA : ∀ a, A = some a → 0 < n → a.block < w.heap.size) (hn : n ≤ 3000000000000) :
    Calls Try.prog 36 #[.slice A n c] w (OpsEnd w (Dec.whole (Dec.ops xs 0) n)) := by
  have HK := Lib.hid (record_ops_g 83 #[] (fun _ => False) A n c xs (fun a => Dec.ops xs 0 = .error a) (OpsGood (w.heap.size + 1 + 1 + 1) xs) w hbs hA
    (fun k hk => hk.elim) (fun args w => by simp [go_sem]) (fun x q w2 w3 _ ⟨l, h1, h2, h3⟩ ht => ⟨l, h1, h2.touch ht (fun k hk => by have := h3 k hk; omega), h3⟩)
    (fun w1 be hf hbe he => by simpa using ops1_read be (w.heap.size + 1 + 1 + 1) A n c xs w1 he (by have := he.1.lt; omega) hn))
  clear hbs hA
  go_enter Try.func36, Try.ntmps36
  go_wp2_with fail
  refine HK.out.mono ?_
  rintro e w1 ⟨ht, h⟩
  have HT := Lib.hid (show Fresh w w1 from ht)
  rcases h with ⟨a, hbad, rfl⟩ | ⟨x, q, w2, ⟨l, hl, hvr, hown⟩, h⟩
  · have HE := Lib.hid (show OpsEnd w (Dec.whole (Dec.ops xs 0) n) (.returned (.tuple #[.slice none 0 0, .int .i64 a, .int .i64 2])) w1 from OpsEnd.bad (by unfold Dec.whole; simp only [hbad]) HT.out)
    clear hbad
    go_wp2_with fail
    exact bodyPost_ret (v := .tuple #[.slice none 0 0, .int .i64 a, .int .i64 2]) (by simp [results, Try.results36, go_sem]) rfl HE.out
  · rcases h with ⟨hq, rfl⟩ | ⟨hq, rfl, rfl⟩
    · have HE := Lib.hid (show OpsEnd w (Dec.whole (Dec.ops xs 0) n) (.returned (.tuple #[.slice none 0 0, .int .i64 q, .int .i64 2])) w1 from OpsEnd.bad (by rw [hl]; exact if_pos hq) HT.out)
      clear hl hvr hown
      go_wp2_with fail
      exact bodyPost_ret (v := .tuple #[.slice none 0 0, .int .i64 q, .int .i64 2]) (by simp [results, Try.results36, go_sem]) rfl HE.out
    · obtain ⟨A', m', c'⟩ := x
      have hm : m' = l.length := by
        obtain ⟨A2, c2, e2, _⟩ := hvr.form
        injection e2
      subst hm
      have HE := Lib.hid (show OpsEnd w (Dec.whole (Dec.ops xs 0) n) (.returned (.tuple #[.slice A' l.length c', .int .i64 0, .int .i64 0])) w2 from OpsEnd.good (by rw [hl]; exact if_neg (by omega)) rfl hvr (fun k hk => by have := hown k hk; omega) HT.out)
      clear hl hvr hown
      unfold slV
      go_wp2_with fail
      exact bodyPost_ret (v := .tuple #[.slice A' l.length c', .int .i64 0, .int .i64 0]) (by simp [results, Try.results36, go_sem]) rfl HE.out
end Go.Proofs.Ytdfhdanfigpbpaa
