/- Part 14 of the texts behind the row. -/
import Derived.Test.YtdgdoeknpakmlaaGreatB5e02fd1d5c
set_option linter.unusedVariables false
set_option linter.unusedSimpArgs false
namespace Go.Proofs.YtdgdoeknpakmlaaGreat.Den
open Go
set_option linter.unusedVariables false
set_option linter.unusedSimpArgs false
theorem rankAdd_ok {ks : List Knot} {all t : Int} (h : okB ks all = true) (ht : thingB t = true) (ha : all < 2000) :
    (rankAdd ks all t).2 = true ∧ okB (rankAdd ks all t).1.1 (rankAdd ks all t).1.2.1 = true ∧ (rankAdd ks all t).1.2.1 = all + 1 ∧
    ∀ i, ksum (plo i) (rankAdd ks all t).1.1 ≤ ksum (plo i) ks + (if t ≤ i then 1 else 0) ∧ ksum (phi i) ks + (if t ≤ i then 1 else 0) ≤ ksum (phi i) (rankAdd ks all t).1.1 := by
  have tt := thing_le ht
  have hB : addB ks all t = true := by
    unfold addB
    simp only [Bool.and_eq_true, decide_eq_true_eq]
    exact ⟨h, tt.1, tt.2, ha⟩
  obtain ⟨e1, e2⟩ := addS_sumK hB
  have fa := okB_form h
  obtain ⟨g1, g2, g3, g4, g5⟩ := one_knot tt.1 tt.2
  obtain ⟨s1, s2, s3⟩ := sumK_form (ka := ks) (kb := [(64 + t, 1, ())]) (alla := all) (allb := 1) fa g1 g2 (by omega) g3 (by omega)
  have e : rankAdd ks all t = ((sumK ks [(64 + t, 1, ())] (all + 1), all + 1, ()), true) := by
    unfold rankAdd
    rw [hB, cond_true, e1, e2]
  rw [e]
  have lo := fun i => s2 (plo i) (plo_kids i)
  have hi := fun i => s3 (phi i) (phi_kids i)
  simp only [g4, g5] at lo hi
  generalize sumK ks [(64 + t, 1, ())] (all + 1) = K at s1 lo hi
  exact ⟨rfl, s1, rfl, fun i => ⟨lo i, hi i⟩⟩
theorem implRankAdd_eq (f : Nat) (ks : List Knot) (all t : Int) (hl : ks.length < 2147483648) (hf : ks.length < f) (hf2 : 128 < f) : impl_RankAdd_fn f ((ks, all, ()), (t, ()), ()) = some ((rankAdd ks all t).1, ((rankAdd ks all t).2, ()), ()) := by
  rw [implAdd_eq f ks all t hl hf hf2]; unfold rankAdd
  cases addB ks all t <;> rfl
theorem fst6_pos {p : Int → Bool} : 0 < (fst6 p).length ↔ ∃ k, 0 ≤ k ∧ k < 64 ∧ p k = true := by
  unfold fst6
  rw [List.length_take]
  constructor
  · intro h
    have h' : 0 < (ascN p 64 0).length := by omega
    obtain ⟨k, hk⟩ := List.exists_mem_of_length_pos h'
    have := ascN_mem.1 hk
    exact ⟨k, this.1, by omega, this.2.2⟩
  · rintro ⟨k, h0, h1, hp⟩
    have : k ∈ ascN p 64 0 := ascN_mem.2 ⟨h0, by omega, hp⟩
    have := List.length_pos_of_mem this
    omega
theorem fewAdd_fst6 {p : Int → Bool} {t : Int} (ht : thingB t = true) : fewAdd (fst6 p) t = (fst6 (fun k => p k || k == mark t), true) := by
  unfold fewAdd
  have m := mark_rng ht
  rw [fst6_form, ht, Bool.and_self, cond_true, few6_fst6 p m.1 m.2]
theorem fewAdd_ok {l : List Int} {t : Int} (h : fewB l = true) (ht : thingB t = true) : (fewAdd l t).2 = true ∧ fewB (fewAdd l t).1 = true ∧ 0 < (fewAdd l t).1.length := by
  rw [form_fst6 h, fewAdd_fst6 ht]
  have m := mark_rng ht
  exact ⟨rfl, fst6_form _, fst6_pos.2 ⟨mark t, m.1, by omega, by simp⟩⟩
theorem fst6_congr {p q : Int → Bool} (h : ∀ k, 0 ≤ k → k < 64 → p k = q k) : fst6 p = fst6 q := by
  unfold fst6
  rw [ascN_congr fun k h1 h2 => h k h1 (by omega)]
structure Form (s : SumD) : Prop where
  rough : roughB s.1 = true
  few : fewB s.2.1 = true
  top : topB s.2.2.1 s.2.2.2.1 s.2.2.2.2.1 = true
  rank : okB s.2.2.2.2.2.1 s.2.2.2.2.2.2.1 = true
  all : allR s.1 = s.2.2.2.2.1
  same : s.2.2.2.2.1 = s.2.2.2.2.2.2.1
  some : 0 < s.2.1.length ↔ 0 < s.2.2.2.2.1
theorem form_iff {s : SumD} : sumBD s = true ↔ Form s := by
  unfold sumBD sumB
  simp only [Bool.and_eq_true, beq_iff_eq]
  constructor
  · rintro ⟨h1, h2, h3, h4, h5, h6, h7⟩
    have h8 := decide_eq_decide.1 h7
    exact ⟨h1, h2, h3, h4, h5, h6, by omega⟩
  · rintro ⟨h1, h2, h3, h4, h5, h6, h7⟩
    exact ⟨h1, h2, h3, h4, h5, h6, decide_eq_decide.2 (by omega)⟩
theorem Form.all_rng {s : SumD} (h : Form s) : 0 ≤ s.2.2.2.2.1 ∧ s.2.2.2.2.1 ≤ 2000 := (four h.top).2.2.2
abbrev pt (s : SumD) : List Knot := s.2.2.1
abbrev ptLost (s : SumD) : Int := s.2.2.2.1
abbrev allOf (s : SumD) : Int := s.2.2.2.2.1
abbrev kn (s : SumD) : List Knot := s.2.2.2.2.2.1
theorem sumAdd_ok {s : SumD} {t : Int} (h : Form s) (ht : thingB t = true) (ha : allOf s < 2000) :
    (sumAdd s t).2 = true ∧ Form (sumAdd s t).1 ∧ allOf (sumAdd s t).1 = allOf s + 1 ∧ (sumAdd s t).1.1 = (roughAdd s.1 t 1).1 ∧ (sumAdd s t).1.2.1 = (fewAdd s.2.1 t).1 ∧
    (∀ i, i < 3 → ∀ j, cell (sumAdd s t).1.1 i j = cell s.1 i j + if pl i t = j then 1 else 0) ∧ ptLost s ≤ ptLost (sumAdd s t).1 ∧
    (∀ k, cntK (pt (sumAdd s t).1) k ≤ cntK (pt s) k + (if t = k then 1 else 0) ∧ cntK (pt s) k + (if t = k then 1 else 0) + ptLost s ≤ cntK (pt (sumAdd s t).1) k + ptLost (sumAdd s t).1) ∧
    ∀ i, ksum (plo i) (kn (sumAdd s t).1) ≤ ksum (plo i) (kn s) + (if t ≤ i then 1 else 0) ∧ ksum (phi i) (kn s) + (if t ≤ i then 1 else 0) ≤ ksum (phi i) (kn (sumAdd s t).1) := by
  have hr := h.all_rng
  have ha' : s.2.2.2.2.1 < 2000 := ha
  have r := roughAdd_ok (n := 1) h.rough ht (by omega) (by have := h.all; show allR s.1 + 1 ≤ 2000; omega)
  have m := fewAdd_ok h.few ht
  have p := topAdd_ok h.top ht ha
  have k := rankAdd_ok h.rank ht (by have := h.same; omega)
  have hB := form_iff.2 h
  have e : sumAdd s t = (((roughAdd s.1 t 1).1, (fewAdd s.2.1 t).1, (topAdd s.2.2.1 s.2.2.2.1 s.2.2.2.2.1 t).1.1, (topAdd s.2.2.1 s.2.2.2.1 s.2.2.2.2.1 t).1.2.1, (topAdd s.2.2.1 s.2.2.2.1 s.2.2.2.2.1 t).1.2.2.1, (rankAdd s.2.2.2.2.2.1 s.2.2.2.2.2.2.1 t).1.1, (rankAdd s.2.2.2.2.2.1 s.2.2.2.2.2.2.1 t).1.2.1, ()), true) := by
    unfold sumAdd
    simp only [hB, ht, show s.2.2.2.2.1 < 2000 from ha, decide_true, Bool.and_self, cond_true]
  rw [e]
  refine ⟨rfl, ⟨r.2.1, m.2.1, p.2.1, k.2.1, ?_, ?_, ?_⟩, p.2.2.1, rfl, rfl, r.2.2.2, p.2.2.2.1, p.2.2.2.2, k.2.2.2⟩
  · show allR (roughAdd s.1 t 1).1 = (topAdd s.2.2.1 s.2.2.2.1 s.2.2.2.2.1 t).1.2.2.1
    rw [r.2.2.1, p.2.2.1, h.all]
  · show (topAdd s.2.2.1 s.2.2.2.1 s.2.2.2.2.1 t).1.2.2.1 = (rankAdd s.2.2.2.2.2.1 s.2.2.2.2.2.2.1 t).1.2.1
    rw [p.2.2.1, k.2.2.1, h.same]
  · show 0 < (fewAdd s.2.1 t).1.length ↔ 0 < (topAdd s.2.2.1 s.2.2.2.1 s.2.2.2.2.1 t).1.2.2.1
    rw [p.2.2.1]
    exact ⟨fun _ => (by omega), fun _ => m.2.2⟩
theorem sumAdd_no {s : SumD} {t : Int} (h : (sumBD s && (thingB t && decide (allOf s < 2000))) = false) : sumAdd s t = (noSum, false) := by
  unfold sumAdd
  rw [show (sumBD s && (thingB t && decide (s.2.2.2.2.1 < 2000))) = false from h]; rfl
theorem counted_eq (f : Nat) (hf : 1000 < f) (s : SumD) (t : Int) (h : Form s) (hk : s.2.2.2.2.2.1.length ≤ 128) : impl_Sum_counted_fn f (s, (t, ()), ()) = some ((sumAdd s t).1, ((sumAdd s t).2, ()), ()) := by
  obtain ⟨rs, ms, ps, lost, tall, ks, rall, ⟨⟩⟩ := s
  have hr := h.all_rng
  have h1 := h.rough; have h2 := h.few; have h3 := h.top; have h4 := h.rank; have h5 := h.all; have h6 := h.same
  simp only at h1 h2 h3 h4 h5 h6 hr hk
  have e1 : impl_Rough_with_fn f ((rs, ()), t, ()) = some ((((roughAdd rs t 1).1, ()), ()), (roughAdd rs t 1).2, ()) := by
    show impl_Rough_with_pre f rs t = _
    unfold impl_Rough_with_pre
    rw [implRoughAdd_eq f rs t 1 (by omega)]; rfl
  have e2 : impl_Few_with_fn f ((ms, ()), t, ()) = some ((((fewAdd ms t).1, ()), ()), (fewAdd ms t).2, ()) := by
    show impl_Few_with_pre f ms t = _
    unfold impl_Few_with_pre
    rw [implFewAdd_eq f ms t (by omega)]; rfl
  have e3 : impl_Top_with_fn f ((ps, lost, tall, ()), t, ()) = some (((topAdd ps lost tall t).1, ()), (topAdd ps lost tall t).2, ()) := by
    show impl_Top_with_pre f ps lost tall t = _
    unfold impl_Top_with_pre
    rw [implTopAdd_eq f hf ps lost tall t]; rfl
  have e4 : impl_Rank_with_fn f ((ks, rall, ()), t, ()) = some (((rankAdd ks rall t).1, ()), (rankAdd ks rall t).2, ()) := by
    show impl_Rank_with_pre f ks rall t = _
    unfold impl_Rank_with_pre
    rw [implRankAdd_eq f ks rall t (by omega) (by omega) (by omega)]; rfl
  show impl_Sum_counted_pre f rs ms ps lost tall ks rall t = _
  unfold impl_Sum_counted_pre
  rw [show impl_Sum_ways_fn f ((rs, ms, ps, lost, tall, ks, rall, ()), ()) = some ((((rs, ()), ()), ((ms, ()), ()), ((ps, lost, tall, ()), ()), ((ks, rall, ()), ()), ()), ()) from rfl, Option.bind_some]
  simp only [e1, Option.bind_some]
  cases ht : thingB t
  · have : (roughAdd rs t 1).2 = false := by unfold roughAdd; rw [ht]; simp
    rw [this, sumAdd_no (by rw [ht]; simp)]; rfl
  · by_cases ha : tall < 2000
    · have r := roughAdd_ok (n := 1) h1 ht (by omega) (by rw [h5]; omega)
      have m := fewAdd_ok h2 ht
      have p := topAdd_ok h3 ht ha
      have k := rankAdd_ok h4 ht (by omega)
      have hB := form_iff.2 h
      rw [r.1]
      simp only [Bool.not_true, cond_false, e2, Option.bind_some, m.1, e3, p.1, e4, k.1]
      unfold sumAdd
      simp only [hB, ht, ha, decide_true, Bool.and_self, cond_true]
      rfl
    · have : (roughAdd rs t 1).2 = false := by
        have ew : w64 (2000 - isum (rs.getD 0 [])) = 2000 - tall := by
          rw [← h5, allR_eq h1, w64_id] <;> · have := allR_eq h1; omega
        have n : ¬ ((0 : Int) ≤ 1 ∧ (1 : Int) ≤ 2000 - tall) := by omega
        unfold roughAdd; rw [ew]; simp only [n, decide_false, Bool.and_false, cond_false]
      rw [this, sumAdd_no (by
        have : ¬ allOf (rs, ms, ps, lost, tall, ks, rall, ()) < 2000 := ha
        simp [this])]; rfl
theorem implSumAdd_eq (f : Nat) (hf : 1000 < f) (s : SumD) (t : Int) (hs : SmallS s 129) : impl_SumAdd_fn f (s, (t, ()), ()) = some ((sumAdd s t).1, ((sumAdd s t).2, ()), ()) := by
  obtain ⟨rs, ms, ps, lost, tall, ks, rall, ⟨⟩⟩ := s
  have e0 := implSumD_eq f (rs, ms, ps, lost, tall, ks, rall, ()) hs (by omega) (by omega) (by omega)
  show impl_SumAdd_pre f rs ms ps lost tall ks rall t = _
  unfold impl_SumAdd_pre
  rw [e0, Option.bind_some]
  cases hB : sumBD (rs, ms, ps, lost, tall, ks, rall, ())
  · rw [sumAdd_no (by rw [hB]; rfl)]; rfl
  · have h := form_iff.1 hB
    have := (okB_form h.rank).len
    simp only [Bool.not_true, cond_false]
    rw [counted_eq f hf _ t h (by omega), Option.bind_some]
end Go.Proofs.YtdgdoeknpakmlaaGreat.Den
namespace Go.Proofs.YtdgdoeknpakmlaaGreat.Den
open Go
set_option linter.unusedVariables false
set_option linter.unusedSimpArgs false
abbrev bytesC : List (Kd × Bool) := [(Kd.list (.int .u8), false)]
theorem bytes_of {a : CsT bytesC} (h : wfCs bytesC a) : a.1.length ≤ maxLen ∧ ∀ x ∈ a.1, 0 ≤ x ∧ x ≤ 255 := by
  have h1 := h.1
  simp only [wfD] at h1
  refine ⟨h1.1, fun x hx => ?_⟩
  have h2 := h1.2 x hx
  simp only [Lit.wf, Bool.and_eq_true, decide_eq_true_eq, show IntKind.u8.min = 0 from by decide, show IntKind.u8.max = 255 from by decide] at h2
  exact h2
theorem lkInts_refl (f : Nat) (l : List Int) (hl : l.length < 4294967296) (hf : l.length < f) : laws_lkInts_fn f ((l, ()), (l, ()), ()) = some ((true, ()), ()) := by
  show laws_lkInts_pre f (iter (laws_lkInts_st0 f) f) l l = _
  unfold laws_lkInts_pre
  simp only [bne_self_eq_false, cond_false]
  refine iter_skip (st := laws_lkInts_st0 f) (enc := fun i => ((i : Int), l, l)) _ l.length ?_ ?_ l.length 0 f (by omega) hf
  · intro i g hi
    show laws_lkInts_step0 f g _ = _
    unfold laws_lkInts_step0
    simp only [zz_eq, lt_cast hi, le_cast, decide_true, cond_true, Int.toNat_natCast, w64_up (show i < 4294967296 by omega), bne_self_eq_false, cond_false]
  · intro g
    show laws_lkInts_step0 f g _ = _
    unfold laws_lkInts_step0
    simp only [zz_eq, nlt_cast, decide_false, cond_false]
theorem lkRough_refl (f : Nat) (l : List (List Int)) (hl : l.length < 4294967296) (hr : ∀ r ∈ l, r.length < 4294967296 ∧ r.length < f) (hf : l.length < f) : laws_lkRough_fn f ((l, ()), (l, ()), ()) = some ((true, ()), ()) := by
  show laws_lkRough_pre f (iter (laws_lkRough_st0 f) f) l l = _
  unfold laws_lkRough_pre
  simp only [bne_self_eq_false, cond_false]
  refine iter_skip (st := laws_lkRough_st0 f) (enc := fun i => ((i : Int), l, l)) _ l.length ?_ ?_ l.length 0 f (by omega) hf
  · intro i g hi
    show laws_lkRough_step0 f g _ = _
    unfold laws_lkRough_step0
    have hx := hr (l.getD i []) (by rw [List.getD_eq_getElem?_getD, List.getElem?_eq_getElem hi]; exact List.getElem_mem hi)
    simp only [zz_eq, lt_cast hi, le_cast, decide_true, cond_true, Int.toNat_natCast, w64_up (show i < 4294967296 by omega), lkInts_refl f _ hx.1 hx.2, Option.bind_some, Bool.not_true, cond_false]
  · intro g
    show laws_lkRough_step0 f g _ = _
    unfold laws_lkRough_step0
    simp only [zz_eq, nlt_cast, decide_false, cond_false]
theorem lkTop_refl (f : Nat) (l : List Knot) (a b : Int) (hl : l.length < 4294967296) (hf : l.length < f) : laws_lkTop_fn f ((l, a, b, ()), (l, a, b, ()), ()) = some ((true, ()), ()) := by
  show laws_lkTop_pre f (iter (laws_lkTop_st0 f) f) l a b l a b = _
  unfold laws_lkTop_pre
  simp only [bne_self_eq_false, cond_false]
  refine iter_skip (st := laws_lkTop_st0 f) (enc := fun i => ((i : Int), l, a, b, l, a, b)) _ l.length ?_ ?_ l.length 0 f (by omega) hf
  · intro i g hi
    show laws_lkTop_step0 f g _ = _
    unfold laws_lkTop_step0
    simp only [zz_eq, lt_cast hi, le_cast, decide_true, cond_true, Int.toNat_natCast, w64_up (show i < 4294967296 by omega), beq_self_eq_true, Bool.and_self, Bool.not_true, cond_false]
  · intro g
    show laws_lkTop_step0 f g _ = _
    unfold laws_lkTop_step0
    simp only [zz_eq, nlt_cast, decide_false, cond_false]
theorem lkSum_refl (f : Nat) (hf : 1000 < f) (s : SumD) (hs : SmallS s 129) : laws_lkSum_fn f (s, s, ()) = some ((true, ()), ()) := by
  obtain ⟨rs, ms, ps, lost, tall, ks, rall, ⟨⟩⟩ := s
  have h1 := hs.rows; have h2 := hs.row; have h3 := hs.marks; have h4 := hs.pairs; have h5 := hs.knots
  simp only at h1 h2 h3 h4 h5
  show laws_lkSum_pre f rs ms ps lost tall ks rall rs ms ps lost tall ks rall = _
  unfold laws_lkSum_pre
  simp only [lkRough_refl f rs (by omega) (fun r hr => by have := h2 r hr; omega) (by omega), lkInts_refl f ms (by omega) (by omega), lkTop_refl f ps lost tall (by omega) (by omega), lk_refl f ks rall (by omega) (by omega), Option.bind_some, cond_true]
theorem lkSum_same (f : Nat) (hf : 1000 < f) (s : SumD) (hs : SmallS s 129) : laws_lkSum_fn f ((s.1, s.2.1, s.2.2.1, s.2.2.2.1, s.2.2.2.2.1, s.2.2.2.2.2.1, s.2.2.2.2.2.2.1, ()), (s.1, s.2.1, s.2.2.1, s.2.2.2.1, s.2.2.2.2.1, s.2.2.2.2.2.1, s.2.2.2.2.2.2.1, ()), ()) = some ((true, ()), ()) := lkSum_refl f hf s hs
end Go.Proofs.YtdgdoeknpakmlaaGreat.Den
namespace Go.Proofs.YtdgdoeknpakmlaaGreat.Den
open Go
set_option linter.unusedVariables false
set_option linter.unusedSimpArgs false
abbrev FLD (s : SumD) : SumD := (s.1, s.2.1, s.2.2.1, s.2.2.2.1, s.2.2.2.2.1, s.2.2.2.2.2.1, s.2.2.2.2.2.2.1, ())
end Go.Proofs.YtdgdoeknpakmlaaGreat.Den
namespace Go.Proofs.YtdgdoeknpakmlaaGreat.Den
open Go
set_option linter.unusedVariables false
set_option linter.unusedSimpArgs false
theorem added_some {s : SumD} {t : Int} (h : (sumAdd s t).2 = true) : Form s ∧ thingB t = true ∧ allOf s < 2000 := by
  cases hc : (sumBD s && (thingB t && decide (allOf s < 2000)))
  · rw [sumAdd_no hc] at h; cases h
  · simp only [Bool.and_eq_true, decide_eq_true_eq] at hc
    exact ⟨form_iff.1 hc.1, hc.2.1, hc.2.2⟩
theorem rough_ext {x y : List (List Int)} (h : roughB x = true) (h' : roughB y = true) (hc : ∀ i, i < 3 → ∀ j, cell x i j = cell y i j) : x = y := by
  obtain ⟨a, b, c, rfl, ha, hb, hc', -, -⟩ := rough_rows h
  obtain ⟨a', b', c', rfl, ha', hb', hc'', -, -⟩ := rough_rows h'
  have ext : ∀ {u v : List Int}, u.length = 8 → v.length = 8 → (∀ j, u.getD j 0 = v.getD j 0) → u = v := fun {u v} hu hv h => by
    refine List.ext_getElem (by omega) fun j h1 h2 => ?_
    have := h j
    rw [List.getD_eq_getElem?_getD, List.getD_eq_getElem?_getD, List.getElem?_eq_getElem h1, List.getElem?_eq_getElem h2] at this
    exact this
  rw [ext (row_len ha) (row_len ha') fun j => hc 0 (by omega) j, ext (row_len hb) (row_len hb') fun j => hc 1 (by omega) j, ext (row_len hc') (row_len hc'') fun j => hc 2 (by omega) j]
end Go.Proofs.YtdgdoeknpakmlaaGreat.Den
namespace Go.Proofs.YtdgdoeknpakmlaaGreat.Den
open Go
set_option linter.unusedVariables false
set_option linter.unusedSimpArgs false
theorem lawSumAddSwap (f : Nat) (hf : 1000 < f) (code more : List Int) (hb : ∀ x ∈ code, 0 ≤ x ∧ x ≤ 255) (hm : ∀ x ∈ more, 0 ≤ x ∧ x ≤ 255) : laws_FnSumAddSwap_fn f ((code, ()), (more, ()), ()) = some ((true, ()), ()) := by
  refine Ret.eq ?_
  show Ret (laws_FnSumAddSwap_pre f code more) _
  unfold laws_FnSumAddSwap_pre
  refine Ret.cond (fun _ => Ret.ret rfl) fun _ => Ret.cond (fun _ => Ret.ret rfl) fun _ => ?_
  refine Ret.bind (drawAdd_ok f code hb (by omega)) fun y hs => ?_
  refine Ret.bind (drawAdd_ok f more hm (by omega)) fun q hq => ?_
  obtain ⟨s, ⟨t, ⟨⟩⟩, ⟨⟩⟩ := y
  obtain ⟨w, ⟨u, ⟨⟩⟩, ⟨⟩⟩ := q
  have hs : SmallS s 129 := hs
  have small : ∀ s t, SmallS (sumAdd s t).1 129 := fun s t => (sumAdd_small s t).mono (show 128 ≤ 129 by omega)
  have e1 : spec_SumAdd_fn f (FLD s, (t, ()), ()) = some ((sumAdd s t).1, ((sumAdd s t).2, ()), ()) := specSumAdd_eq f s t hs (by omega) (by omega) (by omega)
  have e2 : impl_SumAdd_fn f (FLD s, (t, ()), ()) = some ((sumAdd s t).1, ((sumAdd s t).2, ()), ()) := implSumAdd_eq f hf s t hs
  have e3 : impl_SumAdd_fn f (FLD (sumAdd s t).1, (u, ()), ()) = some ((sumAdd (sumAdd s t).1 u).1, ((sumAdd (sumAdd s t).1 u).2, ()), ()) := implSumAdd_eq f hf _ u (small s t)
  have e4 : impl_SumAdd_fn f (FLD s, (u, ()), ()) = some ((sumAdd s u).1, ((sumAdd s u).2, ()), ()) := implSumAdd_eq f hf s u hs
  have e5 : impl_SumAdd_fn f (FLD (sumAdd s u).1, (t, ()), ()) = some ((sumAdd (sumAdd s u).1 t).1, ((sumAdd (sumAdd s u).1 t).2, ()), ()) := implSumAdd_eq f hf _ t (small s u)
  simp only [e1, e2, Option.bind_some, lkSum_same f hf _ (small s t), beq_self_eq_true, Bool.not_true, cond_false, cond_true]
  cases hB : (sumAdd s t).2
  · exact Ret.ret rfl
  · obtain ⟨F, ht, ha⟩ := added_some hB
    have A := sumAdd_ok F ht ha
    simp only [Bool.not_true, cond_false]
    refine Ret.bind (Ret.of e3) fun z hz => ?_
    subst hz
    refine Ret.bind (Ret.of e4) fun z hz => ?_
    subst hz
    refine Ret.bind (Ret.of e5) fun z hz => ?_
    subst hz
    refine Ret.cond (fun _ => Ret.ret rfl) fun h => ?_
    have h2 : (sumAdd (sumAdd s t).1 u).2 = true := by
      have h' : (!(sumAdd (sumAdd s t).1 u).2) = false := h
      simpa using h'
    obtain ⟨F2, hu, ha2⟩ := added_some h2
    have ha3 : allOf s + 1 < 2000 := by rw [← A.2.2.1]; exact ha2
    have A2 := sumAdd_ok F2 hu ha2
    have B := sumAdd_ok F hu (by omega)
    have B2 := sumAdd_ok B.2.1 ht (by rw [B.2.2.1]; exact ha3)
    have r : (sumAdd (sumAdd s t).1 u).1.1 = (sumAdd (sumAdd s u).1 t).1.1 := rough_ext A2.2.1.rough B2.2.1.rough fun i hi j => by
      rw [A2.2.2.2.2.2.1 i hi j, A.2.2.2.2.2.1 i hi j, B2.2.2.2.2.2.1 i hi j, B.2.2.2.2.2.1 i hi j]; omega
    have m : (sumAdd (sumAdd s t).1 u).1.2.1 = (sumAdd (sumAdd s u).1 t).1.2.1 := by
      rw [A2.2.2.2.2.1, A.2.2.2.2.1, B2.2.2.2.2.1, B.2.2.2.2.1, form_fst6 F.few, fewAdd_fst6 ht, fewAdd_fst6 hu, fewAdd_fst6 hu, fewAdd_fst6 ht]
      refine fst6_congr fun k _ _ => ?_
      show ((_ || k == mark t) || k == mark u) = ((_ || k == mark u) || k == mark t)
      rw [Bool.or_assoc, Bool.or_comm (k == mark t), Bool.or_assoc]
    have al : (sumAdd (sumAdd s t).1 u).1.2.2.2.2.1 = (sumAdd (sumAdd s u).1 t).1.2.2.2.2.1 := by
      show allOf _ = allOf _
      rw [A2.2.2.1, A.2.2.1, B2.2.2.1, B.2.2.1]
    have s5 := small (sumAdd s u).1 t
    have k1 := lkRough_refl f (sumAdd (sumAdd s u).1 t).1.1 (by have := s5.rows; omega) (fun r hr => by have := s5.row r hr; omega) (by have := s5.rows; omega)
    have k2 := lkInts_refl f (sumAdd (sumAdd s u).1 t).1.2.1 (by have := s5.marks; omega) (by have := s5.marks; omega)
    simp only [B.1, B2.1, r, m, al, cond_true, k1, k2, Option.bind_some, beq_self_eq_true]
    exact Ret.ret rfl
theorem pureSumAddSwap (a b : CsT bytesC) (ha : wfCs bytesC a) (hb : wfCs bytesC b) : ∃ fuel, laws_FnSumAddSwap_fn fuel (a, (b, ())) = some ((true, ()), ()) := by
  obtain ⟨code, ⟨⟩⟩ := a
  obtain ⟨more, ⟨⟩⟩ := b
  exact ⟨1001, lawSumAddSwap 1001 (by omega) code more (bytes_of ha).2 (bytes_of hb).2⟩
end Go.Proofs.YtdgdoeknpakmlaaGreat.Den
