/- Part 14 of the texts behind the row. -/
import Derived.Test.YtdgdoeknpakmlaaGreatB4367a998c7
set_option linter.unusedVariables false
set_option linter.unusedSimpArgs false
namespace Go.Proofs.YtdgdoeknpakmlaaGreat.Den
open Go
set_option linter.unusedVariables false
set_option linter.unusedSimpArgs false
theorem rankAdd_ok {ks : List Knot} {all t : Int} (h : okB ks all = true) (ht : thingB t = true) (ha : all < 2000) :
    (rankAdd ks all t).2 = true ∧ okB (rankAdd ks all t).1.1 (rankAdd ks all t).1.2.1 = true ∧ (rankAdd ks all t).1.2.1 = all + 1 ∧
    ∀ i, ksum (plo i) (rankAdd ks all t).1.1 ≤ ksum (plo i) ks + (if t ≤ i then 1 else 0) ∧ ksum (phi i) ks + (if t ≤ i then 1 else 0) ≤ ksum (phi i) (rankAdd ks all t).1.1 := by
  have tt := thing_le ht
  have hB : addB ks all t = true := by
    unfold addB
    simp only [Bool.and_eq_true, decide_eq_true_eq]
    exact ⟨h, tt.1, tt.2, ha⟩
  obtain ⟨e1, e2⟩ := addS_sumK hB
  have fa := okB_form h
  obtain ⟨g1, g2, g3, g4, g5⟩ := one_knot tt.1 tt.2
  obtain ⟨s1, s2, s3⟩ := sumK_form (ka := ks) (kb := [(64 + t, 1, ())]) (alla := all) (allb := 1) fa g1 g2 (by omega) g3 (by omega)
  have e : rankAdd ks all t = ((sumK ks [(64 + t, 1, ())] (all + 1), all + 1, ()), true) := by
    unfold rankAdd
    rw [hB, cond_true, e1, e2]
  rw [e]
  have lo := fun i => s2 (plo i) (plo_kids i)
  have hi := fun i => s3 (phi i) (phi_kids i)
  simp only [g4, g5] at lo hi
  generalize sumK ks [(64 + t, 1, ())] (all + 1) = K at s1 lo hi
  exact ⟨rfl, s1, rfl, fun i => ⟨lo i, hi i⟩⟩
theorem rankJoin_ok {ka kb : List Knot} {aa ab : Int} (h : okB ka aa = true) (h' : okB kb ab = true) (ha : aa + ab ≤ 2000) :
    (rankJoin ka aa kb ab).2 = true ∧ okB (rankJoin ka aa kb ab).1.1 (rankJoin ka aa kb ab).1.2.1 = true ∧ (rankJoin ka aa kb ab).1.2.1 = aa + ab ∧
    ∀ i, ksum (plo i) (rankJoin ka aa kb ab).1.1 ≤ ksum (plo i) ka + ksum (plo i) kb ∧ ksum (phi i) ka + ksum (phi i) kb ≤ ksum (phi i) (rankJoin ka aa kb ab).1.1 := by
  have hB : joinB ka aa kb ab = true := by
    unfold joinB
    simp only [h, h', ha, decide_true, Bool.and_self]
  have fa := okB_form h
  have fb := okB_form h'
  obtain ⟨s1, s2, s3⟩ := sumK_form (ka := ka) (kb := kb) (alla := aa) (allb := ab) fa fb.good fb.sum fb.lo fb.part ha
  have e : rankJoin ka aa kb ab = ((sumK ka kb (aa + ab), aa + ab, ()), true) := by
    unfold rankJoin
    rw [hB, cond_true]
  rw [e]
  have lo := fun i => s2 (plo i) (plo_kids i)
  have hi := fun i => s3 (phi i) (phi_kids i)
  generalize sumK ka kb (aa + ab) = K at s1 lo hi
  exact ⟨rfl, s1, rfl, fun i => ⟨lo i, hi i⟩⟩
theorem implRankAdd_eq (f : Nat) (ks : List Knot) (all t : Int) (hl : ks.length < 2147483648) (hf : ks.length < f) (hf2 : 128 < f) : impl_RankAdd_fn f ((ks, all, ()), (t, ()), ()) = some ((rankAdd ks all t).1, ((rankAdd ks all t).2, ()), ()) := by
  rw [implAdd_eq f ks all t hl hf hf2]; unfold rankAdd
  cases addB ks all t <;> rfl
theorem implRankJoin_eq (f : Nat) (ka kb : List Knot) (aa ab : Int) (hla : ka.length < 2147483648) (hlb : kb.length < 2147483648) (hfa : ka.length < f) (hfb : kb.length < f) (hf : 128 < f) :
    impl_RankJoin_fn f ((ka, aa, ()), (kb, ab, ()), ()) = some ((rankJoin ka aa kb ab).1, ((rankJoin ka aa kb ab).2, ()), ()) := by
  rw [implJoin_eq f ka kb aa ab hla hlb hfa hfb hf]; unfold rankJoin
  cases joinB ka aa kb ab <;> rfl
theorem fst6_pos {p : Int → Bool} : 0 < (fst6 p).length ↔ ∃ k, 0 ≤ k ∧ k < 64 ∧ p k = true := by
  unfold fst6
  rw [List.length_take]
  constructor
  · intro h
    have h' : 0 < (ascN p 64 0).length := by omega
    obtain ⟨k, hk⟩ := List.exists_mem_of_length_pos h'
    have := ascN_mem.1 hk
    exact ⟨k, this.1, by omega, this.2.2⟩
  · rintro ⟨k, h0, h1, hp⟩
    have : k ∈ ascN p 64 0 := ascN_mem.2 ⟨h0, by omega, hp⟩
    have := List.length_pos_of_mem this
    omega
theorem fewAdd_fst6 {p : Int → Bool} {t : Int} (ht : thingB t = true) : fewAdd (fst6 p) t = (fst6 (fun k => p k || k == mark t), true) := by
  unfold fewAdd
  have m := mark_rng ht
  rw [fst6_form, ht, Bool.and_self, cond_true, few6_fst6 p m.1 m.2]
theorem fewAdd_ok {l : List Int} {t : Int} (h : fewB l = true) (ht : thingB t = true) : (fewAdd l t).2 = true ∧ fewB (fewAdd l t).1 = true ∧ 0 < (fewAdd l t).1.length := by
  rw [form_fst6 h, fewAdd_fst6 ht]
  have m := mark_rng ht
  exact ⟨rfl, fst6_form _, fst6_pos.2 ⟨mark t, m.1, by omega, by simp⟩⟩
theorem fewB_rng {l : List Int} (h : fewB l = true) : ∀ x ∈ l, 0 ≤ x ∧ x ≤ 63 := fun x hx => by
  unfold fewB at h
  simp only [Bool.and_eq_true] at h
  have := fewGo_lt h.2 hx; omega
theorem fst6_congr {p q : Int → Bool} (h : ∀ k, 0 ≤ k → k < 64 → p k = q k) : fst6 p = fst6 q := by
  unfold fst6
  rw [ascN_congr fun k h1 h2 => h k h1 (by omega)]
theorem fewJoin_fst6 {p q : Int → Bool} : fewJoin (fst6 p) (fst6 q) = (fst6 fun k => p k || q k, true) := by
  unfold fewJoin
  rw [fst6_form, fst6_form, Bool.and_self, cond_true]
  have e3 := joinGo_fst6 (p := p) (fewB_rng (fst6_form q))
  have e4 := least_fst6 p (fun k => (fst6 q).contains k)
  rw [← form_fst6 (fst6_form q), least_fst6] at e4
  rw [e3, ← e4]
theorem fewJoin_ok {a b : List Int} (h : fewB a = true) (h' : fewB b = true) : (fewJoin a b).2 = true ∧ fewB (fewJoin a b).1 = true ∧ (0 < (fewJoin a b).1.length ↔ 0 < a.length ∨ 0 < b.length) := by
  have ha := form_fst6 h
  have hb := form_fst6 h'
  have e := fewJoin_fst6 (p := fun k => a.contains k) (q := fun k => b.contains k)
  rw [← ha, ← hb] at e
  rw [e]
  refine ⟨rfl, fst6_form _, ?_⟩
  rw [fst6_pos]
  constructor
  · rintro ⟨k, _, _, hk⟩
    rcases Bool.or_eq_true _ _ ▸ hk with hk | hk
    · exact .inl (List.length_pos_of_mem (List.contains_iff_mem.1 hk))
    · exact .inr (List.length_pos_of_mem (List.contains_iff_mem.1 hk))
  · rintro (hl | hl)
    · obtain ⟨k, hk⟩ := List.exists_mem_of_length_pos hl
      have := fewB_rng h k hk
      exact ⟨k, this.1, by omega, by rw [List.contains_iff_mem.2 hk]; rfl⟩
    · obtain ⟨k, hk⟩ := List.exists_mem_of_length_pos hl
      have := fewB_rng h' k hk
      exact ⟨k, this.1, by omega, by rw [List.contains_iff_mem.2 hk, Bool.or_true]⟩
structure Form (s : SumD) : Prop where
  rough : roughB s.1 = true
  few : fewB s.2.1 = true
  top : topB s.2.2.1 s.2.2.2.1 s.2.2.2.2.1 = true
  rank : okB s.2.2.2.2.2.1 s.2.2.2.2.2.2.1 = true
  all : allR s.1 = s.2.2.2.2.1
  same : s.2.2.2.2.1 = s.2.2.2.2.2.2.1
  some : 0 < s.2.1.length ↔ 0 < s.2.2.2.2.1
theorem form_iff {s : SumD} : sumBD s = true ↔ Form s := by
  unfold sumBD sumB
  simp only [Bool.and_eq_true, beq_iff_eq]
  constructor
  · rintro ⟨h1, h2, h3, h4, h5, h6, h7⟩
    have h8 := decide_eq_decide.1 h7
    exact ⟨h1, h2, h3, h4, h5, h6, by omega⟩
  · rintro ⟨h1, h2, h3, h4, h5, h6, h7⟩
    exact ⟨h1, h2, h3, h4, h5, h6, decide_eq_decide.2 (by omega)⟩
theorem Form.all_rng {s : SumD} (h : Form s) : 0 ≤ s.2.2.2.2.1 ∧ s.2.2.2.2.1 ≤ 2000 := (four h.top).2.2.2
theorem form_new : Form sumNew := form_iff.1 sumNew_ok
abbrev pt (s : SumD) : List Knot := s.2.2.1
abbrev ptLost (s : SumD) : Int := s.2.2.2.1
abbrev allOf (s : SumD) : Int := s.2.2.2.2.1
abbrev kn (s : SumD) : List Knot := s.2.2.2.2.2.1
theorem sumAdd_ok {s : SumD} {t : Int} (h : Form s) (ht : thingB t = true) (ha : allOf s < 2000) :
    (sumAdd s t).2 = true ∧ Form (sumAdd s t).1 ∧ allOf (sumAdd s t).1 = allOf s + 1 ∧ (sumAdd s t).1.1 = (roughAdd s.1 t 1).1 ∧ (sumAdd s t).1.2.1 = (fewAdd s.2.1 t).1 ∧
    (∀ i, i < 3 → ∀ j, cell (sumAdd s t).1.1 i j = cell s.1 i j + if pl i t = j then 1 else 0) ∧ ptLost s ≤ ptLost (sumAdd s t).1 ∧
    (∀ k, cntK (pt (sumAdd s t).1) k ≤ cntK (pt s) k + (if t = k then 1 else 0) ∧ cntK (pt s) k + (if t = k then 1 else 0) + ptLost s ≤ cntK (pt (sumAdd s t).1) k + ptLost (sumAdd s t).1) ∧
    ∀ i, ksum (plo i) (kn (sumAdd s t).1) ≤ ksum (plo i) (kn s) + (if t ≤ i then 1 else 0) ∧ ksum (phi i) (kn s) + (if t ≤ i then 1 else 0) ≤ ksum (phi i) (kn (sumAdd s t).1) := by
  have hr := h.all_rng
  have ha' : s.2.2.2.2.1 < 2000 := ha
  have r := roughAdd_ok (n := 1) h.rough ht (by omega) (by have := h.all; show allR s.1 + 1 ≤ 2000; omega)
  have m := fewAdd_ok h.few ht
  have p := topAdd_ok h.top ht ha
  have k := rankAdd_ok h.rank ht (by have := h.same; omega)
  have hB := form_iff.2 h
  have e : sumAdd s t = (((roughAdd s.1 t 1).1, (fewAdd s.2.1 t).1, (topAdd s.2.2.1 s.2.2.2.1 s.2.2.2.2.1 t).1.1, (topAdd s.2.2.1 s.2.2.2.1 s.2.2.2.2.1 t).1.2.1, (topAdd s.2.2.1 s.2.2.2.1 s.2.2.2.2.1 t).1.2.2.1, (rankAdd s.2.2.2.2.2.1 s.2.2.2.2.2.2.1 t).1.1, (rankAdd s.2.2.2.2.2.1 s.2.2.2.2.2.2.1 t).1.2.1, ()), true) := by
    unfold sumAdd
    simp only [hB, ht, show s.2.2.2.2.1 < 2000 from ha, decide_true, Bool.and_self, cond_true]
  rw [e]
  refine ⟨rfl, ⟨r.2.1, m.2.1, p.2.1, k.2.1, ?_, ?_, ?_⟩, p.2.2.1, rfl, rfl, r.2.2.2, p.2.2.2.1, p.2.2.2.2, k.2.2.2⟩
  · show allR (roughAdd s.1 t 1).1 = (topAdd s.2.2.1 s.2.2.2.1 s.2.2.2.2.1 t).1.2.2.1
    rw [r.2.2.1, p.2.2.1, h.all]
  · show (topAdd s.2.2.1 s.2.2.2.1 s.2.2.2.2.1 t).1.2.2.1 = (rankAdd s.2.2.2.2.2.1 s.2.2.2.2.2.2.1 t).1.2.1
    rw [p.2.2.1, k.2.2.1, h.same]
  · show 0 < (fewAdd s.2.1 t).1.length ↔ 0 < (topAdd s.2.2.1 s.2.2.2.1 s.2.2.2.2.1 t).1.2.2.1
    rw [p.2.2.1]
    exact ⟨fun _ => (by omega), fun _ => m.2.2⟩
theorem sumJoin_ok {s u : SumD} (h : Form s) (h' : Form u) (ha : allOf s + allOf u ≤ 2000) :
    (sumJoin s u).2 = true ∧ Form (sumJoin s u).1 ∧ allOf (sumJoin s u).1 = allOf s + allOf u ∧ (sumJoin s u).1.1 = (roughJoin s.1 u.1).1 ∧ (sumJoin s u).1.2.1 = (fewJoin s.2.1 u.2.1).1 ∧
    (∀ i, i < 3 → ∀ j, cell (sumJoin s u).1.1 i j = cell s.1 i j + cell u.1 i j) ∧ ptLost s + ptLost u ≤ ptLost (sumJoin s u).1 ∧
    (∀ k, cntK (pt (sumJoin s u).1) k ≤ cntK (pt s) k + cntK (pt u) k ∧ cntK (pt s) k + cntK (pt u) k + (ptLost s + ptLost u) ≤ cntK (pt (sumJoin s u).1) k + ptLost (sumJoin s u).1) ∧
    ∀ i, ksum (plo i) (kn (sumJoin s u).1) ≤ ksum (plo i) (kn s) + ksum (plo i) (kn u) ∧ ksum (phi i) (kn s) + ksum (phi i) (kn u) ≤ ksum (phi i) (kn (sumJoin s u).1) := by
  have hr := h.all_rng
  have hr' := h'.all_rng
  have ha' : s.2.2.2.2.1 + u.2.2.2.2.1 ≤ 2000 := ha
  have r := roughJoin_ok h.rough h'.rough (by rw [h.all, h'.all]; exact ha)
  have m := fewJoin_ok h.few h'.few
  have p := topJoin_ok h.top h'.top ha
  have k := rankJoin_ok h.rank h'.rank (by rw [← h.same, ← h'.same]; exact ha)
  have ew : w64 (s.2.2.2.2.1 + u.2.2.2.2.1) = s.2.2.2.2.1 + u.2.2.2.2.1 := by rw [w64_id] <;> omega
  have e : sumJoin s u = (((roughJoin s.1 u.1).1, (fewJoin s.2.1 u.2.1).1, (topJoin s.2.2.1 s.2.2.2.1 s.2.2.2.2.1 u.2.2.1 u.2.2.2.1 u.2.2.2.2.1).1.1, (topJoin s.2.2.1 s.2.2.2.1 s.2.2.2.2.1 u.2.2.1 u.2.2.2.1 u.2.2.2.2.1).1.2.1, (topJoin s.2.2.1 s.2.2.2.1 s.2.2.2.2.1 u.2.2.1 u.2.2.2.1 u.2.2.2.2.1).1.2.2.1, (rankJoin s.2.2.2.2.2.1 s.2.2.2.2.2.2.1 u.2.2.2.2.2.1 u.2.2.2.2.2.2.1).1.1, (rankJoin s.2.2.2.2.2.1 s.2.2.2.2.2.2.1 u.2.2.2.2.2.1 u.2.2.2.2.2.2.1).1.2.1, ()), true) := by
    unfold sumJoin
    simp only [form_iff.2 h, form_iff.2 h', ew, show s.2.2.2.2.1 + u.2.2.2.2.1 ≤ 2000 from ha, decide_true, Bool.and_self, cond_true]
  rw [e]
  refine ⟨rfl, ⟨r.2.1, m.2.1, p.2.1, k.2.1, ?_, ?_, ?_⟩, p.2.2.1, rfl, rfl, r.2.2.2, p.2.2.2.1, p.2.2.2.2, k.2.2.2⟩
  · show allR (roughJoin s.1 u.1).1 = (topJoin s.2.2.1 s.2.2.2.1 s.2.2.2.2.1 u.2.2.1 u.2.2.2.1 u.2.2.2.2.1).1.2.2.1
    rw [r.2.2.1, p.2.2.1, h.all, h'.all]
  · show (topJoin s.2.2.1 s.2.2.2.1 s.2.2.2.2.1 u.2.2.1 u.2.2.2.1 u.2.2.2.2.1).1.2.2.1 = (rankJoin s.2.2.2.2.2.1 s.2.2.2.2.2.2.1 u.2.2.2.2.2.1 u.2.2.2.2.2.2.1).1.2.1
    rw [p.2.2.1, k.2.2.1, h.same, h'.same]
  · show 0 < (fewJoin s.2.1 u.2.1).1.length ↔ 0 < (topJoin s.2.2.1 s.2.2.2.1 s.2.2.2.2.1 u.2.2.1 u.2.2.2.1 u.2.2.2.2.1).1.2.2.1
    rw [p.2.2.1, m.2.2, h.some, h'.some]
    omega
theorem sumAdd_no {s : SumD} {t : Int} (h : (sumBD s && (thingB t && decide (allOf s < 2000))) = false) : sumAdd s t = (noSum, false) := by
  unfold sumAdd
  rw [show (sumBD s && (thingB t && decide (s.2.2.2.2.1 < 2000))) = false from h]; rfl
theorem counted_eq (f : Nat) (hf : 1000 < f) (s : SumD) (t : Int) (h : Form s) (hk : s.2.2.2.2.2.1.length ≤ 128) : impl_Sum_counted_fn f (s, (t, ()), ()) = some ((sumAdd s t).1, ((sumAdd s t).2, ()), ()) := by
  obtain ⟨rs, ms, ps, lost, tall, ks, rall, ⟨⟩⟩ := s
  have hr := h.all_rng
  have h1 := h.rough; have h2 := h.few; have h3 := h.top; have h4 := h.rank; have h5 := h.all; have h6 := h.same
  simp only at h1 h2 h3 h4 h5 h6 hr hk
  have e1 : impl_Rough_with_fn f ((rs, ()), t, ()) = some ((((roughAdd rs t 1).1, ()), ()), (roughAdd rs t 1).2, ()) := by
    show impl_Rough_with_pre f rs t = _
    unfold impl_Rough_with_pre
    rw [implRoughAdd_eq f rs t 1 (by omega)]; rfl
  have e2 : impl_Few_with_fn f ((ms, ()), t, ()) = some ((((fewAdd ms t).1, ()), ()), (fewAdd ms t).2, ()) := by
    show impl_Few_with_pre f ms t = _
    unfold impl_Few_with_pre
    rw [implFewAdd_eq f ms t (by omega)]; rfl
  have e3 : impl_Top_with_fn f ((ps, lost, tall, ()), t, ()) = some (((topAdd ps lost tall t).1, ()), (topAdd ps lost tall t).2, ()) := by
    show impl_Top_with_pre f ps lost tall t = _
    unfold impl_Top_with_pre
    rw [implTopAdd_eq f hf ps lost tall t]; rfl
  have e4 : impl_Rank_with_fn f ((ks, rall, ()), t, ()) = some (((rankAdd ks rall t).1, ()), (rankAdd ks rall t).2, ()) := by
    show impl_Rank_with_pre f ks rall t = _
    unfold impl_Rank_with_pre
    rw [implRankAdd_eq f ks rall t (by omega) (by omega) (by omega)]; rfl
  show impl_Sum_counted_pre f rs ms ps lost tall ks rall t = _
  unfold impl_Sum_counted_pre
  rw [show impl_Sum_ways_fn f ((rs, ms, ps, lost, tall, ks, rall, ()), ()) = some ((((rs, ()), ()), ((ms, ()), ()), ((ps, lost, tall, ()), ()), ((ks, rall, ()), ()), ()), ()) from rfl, Option.bind_some]
  simp only [e1, Option.bind_some]
  cases ht : thingB t
  · have : (roughAdd rs t 1).2 = false := by unfold roughAdd; rw [ht]; simp
    rw [this, sumAdd_no (by rw [ht]; simp)]; rfl
  · by_cases ha : tall < 2000
    · have r := roughAdd_ok (n := 1) h1 ht (by omega) (by rw [h5]; omega)
      have m := fewAdd_ok h2 ht
      have p := topAdd_ok h3 ht ha
      have k := rankAdd_ok h4 ht (by omega)
      have hB := form_iff.2 h
      rw [r.1]
      simp only [Bool.not_true, cond_false, e2, Option.bind_some, m.1, e3, p.1, e4, k.1]
      unfold sumAdd
      simp only [hB, ht, ha, decide_true, Bool.and_self, cond_true]
      rfl
    · have : (roughAdd rs t 1).2 = false := by
        have ew : w64 (2000 - isum (rs.getD 0 [])) = 2000 - tall := by
          rw [← h5, allR_eq h1, w64_id] <;> · have := allR_eq h1; omega
        have n : ¬ ((0 : Int) ≤ 1 ∧ (1 : Int) ≤ 2000 - tall) := by omega
        unfold roughAdd; rw [ew]; simp only [n, decide_false, Bool.and_false, cond_false]
      rw [this, sumAdd_no (by
        have : ¬ allOf (rs, ms, ps, lost, tall, ks, rall, ()) < 2000 := ha
        simp [this])]; rfl
theorem implSumOf_eq (f : Nat) (hf : 1000 < f) (l : List Int) (hl : l.length < 1000000000) (hfl : l.length < f) : impl_SumOf_fn f ((l, ()), ()) = some ((sumOf l).1, ((sumOf l).2, ()), ()) := by
  show impl_SumOf_pre f (iter (impl_SumOf_st0 f) f) l = _
  unfold impl_SumOf_pre
  rw [implSumNew_eq, Option.bind_some]
  refine (iter_list (st := impl_SumOf_st0 f) (enc := fun i (s : SumD) => ((i : Int), (l.length : Int), l, s.1, s.2.1, s.2.2.1, s.2.2.2.1, s.2.2.2.2.1, s.2.2.2.2.2.1, s.2.2.2.2.2.2.1, (0 : Int), (0 : Int), (0 : Int))) (fun (x : Int) c (s : SumD) => (impl_Sum_counted_fn f (s, (x, ()), ())).bind fun y => cond (!y.2.1.1) (some (noSum, (false, ()), ())) (c y.1))
      (fun s => some (s, (true, ()), ())) l 0 ?_ ?_ f sumNew hfl).trans ?_
  · intro i s g hi
    show impl_SumOf_step0 f g _ = _
    unfold impl_SumOf_step0
    simp only [zz_eq, lt_cast hi, le_cast, decide_true, cond_true, Int.toNat_natCast, w64_up (show i < 4294967296 by omega)]
    rfl
  · intro s g
    show impl_SumOf_step0 f g _ = _
    unfold impl_SumOf_step0
    simp only [nlt_cast, decide_false, cond_false]
  · have : ∀ (l : List Int) (s : SumD), Form s → goL (R := SumD × ((Bool × Unit) × Unit)) (fun (x : Int) c (s : SumD) => (impl_Sum_counted_fn f (s, (x, ()), ())).bind fun y => cond (!y.2.1.1) (some (noSum, (false, ()), ())) (c y.1))
        (fun s => some (s, (true, ()), ())) l s = some ((sumOfGo l s).1, ((sumOfGo l s).2, ()), ()) := by
      intro l
      induction l with
      | nil => intro s _; rfl
      | cons x l ih =>
        intro s hs
        have := (okB_form hs.rank).len
        show (impl_Sum_counted_fn f (s, (x, ()), ())).bind _ = _
        rw [counted_eq f hf s x hs (by omega), Option.bind_some]
        unfold sumOfGo
        cases h2 : (sumAdd s x).2
        · rfl
        · simp only [Bool.not_true, cond_false, cond_true]
          refine ih _ ?_
          by_cases hc : (sumBD s && (thingB x && decide (allOf s < 2000))) = true
          · simp only [Bool.and_eq_true, decide_eq_true_eq] at hc
            exact (sumAdd_ok hs hc.2.1 hc.2.2).2.1
          · rw [sumAdd_no (by simpa using hc)] at h2; cases h2
    exact this l sumNew form_new
theorem implSumJoin_eq (f : Nat) (hf : 1000 < f) (s u : SumD) (hs : SmallS s 129) (hu : SmallS u 129) : impl_SumJoin_fn f (s, u, ()) = some ((sumJoin s u).1, ((sumJoin s u).2, ()), ()) := by
  obtain ⟨rs, ms, ps, lost, tall, ks, rall, ⟨⟩⟩ := s
  obtain ⟨rs', ms', ps', lost', tall', ks', rall', ⟨⟩⟩ := u
  have e0 := implSumD_eq f (rs, ms, ps, lost, tall, ks, rall, ()) hs (by omega) (by omega) (by omega)
  have e1 := implSumD_eq f (rs', ms', ps', lost', tall', ks', rall', ()) hu (by omega) (by omega) (by omega)
  show impl_SumJoin_pre f rs ms ps lost tall ks rall rs' ms' ps' lost' tall' ks' rall' = _
  unfold impl_SumJoin_pre sumJoin
  rw [e0, Option.bind_some]
  cases hB : sumBD (rs, ms, ps, lost, tall, ks, rall, ())
  · rfl
  rw [e1]
  simp only [Bool.not_true, cond_false, Option.bind_some]
  cases hB' : sumBD (rs', ms', ps', lost', tall', ks', rall', ())
  · rfl
  have h := form_iff.1 hB
  have h' := form_iff.1 hB'
  have hr := h.all_rng
  have hr' := h'.all_rng
  have kl := (okB_form h.rank).len
  have kl' := (okB_form h'.rank).len
  have h1 := h.rough; have h2 := h.few; have h3 := h.top; have h4 := h.rank; have h5 := h.all; have h6 := h.same
  have g1 := h'.rough; have g2 := h'.few; have g3 := h'.top; have g4 := h'.rank; have g5 := h'.all; have g6 := h'.same
  simp only at h1 h2 h3 h4 h5 h6 hr kl g1 g2 g3 g4 g5 g6 hr' kl'
  have ew : w64 (tall + tall') = tall + tall' := by rw [w64_id] <;> omega
  have w : ∀ (rs ms ps lost tall ks rall), impl_Sum_ways_fn f ((rs, ms, ps, lost, tall, ks, rall, ()), ()) = some ((((rs, ()), ()), ((ms, ()), ()), ((ps, lost, tall, ()), ()), ((ks, rall, ()), ()), ()), ()) := fun _ _ _ _ _ _ _ => rfl
  have j1 : impl_joinWays_v0_fn f (((rs, ()), ()), ((rs', ()), ()), ()) = some ((((roughJoin rs rs').1, ()), ()), (roughJoin rs rs').2, ()) := by
    show impl_joinWays_v0_pre f rs rs' = _
    unfold impl_joinWays_v0_pre
    rw [implRoughJoin_eq f rs rs' (by omega)]; rfl
  have j2 : impl_joinWays_v1_fn f (((ms, ()), ()), ((ms', ()), ()), ()) = some ((((fewJoin ms ms').1, ()), ()), (fewJoin ms ms').2, ()) := by
    show impl_joinWays_v1_pre f ms ms' = _
    unfold impl_joinWays_v1_pre
    rw [implFewJoin_eq f ms ms' (by omega)]; rfl
  have j3 : impl_joinWays_v2_fn f (((ps, lost, tall, ()), ()), ((ps', lost', tall', ()), ()), ()) = some (((topJoin ps lost tall ps' lost' tall').1, ()), (topJoin ps lost tall ps' lost' tall').2, ()) := by
    show impl_joinWays_v2_pre f ps lost tall ps' lost' tall' = _
    unfold impl_joinWays_v2_pre
    rw [implTopJoin_eq f hf ps lost tall ps' lost' tall']; rfl
  have j4 : impl_joinWays_v3_fn f (((ks, rall, ()), ()), ((ks', rall', ()), ()), ()) = some (((rankJoin ks rall ks' rall').1, ()), (rankJoin ks rall ks' rall').2, ()) := by
    show impl_joinWays_v3_pre f ks rall ks' rall' = _
    unfold impl_joinWays_v3_pre
    rw [implRankJoin_eq f ks ks' rall rall' (by omega) (by omega) (by omega) (by omega) (by omega)]; rfl
  simp only [Bool.not_true, cond_false, w, Option.bind_some, j1, ew, Bool.true_and]
  by_cases ha : tall + tall' ≤ 2000
  · have r := roughJoin_ok h1 g1 (by rw [h5, g5]; exact ha)
    have m := fewJoin_ok h2 g2
    have p := topJoin_ok h3 g3 ha
    have k := rankJoin_ok h4 g4 (by rw [← h6, ← g6]; exact ha)
    rw [r.1]
    simp only [Bool.not_true, cond_false, j2, Option.bind_some, m.1, j3, p.1, j4, k.1, ha, decide_true, cond_true]
    rfl
  · have : (roughJoin rs rs').2 = false := by
      have e := allR_eq h1
      have e' := allR_eq g1
      have ew2 : w64 (isum (rs.getD 0 []) + isum (rs'.getD 0 [])) = tall + tall' := by rw [w64_id] <;> omega
      unfold roughJoin; rw [ew2]; simp [ha]
    rw [this]
    simp only [Bool.not_false, cond_true, ha, decide_false, cond_false]
    rfl
end Go.Proofs.YtdgdoeknpakmlaaGreat.Den
namespace Go.Proofs.YtdgdoeknpakmlaaGreat.Den
open Go
set_option linter.unusedVariables false
set_option linter.unusedSimpArgs false
abbrev bytesC : List (Kd × Bool) := [(Kd.list (.int .u8), false)]
theorem bytes_of {a : CsT bytesC} (h : wfCs bytesC a) : a.1.length ≤ maxLen ∧ ∀ x ∈ a.1, 0 ≤ x ∧ x ≤ 255 := by
  have h1 := h.1
  simp only [wfD] at h1
  refine ⟨h1.1, fun x hx => ?_⟩
  have h2 := h1.2 x hx
  simp only [Lit.wf, Bool.and_eq_true, decide_eq_true_eq, show IntKind.u8.min = 0 from by decide, show IntKind.u8.max = 255 from by decide] at h2
  exact h2
structure Tells (l : List Int) (s : SumD) : Prop where
  form : Form s
  things : ∀ t ∈ l, thingB t = true
  all : allOf s = (l.length : Int)
  rough : ∀ i, i < 3 → ∀ j, cell s.1 i j = ((l.countP fun t => pl i t == j : Nat) : Int)
  few : s.2.1 = fst6 fun k => l.any fun t => mark t == k
  top : ∀ k, cntK (pt s) k ≤ ((l.count k : Nat) : Int) ∧ ((l.count k : Nat) : Int) ≤ cntK (pt s) k + ptLost s
  rank : ∀ i, ksum (plo i) (kn s) ≤ ((l.countP fun t => decide (t ≤ i) : Nat) : Int) ∧ ((l.countP fun t => decide (t ≤ i) : Nat) : Int) ≤ ksum (phi i) (kn s)
theorem rep8 (j : Nat) : (List.replicate 8 (0 : Int)).getD j 0 = 0 := by
  rw [List.getD_eq_getElem?_getD, List.getElem?_replicate]
  split <;> rfl
theorem tells_new : Tells [] sumNew where
  form := form_new
  things := fun t ht => by cases ht
  all := rfl
  rough := fun i hi j => by
    match i, hi with
    | 0, _ => exact rep8 j
    | 1, _ => exact rep8 j
    | 2, _ => exact rep8 j
  few := by decide
  top := fun k => ⟨Int.le_refl _, Int.le_refl _⟩
  rank := fun i => ⟨Int.le_refl _, Int.le_refl _⟩
theorem tells_add {l : List Int} {s : SumD} {t : Int} (h : Tells l s) (ht : thingB t = true) (hl : l.length < 2000) : (sumAdd s t).2 = true ∧ Tells (l ++ [t]) (sumAdd s t).1 := by
  have ha : allOf s < 2000 := by rw [h.all]; omega
  obtain ⟨h1, h2, h3, h4, h5, h6, h7, h8, h9⟩ := sumAdd_ok h.form ht ha
  refine ⟨h1, h2, fun x hx => ?_, ?_, fun i hi j => ?_, ?_, fun k => ?_, fun i => ?_⟩
  · rcases List.mem_append.1 hx with hx | hx
    · exact h.things x hx
    · rcases List.mem_singleton.1 hx with rfl; exact ht
  · rw [h3, h.all, List.length_append, List.length_singleton]; omega
  · rw [h6 i hi j, h.rough i hi j, List.countP_append, List.countP_singleton]
    cases hc : pl i t == j
    · have : ¬ pl i t = j := by simpa using hc
      simp [this]
    · have : pl i t = j := by simpa using hc
      simp [this]
  · rw [h5, h.few, fewAdd_fst6 ht]
    refine fst6_congr fun k _ _ => ?_
    have : (k == mark t) = (mark t == k) := by rw [Bool.eq_iff_iff]; simp only [beq_iff_eq]; exact ⟨Eq.symm, Eq.symm⟩
    simp only [List.any_append, List.any_cons, List.any_nil, Bool.or_false, this]
  · have g1 := h.top k
    have g2 := h8 k
    rw [List.count_append, List.count_singleton]
    by_cases hk : t = k
    · subst hk
      simp only [if_true, beq_self_eq_true] at g2 ⊢
      omega
    · have e : (t == k) = false := by simpa using hk
      simp only [hk, e, if_false, Bool.false_eq_true] at g2 ⊢
      omega
  · have g1 := h.rank i
    have g2 := h9 i
    rw [List.countP_append, List.countP_singleton]
    by_cases hk : t ≤ i
    · simp only [hk, if_true, decide_true] at g2 ⊢
      omega
    · simp only [hk, if_false, decide_false, Bool.false_eq_true] at g2 ⊢
      omega
theorem tells_join {l m : List Int} {s u : SumD} (h : Tells l s) (h' : Tells m u) (hl : l.length + m.length ≤ 2000) : (sumJoin s u).2 = true ∧ Tells (l ++ m) (sumJoin s u).1 := by
  have ha : allOf s + allOf u ≤ 2000 := by rw [h.all, h'.all]; omega
  obtain ⟨h1, h2, h3, h4, h5, h6, h7, h8, h9⟩ := sumJoin_ok h.form h'.form ha
  refine ⟨h1, h2, fun x hx => ?_, ?_, fun i hi j => ?_, ?_, fun k => ?_, fun i => ?_⟩
  · rcases List.mem_append.1 hx with hx | hx
    · exact h.things x hx
    · exact h'.things x hx
  · rw [h3, h.all, h'.all, List.length_append]; omega
  · rw [h6 i hi j, h.rough i hi j, h'.rough i hi j, List.countP_append]; omega
  · rw [h5, h.few, h'.few, fewJoin_fst6]
    refine fst6_congr fun k _ _ => ?_
    simp only [List.any_append]
  · have g1 := h.top k
    have g2 := h8 k
    have g3 := h'.top k
    rw [List.count_append]; omega
  · have g1 := h.rank i
    have g2 := h9 i
    have g3 := h'.rank i
    rw [List.countP_append]; omega
theorem sumOfGo_tells : ∀ (r l : List Int) (s : SumD), Tells l s → (sumOfGo r s).2 = true → Tells (l ++ r) (sumOfGo r s).1
  | [], l, s, h, _ => by rw [List.append_nil]; exact h
  | t :: r, l, s, h, h2 => by
    unfold sumOfGo at h2 ⊢
    cases ha : (sumAdd s t).2 with
    | false => rw [ha] at h2; cases h2
    | true =>
      rw [ha, cond_true] at h2
      simp only [cond_true]
      have hc : (sumBD s && (thingB t && decide (allOf s < 2000))) = true := by
        cases hc : (sumBD s && (thingB t && decide (allOf s < 2000)))
        · rw [sumAdd_no hc] at ha; cases ha
        · rfl
      simp only [Bool.and_eq_true, decide_eq_true_eq] at hc
      have hl : l.length < 2000 := by have := h.all; have := hc.2.2; omega
      have := sumOfGo_tells r (l ++ [t]) _ (tells_add h hc.2.1 hl).2 h2
      rw [List.append_assoc] at this
      exact this
theorem sumOf_tells {l : List Int} (h : (sumOf l).2 = true) : Tells l (sumOf l).1 := sumOfGo_tells l [] sumNew tells_new h
theorem sumOfGo_some : ∀ (r l : List Int) (s : SumD), Tells l s → (∀ t ∈ r, thingB t = true) → l.length + r.length ≤ 2000 → (sumOfGo r s).2 = true
  | [], l, s, h, _, _ => rfl
  | t :: r, l, s, h, h2, hl => by
    simp only [List.length_cons] at hl
    have a := tells_add h (h2 t (List.mem_cons_self ..)) (by omega)
    unfold sumOfGo
    rw [a.1, cond_true]
    exact sumOfGo_some r (l ++ [t]) _ a.2 (fun x hx => h2 x (List.mem_cons_of_mem _ hx)) (by rw [List.length_append, List.length_singleton]; omega)
theorem sumOf_some {l : List Int} (h : ∀ t ∈ l, thingB t = true) (hl : l.length ≤ 2000) : (sumOf l).2 = true := sumOfGo_some l [] sumNew tells_new h (by simpa using hl)
theorem lkInts_refl (f : Nat) (l : List Int) (hl : l.length < 4294967296) (hf : l.length < f) : laws_lkInts_fn f ((l, ()), (l, ()), ()) = some ((true, ()), ()) := by
  show laws_lkInts_pre f (iter (laws_lkInts_st0 f) f) l l = _
  unfold laws_lkInts_pre
  simp only [bne_self_eq_false, cond_false]
  refine iter_skip (st := laws_lkInts_st0 f) (enc := fun i => ((i : Int), l, l)) _ l.length ?_ ?_ l.length 0 f (by omega) hf
  · intro i g hi
    show laws_lkInts_step0 f g _ = _
    unfold laws_lkInts_step0
    simp only [zz_eq, lt_cast hi, le_cast, decide_true, cond_true, Int.toNat_natCast, w64_up (show i < 4294967296 by omega), bne_self_eq_false, cond_false]
  · intro g
    show laws_lkInts_step0 f g _ = _
    unfold laws_lkInts_step0
    simp only [zz_eq, nlt_cast, decide_false, cond_false]
theorem lkRough_refl (f : Nat) (l : List (List Int)) (hl : l.length < 4294967296) (hr : ∀ r ∈ l, r.length < 4294967296 ∧ r.length < f) (hf : l.length < f) : laws_lkRough_fn f ((l, ()), (l, ()), ()) = some ((true, ()), ()) := by
  show laws_lkRough_pre f (iter (laws_lkRough_st0 f) f) l l = _
  unfold laws_lkRough_pre
  simp only [bne_self_eq_false, cond_false]
  refine iter_skip (st := laws_lkRough_st0 f) (enc := fun i => ((i : Int), l, l)) _ l.length ?_ ?_ l.length 0 f (by omega) hf
  · intro i g hi
    show laws_lkRough_step0 f g _ = _
    unfold laws_lkRough_step0
    have hx := hr (l.getD i []) (by rw [List.getD_eq_getElem?_getD, List.getElem?_eq_getElem hi]; exact List.getElem_mem hi)
    simp only [zz_eq, lt_cast hi, le_cast, decide_true, cond_true, Int.toNat_natCast, w64_up (show i < 4294967296 by omega), lkInts_refl f _ hx.1 hx.2, Option.bind_some, Bool.not_true, cond_false]
  · intro g
    show laws_lkRough_step0 f g _ = _
    unfold laws_lkRough_step0
    simp only [zz_eq, nlt_cast, decide_false, cond_false]
theorem lkTop_refl (f : Nat) (l : List Knot) (a b : Int) (hl : l.length < 4294967296) (hf : l.length < f) : laws_lkTop_fn f ((l, a, b, ()), (l, a, b, ()), ()) = some ((true, ()), ()) := by
  show laws_lkTop_pre f (iter (laws_lkTop_st0 f) f) l a b l a b = _
  unfold laws_lkTop_pre
  simp only [bne_self_eq_false, cond_false]
  refine iter_skip (st := laws_lkTop_st0 f) (enc := fun i => ((i : Int), l, a, b, l, a, b)) _ l.length ?_ ?_ l.length 0 f (by omega) hf
  · intro i g hi
    show laws_lkTop_step0 f g _ = _
    unfold laws_lkTop_step0
    simp only [zz_eq, lt_cast hi, le_cast, decide_true, cond_true, Int.toNat_natCast, w64_up (show i < 4294967296 by omega), beq_self_eq_true, Bool.and_self, Bool.not_true, cond_false]
  · intro g
    show laws_lkTop_step0 f g _ = _
    unfold laws_lkTop_step0
    simp only [zz_eq, nlt_cast, decide_false, cond_false]
theorem lkSum_refl (f : Nat) (hf : 1000 < f) (s : SumD) (hs : SmallS s 129) : laws_lkSum_fn f (s, s, ()) = some ((true, ()), ()) := by
  obtain ⟨rs, ms, ps, lost, tall, ks, rall, ⟨⟩⟩ := s
  have h1 := hs.rows; have h2 := hs.row; have h3 := hs.marks; have h4 := hs.pairs; have h5 := hs.knots
  simp only at h1 h2 h3 h4 h5
  show laws_lkSum_pre f rs ms ps lost tall ks rall rs ms ps lost tall ks rall = _
  unfold laws_lkSum_pre
  simp only [lkRough_refl f rs (by omega) (fun r hr => by have := h2 r hr; omega) (by omega), lkInts_refl f ms (by omega) (by omega), lkTop_refl f ps lost tall (by omega) (by omega), lk_refl f ks rall (by omega) (by omega), Option.bind_some, cond_true]
theorem lkSum_same (f : Nat) (hf : 1000 < f) (s : SumD) (hs : SmallS s 129) : laws_lkSum_fn f ((s.1, s.2.1, s.2.2.1, s.2.2.2.1, s.2.2.2.2.1, s.2.2.2.2.2.1, s.2.2.2.2.2.2.1, ()), (s.1, s.2.1, s.2.2.1, s.2.2.2.1, s.2.2.2.2.1, s.2.2.2.2.2.1, s.2.2.2.2.2.2.1, ()), ()) = some ((true, ()), ()) := lkSum_refl f hf s hs
theorem drawOf_ok (f : Nat) (code : List Int) (hb : ∀ x ∈ code, 0 ≤ x ∧ x ≤ 255) (hf : 300 < f) : Ret (spec_DrawSumOf_fn f ((code, ()), ())) fun s => s.1.1.length ≤ 40 := by
  show Ret (spec_DrawSumOf_pre f code) _
  unfold spec_DrawSumOf_pre
  refine Ret.bind (open_ok f code hb) fun y hy => ?_
  rw [hy.2]
  refine Ret.bind (things_ok f y.1 0 30 hy.1 (by omega) (by omega) (by omega) (by omega)) fun z hz => ?_
  have hl : z.2.1.1.length ≤ 31 := by have := hz.2.1; omega
  refine Ret.bind (pick_more hy.1 (by omega) z.1 20 hz.1 (by omega) (by omega)) fun q hq => ?_
  refine Ret.cond (fun _ => ?_) fun _ => Ret.ret (by show z.2.1.1.length ≤ 40; omega)
  refine Ret.bind (pick_more hy.1 (by omega) q.1 2 hq.1 (by omega) (by omega)) fun r hr => ?_
  refine Ret.tst (decide_eq_true hr.2.1) (Ret.tst (decide_eq_true (by have := hr.2.2; rw [zz_eq]; omega)) (Ret.tst (decide_eq_true (by have := hr.2; omega)) (Ret.tst (decide_eq_true (by simp only [LIM]; omega)) (Ret.ret ?_))))
  show (z.2.1.1 ++ [_]).length ≤ 40
  rw [List.length_append, List.length_singleton]; omega
end Go.Proofs.YtdgdoeknpakmlaaGreat.Den
namespace Go.Proofs.YtdgdoeknpakmlaaGreat.Den
open Go
set_option linter.unusedVariables false
set_option linter.unusedSimpArgs false
abbrev FLD (s : SumD) : SumD := (s.1, s.2.1, s.2.2.1, s.2.2.2.1, s.2.2.2.2.1, s.2.2.2.2.2.1, s.2.2.2.2.2.2.1, ())
theorem allD_form {s : SumD} (h : Form s) : allD s = allOf s := by unfold allD; rw [form_iff.2 h, cond_true]
end Go.Proofs.YtdgdoeknpakmlaaGreat.Den
namespace Go.Proofs.YtdgdoeknpakmlaaGreat.Den
open Go
set_option linter.unusedVariables false
set_option linter.unusedSimpArgs false
theorem rough_ext {x y : List (List Int)} (h : roughB x = true) (h' : roughB y = true) (hc : ∀ i, i < 3 → ∀ j, cell x i j = cell y i j) : x = y := by
  obtain ⟨a, b, c, rfl, ha, hb, hc', -, -⟩ := rough_rows h
  obtain ⟨a', b', c', rfl, ha', hb', hc'', -, -⟩ := rough_rows h'
  have ext : ∀ {u v : List Int}, u.length = 8 → v.length = 8 → (∀ j, u.getD j 0 = v.getD j 0) → u = v := fun {u v} hu hv h => by
    refine List.ext_getElem (by omega) fun j h1 h2 => ?_
    have := h j
    rw [List.getD_eq_getElem?_getD, List.getD_eq_getElem?_getD, List.getElem?_eq_getElem h1, List.getElem?_eq_getElem h2] at this
    exact this
  rw [ext (row_len ha) (row_len ha') fun j => hc 0 (by omega) j, ext (row_len hb) (row_len hb') fun j => hc 1 (by omega) j, ext (row_len hc') (row_len hc'') fun j => hc 2 (by omega) j]
theorem tells_same {l m : List Int} {s u : SumD} (h : Tells l s) (h' : Tells m u) (hp : l.Perm m) : s.1 = u.1 ∧ s.2.1 = u.2.1 ∧ s.2.2.2.2.1 = u.2.2.2.2.1 := by
  refine ⟨rough_ext h.form.rough h'.form.rough fun i hi j => ?_, ?_, ?_⟩
  · rw [h.rough i hi j, h'.rough i hi j, hp.countP_eq]
  · rw [h.few, h'.few]
    refine fst6_congr fun k _ _ => ?_
    rw [Bool.eq_iff_iff]
    simp only [List.any_eq_true]
    exact ⟨fun ⟨t, h1, h2⟩ => ⟨t, hp.mem_iff.1 h1, h2⟩, fun ⟨t, h1, h2⟩ => ⟨t, hp.mem_iff.2 h1, h2⟩⟩
  · show allOf s = allOf u
    rw [h.all, h'.all, hp.length_eq]
end Go.Proofs.YtdgdoeknpakmlaaGreat.Den
namespace Go.Proofs.YtdgdoeknpakmlaaGreat.Den
open Go
set_option linter.unusedVariables false
set_option linter.unusedSimpArgs false
theorem fine_go (f : Nat) (l : List Int) (hl : l.length < 1000000) : ∀ (d i : Nat) (out : List Int) (fuel : Nat), i + d = l.length → out.length ≤ i → d < fuel →
    iter (laws_lkFine_st0 f) fuel ((i : Int), l, out) = some ((out ++ (l.drop i).filter thingB, ()), ())
  | _, _, _, 0, _, _, h => by omega
  | 0, i, out, fuel + 1, hi, _, _ => by
    rw [iter]
    show laws_lkFine_step0 f _ _ = _
    unfold laws_lkFine_step0
    obtain rfl : i = l.length := by omega
    simp only [zz_eq, nlt_cast, decide_false, cond_false, List.drop_eq_nil_of_le (Nat.le_refl _), List.filter_nil, List.append_nil]
  | d + 1, i, out, fuel + 1, hi, ho, hfu => by
    rw [iter]
    show laws_lkFine_step0 f _ _ = _
    unfold laws_lkFine_step0
    have hlt : i < l.length := by omega
    have h1 : out.length + 1 < LIM := by simp only [LIM]; omega
    have e1 := fine_go f l hl d (i + 1) out fuel (by omega) (by omega) (by omega)
    have e2 := fine_go f l hl d (i + 1) (out ++ [l.getD i 0]) fuel (by omega) (by rw [List.length_append, List.length_singleton]; omega) (by omega)
    simp only [zz_eq, lt_cast hlt, le_cast, decide_true, cond_true, Int.toNat_natCast, w64_up (show i < 4294967296 by omega), h1, e1, e2]
    rw [drop_getD 0 hlt]
    obtain ⟨x, hx⟩ : ∃ x : Int, l.getD i 0 = x := ⟨_, rfl⟩
    simp only [hx]
    by_cases c1 : x ≥ 0
    · by_cases c2 : x < 64
      · have : thingB x = true := by unfold thingB; exact decide_eq_true (by omega)
        simp only [c1, c2, decide_true, cond_true, List.filter_cons, this, if_true, List.append_assoc, List.singleton_append]
      · have : thingB x = false := by unfold thingB; exact decide_eq_false (by omega)
        simp only [c1, c2, decide_true, decide_false, cond_true, cond_false, List.filter_cons, this, Bool.false_eq_true, if_false]
    · have : thingB x = false := by unfold thingB; exact decide_eq_false (by omega)
      simp only [c1, decide_false, cond_false, List.filter_cons, this, Bool.false_eq_true, if_false]
theorem lkFine_eq (f : Nat) (l : List Int) (hl : l.length < 1000000) (hf : l.length < f) : laws_lkFine_fn f ((l, ()), ()) = some ((l.filter thingB, ()), ()) := by
  show iter (laws_lkFine_st0 f) f ((0 : Int), l, []) = _
  exact (fine_go f l hl l.length 0 [] f (by omega) (by simp) hf).trans rfl
end Go.Proofs.YtdgdoeknpakmlaaGreat.Den
namespace Go.Proofs.YtdgdoeknpakmlaaGreat.Den
open Go
set_option linter.unusedVariables false
set_option linter.unusedSimpArgs false
theorem fine_some {l : List Int} (hl : l.length ≤ 40) : (l.filter thingB).length ≤ 40 ∧ (sumOf (l.filter thingB)).2 = true := by
  have h : (l.filter thingB).length ≤ 40 := Nat.le_trans (List.length_filter_le _ _) hl
  exact ⟨h, sumOf_some (fun t ht => (List.mem_filter.1 ht).2) (by omega)⟩
theorem lawSumJoinList (f : Nat) (hf : 1000 < f) (code more : List Int) (hb : ∀ x ∈ code, 0 ≤ x ∧ x ≤ 255) (hm : ∀ x ∈ more, 0 ≤ x ∧ x ≤ 255) : laws_FnSumJoinList_fn f ((code, ()), (more, ()), ()) = some ((true, ()), ()) := by
  refine Ret.eq ?_
  show Ret (laws_FnSumJoinList_pre f code more) _
  unfold laws_FnSumJoinList_pre
  refine Ret.cond (fun _ => Ret.ret rfl) fun _ => Ret.cond (fun _ => Ret.ret rfl) fun _ => ?_
  refine Ret.bind (drawOf_ok f code hb (by omega)) fun y hl => ?_
  obtain ⟨⟨l, ⟨⟩⟩, ⟨⟩⟩ := y
  have hl : l.length ≤ 40 := hl
  refine Ret.bind (Ret.of (lkFine_eq f l (by omega) (by omega))) fun z hz => ?_
  subst hz
  refine Ret.bind (drawOf_ok f more hm (by omega)) fun y hl2 => ?_
  obtain ⟨⟨m, ⟨⟩⟩, ⟨⟩⟩ := y
  have hl2 : m.length ≤ 40 := hl2
  refine Ret.bind (Ret.of (lkFine_eq f m (by omega) (by omega))) fun z hz => ?_
  subst hz
  obtain ⟨la, sa⟩ := fine_some hl
  obtain ⟨lb, sb⟩ := fine_some hl2
  generalize l.filter thingB = a at la sa
  generalize m.filter thingB = b at lb sb
  have ha := (sumOf_small a).mono (show 128 ≤ 129 by omega)
  have hb' := (sumOf_small b).mono (show 128 ≤ 129 by omega)
  have Ta := sumOf_tells sa
  have Tb := sumOf_tells sb
  obtain ⟨j1, Tj⟩ := tells_join Ta Tb (by omega)
  have hj := (sumJoin_small (sumOf a).1 (sumOf b).1).mono (show 128 ≤ 129 by omega)
  have sab : (sumOf (a ++ b)).2 = true := sumOf_some (fun t ht => (List.mem_append.1 ht).elim (Ta.things t) (Tb.things t)) (by rw [List.length_append]; omega)
  have Tab := sumOf_tells sab
  have hab := (sumOf_small (a ++ b)).mono (show 128 ≤ 129 by omega)
  obtain ⟨r, mm, al⟩ := tells_same Tj Tab (List.Perm.refl _)
  have e1 : impl_SumJoin_fn f (FLD (sumOf a).1, FLD (sumOf b).1, ()) = some ((sumJoin (sumOf a).1 (sumOf b).1).1, ((sumJoin (sumOf a).1 (sumOf b).1).2, ()), ()) := implSumJoin_eq f hf _ _ ha hb'
  have h1 : 0 + a.length < LIM := by simp only [LIM]; omega
  have h2 : a.length + b.length < LIM := by simp only [LIM]; omega
  have k1 := lkRough_refl f (sumOf (a ++ b)).1.1 (by have := hab.rows; omega) (fun r hr => by have := hab.row r hr; omega) (by have := hab.rows; omega)
  have k2 := lkInts_refl f (sumOf (a ++ b)).1.2.1 (by have := hab.marks; omega) (by have := hab.marks; omega)
  have e4 : impl_SumAll_fn f (FLD (sumJoin (sumOf a).1 (sumOf b).1).1, ()) = some ((allD (sumJoin (sumOf a).1 (sumOf b).1).1, ()), ()) := implAllD_eq f _ hj (by omega)
  have e5 : impl_SumAll_fn f (FLD (sumOf (a ++ b)).1, ()) = some ((allD (sumOf (a ++ b)).1, ()), ()) := implAllD_eq f _ hab (by omega)
  rw [allD_form Tj.form, Tj.all] at e4
  rw [allD_form Tab.form, Tab.all] at e5
  simp only [specSumOf_eq f a (by omega) (by omega) (by omega), implSumOf_eq f hf a (by omega) (by omega), implSumOf_eq f hf b (by omega) (by omega), Option.bind_some, lkSum_same f hf _ ha, beq_self_eq_true, Bool.not_true, cond_false, cond_true, sa, sb, e1, h1, List.nil_append, h2, decide_true,
    implSumOf_eq f hf (a ++ b) (by rw [List.length_append]; omega) (by rw [List.length_append]; omega), j1, sab]
  simp only [r, mm, k1, k2, Option.bind_some, cond_true]
  refine Ret.bind (Ret.of (show impl_SumAll_fn f _ = _ from (by rw [← r, ← mm]; exact e4))) fun z hz => ?_
  subst hz
  refine Ret.bind (Ret.of e5) fun z hz => ?_
  subst hz
  refine Ret.ret ?_
  show ((((((a ++ b).length : Nat) : Int) == (((a ++ b).length : Nat) : Int) : Bool), ()), ()) = ((true, ()), ())
  rw [beq_self_eq_true]
theorem pureSumJoinList (a b : CsT bytesC) (ha : wfCs bytesC a) (hb : wfCs bytesC b) : ∃ fuel, laws_FnSumJoinList_fn fuel (a, (b, ())) = some ((true, ()), ()) := by
  obtain ⟨code, ⟨⟩⟩ := a
  obtain ⟨more, ⟨⟩⟩ := b
  exact ⟨1001, lawSumJoinList 1001 (by omega) code more (bytes_of ha).2 (bytes_of hb).2⟩
end Go.Proofs.YtdgdoeknpakmlaaGreat.Den
