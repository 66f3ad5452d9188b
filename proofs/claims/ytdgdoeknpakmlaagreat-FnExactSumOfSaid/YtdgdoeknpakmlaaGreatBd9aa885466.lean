/- Part 14 of the texts behind the row. -/
import Derived.Test.YtdgdoeknpakmlaaGreatBa745dc684a
set_option linter.unusedVariables false
set_option linter.unusedSimpArgs false
namespace Go.Proofs.YtdgdoeknpakmlaaGreat.Den
open Go
set_option linter.unusedVariables false
set_option linter.unusedSimpArgs false
theorem cutX (f : Nat) (x : (LP × (Int × (Int × Unit))) × Unit) (h : ¬ zz x.1.1.length ≤ 4) : impl_cutTop_x1_fn f x = impl_cutTop_fn f x := by
  show impl_cutTop_x1_pre f (iter (impl_cutTop_x1_st0 f) f) x.1.1 x.1.2.1 x.1.2.2.1 = impl_cutTop_pre f (iter (impl_cutTop_st0 f) f) x.1.1 x.1.2.1 x.1.2.2.1
  unfold impl_cutTop_x1_pre impl_cutTop_pre
  simp only [h, decide_false, cond_false]
  rfl
theorem topSumX (f : Nat) (x : (LP × (Int × (Int × Unit))) × ((LP × (Int × (Int × Unit))) × Unit)) : impl_topSum_x0_fn f x = impl_topSum_fn f x := by
  obtain ⟨⟨x0, x1, x2, ⟨⟩⟩, ⟨x3, x4, x5, ⟨⟩⟩, ⟨⟩⟩ := x
  show impl_topSum_x0_pre f x0 x1 x2 x3 x4 x5 = impl_topSum_pre f x0 x1 x2 x3 x4 x5
  unfold impl_topSum_x0_pre impl_topSum_pre
  congr 1; funext y
  by_cases h : zz y.1.1.length ≤ 4
  · have h' : zz y.1.1.length ≤ zz 4 := h
    have e : impl_cutTop_fn f ((y.1.1, w64 (x1 + x4), w64 (x2 + x5), ()), ()) = some ((y.1.1, w64 (x1 + x4), w64 (x2 + x5), ()), ()) := by
      show impl_cutTop_pre f (iter (impl_cutTop_st0 f) f) y.1.1 _ _ = _
      unfold impl_cutTop_pre
      simp only [h, decide_true, cond_true]
    simp only [h, h', decide_true, cond_true, e, Option.bind_some]
  · have h' : ¬ zz y.1.1.length ≤ zz 4 := h
    simp only [h', decide_false, cond_false]
    rw [cutX f _ h]
theorem topAddX (f : Nat) (x : (LP × (Int × (Int × Unit))) × ((Int × Unit) × Unit)) : impl_TopAdd_x0_fn f x = impl_TopAdd_fn f x := by
  obtain ⟨⟨x0, x1, x2, ⟨⟩⟩, ⟨x3, ⟨⟩⟩, ⟨⟩⟩ := x
  show impl_TopAdd_x0_pre f x0 x1 x2 x3 = impl_TopAdd_pre f x0 x1 x2 x3
  unfold impl_TopAdd_x0_pre impl_TopAdd_pre
  simp only [topSumX]
def convR (y : ((List (List Int)) × Unit) × ((Bool × Unit) × Unit)) : Option (((List (List Int)) × Unit) × (Bool × Unit)) := cond y.2.1.1 (some (y.1, true, ())) none
theorem roughAddX (f : Nat) (rs : List (List Int)) (t n : Int) : impl_RoughAdd_x0_fn f ((rs, ()), t, n, ()) = (impl_RoughAdd_fn f ((rs, ()), (t, ()), (n, ()), ())).bind convR := by
  show impl_RoughAdd_x0_pre f rs t n = (impl_RoughAdd_pre f rs t n).bind convR
  unfold impl_RoughAdd_x0_pre impl_RoughAdd_pre
  simp only [Option.bind_assoc, cond_bind, Option.bind_some, convR, cond_true, cond_false, none_bind]
abbrev norm3 (s : SumD) : SumD := ([s.1.getD 0 [], s.1.getD 1 [], s.1.getD 2 []], s.2)
theorem norm3_eq {s : SumD} (h : roughB s.1 = true) : norm3 s = s := by
  obtain ⟨a, b, c, e, -⟩ := rough_rows h
  show (([s.1.getD 0 [], s.1.getD 1 [], s.1.getD 2 []] : List (List Int)), s.2) = s
  rw [e]
  exact Prod.ext e.symm rfl
theorem countedX (f : Nat) (hf : 1000 < f) (s : SumD) (t : Int) (h : Form s) (ok : (sumAdd s t).2 = true) : impl_Sum_counted_x0_fn f (s, t, ()) = some ((sumAdd s t).1, true, ()) := by
  have hk := (okB_form h.rank).len
  obtain ⟨rs, ms, ps, lost, tall, ks, rall, ⟨⟩⟩ := s
  have hc : (sumBD (rs, ms, ps, lost, tall, ks, rall, ()) && (thingB t && decide (tall < 2000))) = true := by
    cases hc : (sumBD (rs, ms, ps, lost, tall, ks, rall, ()) && (thingB t && decide (tall < 2000)))
    · rw [sumAdd_no hc] at ok; cases ok
    · rfl
  simp only [Bool.and_eq_true, decide_eq_true_eq] at hc
  obtain ⟨hB, ht, ha⟩ := hc
  have h1 := h.rough; have h2 := h.few; have h3 := h.top; have h4 := h.rank; have h5 := h.all; have h6 := h.same
  have hr := h.all_rng
  simp only at h1 h2 h3 h4 h5 h6 hr hk
  have r := roughAdd_ok (n := 1) h1 ht (by omega) (by rw [h5]; omega)
  have m := fewAdd_ok h2 ht
  have p := topAdd_ok h3 ht ha
  have k := rankAdd_ok h4 ht (by omega)
  have e1 : impl_Rough_with_x0_fn f ((rs, ()), t, ()) = some ((((roughAdd rs t 1).1, ()), ()), true, ()) := by
    show impl_Rough_with_x0_pre f rs t = _
    unfold impl_Rough_with_x0_pre
    rw [roughAddX, implRoughAdd_eq f rs t 1 (by omega), Option.bind_some]
    unfold convR
    rw [r.1, cond_true, Option.bind_some]
    obtain ⟨a, b, c, ea, -⟩ := rough_rows r.2.1
    rw [ea]; rfl
  have e2 : impl_Few_with_x0_fn f ((ms, ()), t, ()) = some ((((fewAdd ms t).1, ()), ()), (fewAdd ms t).2, ()) := by
    show impl_Few_with_x0_pre f ms t = _
    unfold impl_Few_with_x0_pre
    rw [implFewAdd_eq f ms t (by omega)]; rfl
  have e3 : impl_Top_with_x0_fn f ((ps, lost, tall, ()), t, ()) = some (((topAdd ps lost tall t).1, ()), (topAdd ps lost tall t).2, ()) := by
    show impl_Top_with_x0_pre f ps lost tall t = _
    unfold impl_Top_with_x0_pre
    rw [topAddX, implTopAdd_eq f hf ps lost tall t]; rfl
  have e4 : impl_Rank_with_x0_fn f ((ks, rall, ()), t, ()) = some (((rankAdd ks rall t).1, ()), (rankAdd ks rall t).2, ()) := by
    show impl_Rank_with_x0_pre f ks rall t = _
    unfold impl_Rank_with_x0_pre
    rw [implRankAdd_eq f ks rall t (by omega) (by omega) (by omega)]; rfl
  show impl_Sum_counted_x0_pre f rs ms ps lost tall ks rall t = _
  unfold impl_Sum_counted_x0_pre
  rw [show impl_Sum_ways_fn f ((rs, ms, ps, lost, tall, ks, rall, ()), ()) = some ((((rs, ()), ()), ((ms, ()), ()), ((ps, lost, tall, ()), ()), ((ks, rall, ()), ()), ()), ()) from rfl, Option.bind_some]
  simp only [e1, Option.bind_some, Bool.not_true, cond_false, e2, m.1, e3, p.1, e4, k.1]
  obtain ⟨a, b, c, ea, -⟩ := rough_rows r.2.1
  unfold sumAdd
  simp only [hB, ht, ha, decide_true, Bool.and_self, cond_true, ea]
  rfl
theorem implSumOfX_eq (f : Nat) (hf : 1000 < f) (l : List Int) (hl : l.length < 1000000000) (hfl : l.length < f) (ok : (sumOf l).2 = true) : impl_SumOf_x0_fn f (l, ()) = some ((sumOf l).1, true, ()) := by
  show impl_SumOf_x0_pre f (iter (impl_SumOf_x0_st0 f) f) l = _
  unfold impl_SumOf_x0_pre
  refine (iter_list (st := impl_SumOf_x0_st0 f) (enc := fun i (s : SumD) => ((i : Int), (l.length : Int), l, s.2.2.2.1, s.2.2.2.2.1, s.2.2.2.2.2.2.1, (0 : Int), (0 : Int), (0 : Int), s.2.1, s.2.2.1, s.2.2.2.2.2.1, s.1.getD 0 [], s.1.getD 1 [], s.1.getD 2 []))
      (fun (x : Int) c (s : SumD) => (impl_Sum_counted_x0_fn f (norm3 s, x, ())).bind fun y => cond (!y.2.1) none (c y.1))
      (fun s => some (norm3 s, true, ())) l 0 ?_ ?_ f sumNew hfl).trans ?_
  · intro i s g hi
    show impl_SumOf_x0_step0 f g _ = _
    unfold impl_SumOf_x0_step0
    simp only [zz_eq, lt_cast hi, le_cast, decide_true, cond_true, Int.toNat_natCast, w64_up (show i < 4294967296 by omega)]
  · intro s g
    show impl_SumOf_x0_step0 f g _ = _
    unfold impl_SumOf_x0_step0
    simp only [nlt_cast, decide_false, cond_false]
  · have : ∀ (l : List Int) (s : SumD), Form s → (sumOfGo l s).2 = true → goL (R := SumD × (Bool × Unit)) (fun (x : Int) c (s : SumD) => (impl_Sum_counted_x0_fn f (norm3 s, x, ())).bind fun y => cond (!y.2.1) none (c y.1))
        (fun s => some (norm3 s, true, ())) l s = some ((sumOfGo l s).1, true, ()) := by
      intro l
      induction l with
      | nil =>
        intro s hs _
        show some (norm3 s, true, ()) = _
        rw [norm3_eq hs.rough]; rfl
      | cons x l ih =>
        intro s hs hok
        show (impl_Sum_counted_x0_fn f (norm3 s, x, ())).bind _ = _
        unfold sumOfGo at hok ⊢
        cases h2 : (sumAdd s x).2
        · rw [h2] at hok; cases hok
        · rw [h2, cond_true] at hok
          rw [norm3_eq hs.rough, countedX f hf s x hs h2, Option.bind_some]
          simp only [Bool.not_true, cond_false, cond_true]
          refine ih _ ?_ hok
          obtain ⟨hc1, hc2, hc3⟩ : Form s ∧ thingB x = true ∧ allOf s < 2000 := by
            cases hc : (sumBD s && (thingB x && decide (allOf s < 2000)))
            · rw [sumAdd_no hc] at h2; cases h2
            · simp only [Bool.and_eq_true, decide_eq_true_eq] at hc
              exact ⟨hs, hc.2.1, hc.2.2⟩
          exact (sumAdd_ok hs hc2 hc3).2.1
    exact this l sumNew form_new ok
theorem sumOfGo_no : ∀ (l : List Int) (s : SumD), (sumOfGo l s).2 = false → (sumOfGo l s).1 = noSum
  | [], s, h => by cases h
  | x :: l, s, h => by
    unfold sumOfGo at h ⊢
    cases h2 : (sumAdd s x).2
    · rfl
    · rw [h2, cond_true] at h
      exact sumOfGo_no l _ h
theorem implSumOfN_eq (f : Nat) (hf : 1000 < f) (l : List Int) (hl : l.length < 1000000000) (hfl : l.length < f) (no : (sumOf l).2 = false) : impl_SumOf_x1_fn f (l, ()) = some (((0 : Int), (0 : Int), (0 : Int), ()), false, ()) := by
  show impl_SumOf_x1_pre f (iter (impl_SumOf_x1_st0 f) f) l = _
  unfold impl_SumOf_x1_pre
  rw [implSumNew_eq, Option.bind_some]
  refine (iter_list (st := impl_SumOf_x1_st0 f) (enc := fun i (s : SumD) => ((i : Int), (l.length : Int), l, s.1, s.2.1, s.2.2.1, s.2.2.2.1, s.2.2.2.2.1, s.2.2.2.2.2.1, s.2.2.2.2.2.2.1, (0 : Int), (0 : Int), (0 : Int))) (fun (x : Int) c (s : SumD) => (impl_Sum_counted_fn f (s, (x, ()), ())).bind fun y => cond (!y.2.1.1) (some (((0 : Int), (0 : Int), (0 : Int), ()), false, ())) (c y.1))
      (fun s => none) l 0 ?_ ?_ f sumNew hfl).trans ?_
  · intro i s g hi
    show impl_SumOf_x1_step0 f g _ = _
    unfold impl_SumOf_x1_step0
    simp only [zz_eq, lt_cast hi, le_cast, decide_true, cond_true, Int.toNat_natCast, w64_up (show i < 4294967296 by omega)]
  · intro s g
    show impl_SumOf_x1_step0 f g _ = _
    unfold impl_SumOf_x1_step0
    simp only [nlt_cast, decide_false, cond_false]
  · have : ∀ (l : List Int) (s : SumD), Form s → (sumOfGo l s).2 = false → goL (R := (Int × (Int × (Int × Unit))) × (Bool × Unit)) (fun (x : Int) c (s : SumD) => (impl_Sum_counted_fn f (s, (x, ()), ())).bind fun y => cond (!y.2.1.1) (some (((0 : Int), (0 : Int), (0 : Int), ()), false, ())) (c y.1))
        (fun s => none) l s = some (((0 : Int), (0 : Int), (0 : Int), ()), false, ()) := by
      intro l
      induction l with
      | nil => intro s _ h; cases h
      | cons x l ih =>
        intro s hs hno
        have := (okB_form hs.rank).len
        show (impl_Sum_counted_fn f (s, (x, ()), ())).bind _ = _
        rw [counted_eq f hf s x hs (by omega), Option.bind_some]
        unfold sumOfGo at hno
        cases h2 : (sumAdd s x).2
        · rfl
        · rw [h2, cond_true] at hno
          simp only [Bool.not_true, cond_false, cond_true]
          refine ih _ ?_ hno
          obtain ⟨hc1, hc2, hc3⟩ : Form s ∧ thingB x = true ∧ allOf s < 2000 := by
            cases hc : (sumBD s && (thingB x && decide (allOf s < 2000)))
            · rw [sumAdd_no hc] at h2; cases h2
            · simp only [Bool.and_eq_true, decide_eq_true_eq] at hc
              exact ⟨hs, hc.2.1, hc.2.2⟩
          exact (sumAdd_ok hs hc2 hc3).2.1
    exact this l sumNew form_new no
end Go.Proofs.YtdgdoeknpakmlaaGreat.Den
namespace Go.Proofs.YtdgdoeknpakmlaaGreat.Den
open Go
set_option linter.unusedVariables false
set_option linter.unusedSimpArgs false
theorem short_small {s : SumD} {n : Nat} (h : SmallS s n) (hn : n ≤ 1048576) : Short s.1 s.2.1 s.2.2.1 s.2.2.2.2.2.1 1048576 := by
  have h1 := h.rows; have h2 := h.row; have h3 := h.marks; have h4 := h.pairs; have h5 := h.knots
  exact ⟨by omega, fun r hr => by have := h2 r hr; omega, by omega, by omega, by omega⟩
theorem eqSum_self (f : Nat) (hf : 1048576 < f) (s : SumD) (h : SmallS s 129) :
    laws_eqSum_fn f ((s.1, s.2.1, s.2.2.1, s.2.2.2.1, s.2.2.2.2.1, s.2.2.2.2.2.1, s.2.2.2.2.2.2.1, ()), (s.1, s.2.1, s.2.2.1, s.2.2.2.1, s.2.2.2.2.1, s.2.2.2.2.2.1, s.2.2.2.2.2.2.1, ()), ()) = some ((true, ()), ()) :=
  eqSum_refl f s.1 s.2.1 s.2.2.1 s.2.2.2.1 s.2.2.2.2.1 s.2.2.2.2.2.1 s.2.2.2.2.2.2.1 (short_small h (by omega)) hf
theorem lawExactSumOf_yes (f : Nat) (hf : 2000000 < f) (l : List Int) (ok : (sumOf l).2 = true) : laws_FnExactSumOf_fn f ((l, ()), ()) = some ((true, ()), ()) := by
  show laws_FnExactSumOf_pre f l = _
  unfold laws_FnExactSumOf_pre
  by_cases hc : zz l.length > 1048576
  · simp only [hc, decide_true, cond_true]
  have hl : l.length ≤ 1048576 := by rw [zz_eq] at hc; omega
  have T := sumOf_tells ok
  have hs := (sumOf_small l).mono (show 128 ≤ 129 by omega)
  have e0 := toInts_eq f l (by omega) (by omega)
  have e1 := specSumOf_eq f l (by omega) (by omega) (by omega)
  have e2 := implSumOfX_eq f (by omega) l (by omega) (by omega) ok
  have e3 := eqInts_refl f l (by omega) (by omega)
  have e4 := markI_eq f l 1 (by omega) (by omega) (by omega) (by omega)
  rw [ok] at e1
  have e5 := eqSum_self f (by omega) _ hs
  generalize (sumOf l).1 = S at T hs e1 e2 e5
  obtain ⟨rs, ms, ps, lost, tall, ks, rall, ⟨⟩⟩ := S
  obtain ⟨a, b, c, er, ha, hb, hc', -, -⟩ := rough_rows T.form.rough
  have er : rs = [a, b, c] := er
  subst er
  have la := row_len ha; have lb := row_len hb; have lc := row_len hc'
  have hms : ms.length ≤ 129 := hs.marks
  have hps : ps.length ≤ 129 := hs.pairs
  have hks : ks.length ≤ 129 := hs.knots
  have m1 := markI_eq f a 1 (by omega) (by omega) (by omega) (by omega)
  have m2 := markI_eq f b (1 + a.length) (by omega) (by omega) (by omega) (by omega)
  have m3 := markI_eq f c (1 + a.length + b.length) (by omega) (by omega) (by omega) (by omega)
  have m4 := markI_eq f ms (1 + a.length + b.length + c.length) (by omega) (by omega) (by omega) (by omega)
  have m5 := markPair_eq f ps (1 + a.length + b.length + c.length + ms.length) (by omega) (by omega) (by omega) (by omega)
  have m6 := markKnot_eq f ks (1 + a.length + b.length + c.length + ms.length + 2 * ps.length) (by omega) (by omega) (by omega) (by omega)
  have m7 := heldSum_eq f a.length b.length c.length ms.length ps.length ks.length lost tall rall (by omega) (by omega) (by omega) (by omega) (by omega) (by omega) (by omega)
  have n1 : ¬ (1 : Int) + (l.length : Int) < 0 := by omega
  have n2 : ¬ (1 : Int) + a.length + b.length + c.length + ms.length + 2 * ps.length + 2 * ks.length < 0 := by omega
  have d0 : ([a, b, c] : List (List Int)).getD 0 [] = a := rfl
  have d1 : ([a, b, c] : List (List Int)).getD 1 [] = b := rfl
  have d2 : ([a, b, c] : List (List Int)).getD 2 [] = c := rfl
  simp only at e5
  simp only [hc, decide_false, cond_false, e0, e1, e2, Option.bind_some, d0, d1, d2, e5, e3, e4, m1, m2, m3, m4, m5, m6, m7, n1, n2, Bool.not_true, beq_self_eq_true, cond_true, bne_self_eq_false]
theorem lawExactSumOf_no (f : Nat) (hf : 2000000 < f) (l : List Int) (no : (sumOf l).2 = false) : laws_FnExactSumOf_x0_fn f ((l, ()), ()) = some ((true, ()), ()) := by
  show laws_FnExactSumOf_x0_pre f l = _
  unfold laws_FnExactSumOf_x0_pre
  by_cases hc : zz l.length > 1048576
  · simp only [hc, decide_true, cond_true]
  have hl : l.length ≤ 1048576 := by rw [zz_eq] at hc; omega
  have e0 := toInts_eq f l (by omega) (by omega)
  have e1 := specSumOf_eq f l (by omega) (by omega) (by omega)
  have e2 := implSumOfN_eq f (by omega) l (by omega) (by omega) no
  have e3 := eqInts_refl f l (by omega) (by omega)
  have e4 := markI_eq f l 1 (by omega) (by omega) (by omega) (by omega)
  have hn : (sumOf l).1 = noSum := sumOfGo_no l sumNew no
  rw [no, hn] at e1
  have e5 : laws_eqSum_fn f (([], [], [], (0 : Int), (0 : Int), [], (0 : Int), ()), ([], [], [], (0 : Int), (0 : Int), [], (0 : Int), ()), ()) = some ((true, ()), ()) :=
    eqSum_refl f [] [] [] 0 0 [] 0 ⟨by simp, by simp, by simp, by simp, by simp⟩ (by omega)
  obtain ⟨g, rfl⟩ : ∃ g, f = g + 1 := ⟨f - 1, by omega⟩
  have m1 : laws_markIntS_v1_fn (g + 1) ((1 : Int), ()) = some ((1 : Int), ()) := rfl
  have m2 : laws_markPairS_v1_fn (g + 1) ((1 : Int), ()) = some ((1 : Int), ()) := rfl
  have m3 : laws_markKnotS_v1_fn (g + 1) ((1 : Int), ()) = some ((1 : Int), ()) := rfl
  have m7 : laws_heldSum_fn (g + 1) (([], [], [], (0 : Int), (0 : Int), [], (0 : Int), ()), ((1 : Int), ()), ()) = some (((1 : Int), ()), ()) := rfl
  have n1 : ¬ (1 : Int) + (l.length : Int) < 0 := by omega
  have n2 : ¬ (1 : Int) < 0 := by omega
  unfold noSum at e1
  simp only [hc, decide_false, cond_false, e0, e1, e2, Option.bind_some, e5, e3, e4, m1, m2, m3, m7, n1, n2, Bool.not_true, Bool.not_false, beq_self_eq_true, cond_true, bne_self_eq_false]
theorem pureExactSumOf (a : CsT [(Kd.list (.int .i64), false)]) (ha : wfCs [(Kd.list (.int .i64), false)] a) : (∃ fuel, laws_FnExactSumOf_fn fuel (a, ()) = some ((true, ()), ())) ∨ ∃ fuel, laws_FnExactSumOf_x0_fn fuel (a, ()) = some ((true, ()), ()) := by
  obtain ⟨l, ⟨⟩⟩ := a
  cases h : (sumOf l).2 with
  | true => exact .inl ⟨2000001, lawExactSumOf_yes 2000001 (by omega) l h⟩
  | false => exact .inr ⟨2000001, lawExactSumOf_no 2000001 (by omega) l h⟩
end Go.Proofs.YtdgdoeknpakmlaaGreat.Den
