/- Draws of sums end, and the laws of one drawn sum: FnSumAll, FnSumOk, FnSumGetNear, plainly. -/
import Derived.Test.YtjnkefbdpcbkmaaQS8
namespace Go.Proofs.Ytjnkefbdpcbkmaa.Den
open Go
set_option linter.unusedVariables false
set_option linter.unusedSimpArgs false

theorem SmallS.mono {s : SumD} {n m : Nat} (h : SmallS s n) (hm : n ≤ m) : SmallS s m :=
  ⟨Nat.le_trans h.rows hm, fun r hr => Nat.le_trans (h.row r hr) hm, Nat.le_trans h.marks hm, Nat.le_trans h.pairs hm, Nat.le_trans h.knots hm⟩
theorem SmallS.all {s : SumD} {n : Nat} (h : SmallS s n) (a : Int) : SmallS (s.1, s.2.1, s.2.2.1, s.2.2.2.1, a, s.2.2.2.2.2.1, s.2.2.2.2.2.2.1, ()) n := ⟨h.rows, h.row, h.marks, h.pairs, h.knots⟩
theorem SmallS.kept {s : SumD} {n : Nat} (h : SmallS s n) (x : Int) : SmallS (s.1, s.2.1 ++ [x], s.2.2.1, s.2.2.2.1, s.2.2.2.2.1, s.2.2.2.2.2.1, s.2.2.2.2.2.2.1, ()) (n + 1) :=
  ⟨Nat.le_succ_of_le h.rows, fun r hr => Nat.le_succ_of_le (h.row r hr), by show (s.2.1 ++ [x]).length ≤ n + 1; have := h.marks; rw [List.length_append, List.length_singleton]; omega, Nat.le_succ_of_le h.pairs, Nat.le_succ_of_le h.knots⟩
theorem SmallS.rough {s u : SumD} {n : Nat} (h : SmallS s n) (hu : SmallS u n) : SmallS (u.1, s.2.1, s.2.2.1, s.2.2.2.1, s.2.2.2.2.1, s.2.2.2.2.2.1, s.2.2.2.2.2.2.1, ()) n := ⟨hu.rows, hu.row, h.marks, h.pairs, h.knots⟩

theorem pick_more {f : Nat} {b : List Int} {p q : Int} (hb : Bytes b) (h0 : 0 ≤ p) (s : List Int × Int × Unit) (n : Int) (hs : Rd b p q s) (hq : q ≤ 900000000) (hn : 1 ≤ n) :
    Ret (spec_l6Rd_pick_fn f ((s.1, s.2.1, ()), (n, ()), ())) fun t => Rd b p (q + 1) t.1 ∧ 0 ≤ t.2.1.1 ∧ t.2.1.1 < n := by
  rw [hs.1]
  exact (pick_ok f b s.2.1 n hb (by have := hs.2; omega) (by have := hs.2; omega) hn).mono fun t ht => ⟨hs.trans ht.1, ht.2⟩
theorem things_more {f : Nat} {b : List Int} {p q : Int} (hb : Bytes b) (h0 : 0 ≤ p) (s : List Int × Int × Unit) (m : Int) (hs : Rd b p q s) (hq : q ≤ 600000000) (hm : 0 ≤ m ∧ m ≤ 40) (hf : 50 < f) :
    Ret (spec_l71Things_fn f ((s.1, s.2.1, ()), (m, ()), ())) fun t => Rd b p (q + 90) t.1 ∧ (t.2.1.1.length : Int) ≤ m ∧ Things t.2.1.1 := by
  rw [hs.1]
  exact (things_ok f b s.2.1 m hb (by have := hs.2; omega) (by have := hs.2; omega) hm hf).mono fun t ht => ⟨hs.trans ht.1, ht.2⟩
theorem Rd.weak {b : List Int} {p q r : Int} {s : List Int × Int × Unit} (h : Rd b p q s) (hr : q ≤ r) : Rd b p r s := ⟨h.1, h.2.1, Int.le_trans h.2.2 hr⟩

/-- How a drawn sum may be spoilt. -/
theorem spoil_ok {f : Nat} {b : List Int} {p : Int} (s : SumD) (y : (List Int × Int × Unit) × (Int × Unit) × Unit) (hs : SmallS s 128) (hy : Rd b p (p + 300) y.1) :
    Ret (cond (y.2.1.1 == (0 : Int)) (some ((y.1.1, y.1.2.1, ()), ((s.1, s.2.1, s.2.2.1, s.2.2.2.1, w64 (s.2.2.2.2.1 + 1), s.2.2.2.2.2.1, s.2.2.2.2.2.2.1, ()) : SumD), ()))
      (cond (y.2.1.1 == (1 : Int)) (tst (decide (List.length s.2.1 + 1 < LIM)) <| some ((y.1.1, y.1.2.1, ()), ((s.1, s.2.1 ++ [(0 : Int)], s.2.2.1, s.2.2.2.1, s.2.2.2.2.1, s.2.2.2.2.2.1, s.2.2.2.2.2.2.1, ()) : SumD), ()))
        (cond (y.2.1.1 == (2 : Int)) (Option.bind (spec_RoughNew_fn f ()) fun z => some ((y.1.1, y.1.2.1, ()), ((z.1.1, s.2.1, s.2.2.1, s.2.2.2.1, s.2.2.2.2.1, s.2.2.2.2.2.1, s.2.2.2.2.2.2.1, ()) : SumD), ()))
          (some ((y.1.1, y.1.2.1, ()), ((s.1, s.2.1, s.2.2.1, s.2.2.2.1, s.2.2.2.2.1, s.2.2.2.2.2.1, s.2.2.2.2.2.2.1, ()) : SumD), ())))))
      fun r => Rd b p (p + 300) r.1 ∧ SmallS r.2.1 129 := by
  have h1 : List.length s.2.1 + 1 < LIM := by have := hs.marks; simp only [LIM]; omega
  refine Ret.cond (fun _ => Ret.ret ⟨hy, (hs.all _).mono (by omega)⟩) fun _ => Ret.cond (fun _ => Ret.tst (decide_eq_true h1) (Ret.ret ⟨hy, hs.kept 0⟩)) fun _ => Ret.cond (fun _ => ?_) fun _ => Ret.ret ⟨hy, (hs.all _).mono (by omega)⟩
  rw [specRoughNew_eq, Option.bind_some]
  exact Ret.ret ⟨hy, ((hs.rough sumNew_small).mono (by omega))⟩

theorem sum_ok (f : Nat) (b : List Int) (p : Int) (hb : Bytes b) (h0 : 0 ≤ p) (h1 : p ≤ 500000000) (hf : 300 < f) :
    Ret (spec_l71Sum_fn f ((b, p, ()), ())) fun s => Rd b p (p + 300) s.1 ∧ SmallS s.2.1 129 := by
  show Ret (spec_l71Sum_pre f b p) _
  unfold spec_l71Sum_pre
  refine Ret.bind (things_ok f b p 20 hb h0 (by omega) (by omega) (by omega)) fun y hy => ?_
  rw [specSumOf_eq f y.2.1.1 (by have := hy.2.1; omega) (by have := hy.2.1; omega) (by omega), Option.bind_some]
  have s1 := sumOf_small y.2.1.1
  generalize (sumOf y.2.1.1).1 = s at s1
  refine Ret.bind (pick_more hb h0 y.1 4 hy.1 (by omega) (by omega)) fun z hz => ?_
  refine Ret.cond (fun _ => ?_) fun _ => ?_
  · refine Ret.bind (things_more hb h0 z.1 20 hz.1 (by omega) (by omega) (by omega)) fun t ht => ?_
    rw [specSumOf_eq f t.2.1.1 (by have := ht.2.1; omega) (by have := ht.2.1; omega) (by omega), Option.bind_some]
    have s2 := sumOf_small t.2.1.1
    generalize (sumOf t.2.1.1).1 = u at s2
    refine Ret.bind (Ret.of (specSumJoin_eq f s u s1 s2 (by omega) (by omega) (by omega))) fun v hv => ?_
    subst hv
    have s3 := sumJoin_small s u
    generalize (sumJoin s u).1 = w at s3
    refine Ret.bind (pick_more hb h0 t.1 24 ht.1 (by omega) (by omega)) fun q hq => ?_
    exact spoil_ok w q s3 (hq.1.weak (by omega))
  · refine Ret.bind (pick_more hb h0 z.1 24 hz.1 (by omega) (by omega)) fun q hq => ?_
    exact spoil_ok s q s1 (hq.1.weak (by omega))

theorem few_loop (f : Nat) (b : List Int) (hb : Bytes b) (p0 : Int) (hp0 : 0 ≤ p0) : ∀ (fuel n : Nat) (p : Int) (ms : List Int), n ≤ 20 → p0 ≤ p → p + n ≤ p0 + 10 → p0 ≤ 800000000 → ms.length ≤ 6 → n < fuel → 8 < f →
    Ret (iter (spec_l71Few_st0 f) fuel ((n : Int), b, p, ms)) fun s => Rd b p0 (p0 + 20) s.1 ∧ s.2.1.1.length ≤ 7
  | 0, n, p, ms, _, _, _, _, _, h, _ => by omega
  | fuel + 1, n, p, ms, hn, h0, h1, h2, hm, hf, hff => by
    rw [iter]
    show Ret (spec_l71Few_step0 f _ _) _
    unfold spec_l71Few_step0
    have hs : Rd b p0 p (b, p, ()) := ⟨rfl, h0, Int.le_refl _⟩
    refine Ret.cond (fun hc => ?_) fun hc => ?_
    · have hn : 0 < n := by have := of_decide_eq_true hc; omega
      refine Ret.bind (pick_more hb hp0 (b, p, ()) 64 hs (by omega) (by omega)) fun y hy => ?_
      rw [specFewAdd_eq f ms _ (by omega) (by omega), Option.bind_some]
      have e : w64 ((n : Int) - 1) = ((n - 1 : Nat) : Int) := by rw [w64_id] <;> omega
      show Ret (iter _ fuel (w64 ((n : Int) - 1), y.1.1, y.1.2.1, (fewAdd ms y.2.1.1).1)) _
      rw [e, hy.1.1]
      have := hy.1.2
      exact few_loop f b hb p0 hp0 fuel (n - 1) y.1.2.1 _ (by omega) (by omega) (by omega) (by omega) fewAdd_small (by omega) hff
    · refine Ret.bind (pick_more hb hp0 (b, p, ()) 24 hs (by omega) (by omega)) fun y hy => ?_
      have hl : ms.length + 1 < LIM := by simp only [LIM]; omega
      have hr : Rd b p0 (p0 + 20) y.1 := hy.1.weak (by omega)
      refine Ret.cond (fun _ => Ret.tst (decide_eq_true hl) (Ret.ret ⟨hr, ?_⟩)) fun _ => Ret.cond (fun _ => Ret.tst (decide_eq_true hl) (Ret.ret ⟨hr, ?_⟩)) fun _ => Ret.ret ⟨hr, ?_⟩
      · show (ms ++ [(0 : Int)]).length ≤ 7; rw [List.length_append, List.length_singleton]; omega
      · show (ms ++ [(64 : Int)]).length ≤ 7; rw [List.length_append, List.length_singleton]; omega
      · show ms.length ≤ 7; omega
theorem few_ok (f : Nat) (b : List Int) (p : Int) (hb : Bytes b) (h0 : 0 ≤ p) (h1 : p ≤ 700000000) (hf : 300 < f) :
    Ret (spec_l71Few_fn f ((b, p, ()), ())) fun s => Rd b p (p + 20) s.1 ∧ s.2.1.1.length ≤ 7 := by
  show Ret (spec_l71Few_pre f (iter (spec_l71Few_st0 f) f) b p) _
  unfold spec_l71Few_pre
  refine Ret.bind (pick_ok f b p 10 hb h0 (by omega) (by omega)) fun y hy => ?_
  have := hy.1.2
  have e : y.2.1.1 = ((y.2.1.1.toNat : Nat) : Int) := by have := hy.2.1; omega
  rw [hy.1.1, e]
  exact few_loop f b hb p h0 f _ _ [] (by have := hy.2; omega) (by omega) (by have := hy.2; omega) (by omega) (by simp) (by have := hy.2; omega) (by omega)

theorem drawAll_ok (f : Nat) (code : List Int) (hb : ∀ x ∈ code, 0 ≤ x ∧ x ≤ 255) (hf : 300 < f) : Ret (spec_DrawSumAll_fn f ((code, ()), ())) fun s => SmallS s.1 129 := by
  show Ret (spec_DrawSumAll_pre f code) _
  unfold spec_DrawSumAll_pre
  refine Ret.bind (open_ok f code hb) fun y hy => ?_
  rw [hy.2]
  refine Ret.bind (sum_ok f y.1 0 hy.1 (by omega) (by omega) hf) fun z hz => ?_
  exact Ret.ret hz.2
theorem drawOk_ok (f : Nat) (code : List Int) (hb : ∀ x ∈ code, 0 ≤ x ∧ x ≤ 255) (hf : 300 < f) : Ret (spec_DrawSumOk_fn f ((code, ()), ())) fun s => SmallS s.1 129 := by
  show Ret (spec_DrawSumOk_pre f code) _
  unfold spec_DrawSumOk_pre
  refine Ret.bind (open_ok f code hb) fun y hy => ?_
  rw [hy.2]
  refine Ret.bind (sum_ok f y.1 0 hy.1 (by omega) (by omega) hf) fun z hz => ?_
  refine Ret.bind (pick_more hy.1 (by omega) z.1 4 hz.1 (by omega) (by omega)) fun q hq => ?_
  have hq2 := hq.1.2
  refine Ret.cond (fun _ => ?_) fun _ => Ret.cond (fun _ => ?_) fun _ => Ret.ret hz.2
  · rw [hq.1.1]
    refine Ret.bind (rank_ok f y.1 q.1.2.1 hy.1 (by omega) (by omega) (by omega)) fun t ht => ?_
    exact Ret.ret (smallS_mk hz.2.rows hz.2.row hz.2.marks hz.2.pairs (Nat.le_succ_of_le ht.2))
  · rw [hq.1.1]
    refine Ret.bind (few_ok f y.1 q.1.2.1 hy.1 (by omega) (by omega) hf) fun t ht => ?_
    exact Ret.ret (smallS_mk hz.2.rows hz.2.row (by have := ht.2; omega) hz.2.pairs hz.2.knots)
theorem drawAdd_ok (f : Nat) (code : List Int) (hb : ∀ x ∈ code, 0 ≤ x ∧ x ≤ 255) (hf : 300 < f) : Ret (spec_DrawSumAdd_fn f ((code, ()), ())) fun s => SmallS s.1 129 := by
  show Ret (spec_DrawSumAdd_pre f code) _
  unfold spec_DrawSumAdd_pre
  refine Ret.bind (open_ok f code hb) fun y hy => ?_
  rw [hy.2]
  refine Ret.bind (sum_ok f y.1 0 hy.1 (by omega) (by omega) hf) fun z hz => ?_
  have hz2 := hz.1.2
  rw [hz.1.1]
  refine Ret.bind (thing_ok f y.1 z.1.2.1 hy.1 (by omega) (by omega)) fun t ht => ?_
  exact Ret.ret hz.2
theorem drawGet_ok (f : Nat) (code : List Int) (hb : ∀ x ∈ code, 0 ≤ x ∧ x ≤ 255) (hf : 300 < f) : Ret (spec_DrawSumGet_fn f ((code, ()), ())) fun s => SmallS s.1 129 := by
  show Ret (spec_DrawSumGet_pre f code) _
  unfold spec_DrawSumGet_pre
  refine Ret.bind (drawAdd_ok f code hb hf) fun y hy => ?_
  exact Ret.ret hy

/-! ### the laws -/
section
variable (f : Nat) (s : SumD) (hs : SmallS s 129) (hf : 300 < f)
include hs hf
def allD (s : SumD) : Int := cond (sumBD s) (s.2.2.2.2.1) (-1)
theorem specAllD_eq : spec_SumAll_fn f (s, ()) = some ((allD s, ()), ()) :=
  specSumAll_eq f s.1 s.2.1 s.2.2.1 s.2.2.2.1 s.2.2.2.2.1 s.2.2.2.2.2.1 s.2.2.2.2.2.2.1 (by omega) (fun r hr => by have := hs.row r hr; omega) (by have := hs.marks; omega) (by have := hs.pairs; omega) (by have := hs.knots; omega)
theorem implAllD_eq : impl_SumAll_fn f (s, ()) = some ((allD s, ()), ()) :=
  implSumAll_eq f s.1 s.2.1 s.2.2.1 s.2.2.2.1 s.2.2.2.2.1 s.2.2.2.2.2.1 s.2.2.2.2.2.2.1 (by omega) (by have := hs.knots; omega)
def getD' (s : SumD) (t : Int) : Int × Int := sumGet s.1 s.2.1 s.2.2.1 s.2.2.2.1 s.2.2.2.2.1 s.2.2.2.2.2.1 s.2.2.2.2.2.2.1 t
theorem specGetD_eq (t : Int) : spec_SumGet_fn f (s, (t, ()), ()) = some (((getD' s t).1, ()), ((getD' s t).2, ()), ()) :=
  specSumGet_eq f s.1 s.2.1 s.2.2.1 s.2.2.2.1 s.2.2.2.2.1 s.2.2.2.2.2.1 s.2.2.2.2.2.2.1 t (by omega) (fun r hr => by have := hs.row r hr; omega) (by have := hs.marks; omega) (by have := hs.pairs; omega) (by have := hs.knots; omega)
theorem implGetD_eq (t : Int) : impl_SumGet_fn f (s, (t, ()), ()) = some (((getD' s t).1, ()), ((getD' s t).2, ()), ()) :=
  implSumGet_eq f s.1 s.2.1 s.2.2.1 s.2.2.2.1 s.2.2.2.2.1 s.2.2.2.2.2.1 s.2.2.2.2.2.2.1 t (by omega) (by have := hs.knots; omega)
end
theorem implSumNew_eq (f : Nat) : impl_SumNew_fn f () = some (sumNew, ()) := rfl
theorem sumBD_parts {s : SumD} (h : sumBD s = true) : roughB s.1 = true ∧ fewB s.2.1 = true ∧ topB s.2.2.1 s.2.2.2.1 s.2.2.2.2.1 = true ∧ okB s.2.2.2.2.2.1 s.2.2.2.2.2.2.1 = true ∧ allR s.1 = s.2.2.2.2.1 ∧ s.2.2.2.2.1 = s.2.2.2.2.2.2.1 ∧ (0 ≤ s.2.2.2.2.1 ∧ s.2.2.2.2.1 ≤ 2000) := by
  unfold sumBD sumB at h
  simp only [Bool.and_eq_true] at h
  obtain ⟨h1, h2, h3, h4, h5, h6, -⟩ := h
  exact ⟨h1, h2, h3, h4, eq_of_beq h5, eq_of_beq h6, (four h3).2.2.2⟩
theorem sumNew_ok : sumBD sumNew = true := by decide +kernel

theorem lawSumAll (f : Nat) (hf : 300 < f) (code : List Int) (hb : ∀ x ∈ code, 0 ≤ x ∧ x ≤ 255) : laws_FnSumAll_fn f ((code, ()), ()) = some ((true, ()), ()) := by
  refine Ret.eq ?_
  show Ret (laws_FnSumAll_pre f code) _
  unfold laws_FnSumAll_pre
  refine Ret.cond (fun _ => Ret.ret rfl) fun _ => ?_
  refine Ret.bind (drawAll_ok f code hb hf) fun y hy => ?_
  obtain ⟨s, ⟨⟩⟩ := y
  have e1 := implAllD_eq f s hy hf
  have e2 := specAllD_eq f s hy hf
  have e3 := implSumD_eq f s hy (by omega) (by omega) (by omega)
  have e4 := implAllD_eq f sumNew (sumNew_small.mono (by omega)) hf
  have n0 : allD sumNew = 0 := by unfold allD; rw [sumNew_ok]; rfl
  refine Ret.bind (Ret.of e1) fun y1 h1 => ?_
  refine Ret.bind (Ret.of e2) fun y2 h2 => ?_
  subst h1 h2
  simp only [beq_self_eq_true, cond_true]
  refine Ret.bind (Ret.of e3) fun y3 h3 => ?_
  subst h3
  have last : ∀ (k : ((SumD × Unit)) → Option ((Bool × Unit) × Unit)), (∀ z, k z = Option.bind (impl_SumAll_fn f (z.1, ())) fun y => some ((y.1.1 == (0 : Int), ()), ())) → Ret (Option.bind (impl_SumNew_fn f ()) k) fun r => r = ((true, ()), ()) := fun k hk => by
    rw [implSumNew_eq, Option.bind_some, hk, e4, Option.bind_some, n0]; exact Ret.ret rfl
  cases hB : sumBD s
  · have a0 : allD s = -1 := by unfold allD; rw [hB]; rfl
    simp only [a0]
    exact last _ fun _ => rfl
  · have p := sumBD_parts hB
    have a0 : allD s = s.2.2.2.2.1 := by unfold allD; rw [hB]; rfl
    have c1 : decide (s.2.2.2.2.1 ≥ 0) = true := decide_eq_true p.2.2.2.2.2.2.1
    have c2 : decide (s.2.2.2.2.1 < 0) = false := decide_eq_false (by have := p.2.2.2.2.2.2.1; omega)
    simp only [a0, c1, c2, beq_self_eq_true, cond_true, cond_false]
    rw [implAll_eq f s.1 (by omega), Option.bind_some, p.2.2.2.2.1]
    simp only [beq_self_eq_true, cond_true]
    exact last _ fun _ => rfl

theorem lawSumOk (f : Nat) (hf : 300 < f) (code : List Int) (hb : ∀ x ∈ code, 0 ≤ x ∧ x ≤ 255) : laws_FnSumOk_fn f ((code, ()), ()) = some ((true, ()), ()) := by
  refine Ret.eq ?_
  show Ret (laws_FnSumOk_pre f code) _
  unfold laws_FnSumOk_pre
  refine Ret.cond (fun _ => Ret.ret rfl) fun _ => ?_
  refine Ret.bind (drawOk_ok f code hb hf) fun y hy => ?_
  obtain ⟨s, ⟨⟩⟩ := y
  have e2 := specSumD_eq f s hy (by omega) (by omega) (by omega)
  have e3 := implSumD_eq f s hy (by omega) (by omega) (by omega)
  refine Ret.bind (Ret.of e3) fun y1 h1 => ?_
  refine Ret.bind (Ret.of e2) fun y2 h2 => ?_
  subst h1 h2
  cases hB : sumBD s
  · simp only [Bool.not_false, beq_iff_eq, cond_true]
    refine Ret.bind (Ret.of e2) fun y2 h2 => ?_
    subst h2
    simp only [hB]
    exact Ret.ret rfl
  · have p := sumBD_parts hB
    have e5 := implRough_eq f s.1 (by omega)
    have e6 := implFew_eq f s.2.1 (by omega)
    have e7 := implTop_eq f s.2.2.1 s.2.2.2.1 s.2.2.2.2.1 (by omega)
    have e8 := implOk_eq f s.2.2.2.2.2.1 s.2.2.2.2.2.2.1 (by have := SmallS.knots (s := s) hy; omega) (by have := SmallS.knots (s := s) hy; omega)
    have e9 := implAll_eq f s.1 (by omega)
    rw [p.1] at e5
    rw [p.2.1] at e6
    rw [p.2.2.1] at e7
    rw [p.2.2.2.1] at e8
    rw [p.2.2.2.2.1] at e9
    show Ret (Option.bind (impl_RoughOk_fn f ((s.1, ()), ())) _) _
    rw [e5, Option.bind_some]
    show Ret (Option.bind (impl_FewOk_fn f ((s.2.1, ()), ())) _) _
    rw [e6, Option.bind_some]
    show Ret (Option.bind (impl_TopOk_fn f ((s.2.2.1, s.2.2.2.1, s.2.2.2.2.1, ()), ())) _) _
    rw [e7, Option.bind_some]
    show Ret (Option.bind (impl_RankOk_fn f ((s.2.2.2.2.2.1, s.2.2.2.2.2.2.1, ()), ())) _) _
    rw [e8, Option.bind_some]
    show Ret (Option.bind (impl_RoughAll_fn f ((s.1, ()), ())) _) _
    rw [e9, Option.bind_some]
    simp only [beq_self_eq_true, cond_true, ← p.2.2.2.2.2.1]
    exact Ret.ret rfl

theorem tfind_nn {all lost t : Int} (h0 : 0 ≤ lost) (h1 : lost ≤ 2000) : ∀ (l : List Knot) (p s : Int), topGo all l p s = true → 0 ≤ (tfind lost t l).1 ∧ 0 ≤ (tfind lost t l).2
  | [], p, s, h => ⟨Int.le_refl _, h0⟩
  | x :: r, p, s, h => by
    unfold topGo at h
    simp only [Bool.and_eq_true, decide_eq_true_eq] at h
    have ih := tfind_nn (t := t) h0 h1 r _ _ h.2
    unfold tfind
    have e : w64 (x.2.1 + lost) = x.2.1 + lost := by rw [w64_id] <;> omega
    cases (x.1 == t)
    · exact ih
    · simp only [cond_true, e]; omega
theorem topGet_nn {ps : List Knot} {lost all t : Int} (h : topB ps lost all = true) (ht : thingB t = true) : 0 ≤ (topGet ps lost all t).1 ∧ 0 ≤ (topGet ps lost all t).2 := by
  have b := four h
  unfold topGet
  rw [h, ht]
  unfold topB at h
  simp only [Bool.and_eq_true] at h
  exact tfind_nn b.2.1 b.2.2.1 ps _ _ h.2
theorem lesser_le {x n : Int} : lesser x n ≤ n := by unfold lesser; split <;> omega
theorem lawSumGetNear (f : Nat) (hf : 300 < f) (code : List Int) (hb : ∀ x ∈ code, 0 ≤ x ∧ x ≤ 255) : laws_FnSumGetNear_fn f ((code, ()), ()) = some ((true, ()), ()) := by
  refine Ret.eq ?_
  show Ret (laws_FnSumGetNear_pre f code) _
  unfold laws_FnSumGetNear_pre
  refine Ret.cond (fun _ => Ret.ret rfl) fun _ => ?_
  refine Ret.bind (drawGet_ok f code hb hf) fun y hy => ?_
  obtain ⟨s, ⟨t, ⟨⟩⟩, ⟨⟩⟩ := y
  refine Ret.bind (Ret.of (specGetD_eq f s hy hf t)) fun y1 h1 => ?_
  refine Ret.bind (Ret.of (implGetD_eq f s hy hf t)) fun y2 h2 => ?_
  subst h1 h2
  simp only [bne_self_eq_false, cond_false, beq_self_eq_true, cond_true]
  refine Ret.cond (fun _ => Ret.ret rfl) fun hn => ?_
  have hn : ¬ (getD' s t).1 < 0 := of_decide_eq_false hn
  have e3 := implTopGet_eq f s.2.2.1 s.2.2.2.1 s.2.2.2.2.1 t (by omega)
  have e4 := implHas_eq f s.2.1 t (by omega)
  refine Ret.bind (Ret.of e3) fun y3 h3 => ?_
  refine Ret.bind (Ret.of e4) fun y4 h4 => ?_
  subst h3 h4
  have hB : (sumBD s && thingB t) = true := by
    cases h : (sumBD s && thingB t)
    · refine absurd ?_ hn
      have : getD' s t = (-1, -1) := by unfold getD' sumGet; rw [show sumB s.1 s.2.1 s.2.2.1 s.2.2.2.1 s.2.2.2.2.1 s.2.2.2.2.2.1 s.2.2.2.2.2.2.1 = sumBD s from rfl, h]; rfl
      rw [this]; decide
    · rfl
  obtain ⟨g1, g2⟩ : sumBD s = true ∧ thingB t = true := by simpa using hB
  have nn := topGet_nn (sumBD_parts g1).2.2.1 g2
  have e : getD' s t = (cond ((fewHas s.2.1 t).2 && !(fewHas s.2.1 t).1) (0, 0)
      (cond (fewHas s.2.1 t).1 (if (1 : Int) > (topGet s.2.2.1 s.2.2.2.1 s.2.2.2.2.1 t).1 then 1 else (topGet s.2.2.1 s.2.2.2.1 s.2.2.2.2.1 t).1) (topGet s.2.2.1 s.2.2.2.1 s.2.2.2.2.1 t).1, lesser (roughGet s.1 t) (topGet s.2.2.1 s.2.2.2.1 s.2.2.2.2.1 t).2)) := by
    unfold getD' sumGet; rw [show sumB s.1 s.2.1 s.2.2.1 s.2.2.2.1 s.2.2.2.2.1 s.2.2.2.2.2.1 s.2.2.2.2.2.2.1 = sumBD s from rfl, hB]; rfl
  have le : lesser (roughGet s.1 t) (topGet s.2.2.1 s.2.2.2.1 s.2.2.2.2.1 t).2 ≤ (topGet s.2.2.1 s.2.2.2.1 s.2.2.2.2.1 t).2 := lesser_le
  rw [e]
  generalize topGet s.2.2.1 s.2.2.2.1 s.2.2.2.2.1 t = T at nn le
  generalize fewHas s.2.1 t = F
  obtain ⟨c, d⟩ := T
  obtain ⟨has, known⟩ := F
  simp only at nn le
  generalize lesser (roughGet s.1 t) d = m at le
  cases has <;> cases known <;> simp only [Bool.not_true, Bool.not_false, Bool.and_true, Bool.and_false, Bool.true_and, Bool.false_and, cond_true, cond_false, nn, le, decide_true, ge_iff_le, Int.le_refl, beq_self_eq_true]
  · exact Ret.ret rfl
  · exact Ret.ret rfl
  · have : c ≤ if (1 : Int) > c then 1 else c := by split <;> omega
    simp only [this, decide_true, cond_true]
    exact Ret.ret rfl
  · have : c ≤ if (1 : Int) > c then 1 else c := by split <;> omega
    simp only [this, decide_true, cond_true]
    exact Ret.ret rfl
end Go.Proofs.Ytjnkefbdpcbkmaa.Den
