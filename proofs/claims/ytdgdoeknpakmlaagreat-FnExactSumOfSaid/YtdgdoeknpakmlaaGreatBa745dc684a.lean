/- Part 13 of the texts behind the row. -/
import Derived.Test.YtdgdoeknpakmlaaGreatBe7ccd3dc56
set_option linter.unusedVariables false
set_option linter.unusedSimpArgs false
namespace Go.Proofs.YtdgdoeknpakmlaaGreat.Den
open Go
set_option linter.unusedVariables false
set_option linter.unusedSimpArgs false
def fewGo : List Int → Int → Bool
  | [], _ => true
  | x :: r, p => decide (p < x ∧ x ≤ 63) && fewGo r x
def fewB (l : List Int) : Bool := decide (l.length ≤ 6) && fewGo l (-1)
theorem implFew_eq (f : Nat) (l : List Int) (hf : 8 < f) : impl_FewOk_fn f ((l, ()), ()) = some ((fewB l, ()), ()) := by
  show impl_FewOk_pre f (iter (impl_FewOk_st0 f) f) l = _
  unfold impl_FewOk_pre fewB
  by_cases h : l.length ≤ 6
  · have e : ¬ ((l.length : Int) > 6) := by omega
    simp only [zz_eq, e, decide_false, cond_false, h, decide_true, Bool.true_and]
    refine (iter_list (st := impl_FewOk_st0 f) (enc := fun i (p : Int) => ((i : Int), (l.length : Int), l, p)) (fun x k p => cond (decide (p < x ∧ x ≤ 63)) (k x) (some ((false, ()), ()))) (fun s => some ((true, ()), ())) l 0 ?_ ?_ f (-1) (by omega)).trans ?_
    · intro i p g hi
      show impl_FewOk_step0 f g _ = _
      unfold impl_FewOk_step0
      simp only [zz_eq, lt_cast hi, le_cast, decide_true, cond_true, Int.toNat_natCast, w64_up (show i < 4294967296 by omega)]
      obtain ⟨x, hx⟩ : ∃ x : Int, l.getD i 0 = x := ⟨_, rfl⟩
      simp only [hx]
      by_cases c1 : x ≤ p
      · have : ¬ (p < x ∧ x ≤ 63) := by omega
        simp only [c1, this, and_self, and_true, true_and, and_false, false_and, decide_true, decide_false, cond_true, cond_false]
      · by_cases c2 : x ≥ 64
        · have : ¬ (p < x ∧ x ≤ 63) := by omega
          simp only [c1, c2, this, and_self, and_true, true_and, and_false, false_and, decide_true, decide_false, cond_true, cond_false]
        · have : p < x ∧ x ≤ 63 := by omega
          simp only [c1, c2, this, and_self, and_true, true_and, and_false, false_and, decide_true, decide_false, cond_true, cond_false]
    · intro s g
      show impl_FewOk_step0 f g _ = _
      unfold impl_FewOk_step0
      simp only [nlt_cast, decide_false, cond_false]
    · have : ∀ (l : List Int) (p : Int), goL (R := ((Bool × Unit) × Unit)) (fun x k p => cond (decide (p < x ∧ x ≤ 63)) (k x) (some ((false, ()), ()))) (fun s => some ((true, ()), ())) l p = some ((fewGo l p, ()), ()) := by
        intro l
        induction l with
        | nil => intro p; rfl
        | cons x l ih =>
          intro p
          show cond _ (goL _ _ l x) _ = _
          rw [ih]
          show _ = some ((decide (p < x ∧ x ≤ 63) && fewGo l x, ()), ())
          cases decide (p < x ∧ x ≤ 63) <;> rfl
      exact this l (-1)
  · have e : ((l.length : Int) > 6) := by omega
    simp only [zz_eq, e, decide_true, cond_true, h, decide_false, Bool.false_and]
theorem specFew_eq (f : Nat) (l : List Int) (hl : l.length < 4294967296) (hf : l.length < f) : spec_FewOk_fn f ((l, ()), ()) = some ((fewB l, ()), ()) := by
  show iter (spec_FewOk_st0 f) f ((0 : Int), l) = _
  refine (iter_prev (st := spec_FewOk_st0 f) (enc := fun i (s : Unit) => ((i : Int), l)) (fun x p k s => cond (decide (p < x ∧ 0 ≤ x ∧ x ≤ 63)) (k s) (some ((false, ()), ()))) (fun s => some ((decide (l.length ≤ 6), ()), ())) l 0 (-1) id ?_ ?_ f () hf).trans ?_
  · intro i s g hi
    show spec_FewOk_step0 f g _ = _
    unfold spec_FewOk_step0
    simp only [zz_eq, lt_cast hi, le_cast, decide_true, cond_true, Int.toNat_natCast, w64_up (show i < 4294967296 by omega), in_eq, Option.bind_some, id]
    obtain ⟨x, hx⟩ : ∃ x : Int, l.getD i 0 = x := ⟨_, rfl⟩
    simp only [hx]
    by_cases c1 : 0 ≤ x ∧ x ≤ 63
    · by_cases z : i = 0
      · have : -1 < x ∧ 0 ≤ x ∧ x ≤ 63 := by omega
        simp only [gt_cast0 z, c1, this, z, and_self, if_true, decide_true, decide_false, cond_true, cond_false, Bool.not_true]
        subst z; rfl
      · have g1 : i - 1 < l.length := by omega
        simp only [gt_cast1 z, w64_dn z (show i < 4294967296 by omega), lt_cast g1, le_cast, c1, z, and_self, if_false, decide_true, decide_false, cond_true, cond_false, Bool.not_true, Int.toNat_natCast]
        obtain ⟨y, hy⟩ : ∃ y : Int, l.getD (i - 1) 0 = y := ⟨_, rfl⟩
        simp only [hy]
        by_cases c2 : y ≥ x
        · have : ¬ (y < x ∧ True) := fun h => by have := h.1; omega
          simp only [c2, this, and_self, and_true, true_and, and_false, false_and, decide_true, decide_false, cond_true, cond_false]
        · have : (y < x ∧ True) := ⟨by omega, trivial⟩
          simp only [c2, this, and_self, and_true, true_and, and_false, false_and, decide_true, decide_false, cond_true, cond_false]
    · have : ∀ p : Int, ¬ (p < x ∧ 0 ≤ x ∧ x ≤ 63) := fun p h => c1 h.2
      simp only [c1, this, and_self, and_true, true_and, and_false, false_and, decide_true, decide_false, cond_true, cond_false, Bool.not_false]
  · intro s g
    show spec_FewOk_step0 f g _ = _
    unfold spec_FewOk_step0
    have : ((l.length : Int) ≤ 6) = (l.length ≤ 6) := by apply propext; omega
    simp only [zz_eq, nlt_cast, decide_false, cond_false, this]
  · have : ∀ (q : Bool) (l : List Int) (p : Int), -1 ≤ p → goL (R := ((Bool × Unit) × Unit)) (fun x k (ps : Int × Unit) => cond (decide (ps.1 < x ∧ 0 ≤ x ∧ x ≤ 63)) (k (id x, ps.2)) (some ((false, ()), ()))) (fun s => some ((q, ()), ())) l (p, ()) = some ((q && fewGo l p, ()), ()) := by
      intro q l
      induction l with
      | nil => intro p _; cases q <;> rfl
      | cons x l ih =>
        intro p hp
        show cond _ (goL _ _ l (x, ())) _ = _
        unfold fewGo
        by_cases c : p < x ∧ x ≤ 63
        · have : p < x ∧ 0 ≤ x ∧ x ≤ 63 := by omega
          rw [ih x (by omega)]
          simp only [c, this, and_self, decide_true, cond_true, Bool.true_and]
        · have : ¬ (p < x ∧ 0 ≤ x ∧ x ≤ 63) := by omega
          simp only [c, this, decide_false, cond_false, Bool.false_and, Bool.and_false]
    unfold fewB
    exact this _ l (-1) (by omega)
def topGo (all : Int) : List Knot → Int → Int → Bool
  | [], _, s => decide (s ≤ all)
  | x :: r, p, s => decide (p < x.1 ∧ x.1 ≤ 63 ∧ 1 ≤ x.2.1 ∧ x.2.1 ≤ 2000) && topGo all r x.1 (w64 (s + x.2.1))
def topB (l : List Knot) (lost all : Int) : Bool := decide (l.length ≤ 4 ∧ 0 ≤ lost ∧ lost ≤ 2000 ∧ 0 ≤ all ∧ all ≤ 2000) && topGo all l (-1) (lost * 5)
theorem implTop_eq (f : Nat) (l : List Knot) (lost all : Int) (hf : 8 < f) : impl_TopOk_fn f ((l, lost, all, ()), ()) = some ((topB l lost all, ()), ()) := by
  show impl_TopOk_pre f (iter (impl_TopOk_st0 f) f) l lost all = _
  unfold impl_TopOk_pre topB
  simp only [zz_eq]
  by_cases h : l.length ≤ 4 ∧ 0 ≤ lost ∧ lost ≤ 2000 ∧ 0 ≤ all ∧ all ≤ 2000
  · have e1 : ¬ ((l.length : Int) > 4) := by omega
    have e2 : ¬ (lost < 0) := by omega
    have e3 : ¬ (lost > 2000) := by omega
    have e4 : ¬ (all < 0) := by omega
    have e5 : ¬ (all > 2000) := by omega
    have e6 : w64 (lost * 5) = lost * 5 := by rw [w64_id] <;> omega
    simp only [e1, e2, e3, e4, e5, e6, decide_false, cond_false, h, and_self, decide_true, Bool.true_and]
    refine (iter_list (st := impl_TopOk_st0 f) (enc := fun i (p : Int × Int) => ((i : Int), (l.length : Int), l, p.1, p.2, l, lost, all)) (fun x k p => cond (decide (p.1 < x.1 ∧ x.1 ≤ 63 ∧ 1 ≤ x.2.1 ∧ x.2.1 ≤ 2000)) (k (x.1, w64 (p.2 + x.2.1))) (some ((false, ()), ()))) (fun p => some ((decide (p.2 ≤ all), ()), ())) l (0, 0, ()) ?_ ?_ f (-1, lost * 5) (by omega)).trans ?_
    · intro i p g hi
      show impl_TopOk_step0 f g _ = _
      unfold impl_TopOk_step0
      simp only [zz_eq, lt_cast hi, le_cast, decide_true, cond_true, Int.toNat_natCast, w64_up (show i < 4294967296 by omega)]
      obtain ⟨x, hx⟩ : ∃ x : Knot, l.getD i (0, 0, ()) = x := ⟨_, rfl⟩
      simp only [hx]
      by_cases c1 : x.1 ≤ p.1
      · have : ¬ (p.1 < x.1 ∧ x.1 ≤ 63 ∧ 1 ≤ x.2.1 ∧ x.2.1 ≤ 2000) := by omega
        simp only [c1, this, and_self, and_true, true_and, and_false, false_and, decide_true, decide_false, cond_true, cond_false]
      by_cases c2 : x.1 ≥ 64
      · have : ¬ (p.1 < x.1 ∧ x.1 ≤ 63 ∧ 1 ≤ x.2.1 ∧ x.2.1 ≤ 2000) := by omega
        simp only [c1, c2, this, and_self, and_true, true_and, and_false, false_and, decide_true, decide_false, cond_true, cond_false]
      by_cases c3 : x.2.1 < 1
      · have : ¬ (p.1 < x.1 ∧ x.1 ≤ 63 ∧ 1 ≤ x.2.1 ∧ x.2.1 ≤ 2000) := by omega
        simp only [c1, c2, c3, this, and_self, and_true, true_and, and_false, false_and, decide_true, decide_false, cond_true, cond_false]
      by_cases c4 : x.2.1 > 2000
      · have : ¬ (p.1 < x.1 ∧ x.1 ≤ 63 ∧ 1 ≤ x.2.1 ∧ x.2.1 ≤ 2000) := by omega
        simp only [c1, c2, c3, c4, this, and_self, and_true, true_and, and_false, false_and, decide_true, decide_false, cond_true, cond_false]
      have : (p.1 < x.1 ∧ x.1 ≤ 63 ∧ 1 ≤ x.2.1 ∧ x.2.1 ≤ 2000) := by omega
      simp only [c1, c2, c3, c4, this, and_self, and_true, true_and, and_false, false_and, decide_true, decide_false, cond_true, cond_false]
    · intro s g
      show impl_TopOk_step0 f g _ = _
      unfold impl_TopOk_step0
      simp only [nlt_cast, decide_false, cond_false]
    · have : ∀ (l : List Knot) (p : Int × Int), goL (R := ((Bool × Unit) × Unit)) (fun (x : Knot) k p => cond (decide (p.1 < x.1 ∧ x.1 ≤ 63 ∧ 1 ≤ x.2.1 ∧ x.2.1 ≤ 2000)) (k (x.1, w64 (p.2 + x.2.1))) (some ((false, ()), ()))) (fun p => some ((decide (p.2 ≤ all), ()), ())) l p = some ((topGo all l p.1 p.2, ()), ()) := by
        intro l
        induction l with
        | nil => intro p; rfl
        | cons x l ih =>
          intro p
          show cond _ (goL _ _ l _) _ = _
          rw [ih]
          show _ = some ((decide (p.1 < x.1 ∧ x.1 ≤ 63 ∧ 1 ≤ x.2.1 ∧ x.2.1 ≤ 2000) && topGo all l x.1 (w64 (p.2 + x.2.1)), ()), ())
          cases decide (p.1 < x.1 ∧ x.1 ≤ 63 ∧ 1 ≤ x.2.1 ∧ x.2.1 ≤ 2000) <;> rfl
      exact this l _
  · simp only [h, decide_false, Bool.false_and]
    by_cases c1 : (l.length : Int) > 4
    · simp only [c1, decide_true, cond_true]
    by_cases c2 : lost < 0
    · simp only [c1, c2, decide_true, cond_true, decide_false, cond_false]
    by_cases c3 : lost > 2000
    · simp only [c1, c2, c3, decide_true, cond_true, decide_false, cond_false]
    by_cases c4 : all < 0
    · simp only [c1, c2, c3, c4, decide_true, cond_true, decide_false, cond_false]
    by_cases c5 : all > 2000
    · simp only [c1, c2, c3, c4, c5, decide_true, cond_true, decide_false, cond_false]
    exact absurd ⟨by omega, by omega, by omega, by omega, by omega⟩ h
def tsum (l : List Knot) : Int := l.foldl (fun s x => w64 (s + x.2.1)) 0
theorem tsum_eq (f : Nat) (l : List Knot) (hl : l.length < 4294967296) (hf : l.length < f) : spec_l3All_fn f ((l, ()), ()) = some ((tsum l, ()), ()) := by
  show iter (spec_l3All_st0 f) f ((0 : Int), l, (0 : Int)) = _
  refine (iter_list (st := spec_l3All_st0 f) (enc := fun i s => ((i : Int), l, s)) (fun (x : Knot) k s => k (w64 (s + x.2.1))) (fun s => some ((s, ()), ())) l (0, 0, ()) ?_ ?_ f 0 hf).trans (fold_go (fun s x => w64 (s + x.2.1)) (fun _ _ _ => rfl) l 0)
  · intro i s g hi
    show spec_l3All_step0 f g _ = _
    unfold spec_l3All_step0
    simp only [zz_eq, lt_cast hi, le_cast, decide_true, cond_true, Int.toNat_natCast, w64_up (Nat.lt_trans hi hl)]
  · intro s g
    show spec_l3All_step0 f g _ = _
    unfold spec_l3All_step0
    simp only [zz_eq, nlt_cast, decide_false, cond_false]
def topAsc : List Knot → Int → Bool
  | [], _ => true
  | x :: r, p => decide (p < x.1 ∧ x.1 ≤ 63 ∧ 1 ≤ x.2.1 ∧ x.2.1 ≤ 2000) && topAsc r x.1
def psum : List Knot → Int
  | [] => 0
  | x :: r => x.2.1 + psum r
theorem topGo_eq (all : Int) : ∀ (l : List Knot) (p s : Int), 0 ≤ s → s + 2000 * l.length ≤ 1000000000000 → topGo all l p s = (topAsc l p && decide (s + psum l ≤ all))
  | [], p, s, _, _ => by simp [topGo, topAsc, psum]
  | x :: l, p, s, h0, h1 => by
    unfold topGo topAsc psum
    simp only [List.length_cons] at h1
    by_cases c : p < x.1 ∧ x.1 ≤ 63 ∧ 1 ≤ x.2.1 ∧ x.2.1 ≤ 2000
    · have e : w64 (s + x.2.1) = s + x.2.1 := by rw [w64_id] <;> omega
      rw [e, topGo_eq all l x.1 _ (by omega) (by omega)]
      simp only [c, and_self, decide_true, Bool.true_and, Int.add_assoc]
    · simp only [c, decide_false, Bool.false_and]
theorem tsum_go : ∀ (l : List Knot) (p s : Int), 0 ≤ s → s + 2000 * l.length ≤ 1000000000000 → topAsc l p = true → l.foldl (fun s x => w64 (s + x.2.1)) s = s + psum l ∧ 0 ≤ psum l ∧ psum l ≤ 2000 * l.length
  | [], p, s, _, _, _ => by simp [psum]
  | x :: l, p, s, h0, h1, h2 => by
    unfold topAsc at h2
    simp only [Bool.and_eq_true, decide_eq_true_eq] at h2
    simp only [List.length_cons] at h1 ⊢
    have e : w64 (s + x.2.1) = s + x.2.1 := by rw [w64_id] <;> omega
    obtain ⟨a, b, c⟩ := tsum_go l x.1 (s + x.2.1) (by omega) (by omega) h2.2
    unfold psum
    simp only [List.foldl_cons, e, a]
    omega
theorem specTop_eq (f : Nat) (l : List Knot) (lost all : Int) (hl : l.length < 4294967296) (hf : l.length < f) : spec_TopOk_fn f ((l, lost, all, ()), ()) = some ((topB l lost all, ()), ()) := by
  show iter (spec_TopOk_st0 f) f ((0 : Int), l, lost, all) = _
  refine (iter_prev (st := spec_TopOk_st0 f) (enc := fun i (s : Unit) => ((i : Int), l, lost, all)) (fun x p k s => cond (decide (p < x.1 ∧ 0 ≤ x.1 ∧ x.1 ≤ 63 ∧ 1 ≤ x.2.1 ∧ x.2.1 ≤ 2000)) (k s) (some ((false, ()), ()))) (fun s => some ((decide (l.length ≤ 4 ∧ 0 ≤ lost ∧ lost ≤ 2000 ∧ 0 ≤ all ∧ all ≤ 2000) && decide (w64 (tsum l + w64 (5 * lost)) ≤ all), ()), ())) l (0, 0, ()) (-1) (fun x => x.1) ?_ ?_ f () hf).trans ?_
  · intro i s g hi
    show spec_TopOk_step0 f g _ = _
    unfold spec_TopOk_step0
    simp only [zz_eq, lt_cast hi, le_cast, decide_true, cond_true, Int.toNat_natCast, w64_up (show i < 4294967296 by omega), in_eq, Option.bind_some]
    obtain ⟨x, hx⟩ : ∃ x : Knot, l.getD i (0, 0, ()) = x := ⟨_, rfl⟩
    simp only [hx]
    by_cases c1 : 0 ≤ x.1 ∧ x.1 ≤ 63
    · by_cases c3 : 1 ≤ x.2.1 ∧ x.2.1 ≤ 2000
      · by_cases z : i = 0
        · have : -1 < x.1 ∧ 0 ≤ x.1 ∧ x.1 ≤ 63 ∧ 1 ≤ x.2.1 ∧ x.2.1 ≤ 2000 := by omega
          simp only [gt_cast0 z, c1, c3, this, z, and_self, if_true, decide_true, decide_false, cond_true, cond_false, Bool.not_true]
          subst z; rfl
        · have g1 : i - 1 < l.length := by omega
          simp only [gt_cast1 z, w64_dn z (show i < 4294967296 by omega), lt_cast g1, le_cast, c1, c3, z, and_self, if_false, decide_true, decide_false, cond_true, cond_false, Bool.not_true, Int.toNat_natCast]
          obtain ⟨y, hy⟩ : ∃ y : Knot, l.getD (i - 1) (0, 0, ()) = y := ⟨_, rfl⟩
          simp only [hy]
          by_cases c2 : y.1 ≥ x.1
          · have : ¬ (y.1 < x.1 ∧ True) := fun h => by have := h.1; omega
            simp only [c2, this, and_self, and_true, true_and, and_false, false_and, decide_true, decide_false, cond_true, cond_false]
          · have : (y.1 < x.1 ∧ True) := ⟨by omega, trivial⟩
            simp only [c2, this, and_self, and_true, true_and, and_false, false_and, decide_true, decide_false, cond_true, cond_false]
      · have : ∀ p : Int, ¬ (p < x.1 ∧ 0 ≤ x.1 ∧ x.1 ≤ 63 ∧ 1 ≤ x.2.1 ∧ x.2.1 ≤ 2000) := fun p h => c3 h.2.2.2
        simp only [c1, c3, this, and_self, and_true, true_and, and_false, false_and, decide_true, decide_false, cond_true, cond_false, Bool.not_false, Bool.not_true]
    · have : ∀ p : Int, ¬ (p < x.1 ∧ 0 ≤ x.1 ∧ x.1 ≤ 63 ∧ 1 ≤ x.2.1 ∧ x.2.1 ≤ 2000) := fun p h => c1 ⟨h.2.1, h.2.2.1⟩
      simp only [c1, this, and_self, and_true, true_and, and_false, false_and, decide_true, decide_false, cond_true, cond_false, Bool.not_false]
  · intro s g
    show spec_TopOk_step0 f g _ = _
    unfold spec_TopOk_step0
    simp only [zz_eq, nlt_cast, decide_false, cond_false, in_eq, Option.bind_some, tsum_eq f l hl hf]
    by_cases h1 : l.length ≤ 4
    · have e1 : ((l.length : Int) ≤ 4) := by omega
      by_cases h2 : 0 ≤ all ∧ all ≤ 2000
      · by_cases h3 : 0 ≤ lost ∧ lost ≤ 2000
        · simp only [h1, e1, h2, h3, and_self, decide_true, cond_true, Bool.true_and]
        · have : ¬ (l.length ≤ 4 ∧ 0 ≤ lost ∧ lost ≤ 2000 ∧ 0 ≤ all ∧ all ≤ 2000) := by omega
          rw [decide_eq_false this]
          simp only [e1, h2, h3, and_self, decide_true, cond_true, decide_false, cond_false, Bool.false_and]
      · have : ¬ (l.length ≤ 4 ∧ 0 ≤ lost ∧ lost ≤ 2000 ∧ 0 ≤ all ∧ all ≤ 2000) := by omega
        rw [decide_eq_false this]
        simp only [e1, h2, and_self, decide_true, cond_true, decide_false, cond_false, Bool.false_and]
    · have e1 : ¬ ((l.length : Int) ≤ 4) := by omega
      have : ¬ (l.length ≤ 4 ∧ 0 ≤ lost ∧ lost ≤ 2000 ∧ 0 ≤ all ∧ all ≤ 2000) := by omega
      simp only [e1, this, and_self, decide_true, cond_true, decide_false, cond_false, Bool.false_and]
  · have : ∀ (q : Bool) (l : List Knot) (p : Int), -1 ≤ p → goL (R := ((Bool × Unit) × Unit)) (fun (x : Knot) k (ps : Int × Unit) => cond (decide (ps.1 < x.1 ∧ 0 ≤ x.1 ∧ x.1 ≤ 63 ∧ 1 ≤ x.2.1 ∧ x.2.1 ≤ 2000)) (k (x.1, ps.2)) (some ((false, ()), ()))) (fun s => some ((q, ()), ())) l (p, ()) = some ((topAsc l p && q, ()), ()) := by
      intro q l
      induction l with
      | nil => intro p _; rfl
      | cons x l ih =>
        intro p hp
        show cond _ (goL _ _ l (x.1, ())) _ = _
        unfold topAsc
        by_cases c : p < x.1 ∧ x.1 ≤ 63 ∧ 1 ≤ x.2.1 ∧ x.2.1 ≤ 2000
        · have : p < x.1 ∧ 0 ≤ x.1 ∧ x.1 ≤ 63 ∧ 1 ≤ x.2.1 ∧ x.2.1 ≤ 2000 := by omega
          rw [ih x.1 (by omega)]
          simp only [c, this, and_self, decide_true, cond_true, Bool.true_and]
        · have : ¬ (p < x.1 ∧ 0 ≤ x.1 ∧ x.1 ≤ 63 ∧ 1 ≤ x.2.1 ∧ x.2.1 ≤ 2000) := by omega
          simp only [c, this, decide_false, cond_false, Bool.false_and, Bool.and_false]
    refine (this _ l (-1) (by omega)).trans ?_
    unfold topB
    by_cases h : l.length ≤ 4 ∧ 0 ≤ lost ∧ lost ≤ 2000 ∧ 0 ≤ all ∧ all ≤ 2000
    · rw [topGo_eq all l (-1) (lost * 5) (by omega) (by omega)]
      simp only [h, and_self, decide_true, Bool.true_and]
      cases ht : topAsc l (-1)
      · rfl
      · obtain ⟨a, b, c⟩ := tsum_go l (-1) 0 (by omega) (by omega) ht
        have e : w64 (tsum l + w64 (5 * lost)) = lost * 5 + psum l := by
          have e1 : tsum l = psum l := by unfold tsum; rw [a]; omega
          rw [e1, w64_id (x := 5 * lost) (by omega) (by omega), w64_id (by omega) (by omega)]; omega
        rw [e]
    · simp only [h, decide_false, Bool.false_and, Bool.and_false]
def allR (rs : List (List Int)) : Int := cond (roughB rs) (isum (rs.getD 0 [])) (-1)
theorem implAll_eq (f : Nat) (rs : List (List Int)) (hf : 8 < f) : impl_RoughAll_fn f ((rs, ()), ()) = some ((allR rs, ()), ()) := by
  show impl_RoughAll_pre f rs = _
  unfold impl_RoughAll_pre allR
  rw [implRough_eq f rs hf, Option.bind_some]
  cases h : roughB rs
  · rfl
  · have h' := h
    unfold roughB at h'
    simp only [Bool.and_eq_true, decide_eq_true_eq] at h'
    obtain ⟨h3, h4⟩ := h'
    obtain ⟨a, b, c, rfl⟩ := three h3
    simp only [List.all_cons, Bool.and_eq_true, rowB] at h4
    have : (decide (a.length = 8) && a.all rng) = true := by simp [h4.1.1]
    simp only [zz_eq, Bool.not_true, cond_false, List.length_cons, List.length_nil, rowAll_eq f _ hf, Int.toNat_zero, List.getD_cons_zero, this, cond_true, Option.bind_some]
    rfl
theorem specAll_eq (f : Nat) (rs : List (List Int)) (hf : 8 < f) (hr : ∀ r ∈ rs, r.length < f ∧ r.length < 4294967296) : spec_RoughAll_fn f ((rs, ()), ()) = some ((allR rs, ()), ()) := by
  show spec_RoughAll_pre f rs = _
  unfold spec_RoughAll_pre allR
  rw [specRough_eq f rs hf hr, Option.bind_some]
  cases h : roughB rs
  · rfl
  · have h' := h
    unfold roughB at h'
    simp only [Bool.and_eq_true, decide_eq_true_eq] at h'
    obtain ⟨h3, h4⟩ := h'
    obtain ⟨a, b, c, rfl⟩ := three h3
    have := hr a (by simp)
    simp only [zz_eq, Bool.not_true, cond_false, List.length_cons, List.length_nil, Int.toNat_zero, List.getD_cons_zero, isum_eq f a this.2 this.1, cond_true, Option.bind_some]
    rfl
def sumB (rs : List (List Int)) (ms : List Int) (ps : List Knot) (lost tall : Int) (ks : List Knot) (rall : Int) : Bool :=
  roughB rs && (fewB ms && (topB ps lost tall && (okB ks rall && ((allR rs == tall) && ((tall == rall) && (decide ((ms.length : Int) > 0) == decide (tall > 0)))))))
theorem specSum_eq (f : Nat) (rs : List (List Int)) (ms : List Int) (ps : List Knot) (lost tall : Int) (ks : List Knot) (rall : Int) (hf : 8 < f)
    (hr : ∀ r ∈ rs, r.length < f ∧ r.length < 4294967296) (hm : ms.length < 4294967296 ∧ ms.length < f) (hp : ps.length < 4294967296 ∧ ps.length < f) (hk : ks.length < 4294967296 ∧ ks.length < f) :
    spec_SumOk_fn f ((rs, ms, ps, lost, tall, ks, rall, ()), ()) = some ((sumB rs ms ps lost tall ks rall, ()), ()) := by
  show spec_SumOk_pre f rs ms ps lost tall ks rall = _
  unfold spec_SumOk_pre sumB
  simp only [specRough_eq f rs hf hr, specFew_eq f ms hm.1 hm.2, specTop_eq f ps lost tall hp.1 hp.2, specOk_eq f ks rall hk.1 hk.2, specAll_eq f rs hf hr, Option.bind_some, zz_eq]
  cases roughB rs <;> cases fewB ms <;> cases topB ps lost tall <;> cases okB ks rall <;> cases allR rs == tall <;> cases tall == rall <;> rfl
end Go.Proofs.YtdgdoeknpakmlaaGreat.Den
namespace Go.Proofs.YtdgdoeknpakmlaaGreat.Den
open Go
set_option linter.unusedVariables false
set_option linter.unusedSimpArgs false
def Short (rs : List (List Int)) (ms : List Int) (ps ks : List Knot) (n : Nat) : Prop := rs.length ≤ n ∧ (∀ r ∈ rs, r.length ≤ n) ∧ ms.length ≤ n ∧ ps.length ≤ n ∧ ks.length ≤ n
theorem lim_of {n : Nat} (h : n ≤ 1048576) : n < LIM := by simp only [LIM]; omega
end Go.Proofs.YtdgdoeknpakmlaaGreat.Den
namespace Go.Proofs.YtdgdoeknpakmlaaGreat.Den
open Go
set_option linter.unusedVariables false
set_option linter.unusedSimpArgs false
def thingB (t : Int) : Bool := decide (0 ≤ t ∧ t ≤ 63)
theorem thing_eq (f : Nat) (n : Int) : impl_isThing_fn f ((n, ()), ()) = some ((thingB n, ()), ()) := isThing_eq f n
theorem thing_in (f : Nat) (n : Int) : spec_l6In_fn f ((n, ()), ((0 : Int), ()), ((63 : Int), ()), ()) = some ((thingB n, ()), ()) := in_eq f n 0 63
def mark (t : Int) : Int := cond (thingB t) (Int.tmod (w64 (w64 (t * 37) + 11)) 64) (-1)
theorem specMark_eq (f : Nat) (t : Int) : spec_FewMark_fn f ((t, ()), ()) = some ((mark t, ()), ()) := by
  show spec_FewMark_pre f t = _
  unfold spec_FewMark_pre mark
  rw [thing_in, Option.bind_some]
  cases thingB t <;> rfl
theorem implMark_eq (f : Nat) (t : Int) : impl_FewMark_fn f ((t, ()), ()) = some ((mark t, ()), ()) := by
  show impl_FewMark_pre f t = _
  unfold impl_FewMark_pre mark
  rw [thing_eq, Option.bind_some, Int.mul_comm]
  cases thingB t <;> rfl
theorem six {ms : List Int} (h : fewB ms = true) : ms.length ≤ 6 := by
  unfold fewB at h
  simp only [Bool.and_eq_true, decide_eq_true_eq] at h
  exact h.1
def pl (i : Nat) (t : Int) : Nat := match i with
  | 0 => ((3 * t + t / 8) % 8).toNat
  | 1 => ((5 * t + t / 16 + 1) % 8).toNat
  | _ => ((t + t / 4 + 2) % 8).toNat
theorem pl_lt (i : Nat) (t : Int) : pl i t < 8 := by
  unfold pl; split <;> omega
theorem tmod8 {x : Int} (h : 0 ≤ x) : Int.tmod x 8 = x % 8 := Int.tmod_eq_emod_of_nonneg h
theorem tdivP {x y : Int} (h : 0 ≤ x) : Int.tdiv x y = x / y := Int.tdiv_eq_ediv_of_nonneg h
theorem thing_le {t : Int} (h : thingB t = true) : 0 ≤ t ∧ t ≤ 63 := by unfold thingB at h; simpa using h
theorem specPlace_eq (f : Nat) (i : Nat) (t : Int) (hi : i < 3) (ht : thingB t = true) : spec_l1Place_fn f ((((i : Nat) : Int), ()), (t, ()), ()) = some (((pl i t : Int), ()), ()) := by
  have h := thing_le ht
  show spec_l1Place_pre f (i : Int) t = _
  unfold spec_l1Place_pre pl
  match i, hi with
  | 0, _ =>
    simp only [List.length_cons, List.length_nil, Int.natCast_zero, Int.toNat_zero, List.getD_cons_zero]
    have e1 : w64 (t * 3) = t * 3 := by rw [w64_id] <;> omega
    have e2 : w64 (Int.tdiv t 8) = t / 8 := by rw [tdivP h.1, w64_id] <;> omega
    have e3 : w64 (t * 3 + t / 8) = t * 3 + t / 8 := by rw [w64_id] <;> omega
    have e4 : w64 (t * 3 + t / 8 + 0) = t * 3 + t / 8 := by rw [w64_id] <;> omega
    rw [e1, e2, e3, e4, tmod8 (by omega)]
    have e5 : (t * 3 + t / 8) % 8 = (((3 * t + t / 8) % 8).toNat : Int) := by omega
    rw [e5]; rfl
  | 1, _ =>
    simp only [List.length_cons, List.length_nil]
    have e1 : w64 (t * 5) = t * 5 := by rw [w64_id] <;> omega
    have e2 : w64 (Int.tdiv t 16) = t / 16 := by rw [tdivP h.1, w64_id] <;> omega
    have e3 : w64 (t * 5 + t / 16) = t * 5 + t / 16 := by rw [w64_id] <;> omega
    have e4 : w64 (t * 5 + t / 16 + 1) = t * 5 + t / 16 + 1 := by rw [w64_id] <;> omega
    have g1 : List.getD [(3 : Int), (5 : Int), (1 : Int)] (Int.toNat ((1 : Nat) : Int)) 0 = 5 := rfl
    have g2 : List.getD [(8 : Int), (16 : Int), (4 : Int)] (Int.toNat ((1 : Nat) : Int)) 0 = 16 := rfl
    rw [g1, g2, e1, e2, e3, show ((1 : Nat) : Int) = 1 from rfl, e4, tmod8 (by omega)]
    have e5 : (t * 5 + t / 16 + 1) % 8 = (((5 * t + t / 16 + 1) % 8).toNat : Int) := by omega
    rw [e5]; rfl
  | 2, _ =>
    simp only [List.length_cons, List.length_nil]
    have e1 : w64 (t * 1) = t := by rw [w64_id] <;> omega
    have e2 : w64 (Int.tdiv t 4) = t / 4 := by rw [tdivP h.1, w64_id] <;> omega
    have e3 : w64 (t + t / 4) = t + t / 4 := by rw [w64_id] <;> omega
    have e4 : w64 (t + t / 4 + 2) = t + t / 4 + 2 := by rw [w64_id] <;> omega
    have g1 : List.getD [(3 : Int), (5 : Int), (1 : Int)] (Int.toNat ((2 : Nat) : Int)) 0 = 1 := rfl
    have g2 : List.getD [(8 : Int), (16 : Int), (4 : Int)] (Int.toNat ((2 : Nat) : Int)) 0 = 4 := rfl
    rw [g1, g2, e1, e2, e3, show ((2 : Nat) : Int) = 2 from rfl, e4, tmod8 (by omega)]
    have e5 : (t + t / 4 + 2) % 8 = (((t + t / 4 + 2) % 8).toNat : Int) := by omega
    rw [e5]; rfl
theorem implPlace_eq (f : Nat) (i : Nat) (t : Int) (hi : i < 3) (ht : thingB t = true) : impl_RoughPlace_fn f ((((i : Nat) : Int), ()), (t, ()), ()) = some (((pl i t : Int), ()), ()) := by
  have h := thing_le ht
  show impl_RoughPlace_pre f (i : Int) t = _
  unfold impl_RoughPlace_pre pl
  rw [thing_eq, Option.bind_some, ht]
  match i, hi with
  | 0, _ =>
    have e1 : w64 (3 * t) = 3 * t := by rw [w64_id] <;> omega
    have e2 : w64 (Int.tdiv t 8) = t / 8 := by rw [tdivP h.1, w64_id] <;> omega
    have e3 : w64 (3 * t + t / 8) = 3 * t + t / 8 := by rw [w64_id] <;> omega
    rw [e1, e2, e3, tmod8 (by omega)]
    have e5 : (3 * t + t / 8) % 8 = (((3 * t + t / 8) % 8).toNat : Int) := by omega
    rw [e5]; rfl
  | 1, _ =>
    have e1 : w64 (5 * t) = 5 * t := by rw [w64_id] <;> omega
    have e2 : w64 (Int.tdiv t 16) = t / 16 := by rw [tdivP h.1, w64_id] <;> omega
    have e3 : w64 (5 * t + t / 16) = 5 * t + t / 16 := by rw [w64_id] <;> omega
    have e4 : w64 (5 * t + t / 16 + 1) = 5 * t + t / 16 + 1 := by rw [w64_id] <;> omega
    rw [e1, e2, e3, e4, tmod8 (x := 5 * t + t / 16 + 1) (by omega)]
    have e5 : (5 * t + t / 16 + 1) % 8 = (((5 * t + t / 16 + 1) % 8).toNat : Int) := by omega
    rw [e5]; rfl
  | 2, _ =>
    have e2 : w64 (Int.tdiv t 4) = t / 4 := by rw [tdivP h.1, w64_id] <;> omega
    have e3 : w64 (t + t / 4) = t + t / 4 := by rw [w64_id] <;> omega
    have e4 : w64 (t + t / 4 + 2) = t + t / 4 + 2 := by rw [w64_id] <;> omega
    rw [e2, e3, e4, tmod8 (x := t + t / 4 + 2) (by omega)]
    have e5 : (t + t / 4 + 2) % 8 = (((t + t / 4 + 2) % 8).toNat : Int) := by omega
    rw [e5]; rfl
theorem rough_rows {rs : List (List Int)} (h : roughB rs = true) : ∃ a b c, rs = [a, b, c] ∧ rowB a = true ∧ rowB b = true ∧ rowB c = true ∧ isum b = isum a ∧ isum c = isum a := by
  unfold roughB at h
  simp only [Bool.and_eq_true, decide_eq_true_eq] at h
  obtain ⟨h3, h4⟩ := h
  obtain ⟨a, b, c, rfl⟩ := three h3
  simp only [List.all_cons, List.all_nil, Bool.and_eq_true, List.getD_cons_zero, beq_iff_eq] at h4
  exact ⟨a, b, c, rfl, h4.1.1, h4.2.1.1, h4.2.2.1.1, h4.2.1.2, h4.2.2.1.2⟩
theorem row_len {a : List Int} (h : rowB a = true) : a.length = 8 := by
  unfold rowB at h
  simp only [Bool.and_eq_true, decide_eq_true_eq] at h
  exact h.1
end Go.Proofs.YtdgdoeknpakmlaaGreat.Den
namespace Go.Proofs.YtdgdoeknpakmlaaGreat.Den
open Go
set_option linter.unusedVariables false
set_option linter.unusedSimpArgs false
def GoodK (ks : List Knot) : Prop := ∀ k ∈ ks, 1 ≤ k.1 ∧ k.1 ≤ 127 ∧ 1 ≤ k.2.1 ∧ k.2.1 ≤ 2000
theorem okGo_good {all : Int} : ∀ {ks : List Knot} {before sum : Int}, 0 ≤ before → okGo all ks before sum = true → GoodK ks
  | [], _, _, _, _ => fun k hk => by cases hk
  | k :: r, before, sum, hb, h => by
    unfold okGo at h
    split at h
    · cases h
    · rename_i c
      have ih := okGo_good (by omega) h
      intro k' hk'
      rcases List.mem_cons.1 hk' with rfl | hk'
      · omega
      · exact ih k' hk'
theorem okB_good {ks : List Knot} {all : Int} (h : okB ks all = true) : GoodK ks := by
  unfold okB at h
  split at h
  · cases h
  · exact okGo_good (Int.le_refl _) h
def numsGo : List Knot → List Int → List Int
  | [], a => a
  | k :: r, a => numsGo r (a.set k.1.toNat (w64 (a.getD k.1.toNat 0 + k.2.1)))
def zeros : List Int := List.replicate 128 0
theorem numsGo_len : ∀ {ks : List Knot} {a : List Int}, (numsGo ks a).length = a.length
  | [], a => rfl
  | k :: r, a => by rw [numsGo, numsGo_len]; simp
def sq1 (all : Int) (n : Nat) (a : List Int) : List Int :=
  if 0 < w64 (a.getD (2 * n) 0 + a.getD (2 * n + 1) 0) ∧ w64 (w64 (a.getD (2 * n) 0 + a.getD (2 * n + 1) 0) + a.getD n 0) ≤ w64 (all.tdiv 8) then
    ((a.set n (w64 (a.getD n 0 + w64 (a.getD (2 * n) 0 + a.getD (2 * n + 1) 0)))).set (2 * n) 0).set (2 * n + 1) 0
  else a
def sqGo (all : Int) : Nat → List Int → List Int
  | 0, a => a
  | n + 1, a => sqGo all n (sq1 all (n + 1) a)
theorem sq1_len {all : Int} {n : Nat} {a : List Int} : (sq1 all n a).length = a.length := by
  unfold sq1; split <;> simp
theorem sqGo_len {all : Int} : ∀ {n : Nat} {a : List Int}, (sqGo all n a).length = a.length
  | 0, a => rfl
  | n + 1, a => by rw [sqGo, sqGo_len, sq1_len]
def listGo : Nat → List Int → List Knot
  | _, [] => []
  | i, x :: r => if 0 < x then ((i : Int), x, ()) :: listGo (i + 1) r else listGo (i + 1) r
theorem listGo_len : ∀ {i : Nat} {l : List Int}, (listGo i l).length ≤ l.length
  | _, [] => by simp [listGo]
  | i, x :: r => by
    unfold listGo
    have := listGo_len (i := i + 1) (l := r)
    split <;> simp <;> omega
theorem spec_nums_loop (f : Nat) (ks : List Knot) (hl : ks.length < 4294967296) (hg : GoodK ks) : ∀ (d i : Nat) (a : List Int) (fuel : Nat), i + d = ks.length → a.length = 128 → d < fuel →
    iter (spec_l4Nums_st0 f) fuel ((i : Int), ks, a) = some ((numsGo (ks.drop i) a, ()), ())
  | 0, i, a, fuel + 1, hi, ha, hf => by
    rw [iter]
    show spec_l4Nums_step0 f _ _ = _
    unfold spec_l4Nums_step0
    have h1 : ¬ ((i : Int) < (ks.length : Int)) := by omega
    have h2 : ks.drop i = [] := List.drop_eq_nil_of_le (by omega)
    simp [h1, h2, numsGo, zz_eq]
  | d + 1, i, a, fuel + 1, hi, ha, hf => by
    rw [iter]
    show spec_l4Nums_step0 f _ _ = _
    unfold spec_l4Nums_step0
    have h1 : (i : Int) < (ks.length : Int) := by omega
    have h2 : (0 : Int) ≤ (i : Int) := by omega
    have h3 : w64 ((i : Int) + 1) = (i : Int) + 1 := by rw [w64_id] <;> omega
    have ih : ∀ a : List Int, a.length = 128 → iter (spec_l4Nums_st0 f) fuel ((i : Int) + 1, ks, a) = some ((numsGo (ks.drop (i + 1)) a, ()), ()) := fun a ha => by
      exact_mod_cast spec_nums_loop f ks hl hg d (i + 1) a fuel (by omega) ha (by omega)
    have hk := hg (ks.getD i (0, 0, ())) (by
      rw [List.getD_eq_getElem?_getD, List.getElem?_eq_getElem (by omega)]; exact List.getElem_mem _)
    rw [drop_cons (0, 0, ()) (show i < ks.length by omega)]
    simp only [h1, h2, h3, zz_eq, Int.toNat_natCast, decide_true, cond_true]
    obtain ⟨k, hk'⟩ : ∃ k : Knot, ks.getD i (0, 0, ()) = k := ⟨_, rfl⟩
    simp only [hk'] at hk ⊢
    have c1 : 0 ≤ k.1 := by omega
    have c2 : k.1 < ((a.length : Nat) : Int) := by omega
    have c3 : k.1.toNat < a.length := by omega
    simp only [c1, c2, c3, decide_true, cond_true]
    rw [ih _ (by simpa using ha)]
    rfl
theorem specNums_eq (f : Nat) (ks : List Knot) (hl : ks.length < 4294967296) (hg : GoodK ks) (hf : ks.length < f) : spec_l4Nums_fn f ((ks, ()), ()) = some ((numsGo ks zeros, ()), ()) := by
  unfold spec_l4Nums_fn spec_l4Nums_pre
  have := spec_nums_loop f ks hl hg ks.length 0 zeros f (by omega) (by simp [zeros]) hf
  simpa [zeros] using this
theorem tdiv2 (n : Nat) : Int.tdiv (2 * (n : Int)) 2 = n := by
  rw [Int.tdiv_eq_ediv_of_nonneg (by omega)]; omega
theorem spec_sq_loop (f : Nat) (all : Int) : ∀ (n : Nat) (a : List Int) (fuel : Nat), n ≤ 63 → a.length = 128 → n < fuel →
    iter (spec_l4Squeeze_st0 f) fuel (2 * (n : Int), all, a) = some (sqGo all n a, ())
  | 0, a, fuel + 1, hn, ha, hf => by
    rw [iter]
    show spec_l4Squeeze_step0 f _ _ = _
    unfold spec_l4Squeeze_step0
    simp [sqGo]
  | n + 1, a, fuel + 1, hn, ha, hf => by
    rw [iter]
    show spec_l4Squeeze_step0 f _ _ = _
    unfold spec_l4Squeeze_step0
    have ih : ∀ a : List Int, a.length = 128 → iter (spec_l4Squeeze_st0 f) fuel (2 * (n : Int), all, a) = some (sqGo all n a, ()) := fun a ha =>
      spec_sq_loop f all n a fuel (by omega) ha (by omega)
    have h1 : (2 * ((n + 1 : Nat) : Int)) ≥ 2 := by omega
    have h2 : (0 : Int) ≤ 2 * ((n + 1 : Nat) : Int) := by omega
    have h3 : 2 * ((n + 1 : Nat) : Int) < 128 := by omega
    have h4 : w64 (2 * ((n + 1 : Nat) : Int) + 1) = ((2 * (n + 1) + 1 : Nat) : Int) := by rw [w64_id] <;> omega
    have h5 : w64 (Int.tdiv (2 * ((n + 1 : Nat) : Int)) 2) = ((n + 1 : Nat) : Int) := by rw [tdiv2, w64_id] <;> omega
    have h6 : w64 (2 * ((n + 1 : Nat) : Int) - 2) = 2 * (n : Int) := by rw [w64_id] <;> omega
    have h7 : (2 * ((n + 1 : Nat) : Int)).toNat = 2 * (n + 1) := by omega
    have l1 : 2 * (n + 1) < 128 := by omega
    have l2 : 2 * (n + 1) + 1 < 128 := by omega
    have l3 : n + 1 < 128 := by omega
    have l4 : ((2 * (n + 1) + 1 : Nat) : Int) < 128 := by omega
    have l5 : ((n + 1 : Nat) : Int) < 128 := by omega
    simp only [h1, h2, h4, h5, h6, h7, zz_eq, List.length_set, ha, Int.toNat_natCast, Int.natCast_nonneg, decide_true, cond_true, l1, l2, l3, show (((128 : Nat) : Int)) = 128 from rfl, h3, l4, l5]
    unfold sqGo sq1
    by_cases c1 : 0 < w64 (a.getD (2 * (n + 1)) 0 + a.getD (2 * (n + 1) + 1) 0)
    · by_cases c2 : w64 (w64 (a.getD (2 * (n + 1)) 0 + a.getD (2 * (n + 1) + 1) 0) + a.getD (n + 1) 0) ≤ w64 (all.tdiv 8)
      · rw [if_pos ⟨c1, c2⟩]
        simp only [c1, c2, gt_iff_lt, decide_true, cond_true]
        exact ih _ (by simpa using ha)
      · rw [if_neg (fun h => c2 h.2)]
        simp only [c1, c2, gt_iff_lt, decide_true, decide_false, cond_true, cond_false]
        exact ih _ ha
    · rw [if_neg (fun h => c1 h.1)]
      simp only [c1, gt_iff_lt, decide_false, cond_false]
      exact ih _ ha
theorem specSq_eq (f : Nat) (a : List Int) (all : Int) (ha : a.length = 128) (hf : 63 < f) : spec_l4Squeeze_fn f (a, (), (all, ()), ()) = some (sqGo all 63 a, ()) := by
  unfold spec_l4Squeeze_fn spec_l4Squeeze_pre
  have := spec_sq_loop f all 63 a f (by omega) ha hf
  have e : w64 ((zz a.length) - 2) = 2 * ((63 : Nat) : Int) := by rw [zz_eq, ha, w64_id] <;> omega
  simp only [e]
  exact this
theorem spec_list_loop (f : Nat) (a : List Int) (ha : a.length = 128) : ∀ (d i : Nat) (out : List Knot) (fuel : Nat), i + d = 128 → out.length ≤ i → d < fuel →
    iter (spec_l4List_st0 f) fuel ((i : Int), a, out) = some ((out ++ listGo i (a.drop i), ()), ())
  | 0, i, out, fuel + 1, hi, ho, hf => by
    rw [iter]
    show spec_l4List_step0 f _ _ = _
    unfold spec_l4List_step0
    have h1 : ¬ ((i : Int) < (a.length : Int)) := by omega
    have h2 : a.drop i = [] := List.drop_eq_nil_of_le (by omega)
    simp [h1, h2, listGo, zz_eq]
  | d + 1, i, out, fuel + 1, hi, ho, hf => by
    rw [iter]
    show spec_l4List_step0 f _ _ = _
    unfold spec_l4List_step0
    have h1 : (i : Int) < (a.length : Int) := by omega
    have h2 : (0 : Int) ≤ (i : Int) := by omega
    have h3 : w64 ((i : Int) + 1) = (i : Int) + 1 := by rw [w64_id] <;> omega
    have ih : ∀ out : List Knot, out.length ≤ i + 1 → iter (spec_l4List_st0 f) fuel ((i : Int) + 1, a, out) = some ((out ++ listGo (i + 1) (a.drop (i + 1)), ()), ()) := fun out ho => by
      exact_mod_cast spec_list_loop f a ha d (i + 1) out fuel (by omega) ho (by omega)
    have h4 : out.length + 1 < LIM := by simp only [LIM]; omega
    rw [drop_cons 0 (show i < a.length by omega)]
    simp only [h1, h2, h3, zz_eq, Int.toNat_natCast, decide_true, cond_true, listGo, List.length_singleton, h4]
    by_cases c : 0 < a.getD i 0
    · simp only [c, gt_iff_lt, decide_true, cond_true, if_true]
      rw [ih _ (by simp; omega)]
      simp
    · simp only [c, gt_iff_lt, decide_false, cond_false, if_false]
      exact ih _ (by omega)
theorem specList_eq (f : Nat) (a : List Int) (ha : a.length = 128) (hf : 128 < f) : spec_l4List_fn f ((a, ()), ()) = some ((listGo 1 (a.drop 1), ()), ()) := by
  unfold spec_l4List_fn spec_l4List_pre
  have := spec_list_loop f a ha 127 1 [] f (by omega) (by simp) (by omega)
  simpa using this
def addB (ks : List Knot) (all t : Int) : Bool := okB ks all && decide (0 ≤ t ∧ t ≤ 63 ∧ all < 2000)
def addS (ks : List Knot) (all t : Int) : List Knot := listGo 1 ((sqGo (w64 (all + 1)) 63 ((numsGo ks zeros).set (64 + t).toNat (w64 ((numsGo ks zeros).getD (64 + t).toNat 0 + 1)))).drop 1)
theorem specAdd_eq (f : Nat) (ks : List Knot) (all t : Int) (hl : ks.length < 4294967296) (hf : ks.length < f) (hf2 : 128 < f) :
    spec_RankAdd_fn f ((ks, all, ()), (t, ()), ()) = some (if addB ks all t = true then ((addS ks all t, w64 (all + 1), ()), (true, ()), ()) else (([], 0, ()), (false, ()), ())) := by
  unfold spec_RankAdd_fn spec_RankAdd_pre addB addS
  simp only [specOk_eq f ks all hl hf, Option.bind_some, in_eq]
  by_cases c : okB ks all = true
  · by_cases c2 : 0 ≤ t ∧ t ≤ 63
    · by_cases c3 : all ≥ 2000
      · have c4 : ¬ all < 2000 := by omega
        simp [c, c2, c3, c4]
      · have c4 : all < 2000 := by omega
        have e1 : w64 (64 + t) = 64 + t := by rw [w64_id] <;> omega
        have hn : (numsGo ks zeros).length = 128 := by rw [numsGo_len]; simp [zeros]
        have e2 : 0 ≤ 64 + t := by omega
        have e3 : 64 + t < ((128 : Nat) : Int) := by omega
        have e4 : (64 + t).toNat < 128 := by omega
        simp only [c, c2, c3, c4, and_self, decide_true, decide_false, Bool.not_true, cond_false, specNums_eq f ks hl (okB_good c) hf, Option.bind_some, e1, zz_eq, hn, e2, e3, e4, cond_true, Bool.and_true]
        rw [specSq_eq f _ _ (by simpa using hn) (by omega)]
        simp only [Option.bind_some]
        rw [specList_eq f _ (by rw [sqGo_len]; simpa using hn) hf2]
        simp
    · have : ¬ (0 ≤ t ∧ t ≤ 63 ∧ all < 2000) := by omega
      simp [c, c2, this]
  · simp [c]
def sumK (ka : List Knot) (kb : List Knot) (all : Int) : List Knot := listGo 0 (sqGo all 63 (numsGo kb (numsGo ka zeros)))
theorem numsGo_zero : ∀ {ks : List Knot} {a : List Int}, GoodK ks → (numsGo ks a).getD 0 0 = a.getD 0 0
  | [], a, _ => rfl
  | k :: r, a, hg => by
    have hk := hg k (by simp)
    rw [numsGo, numsGo_zero fun x hx => hg x (by simp [hx])]
    simp only [List.getD_eq_getElem?_getD]
    rw [List.getElem?_set_ne (by omega)]
theorem sq1_zero {all : Int} {n : Nat} {a : List Int} (hn : 0 < n) : (sq1 all n a).getD 0 0 = a.getD 0 0 := by
  unfold sq1
  split
  · simp only [List.getD_eq_getElem?_getD]
    rw [List.getElem?_set_ne (by omega), List.getElem?_set_ne (by omega), List.getElem?_set_ne (by omega)]
  · rfl
theorem sqGo_zero {all : Int} : ∀ {n : Nat} {a : List Int}, (sqGo all n a).getD 0 0 = a.getD 0 0
  | 0, a => rfl
  | n + 1, a => by rw [sqGo, sqGo_zero, sq1_zero (by omega)]
theorem listGo_zero {a : List Int} (h : a.getD 0 0 ≤ 0) : listGo 0 a = listGo 1 (a.drop 1) := by
  cases a with
  | nil => rfl
  | cons x r =>
    have : ¬ 0 < x := by simpa using h
    simp [listGo, this]
abbrev RankR := (List Knot × Int × Unit) × (Bool × Unit) × Unit
def noRank : RankR := (([], 0, ()), (false, ()), ())
theorem okB_all {ks : List Knot} {all : Int} (h : okB ks all = true) : 0 ≤ all ∧ all ≤ 2000 := by
  unfold okB at h
  split at h
  · cases h
  · omega
theorem addS_sumK {ks : List Knot} {all t : Int} (h : addB ks all t = true) : addS ks all t = sumK ks [(64 + t, 1, ())] (all + 1) ∧ w64 (all + 1) = all + 1 := by
  unfold addB at h
  simp only [Bool.and_eq_true, decide_eq_true_eq] at h
  have b := okB_all h.1
  have e : w64 (all + 1) = all + 1 := by rw [w64_id] <;> omega
  refine ⟨?_, e⟩
  unfold addS sumK
  rw [e]
  have g1 : GoodK [((64 + t, 1, ()) : Knot)] := fun k hk => by
    simp only [List.mem_singleton] at hk
    subst hk
    show 1 ≤ 64 + t ∧ 64 + t ≤ 127 ∧ (1 : Int) ≤ 1 ∧ (1 : Int) ≤ 2000
    omega
  rw [← listGo_zero]
  · rfl
  · rw [sqGo_zero]
    have := numsGo_zero (ks := [((64 + t, 1, ()) : Knot)]) (a := numsGo ks zeros) g1
    rw [numsGo_zero (okB_good h.1)] at this
    show (numsGo [((64 + t, 1, ()) : Knot)] (numsGo ks zeros)).getD 0 0 ≤ 0
    rw [this]; decide
theorem addS_len {ks : List Knot} {all t : Int} : (addS ks all t).length ≤ 127 := by
  unfold addS
  refine Nat.le_trans listGo_len ?_
  rw [List.length_drop, sqGo_len, List.length_set, numsGo_len]
  simp [zeros]
end Go.Proofs.YtdgdoeknpakmlaaGreat.Den
namespace Go.Proofs.YtdgdoeknpakmlaaGreat.Den
open Go
set_option linter.unusedVariables false
set_option linter.unusedSimpArgs false
def Bytes (b : List Int) : Prop := b.length ≤ 2000 ∧ ∀ x ∈ b, 0 ≤ x ∧ x ≤ 255
theorem Bytes.getD {b : List Int} (h : Bytes b) (i : Nat) : 0 ≤ b.getD i 0 ∧ b.getD i 0 ≤ 255 := by
  rw [List.getD_eq_getElem?_getD]
  cases hi : b[i]? with
  | none => simp
  | some x => simpa using h.2 x (List.mem_of_getElem? hi)
def Rd (b : List Int) (p q : Int) (s : List Int × Int × Unit) : Prop := s.1 = b ∧ p ≤ s.2.1 ∧ s.2.1 ≤ q
theorem Rd.trans {b : List Int} {p q r : Int} {s t : List Int × Int × Unit} (h1 : Rd b p q s) (h2 : Rd b s.2.1 (s.2.1 + r) t) : Rd b p (q + r) t := ⟨h2.1, by have := h1.2; have := h2.2; omega, by have := h1.2; have := h2.2; omega⟩
end Go.Proofs.YtdgdoeknpakmlaaGreat.Den
namespace Go.Proofs.YtdgdoeknpakmlaaGreat.Den
open Go
set_option linter.unusedVariables false
set_option linter.unusedSimpArgs false
def add1 (l : List Int) (i : Nat) (n : Int) : List Int := l.set i (w64 (l.getD i 0 + n))
def roughAdd (rs : List (List Int)) (t n : Int) : List (List Int) × Bool :=
  cond (roughB rs && (thingB t && decide (0 ≤ n ∧ n ≤ w64 (2000 - isum (rs.getD 0 []))))) ([add1 (rs.getD 0 []) (pl 0 t) n, add1 (rs.getD 1 []) (pl 1 t) n, add1 (rs.getD 2 []) (pl 2 t) n], true) ([], false)
theorem copy_eq (f : Nat) (a b c : List Int) (ha : a.length = 8) (hb : b.length = 8) (hc : c.length = 8) : spec_l1Copy_fn f (([a, b, c], ()), ()) = some (([a, b, c], ()), ()) := by
  show spec_l1Copy_pre f a b c = _
  unfold spec_l1Copy_pre
  simp only [ha, hb, hc, LIM, List.nil_append]
  rfl
theorem specRoughAdd_eq (f : Nat) (rs : List (List Int)) (t n : Int) (hf : 8 < f) (hr : ∀ r ∈ rs, r.length < f ∧ r.length < 4294967296) : spec_RoughAdd_fn f ((rs, ()), (t, ()), (n, ()), ()) = some (((roughAdd rs t n).1, ()), ((roughAdd rs t n).2, ()), ()) := by
  show spec_RoughAdd_pre f rs t n = _
  unfold spec_RoughAdd_pre roughAdd
  simp only [specRough_eq f rs hf hr, thing_in, Option.bind_some]
  cases h : roughB rs
  · rfl
  cases ht : thingB t
  · rfl
  obtain ⟨a, b, c, rfl, ha, hb, hc, -, -⟩ := rough_rows h
  have l0 := row_len ha
  have l1 := row_len hb
  have l2 := row_len hc
  have i0 := isum_eq f a (by omega) (by omega)
  have g0 : decide ((0 : Int) < zz ([a, b, c] : List (List Int)).length) = true := rfl
  have g1 : ([a, b, c] : List (List Int)).getD (Int.toNat 0) [] = a := rfl
  simp only [Bool.not_true, cond_false, g0, cond_true, g1, i0, in_eq, Option.bind_some, List.getD_cons_zero, Bool.true_and]
  by_cases cn : 0 ≤ n ∧ n ≤ w64 (2000 - isum a)
  · have p0 := specPlace_eq f 0 t (by omega) ht
    have p1 := specPlace_eq f 1 t (by omega) ht
    have p2 := specPlace_eq f 2 t (by omega) ht
    rw [show ((0 : Nat) : Int) = 0 from rfl] at p0
    rw [show ((1 : Nat) : Int) = 1 from rfl] at p1
    rw [show ((2 : Nat) : Int) = 2 from rfl] at p2
    have q0 := pl_lt 0 t
    have q1 := pl_lt 1 t
    have q2 := pl_lt 2 t
    have d1 : ([a, b, c] : List (List Int)).getD 1 [] = b := rfl
    have d2 : ([a, b, c] : List (List Int)).getD 2 [] = c := rfl
    have z0 : (pl 0 t : Int) < 8 := by omega
    have z1 : (pl 1 t : Int) < 8 := by omega
    have z2 : (pl 2 t : Int) < 8 := by omega
    simp only [cn, and_self, decide_true, Bool.not_true, cond_false, copy_eq f a b c l0 l1 l2, p0, p1, p2, Option.bind_some, List.getD_cons_zero, d1, d2, zz_eq, l0, l1, l2, le_cast, show ((8 : Nat) : Int) = 8 from rfl, z0, z1, z2, q0, q1, q2, Int.toNat_natCast, cond_true]
    rfl
  · simp only [cn, decide_false, Bool.not_false, cond_true, cond_false]
def zipAdd (a b : List Int) : List Int := List.zipWith (fun u v => w64 (u + v)) a b
def putM (m : Int) : List Int → Bool → List Int
  | [], done => cond done [] [m]
  | x :: r, done => cond (!done && decide (x ≥ m)) (m :: cond (x != m) (x :: putM m r true) (putM m r true)) (cond (x != m) (x :: putM m r done) (putM m r done))
def few6 (l : List Int) (m : Int) : List Int := (putM m l false).take 6
theorem take_min {l : List Int} : List.take (Int.toNat (if (6 : Int) < zz l.length then (6 : Int) else zz l.length) - 0) (List.drop 0 l) = l.take 6 := by
  rw [List.drop_zero, Nat.sub_zero]
  split
  · rfl
  · rename_i h
    rw [zz_eq] at h
    rw [zz_eq, Int.toNat_natCast, List.take_of_length_le (Nat.le_refl _), List.take_of_length_le (by omega)]
theorem min_nn {n : Nat} : (0 : Int) ≤ if (6 : Int) < zz n then (6 : Int) else zz n := by
  have := zz_eq n
  split <;> omega
theorem min_le {n : Nat} : (if (6 : Int) < zz n then (6 : Int) else zz n) ≤ zz n := by split <;> omega
theorem put_loop (f : Nat) (l : List Int) (m : Int) (hl : l.length < 100000000) : ∀ (d i : Nat) (done : Bool) (out : List Int) (fuel : Nat), i + d = l.length → out.length ≤ 2 * i → d < fuel →
    iter (spec_l2Put_st0 f) fuel ((i : Int), l, done, m, out) = some (((out ++ putM m (l.drop i) done).take 6, ()), ())
  | 0, i, done, out, fuel + 1, hi, ho, hf => by
    rw [iter]
    show spec_l2Put_step0 f _ _ = _
    unfold spec_l2Put_step0
    obtain rfl : i = l.length := by omega
    have h1 : out.length + 1 < LIM := by simp only [LIM]; omega
    simp only [take_min, min_nn, min_le, h1, decide_true, cond_true]
    simp only [zz_eq, nlt_cast, decide_false, cond_false, List.drop_eq_nil_of_le (Nat.le_refl _)]
    cases done
    · rfl
    · simp only [putM, cond_true, Bool.not_true, cond_false, List.append_nil]
  | d + 1, i, done, out, fuel + 1, hi, ho, hf => by
    rw [iter]
    show spec_l2Put_step0 f _ _ = _
    unfold spec_l2Put_step0
    have hlt : i < l.length := by omega
    have ih : ∀ done (out : List Int), out.length ≤ 2 * (i + 1) → iter (spec_l2Put_st0 f) fuel (((i + 1 : Nat) : Int), l, done, m, out) = some (((out ++ putM m (l.drop (i + 1)) done).take 6, ()), ()) := fun done out h =>
      put_loop f l m hl d (i + 1) done out fuel (by omega) h (by omega)
    have h1 : out.length + 1 < LIM := by simp only [LIM]; omega
    have h2 : out.length + 1 + 1 < LIM := by simp only [LIM]; omega
    simp only [zz_eq, lt_cast hlt, le_cast, decide_true, cond_true, Int.toNat_natCast, w64_up (show i < 4294967296 by omega), h1, List.length_append, List.length_singleton, h2]
    rw [drop_getD 0 hlt]
    obtain ⟨x, hx⟩ : ∃ x : Int, l.getD i 0 = x := ⟨_, rfl⟩
    simp only [hx]
    have e1 := ih true (out ++ [m] ++ [x]) (by simp; omega)
    have e2 := ih true (out ++ [m]) (by simp; omega)
    have e3 := ih done (out ++ [x]) (by simp; omega)
    have e4 := ih done out (by omega)
    simp only [e1, e2, e3, e4]
    simp only [putM, List.append_assoc, List.singleton_append, List.cons_append, List.nil_append]
    cases done
    · by_cases c : x ≥ m
      · simp only [c, decide_true, Bool.not_false, Bool.true_and, cond_true]
        cases (x != m) <;> rfl
      · simp only [c, decide_false, Bool.not_false, Bool.true_and, cond_true, cond_false]
        cases (x != m) <;> rfl
    · simp only [Bool.not_true, Bool.false_and, cond_false]
      cases (x != m) <;> rfl
theorem specPut_eq (f : Nat) (l : List Int) (m : Int) (hl : l.length < 100000000) (hf : l.length < f) : spec_l2Put_fn f ((l, ()), (m, ()), ()) = some ((few6 l m, ()), ()) := by
  show iter (spec_l2Put_st0 f) f ((0 : Int), l, false, m, []) = _
  exact (put_loop f l m hl l.length 0 false [] f (by omega) (by simp) hf).trans rfl
def fewAdd (ms : List Int) (t : Int) : List Int × Bool := cond (fewB ms && thingB t) (few6 ms (mark t), true) ([], false)
theorem specFewAdd_eq (f : Nat) (l : List Int) (t : Int) (hl : l.length < 100000000) (hf : l.length < f) : spec_FewAdd_fn f ((l, ()), (t, ()), ()) = some (((fewAdd l t).1, ()), ((fewAdd l t).2, ()), ()) := by
  show spec_FewAdd_pre f l t = _
  unfold spec_FewAdd_pre fewAdd
  simp only [specFew_eq f l (by omega) hf, thing_in, specMark_eq, specPut_eq f l _ hl hf, Option.bind_some]
  cases fewB l <;> cases thingB t <;> rfl
theorem few6_len (l : List Int) (m : Int) : (few6 l m).length ≤ 6 := by unfold few6; rw [List.length_take]; omega
end Go.Proofs.YtdgdoeknpakmlaaGreat.Den
namespace Go.Proofs.YtdgdoeknpakmlaaGreat.Den
open Go
set_option linter.unusedVariables false
set_option linter.unusedSimpArgs false
def putP (t n : Int) : List Knot → Bool → List Knot
  | [], done => cond done [] [(t, n, ())]
  | x :: r, done => cond (!done && decide (x.1 ≥ t)) (cond (x.1 == t) ((t, w64 (n + x.2.1), ()) :: putP t n r true) ((t, n, ()) :: (x.1, x.2.1, ()) :: putP t n r true)) ((x.1, x.2.1, ()) :: putP t n r done)
theorem putP_len (t n : Int) : ∀ (l : List Knot) (done : Bool), (putP t n l done).length ≤ l.length + 1
  | [], done => by cases done <;> simp [putP]
  | x :: r, done => by
    have h1 := putP_len t n r true
    have h2 := putP_len t n r done
    have h3 : ∀ (l : List Knot), (putP t n l true).length = l.length := by
      intro l
      induction l with
      | nil => rfl
      | cons x l ih => simp [putP, ih]
    unfold putP
    cases (!done && decide (x.1 ≥ t)) <;> cases (x.1 == t) <;> simp only [cond_true, cond_false, List.length_cons, h3] <;> omega
theorem put3_loop (f : Nat) (l : List Knot) (t n : Int) (hl : l.length < 100000000) : ∀ (d i : Nat) (done : Bool) (out : List Knot) (fuel : Nat), i + d = l.length → out.length ≤ 2 * i → d < fuel →
    iter (spec_l3Put_st0 f) fuel ((i : Int), l, done, t, n, out) = some ((out ++ putP t n (l.drop i) done, ()), ())
  | 0, i, done, out, fuel + 1, hi, ho, hf => by
    rw [iter]
    show spec_l3Put_step0 f _ _ = _
    unfold spec_l3Put_step0
    obtain rfl : i = l.length := by omega
    have h1 : out.length + 1 < LIM := by simp only [LIM]; omega
    simp only [h1, decide_true, cond_true]
    simp only [zz_eq, nlt_cast, decide_false, cond_false, List.drop_eq_nil_of_le (Nat.le_refl _)]
    cases done
    · rfl
    · simp only [putP, cond_true, Bool.not_true, cond_false, List.append_nil]
  | d + 1, i, done, out, fuel + 1, hi, ho, hf => by
    rw [iter]
    show spec_l3Put_step0 f _ _ = _
    unfold spec_l3Put_step0
    have hlt : i < l.length := by omega
    have ih : ∀ done (out : List Knot), out.length ≤ 2 * (i + 1) → iter (spec_l3Put_st0 f) fuel (((i + 1 : Nat) : Int), l, done, t, n, out) = some ((out ++ putP t n (l.drop (i + 1)) done, ()), ()) := fun done out h =>
      put3_loop f l t n hl d (i + 1) done out fuel (by omega) h (by omega)
    have h1 : out.length + 1 < LIM := by simp only [LIM]; omega
    have h2 : out.length + 1 + 1 < LIM := by simp only [LIM]; omega
    simp only [zz_eq, lt_cast hlt, le_cast, decide_true, cond_true, Int.toNat_natCast, w64_up (show i < 4294967296 by omega), h1, List.length_append, List.length_singleton, h2]
    rw [drop_getD (0, 0, ()) hlt]
    obtain ⟨x, hx⟩ : ∃ x : Knot, l.getD i (0, 0, ()) = x := ⟨_, rfl⟩
    simp only [hx]
    have e1 := ih true (out ++ [(t, n, ())] ++ [(x.1, x.2.1, ())]) (by simp; omega)
    have e2 := ih true (out ++ [(t, w64 (n + x.2.1), ())]) (by simp; omega)
    have e3 := ih done (out ++ [(x.1, x.2.1, ())]) (by simp; omega)
    simp only [e1, e2, e3]
    simp only [putP, List.append_assoc, List.singleton_append, List.cons_append, List.nil_append]
    cases done
    · by_cases c : x.1 ≥ t
      · simp only [c, decide_true, Bool.not_false, Bool.true_and, cond_true]
        cases (x.1 == t) <;> rfl
      · simp only [c, decide_false, Bool.not_false, Bool.true_and, cond_true, cond_false]
    · simp only [Bool.not_true, Bool.false_and, cond_false]
theorem specPut3_eq (f : Nat) (l : List Knot) (t n : Int) (hl : l.length < 100000000) (hf : l.length < f) : spec_l3Put_fn f ((l, ()), (t, n, ()), ()) = some ((putP t n l false, ()), ()) := by
  show iter (spec_l3Put_st0 f) f ((0 : Int), l, false, t, n, []) = _
  exact (put3_loop f l t n hl l.length 0 false [] f (by omega) (by simp) hf).trans rfl
def cntGe (m : Int) (l : List Knot) : Int := l.foldl (fun n x => cond (decide (x.2.1 ≥ m)) (w64 (n + 1)) n) 0
def over3 (l : List Knot) : Int := l.foldl (fun b x => cond (decide (cntGe x.2.1 l > 4)) (if x.2.1 > b then x.2.1 else b) b) 0
theorem specOver_eq (f : Nat) (l : List Knot) (hl : l.length < 100000000) (hf : l.length < f) : spec_l3Over_fn f ((l, ()), ()) = some ((over3 l, ()), ()) := by
  show iter (spec_l3Over_st0 f) f ((0 : Int), l, (0 : Int)) = _
  refine (iter_list (st := spec_l3Over_st0 f) (enc := fun i (b : Int) => ((i : Int), l, b)) (fun (x : Knot) k b => k (cond (decide (cntGe x.2.1 l > 4)) (if x.2.1 > b then x.2.1 else b) b)) (fun b => some ((b, ()), ())) l (0, 0, ()) ?_ ?_ f 0 hf).trans (fold_go (fun b x => cond (decide (cntGe x.2.1 l > 4)) (if x.2.1 > b then x.2.1 else b) b) (fun _ _ _ => rfl) l 0)
  · intro i b g hi
    show spec_l3Over_step0 f _ g _ = _
    unfold spec_l3Over_step0
    simp only [zz_eq, lt_cast hi, decide_true, cond_true]
    refine (iter_list (st := spec_l3Over_st1 f g) (enc := fun k (n : Int) => ((k : Int), l, (i : Int), n, b)) (fun (y : Knot) k n => k (cond (decide (y.2.1 ≥ (l.getD i (0, 0, ())).2.1)) (w64 (n + 1)) n))
      (fun n => g (((i + 1 : Nat) : Int), l, cond (decide (n > 4)) (if (l.getD i (0, 0, ())).2.1 > b then (l.getD i (0, 0, ())).2.1 else b) b)) l (0, 0, ()) ?_ ?_ f 0 hf).trans (fold_go (fun n y => cond (decide (y.2.1 ≥ (l.getD i (0, 0, ())).2.1)) (w64 (n + 1)) n) (fun _ _ _ => rfl) l 0)
    · intro k n g2 hk
      show spec_l3Over_step1 f g g2 _ = _
      unfold spec_l3Over_step1
      simp only [zz_eq, lt_cast hi, lt_cast hk, le_cast, decide_true, cond_true, Int.toNat_natCast, w64_up (show k < 4294967296 by omega)]
      cases decide ((l.getD k (0, 0, ())).2.1 ≥ (l.getD i (0, 0, ())).2.1) <;> rfl
    · intro n g2
      show spec_l3Over_step1 f g g2 _ = _
      unfold spec_l3Over_step1
      simp only [zz_eq, nlt_cast, lt_cast hi, le_cast, decide_true, decide_false, cond_true, cond_false, Int.toNat_natCast, w64_up (show i < 4294967296 by omega)]
      cases decide (n > 4) <;> rfl
  · intro b g
    show spec_l3Over_step0 f _ g _ = _
    unfold spec_l3Over_step0
    simp only [zz_eq, nlt_cast, decide_false, cond_false]
def less3 (m : Int) : List Knot → List Knot
  | [] => []
  | x :: r => cond (decide (x.2.1 > m)) ((x.1, w64 (x.2.1 - m), ()) :: less3 m r) (less3 m r)
theorem less3_len (m : Int) : ∀ (l : List Knot), (less3 m l).length ≤ l.length
  | [] => Nat.le_refl _
  | x :: r => by
    have := less3_len m r
    unfold less3
    cases decide (x.2.1 > m) <;> simp only [cond_true, cond_false, List.length_cons] <;> omega
theorem less_loop (f : Nat) (l : List Knot) (m : Int) (hl : l.length < 100000000) : ∀ (d i : Nat) (out : List Knot) (fuel : Nat), i + d = l.length → out.length ≤ i → d < fuel →
    iter (spec_l3Less_st0 f) fuel ((i : Int), l, m, out) = some ((out ++ less3 m (l.drop i), ()), ())
  | 0, i, out, fuel + 1, hi, ho, hf => by
    rw [iter]
    show spec_l3Less_step0 f _ _ = _
    unfold spec_l3Less_step0
    obtain rfl : i = l.length := by omega
    simp only [zz_eq, nlt_cast, decide_false, cond_false, List.drop_eq_nil_of_le (Nat.le_refl _), less3, List.append_nil]
  | d + 1, i, out, fuel + 1, hi, ho, hf => by
    rw [iter]
    show spec_l3Less_step0 f _ _ = _
    unfold spec_l3Less_step0
    have hlt : i < l.length := by omega
    have ih : ∀ (out : List Knot), out.length ≤ i + 1 → iter (spec_l3Less_st0 f) fuel (((i + 1 : Nat) : Int), l, m, out) = some ((out ++ less3 m (l.drop (i + 1)), ()), ()) := fun out h =>
      less_loop f l m hl d (i + 1) out fuel (by omega) h (by omega)
    have h1 : out.length + 1 < LIM := by simp only [LIM]; omega
    simp only [zz_eq, lt_cast hlt, le_cast, decide_true, cond_true, Int.toNat_natCast, w64_up (show i < 4294967296 by omega), h1]
    rw [drop_getD (0, 0, ()) hlt]
    obtain ⟨x, hx⟩ : ∃ x : Knot, l.getD i (0, 0, ()) = x := ⟨_, rfl⟩
    simp only [hx]
    have e1 := ih (out ++ [(x.1, w64 (x.2.1 - m), ())]) (by simp; omega)
    have e2 := ih out (by omega)
    simp only [e1, e2]
    simp only [less3, List.append_assoc, List.singleton_append, List.cons_append, List.nil_append]
    cases decide (x.2.1 > m) <;> rfl
theorem specLess_eq (f : Nat) (l : List Knot) (m : Int) (hl : l.length < 100000000) (hf : l.length < f) : spec_l3Less_fn f ((l, ()), (m, ()), ()) = some ((less3 m l, ()), ()) := by
  show iter (spec_l3Less_st0 f) f ((0 : Int), l, m, []) = _
  exact (less_loop f l m hl l.length 0 [] f (by omega) (by simp) hf).trans rfl
abbrev TopD := List Knot × Int × Int × Unit
def cut3 (l : List Knot) (lost all : Int) : TopD := (less3 (over3 l) l, w64 (lost + over3 l), all, ())
theorem specCut_eq (f : Nat) (l : List Knot) (lost all : Int) (hl : l.length < 100000000) (hf : l.length < f) : spec_l3Cut_fn f ((l, lost, all, ()), ()) = some (cut3 l lost all, ()) := by
  show spec_l3Cut_pre f l lost all = _
  unfold spec_l3Cut_pre
  simp only [specOver_eq f l hl hf, specLess_eq f l _ hl hf, Option.bind_some]
  rfl
def noTop : TopD := ([], 0, 0, ())
def topAdd (ps : List Knot) (lost all t : Int) : TopD × Bool := cond (topB ps lost all && (thingB t && decide (all < 2000))) (cut3 (putP t 1 ps false) lost (w64 (all + 1)), true) (noTop, false)
theorem specTopAdd_eq (f : Nat) (ps : List Knot) (lost all t : Int) (hl : ps.length < 10000000) (hf : ps.length + 1 < f) : spec_TopAdd_fn f ((ps, lost, all, ()), (t, ()), ()) = some ((topAdd ps lost all t).1, ((topAdd ps lost all t).2, ()), ()) := by
  show spec_TopAdd_pre f ps lost all t = _
  have h1 := putP_len t 1 ps false
  unfold spec_TopAdd_pre topAdd
  simp only [specTop_eq f ps lost all (by omega) (by omega), thing_in, Option.bind_some, specPut3_eq f ps t 1 (by omega) (by omega), specCut_eq f (putP t 1 ps false) lost _ (by omega) (by omega)]
  have : decide (all ≥ 2000) = !decide (all < 2000) := by
    by_cases h : all < 2000
    · have : ¬ all ≥ 2000 := by omega
      simp [h, this]
    · have : all ≥ 2000 := by omega
      simp [h, this]
  rw [this]
  cases topB ps lost all <;> cases thingB t <;> cases decide (all < 2000) <;> rfl
def putAll (a b : List Knot) : List Knot := b.foldl (fun k x => putP x.1 x.2.1 k false) a
theorem putAll_len : ∀ (b a : List Knot), (putAll a b).length ≤ a.length + b.length
  | [], a => Nat.le_refl _
  | x :: b, a => by
    have h1 := putAll_len b (putP x.1 x.2.1 a false)
    have h2 := putP_len x.1 x.2.1 a false
    show (putAll (putP x.1 x.2.1 a false) b).length ≤ _
    simp only [List.length_cons]; omega
theorem four {ps : List Knot} {l a : Int} (h : topB ps l a = true) : ps.length ≤ 4 ∧ 0 ≤ l ∧ l ≤ 2000 ∧ 0 ≤ a ∧ a ≤ 2000 := by
  unfold topB at h
  simp only [Bool.and_eq_true, decide_eq_true_eq] at h
  exact h.1
abbrev SumD := List (List Int) × List Int × List Knot × Int × Int × List Knot × Int × Unit
def noSum : SumD := ([], [], [], 0, 0, [], 0, ())
def sumNew : SumD := ([List.replicate 8 0, List.replicate 8 0, List.replicate 8 0], [], [], 0, 0, [], 0, ())
def sumBD (s : SumD) : Bool := sumB s.1 s.2.1 s.2.2.1 s.2.2.2.1 s.2.2.2.2.1 s.2.2.2.2.2.1 s.2.2.2.2.2.2.1
def rankAdd (ks : List Knot) (all t : Int) : (List Knot × Int × Unit) × Bool := cond (addB ks all t) ((addS ks all t, w64 (all + 1), ()), true) (([], 0, ()), false)
theorem specRankAdd_eq (f : Nat) (ks : List Knot) (all t : Int) (hl : ks.length < 4294967296) (hf : ks.length < f) (hf2 : 128 < f) :
    spec_RankAdd_fn f ((ks, all, ()), (t, ()), ()) = some ((rankAdd ks all t).1, ((rankAdd ks all t).2, ()), ()) := by
  rw [specAdd_eq f ks all t hl hf hf2]; unfold rankAdd
  cases addB ks all t <;> rfl
structure SmallS (s : SumD) (n : Nat) : Prop where
  rows : s.1.length ≤ n
  row : ∀ r ∈ s.1, r.length ≤ n
  marks : s.2.1.length ≤ n
  pairs : s.2.2.1.length ≤ n
  knots : s.2.2.2.2.2.1.length ≤ n
theorem specSumD_eq (f : Nat) (s : SumD) {n : Nat} (hs : SmallS s n) (hn : n < 4294967296) (hf : 8 < f) (hnf : n < f) : spec_SumOk_fn f (s, ()) = some ((sumBD s, ()), ()) :=
  specSum_eq f s.1 s.2.1 s.2.2.1 s.2.2.2.1 s.2.2.2.2.1 s.2.2.2.2.2.1 s.2.2.2.2.2.2.1 hf (fun r hr => by have := hs.row r hr; omega) (by have := hs.marks; omega) (by have := hs.pairs; omega) (by have := hs.knots; omega)
def sumAdd (s : SumD) (t : Int) : SumD × Bool := cond (sumBD s && (thingB t && decide (s.2.2.2.2.1 < 2000)))
  (((roughAdd s.1 t 1).1, (fewAdd s.2.1 t).1, (topAdd s.2.2.1 s.2.2.2.1 s.2.2.2.2.1 t).1.1, (topAdd s.2.2.1 s.2.2.2.1 s.2.2.2.2.1 t).1.2.1, (topAdd s.2.2.1 s.2.2.2.1 s.2.2.2.2.1 t).1.2.2.1, (rankAdd s.2.2.2.2.2.1 s.2.2.2.2.2.2.1 t).1.1, (rankAdd s.2.2.2.2.2.1 s.2.2.2.2.2.2.1 t).1.2.1, ()), true) (noSum, false)
theorem specSumAdd_eq (f : Nat) (s : SumD) (t : Int) {n : Nat} (hs : SmallS s n) (hn : n < 1000000) (hnf : n + 1 < f) (hf : 128 < f) : spec_SumAdd_fn f (s, (t, ()), ()) = some ((sumAdd s t).1, ((sumAdd s t).2, ()), ()) := by
  obtain ⟨rs, ms, ps, lost, tall, ks, rall, ⟨⟩⟩ := s
  have e0 := specSumD_eq f (rs, ms, ps, lost, tall, ks, rall, ()) hs (by omega) (by omega) (by omega)
  have h1 := hs.rows; have h2 := hs.row; have h3 := hs.marks; have h4 := hs.pairs; have h5 := hs.knots
  simp only at h1 h2 h3 h4 h5
  show spec_SumAdd_pre f rs ms ps lost tall ks rall t = _
  unfold spec_SumAdd_pre sumAdd
  simp only [e0, thing_in, Option.bind_some, specRoughAdd_eq f rs t 1 (by omega) (fun r hr => by have := h2 r hr; omega), specFewAdd_eq f ms t (by omega) (by omega), specTopAdd_eq f ps lost tall t (by omega) (by omega), specRankAdd_eq f ks rall t (by omega) (by omega) (by omega)]
  have : decide (tall ≥ 2000) = !decide (tall < 2000) := by
    by_cases h : tall < 2000
    · have : ¬ tall ≥ 2000 := by omega
      simp [h, this]
    · have : tall ≥ 2000 := by omega
      simp [h, this]
  rw [this]
  cases sumBD (rs, ms, ps, lost, tall, ks, rall, ()) <;> cases thingB t <;> cases decide (tall < 2000) <;> rfl
theorem roughAdd_small {rs : List (List Int)} {t n : Int} : (roughAdd rs t n).1.length ≤ 8 ∧ ∀ r ∈ (roughAdd rs t n).1, r.length ≤ 8 := by
  unfold roughAdd
  cases h : roughB rs
  · simp
  obtain ⟨a, b, c, rfl, ha, hb, hc, -, -⟩ := rough_rows h
  have l0 := row_len ha
  have l1 := row_len hb
  have l2 := row_len hc
  generalize (thingB t && _) = q
  cases q
  · simp
  · simp only [Bool.and_self, cond_true]
    refine ⟨by simp, fun r hr => ?_⟩
    simp only [List.mem_cons, List.not_mem_nil, or_false] at hr
    rcases hr with rfl | rfl | rfl <;> simp [add1, l0, l1, l2]
theorem fewAdd_small {ms : List Int} {t : Int} : (fewAdd ms t).1.length ≤ 6 := by
  unfold fewAdd
  cases (fewB ms && thingB t)
  · exact Nat.zero_le _
  · exact few6_len _ _
theorem topAdd_small {ps : List Knot} {l a t : Int} : (topAdd ps l a t).1.1.length ≤ 5 := by
  unfold topAdd
  cases h : topB ps l a
  · exact Nat.zero_le _
  have := four h
  have h1 := putP_len t 1 ps false
  cases (thingB t && decide (a < 2000))
  · exact Nat.zero_le _
  · have := less3_len (over3 (putP t 1 ps false)) (putP t 1 ps false)
    show (less3 (over3 (putP t 1 ps false)) (putP t 1 ps false)).length ≤ 5
    omega
theorem rankAdd_small {ks : List Knot} {a t : Int} : (rankAdd ks a t).1.1.length ≤ 128 := by
  unfold rankAdd
  cases addB ks a t
  · exact Nat.zero_le _
  · have := addS_len (ks := ks) (all := a) (t := t)
    simp only [cond_true]
    omega
theorem sumNew_small : SmallS sumNew 128 := ⟨by decide, by decide, by decide, by decide, by decide⟩
theorem noSum_small : SmallS noSum 128 := ⟨by decide, by decide, by decide, by decide, by decide⟩
theorem smallS_mk {rs : List (List Int)} {ms : List Int} {ps ks : List Knot} {l a r : Int} {n : Nat} (h1 : rs.length ≤ n) (h2 : ∀ r ∈ rs, r.length ≤ n) (h3 : ms.length ≤ n) (h4 : ps.length ≤ n) (h5 : ks.length ≤ n) : SmallS (rs, ms, ps, l, a, ks, r, ()) n := ⟨h1, h2, h3, h4, h5⟩
theorem sumAdd_small (s : SumD) (t : Int) : SmallS (sumAdd s t).1 128 := by
  unfold sumAdd
  cases (sumBD s && (thingB t && decide (s.2.2.2.2.1 < 2000)))
  · exact noSum_small
  · have r := roughAdd_small (rs := s.1) (t := t) (n := 1)
    have m := fewAdd_small (ms := s.2.1) (t := t)
    have p := topAdd_small (ps := s.2.2.1) (l := s.2.2.2.1) (a := s.2.2.2.2.1) (t := t)
    have k := rankAdd_small (ks := s.2.2.2.2.2.1) (a := s.2.2.2.2.2.2.1) (t := t)
    exact smallS_mk (Nat.le_trans r.1 (by omega)) (fun q hq => Nat.le_trans (r.2 q hq) (by omega)) (Nat.le_trans m (by omega)) (Nat.le_trans p (by omega)) k
def sumOfGo : List Int → SumD → SumD × Bool
  | [], s => (s, true)
  | t :: r, s => cond (sumAdd s t).2 (sumOfGo r (sumAdd s t).1) (noSum, false)
def sumOf (l : List Int) : SumD × Bool := sumOfGo l sumNew
theorem sumOfGo_small : ∀ (l : List Int) (s : SumD), SmallS s 128 → SmallS (sumOfGo l s).1 128
  | [], s, h => h
  | t :: r, s, h => by
    unfold sumOfGo
    cases (sumAdd s t).2
    · exact noSum_small
    · exact sumOfGo_small r _ (sumAdd_small s t)
theorem sumOf_small (l : List Int) : SmallS (sumOf l).1 128 := sumOfGo_small l _ sumNew_small
theorem specSumNew_eq (f : Nat) : spec_SumNew_fn f () = some (sumNew, ()) := rfl
theorem specSumOf_eq (f : Nat) (l : List Int) (hl : l.length < 1000000000) (hfl : l.length < f) (hf : 200 < f) : spec_SumOf_fn f ((l, ()), ()) = some ((sumOf l).1, ((sumOf l).2, ()), ()) := by
  show spec_SumOf_pre f (iter (spec_SumOf_st0 f) f) l = _
  unfold spec_SumOf_pre
  simp only [specSumNew_eq, Option.bind_some]
  refine (iter_list (st := spec_SumOf_st0 f) (enc := fun i (s : SumD) => ((i : Int), l, s.1, s.2.2.2.1, s.2.2.2.2.1, s.2.2.2.2.2.2.1, (0 : Int), (0 : Int), (0 : Int), s.2.1, s.2.2.1, s.2.2.2.2.2.1)) (fun (x : Int) c (s : SumD) => (spec_SumAdd_fn f (s, (x, ()), ())).bind fun y => cond (!y.2.1.1) (some (noSum, (false, ()), ())) (c y.1))
      (fun s => some (s, (true, ()), ())) l 0 ?_ ?_ f sumNew hfl).trans ?_
  · intro i s g hi
    show spec_SumOf_step0 f g _ = _
    unfold spec_SumOf_step0
    simp only [zz_eq, lt_cast hi, le_cast, decide_true, cond_true, Int.toNat_natCast, w64_up (show i < 4294967296 by omega)]
    rfl
  · intro s g
    show spec_SumOf_step0 f g _ = _
    unfold spec_SumOf_step0
    simp only [zz_eq, nlt_cast, decide_false, cond_false]
  · have : ∀ (l : List Int) (s : SumD), SmallS s 128 → goL (R := SumD × ((Bool × Unit) × Unit)) (fun (x : Int) c (s : SumD) => (spec_SumAdd_fn f (s, (x, ()), ())).bind fun y => cond (!y.2.1.1) (some (noSum, (false, ()), ())) (c y.1))
        (fun s => some (s, (true, ()), ())) l s = some ((sumOfGo l s).1, ((sumOfGo l s).2, ()), ()) := by
      intro l
      induction l with
      | nil => intro s _; rfl
      | cons x l ih =>
        intro s hs
        show (spec_SumAdd_fn f (s, (x, ()), ())).bind _ = _
        rw [specSumAdd_eq f s x hs (by omega) (by omega) (by omega), Option.bind_some]
        unfold sumOfGo
        cases (sumAdd s x).2
        · rfl
        · exact ih _ (sumAdd_small s x)
    exact this l sumNew sumNew_small
end Go.Proofs.YtdgdoeknpakmlaaGreat.Den
namespace Go.Proofs.YtdgdoeknpakmlaaGreat.Den
open Go
set_option linter.unusedVariables false
set_option linter.unusedSimpArgs false
theorem SmallS.mono {s : SumD} {n m : Nat} (h : SmallS s n) (hm : n ≤ m) : SmallS s m :=
  ⟨Nat.le_trans h.rows hm, fun r hr => Nat.le_trans (h.row r hr) hm, Nat.le_trans h.marks hm, Nat.le_trans h.pairs hm, Nat.le_trans h.knots hm⟩
theorem SmallS.all {s : SumD} {n : Nat} (h : SmallS s n) (a : Int) : SmallS (s.1, s.2.1, s.2.2.1, s.2.2.2.1, a, s.2.2.2.2.2.1, s.2.2.2.2.2.2.1, ()) n := ⟨h.rows, h.row, h.marks, h.pairs, h.knots⟩
theorem SmallS.kept {s : SumD} {n : Nat} (h : SmallS s n) (x : Int) : SmallS (s.1, s.2.1 ++ [x], s.2.2.1, s.2.2.2.1, s.2.2.2.2.1, s.2.2.2.2.2.1, s.2.2.2.2.2.2.1, ()) (n + 1) :=
  ⟨Nat.le_succ_of_le h.rows, fun r hr => Nat.le_succ_of_le (h.row r hr), by show (s.2.1 ++ [x]).length ≤ n + 1; have := h.marks; rw [List.length_append, List.length_singleton]; omega, Nat.le_succ_of_le h.pairs, Nat.le_succ_of_le h.knots⟩
theorem SmallS.rough {s u : SumD} {n : Nat} (h : SmallS s n) (hu : SmallS u n) : SmallS (u.1, s.2.1, s.2.2.1, s.2.2.2.1, s.2.2.2.2.1, s.2.2.2.2.2.1, s.2.2.2.2.2.2.1, ()) n := ⟨hu.rows, hu.row, h.marks, h.pairs, h.knots⟩
section
variable (f : Nat) (s : SumD) (hs : SmallS s 129) (hf : 300 < f)
include hs hf
end
theorem implSumNew_eq (f : Nat) : impl_SumNew_fn f () = some (sumNew, ()) := rfl
theorem sumNew_ok : sumBD sumNew = true := by decide +kernel
end Go.Proofs.YtdgdoeknpakmlaaGreat.Den
namespace Go.Proofs.YtdgdoeknpakmlaaGreat.Den
open Go
set_option linter.unusedVariables false
set_option linter.unusedSimpArgs false
def ascN (p : Int → Bool) : Nat → Int → List Int
  | 0, _ => []
  | d + 1, i => cond (p i) (i :: ascN p d (i + 1)) (ascN p d (i + 1))
def fst6 (p : Int → Bool) : List Int := (ascN p 64 0).take 6
theorem ascN_congr {p q : Int → Bool} : ∀ {d : Nat} {i : Int}, (∀ k, i ≤ k → k < i + d → p k = q k) → ascN p d i = ascN q d i
  | 0, i, _ => rfl
  | d + 1, i, h => by
    unfold ascN
    rw [h i (Int.le_refl _) (by omega), ascN_congr (d := d) (i := i + 1) fun k h1 h2 => h k (by omega) (by omega)]
theorem ascN_mem {p : Int → Bool} {x : Int} : ∀ {d : Nat} {i : Int}, x ∈ ascN p d i ↔ i ≤ x ∧ x < i + d ∧ p x = true
  | 0, i => by simp [ascN]; omega
  | d + 1, i => by
    have ih := ascN_mem (p := p) (x := x) (d := d) (i := i + 1)
    unfold ascN
    cases hp : p i
    · simp only [cond_false, ih]
      constructor
      · rintro ⟨h1, h2, h3⟩; exact ⟨by omega, by omega, h3⟩
      · rintro ⟨h1, h2, h3⟩
        have : x ≠ i := fun h => by rw [h, hp] at h3; cases h3
        exact ⟨by omega, by omega, h3⟩
    · simp only [cond_true, List.mem_cons, ih]
      constructor
      · rintro (rfl | ⟨h1, h2, h3⟩)
        · exact ⟨by omega, by omega, hp⟩
        · exact ⟨by omega, by omega, h3⟩
      · rintro ⟨h1, h2, h3⟩
        by_cases h : x = i
        · exact .inl h
        · exact .inr ⟨by omega, by omega, h3⟩
theorem ascN_go {p : Int → Bool} : ∀ {d : Nat} {i b : Int}, b < i → i + d ≤ 64 → fewGo (ascN p d i) b = true
  | 0, i, b, _, _ => rfl
  | d + 1, i, b, h, h2 => by
    unfold ascN
    cases p i
    · exact ascN_go (by omega) (by omega)
    · simp only [cond_true, fewGo, Bool.and_eq_true, decide_eq_true_eq]
      exact ⟨by omega, ascN_go (by omega) (by omega)⟩
theorem fewGo_take : ∀ {n : Nat} {l : List Int} {b : Int}, fewGo l b = true → fewGo (l.take n) b = true
  | 0, l, b, _ => by simp [fewGo]
  | n + 1, [], b, _ => rfl
  | n + 1, x :: l, b, h => by
    simp only [fewGo, Bool.and_eq_true, List.take_succ_cons] at h ⊢
    exact ⟨h.1, fewGo_take h.2⟩
theorem fewGo_lt : ∀ {l : List Int} {b x : Int}, fewGo l b = true → x ∈ l → b < x ∧ x ≤ 63
  | [], b, x, _, h => by cases h
  | y :: l, b, x, h, hx => by
    simp only [fewGo, Bool.and_eq_true, decide_eq_true_eq] at h
    rcases List.mem_cons.1 hx with rfl | hx
    · exact h.1
    · have := fewGo_lt h.2 hx; omega
theorem fst6_form (p : Int → Bool) : fewB (fst6 p) = true := by
  unfold fewB fst6
  simp only [Bool.and_eq_true, decide_eq_true_eq]
  exact ⟨by rw [List.length_take]; omega, fewGo_take (ascN_go (by omega) (by omega))⟩
theorem asc_of : ∀ {d : Nat} {i b : Int} {l : List Int}, fewGo l b = true → b + 1 = i → i + d = 64 → l = ascN (fun k => l.contains k) d i
  | 0, i, b, l, h, hb, hi => by
    cases l with
    | nil => rfl
    | cons x l => have := fewGo_lt h (List.mem_cons_self ..); omega
  | d + 1, i, b, l, h, hb, hi => by
    unfold ascN
    by_cases hx : ∃ r, l = i :: r
    · obtain ⟨r, rfl⟩ := hx
      simp only [List.contains_cons, beq_self_eq_true, Bool.true_or, cond_true]
      simp only [fewGo, Bool.and_eq_true] at h
      have ih := asc_of (d := d) (i := i + 1) h.2 rfl (by omega)
      conv => lhs; rw [ih]
      congr 1
      refine ascN_congr fun k h1 h2 => ?_
      have : (k == i) = false := by simpa using (by omega : k ≠ i)
      simp only [List.contains_cons, this, Bool.false_or]
    · have hne : ∀ y ∈ l, i < y := by
        cases l with
        | nil => intro y hy; cases hy
        | cons x r =>
          have h1 := fewGo_lt h (List.mem_cons_self ..)
          have h2 : x ≠ i := fun e => hx ⟨r, by rw [e]⟩
          intro y hy
          simp only [fewGo, Bool.and_eq_true] at h
          rcases List.mem_cons.1 hy with rfl | hy
          · omega
          · have := fewGo_lt h.2 hy; omega
      have hc : l.contains i = false := by
        cases hl : l.contains i
        · rfl
        · have := hne i (List.contains_iff_mem.1 hl); omega
      simp only [hc, cond_false]
      have h' : fewGo l i = true := by
        cases l with
        | nil => rfl
        | cons x r =>
          simp only [fewGo, Bool.and_eq_true, decide_eq_true_eq] at h ⊢
          exact ⟨⟨hne x (List.mem_cons_self ..), h.1.2⟩, h.2⟩
      exact asc_of (d := d) (i := i + 1) h' rfl (by omega)
theorem form_fst6 {l : List Int} (h : fewB l = true) : l = fst6 fun k => l.contains k := by
  have h6 := six h
  unfold fewB at h
  simp only [Bool.and_eq_true] at h
  have := asc_of (d := 64) (i := 0) h.2 rfl rfl
  unfold fst6
  rw [← this, List.take_of_length_le h6]
theorem cutM_ne {m : Int} {l : List Int} (h : ∀ x ∈ l, m < x) : cutM m l = l := by
  cases l with
  | nil => rfl
  | cons x r =>
    have := h x (List.mem_cons_self ..)
    have : (x == m) = false := by simpa using (by omega : x ≠ m)
    simp only [cutM, this, cond_false]
theorem cutM_eq {m : Int} {l : List Int} : cutM m (m :: l) = l := by simp [cutM]
theorem merge_nil : ∀ {f : Nat}, mergeM f [] [] = []
  | 0 => rfl
  | f + 1 => rfl
theorem merge_asc {p q : Int → Bool} : ∀ {d : Nat} {i : Int} {f : Nat}, d ≤ f → mergeM f (ascN p d i) (ascN q d i) = ascN (fun k => p k || q k) d i
  | 0, i, f, h => merge_nil
  | d + 1, i, 0, h => by omega
  | d + 1, i, f + 1, h => by
    have ih := merge_asc (p := p) (q := q) (d := d) (i := i + 1) (f := f) (by omega)
    have ih' := merge_asc (p := p) (q := q) (d := d) (i := i + 1) (f := f + 1) (by omega)
    have gp : ∀ x ∈ ascN p d (i + 1), i < x := fun x hx => by have := (ascN_mem.1 hx).1; omega
    have gq : ∀ x ∈ ascN q d (i + 1), i < x := fun x hx => by have := (ascN_mem.1 hx).1; omega
    unfold ascN
    cases hp : p i <;> cases hq : q i <;> simp only [cond_true, cond_false, Bool.or_self, Bool.or_true, Bool.or_false, Bool.true_or, Bool.false_or]
    · exact ih'
    · have e : headM (ascN p d (i + 1)) (i :: ascN q d (i + 1)) = i := by
        cases hl : ascN p d (i + 1) with
        | nil => rfl
        | cons x r =>
          have : i < x := gp x (by rw [hl]; exact List.mem_cons_self ..)
          simp only [headM, this, if_true]
      show cond _ _ _ = _
      simp only [List.isEmpty_cons, Bool.and_false, cond_false, e, cutM_eq, cutM_ne gp, ih]
    · have e : headM (i :: ascN p d (i + 1)) (ascN q d (i + 1)) = i := by
        cases hl : ascN q d (i + 1) with
        | nil => rfl
        | cons x r =>
          have : ¬ x < i := by have := gq x (by rw [hl]; exact List.mem_cons_self ..); omega
          simp only [headM, this, if_false]
      show cond _ _ _ = _
      simp only [List.isEmpty_cons, Bool.false_and, cond_false, e, cutM_eq, cutM_ne gq, ih]
    · have e : headM (i :: ascN p d (i + 1)) (i :: ascN q d (i + 1)) = i := by simp [headM]
      show cond _ _ _ = _
      simp only [List.isEmpty_cons, Bool.and_self, cond_false, e, cutM_eq, ih]
theorem merge_take : ∀ {n f f' k k' : Nat} {a b : List Int}, n ≤ f → n ≤ f' → n ≤ k → n ≤ k' → (mergeM f a b).take n = (mergeM f' (a.take k) (b.take k')).take n
  | 0, _, _, _, _, _, _, _, _, _, _ => by simp
  | n + 1, f + 1, f' + 1, k + 1, k' + 1, a, b, h1, h2, h3, h4 => by
    have cut : ∀ (m : Int) (a : List Int) (k : Nat), n + 1 ≤ k + 1 → ∃ k2, n ≤ k2 ∧ cutM m (a.take (k + 1)) = (cutM m a).take k2 := by
      intro m a k hk
      cases a with
      | nil => exact ⟨k, by omega, by simp [cutM]⟩
      | cons x r =>
        cases hx : x == m
        · exact ⟨k + 1, by omega, by simp only [List.take_succ_cons, cutM, hx, cond_false]⟩
        · exact ⟨k, by omega, by simp only [List.take_succ_cons, cutM, hx, cond_true]⟩
    have hh : headM (a.take (k + 1)) (b.take (k' + 1)) = headM a b := by
      cases a <;> cases b <;> rfl
    have hb : ((a.take (k + 1)).isEmpty && (b.take (k' + 1)).isEmpty) = (a.isEmpty && b.isEmpty) := by
      cases a <;> cases b <;> rfl
    obtain ⟨k2, g1, e1⟩ := cut (headM a b) a k h3
    obtain ⟨k3, g2, e2⟩ := cut (headM a b) b k' h4
    unfold mergeM
    rw [hb, hh, e1, e2]
    cases (a.isEmpty && b.isEmpty)
    · simp only [cond_false, List.take_succ_cons]
      rw [merge_take (n := n) (f := f) (f' := f') (k := k2) (k' := k3) (by omega) (by omega) g1 g2]
    · rfl
theorem least_fst6 (p q : Int → Bool) : leastL (fst6 p) (fst6 q) = fst6 fun k => p k || q k := by
  unfold leastL fst6
  rw [← merge_take (n := 6) (f := 64) (f' := 12) (k := 6) (k' := 6) (by omega) (by omega) (by omega) (by omega), merge_asc (Nat.le_refl _)]
theorem fst6_ok (p q : Int → Bool) : leastOK (fst6 p) (fst6 q) = true := by
  have g : ∀ p, (fst6 p).length ≤ 6 ∧ (fst6 p).all (fun x => decide (x ≤ 63)) = true := fun p => by
    have h := fst6_form p
    refine ⟨six h, ?_⟩
    unfold fewB at h
    simp only [Bool.and_eq_true] at h
    rw [List.all_eq_true]
    intro x hx
    exact decide_eq_true (fewGo_lt h.2 hx).2
  unfold leastOK
  simp only [(g p).1, (g q).1, (g p).2, (g q).2, decide_true, Bool.and_self]
theorem putM_done {m : Int} : ∀ {l : List Int}, (∀ x ∈ l, m < x) → putM m l true = l
  | [], _ => rfl
  | x :: r, h => by
    have : (x != m) = true := by simpa using (by have := h x (List.mem_cons_self ..); omega : x ≠ m)
    unfold putM
    simp only [Bool.not_true, Bool.false_and, cond_false, this, cond_true, putM_done fun y hy => h y (List.mem_cons_of_mem _ hy)]
theorem merge_right : ∀ {l : List Int} {f : Nat}, l.length ≤ f → mergeM f l [] = l
  | [], f, _ => merge_nil
  | x :: r, 0, h => by simp at h
  | x :: r, f + 1, h => by
    show cond _ _ _ = _
    simp only [List.isEmpty_cons, Bool.false_and, cond_false, headM, cutM_eq]
    rw [show cutM x ([] : List Int) = [] from rfl, merge_right (by simpa using h)]
theorem put_merge {m : Int} : ∀ {l : List Int} {b : Int} {f : Nat}, fewGo l b = true → l.length + 1 ≤ f → putM m l false = mergeM f l [m]
  | [], b, 0, _, h => by omega
  | [], b, f + 1, _, h => by
    show [m] = cond _ _ _
    simp only [List.isEmpty_cons, Bool.and_false, cond_false, headM, cutM_eq]
    rw [show cutM m ([] : List Int) = [] from rfl, merge_nil]
  | x :: r, b, 0, _, h => by omega
  | x :: r, b, f + 1, hg, h => by
    simp only [fewGo, Bool.and_eq_true] at hg
    simp only [List.length_cons] at h
    have gr : ∀ y ∈ r, x < y := fun y hy => (fewGo_lt hg.2 hy).1
    unfold putM
    show _ = cond _ _ _
    simp only [List.isEmpty_cons, Bool.and_self, cond_false, headM, Bool.not_false, Bool.true_and]
    by_cases c1 : x ≥ m
    · by_cases c2 : x = m
      · subst c2
        have e : ¬ x < x := by omega
        simp only [c1, decide_true, cond_true, bne_self_eq_false, cond_false, putM_done gr, e, if_false, cutM_eq]
        rw [merge_right (by omega)]
      · have e1 : (x != m) = true := by simpa using c2
        have e2 : m < x := by omega
        have e3 : (x == m) = false := by simpa using c2
        simp only [c1, decide_true, cond_true, e1, putM_done (fun y hy => Int.lt_trans e2 (gr y hy)), e2, if_true, cutM_eq]
        rw [show cutM m (x :: r) = x :: r from by simp only [cutM, e3, cond_false], merge_right (by simp; omega)]
    · have e1 : (x != m) = true := by simpa using (by omega : x ≠ m)
      have e2 : ¬ m < x := by omega
      have e3 : (m == x) = false := by simpa using (by omega : m ≠ x)
      simp only [c1, decide_false, cond_false, e1, cond_true, e2, if_false, cutM_eq]
      rw [show cutM x [m] = [m] from by simp only [cutM, e3, cond_false], put_merge (f := f) hg.2 (by omega)]
theorem one_asc {m : Int} : ∀ {d : Nat} {i : Int}, i ≤ m → m < i + d → ascN (fun k => k == m) d i = [m]
  | 0, i, h1, h2 => by omega
  | d + 1, i, h1, h2 => by
    unfold ascN
    by_cases h : i = m
    · subst h
      have none : ∀ {d : Nat} {j : Int}, i < j → ascN (fun k => k == i) d j = [] := by
        intro d
        induction d with
        | zero => intro j _; rfl
        | succ d ih =>
          intro j hj
          unfold ascN
          have : (j == i) = false := by simpa using (by omega : j ≠ i)
          simp only [this, cond_false, ih (by omega : i < j + 1)]
      simp only [beq_self_eq_true, cond_true, none (by omega : i < i + 1)]
    · have : (i == m) = false := by simpa using h
      simp only [this, cond_false]
      exact one_asc (by omega) (by omega)
theorem one_fst6 {m : Int} (h0 : 0 ≤ m) (h1 : m ≤ 63) : fst6 (fun k => k == m) = [m] := by
  unfold fst6
  rw [one_asc h0 (by omega)]; rfl
theorem few6_least {l : List Int} {m : Int} (h : fewB l = true) (h0 : 0 ≤ m) (h1 : m ≤ 63) : few6 l m = leastL l [m] := by
  have h6 := six h
  unfold fewB at h
  simp only [Bool.and_eq_true] at h
  unfold few6 leastL
  rw [put_merge h.2 (f := 12) (by omega)]
theorem few6_fst6 (p : Int → Bool) {m : Int} (h0 : 0 ≤ m) (h1 : m ≤ 63) : few6 (fst6 p) m = fst6 fun k => p k || k == m := by
  rw [few6_least (fst6_form p) h0 h1, ← one_fst6 h0 h1, least_fst6]
theorem mark_rng {t : Int} (h : thingB t = true) : 0 ≤ mark t ∧ mark t ≤ 63 := by
  have := thing_le h
  unfold mark
  rw [h, cond_true]
  have e1 : w64 (t * 37) = t * 37 := by rw [w64_id] <;> omega
  have e2 : w64 (t * 37 + 11) = t * 37 + 11 := by rw [w64_id] <;> omega
  rw [e1, e2, Int.tmod_eq_emod_of_nonneg (by omega)]
  omega
theorem implFewAdd_eq (f : Nat) (l : List Int) (t : Int) (hf : 8 < f) : impl_FewAdd_fn f ((l, ()), (t, ()), ()) = some (((fewAdd l t).1, ()), ((fewAdd l t).2, ()), ()) := by
  show impl_FewAdd_pre f l t = _
  unfold impl_FewAdd_pre fewAdd
  simp only [implFew_eq f l hf, thing_eq, implMark_eq, Option.bind_some]
  cases h : fewB l
  · rfl
  cases ht : thingB t
  · rfl
  have hm := mark_rng ht
  have ok : leastOK l [mark t] = true := by
    rw [form_fst6 h, ← one_fst6 hm.1 hm.2]; exact fst6_ok _ _
  have : impl_leastOf_fn f ((l, ()), ([mark t], ()), ()) = some ((leastL l [mark t], ()), ()) := by
    show cond (leastOK l [mark t]) _ _ = _
    rw [ok]; rfl
  simp only [Bool.not_true, cond_false, this, Option.bind_some, Bool.and_self, cond_true, few6_least h hm.1 hm.2]
end Go.Proofs.YtdgdoeknpakmlaaGreat.Den
namespace Go.Proofs.YtdgdoeknpakmlaaGreat.Den
open Go
set_option linter.unusedVariables false
set_option linter.unusedSimpArgs false
theorem zip_getD {a b : List Int} {i : Nat} (ha : i < a.length) (hb : i < b.length) : (List.zip a b).getD i (0, 0) = (a.getD i 0, b.getD i 0) := by
  rw [List.getD_eq_getElem?_getD, List.getD_eq_getElem?_getD, List.getD_eq_getElem?_getD, List.getElem?_eq_getElem ha, List.getElem?_eq_getElem hb,
    List.getElem?_eq_getElem (by rw [List.length_zip]; omega), List.getElem_zip]
  rfl
theorem joinInts_eq (f : Nat) (a b : List Int) (ha : a.length = 8) (hb : b.length = 8) (hf : 8 < f) : impl_joinRows_int_fn f (a, b, ()) = some (zipAdd a b, ()) := by
  show impl_joinRows_int_pre f (iter (impl_joinRows_int_st0 f) f) a b = _
  unfold impl_joinRows_int_pre
  have hz : (List.zip a b).length = 8 := by rw [List.length_zip]; omega
  have h1 : (8 : Nat) < LIM := by simp only [LIM]; omega
  simp only [zz_eq, ha, List.length_replicate, Int.toNat_natCast, Int.natCast_nonneg, Int.le_refl, h1, decide_true, cond_true]
  have := iter_fill0 (st := impl_joinRows_int_st0 f) (enc := fun i out => ((i : Int), ((8 : Nat) : Int), a, b, out)) (fun out => some (out, ())) (List.zip a b) (0, 0) (fun p => w64 (p.1 + p.2)) ?_ ?_ f 0 (by omega)
  · rw [hz] at this
    refine this.trans ?_
    rw [List.map_zip_eq_zipWith]
    rfl
  · intro i out g hi ho
    show impl_joinRows_int_step0 f g _ = _
    unfold impl_joinRows_int_step0
    have l1 : i < a.length := by omega
    have l2 : i < b.length := by omega
    have l3 : i < out.length := by omega
    have l4 : i < 8 := by omega
    have e : ∀ x y : Int, impl_plus_fn f ((x, ()), (y, ()), ()) = some ((w64 (x + y), ()), ()) := fun _ _ => rfl
    simp only [zz_eq, lt_cast l1, lt_cast l2, lt_cast l3, lt_cast l4, l3, le_cast, decide_true, cond_true, Int.toNat_natCast, w64_up (show i < 4294967296 by omega), e, Option.bind_some, zip_getD l1 l2]
  · intro out g
    show impl_joinRows_int_step0 f g _ = _
    unfold impl_joinRows_int_step0
    simp only [hz, nlt_cast, decide_false, cond_false]
theorem roughSum_eq (f : Nat) {a b c a' b' c' : List Int} (ha : a.length = 8) (hb : b.length = 8) (hc : c.length = 8) (ha' : a'.length = 8) (hb' : b'.length = 8) (hc' : c'.length = 8) (hf : 8 < f) :
    impl_roughSum_fn f (([a, b, c], ()), ([a', b', c'], ()), ()) = some (([zipAdd a a', zipAdd b b', zipAdd c c'], ()), ()) := by
  have e : ∀ x y : List Int, x.length = 8 → y.length = 8 → impl_roughSum_1_fn f ((x, ()), (y, ()), ()) = some ((zipAdd x y, ()), ()) := fun x y h h' => by
    show impl_roughSum_1_pre f x y = _
    unfold impl_roughSum_1_pre
    rw [joinInts_eq f x y h h' hf]; rfl
  show impl_roughSum_pre f [a, b, c] [a', b', c'] = _
  unfold impl_roughSum_pre
  have : impl_joinRows_ints_fn f ([a, b, c], [a', b', c'], ()) = some ([zipAdd a a', zipAdd b b', zipAdd c c'], ()) := by
    show impl_joinRows_ints_pre f a b c a' b' c' = _
    unfold impl_joinRows_ints_pre
    rw [e a a' ha ha', Option.bind_some, e b b' hb hb', Option.bind_some, e c c' hc hc']; rfl
  rw [this]; rfl
theorem zipAdd_zero {a : List Int} (h : a.length = 8) (hr : ∀ x ∈ a, 0 ≤ x ∧ x ≤ 2000) : zipAdd a (List.replicate 8 0) = a := by
  have gen : ∀ (n : Nat) (a : List Int), a.length = n → (∀ x ∈ a, 0 ≤ x ∧ x ≤ 2000) → zipAdd a (List.replicate n 0) = a := by
    intro n
    induction n with
    | zero => intro a h _; rw [List.length_eq_zero_iff.1 h]; rfl
    | succ n ih =>
      intro a h hr
      cases a with
      | nil => simp at h
      | cons x a =>
        have e1 := ih a (by simpa using h) (fun y hy => hr y (List.mem_cons_of_mem _ hy))
        have e2 : w64 (x + 0) = x := by have := hr x (List.mem_cons_self ..); rw [w64_id] <;> omega
        show w64 (x + 0) :: zipAdd a (List.replicate n 0) = _
        rw [e1, e2]
  exact gen 8 a h hr
theorem row_all {a : List Int} (h : rowB a = true) : ∀ x ∈ a, 0 ≤ x ∧ x ≤ 2000 := by
  unfold rowB at h
  simp only [Bool.and_eq_true, List.all_eq_true] at h
  intro x hx
  have := h.2.1 x hx
  unfold rng at this
  simpa using this
theorem implRoughAdd_eq (f : Nat) (rs : List (List Int)) (t n : Int) (hf : 8 < f) : impl_RoughAdd_fn f ((rs, ()), (t, ()), (n, ()), ()) = some (((roughAdd rs t n).1, ()), ((roughAdd rs t n).2, ()), ()) := by
  show impl_RoughAdd_pre f rs t n = _
  unfold impl_RoughAdd_pre roughAdd
  simp only [implRough_eq f rs hf, thing_eq, Option.bind_some, implAll_eq f rs hf]
  cases h : roughB rs
  · rfl
  cases ht : thingB t
  · rfl
  have hA : allR rs = isum (rs.getD 0 []) := by unfold allR; rw [h]; rfl
  rw [hA]
  obtain ⟨a, b, c, rfl, ha, hb, hc, -, -⟩ := rough_rows h
  have l0 := row_len ha
  have l1 := row_len hb
  have l2 := row_len hc
  simp only [Bool.not_true, cond_false, List.getD_cons_zero, Bool.true_and]
  by_cases c0 : n < 0
  · have : ¬ (0 ≤ n ∧ n ≤ w64 (2000 - isum a)) := by omega
    simp only [c0, this, decide_true, decide_false, cond_true, cond_false]
  by_cases c1 : n > w64 (2000 - isum a)
  · have : ¬ (0 ≤ n ∧ n ≤ w64 (2000 - isum a)) := by omega
    simp only [c0, c1, this, decide_true, decide_false, cond_true, cond_false]
  have cn : 0 ≤ n ∧ n ≤ w64 (2000 - isum a) := by omega
  have p0 := implPlace_eq f 0 t (by omega) ht
  have p1 := implPlace_eq f 1 t (by omega) ht
  have p2 := implPlace_eq f 2 t (by omega) ht
  rw [show ((0 : Nat) : Int) = 0 from rfl] at p0
  rw [show ((1 : Nat) : Int) = 1 from rfl] at p1
  rw [show ((2 : Nat) : Int) = 2 from rfl] at p2
  have q0 := pl_lt 0 t
  have q1 := pl_lt 1 t
  have q2 := pl_lt 2 t
  have z0 : (pl 0 t : Int) < 8 := by omega
  have z1 : (pl 1 t : Int) < 8 := by omega
  have z2 : (pl 2 t : Int) < 8 := by omega
  have new : impl_RoughNew_fn f () = some (([List.replicate 8 0, List.replicate 8 0, List.replicate 8 0], ()), ()) := rfl
  have s := roughSum_eq f l0 l1 l2 (a' := List.replicate 8 0) (b' := List.replicate 8 0) (c' := List.replicate 8 0) (by simp) (by simp) (by simp) hf
  rw [zipAdd_zero l0 (row_all ha), zipAdd_zero l1 (row_all hb), zipAdd_zero l2 (row_all hc)] at s
  have d1 : ([a, b, c] : List (List Int)).getD 1 [] = b := rfl
  have d2 : ([a, b, c] : List (List Int)).getD 2 [] = c := rfl
  simp only [c0, c1, cn, and_self, decide_true, decide_false, cond_true, cond_false, new, Option.bind_some, s, p0, p1, p2, List.getD_cons_zero, d1, d2, zz_eq, l0, l1, l2, le_cast, show ((8 : Nat) : Int) = 8 from rfl, z0, z1, z2, q0, q1, q2, Int.toNat_natCast]
  rfl
end Go.Proofs.YtdgdoeknpakmlaaGreat.Den
namespace Go.Proofs.YtdgdoeknpakmlaaGreat.Den
open Go
set_option linter.unusedVariables false
set_option linter.unusedSimpArgs false
def revIns (key : Knot → Int) (x : Knot) : List Knot → List Knot
  | [] => [x]
  | y :: r => cond (decide (key x < key y)) (y :: revIns key x r) (x :: y :: r)
def sortR (key : Knot → Int) : List Knot → List Knot → List Knot
  | R, [] => R
  | R, x :: S => sortR key (revIns key x R) S
def isort (key : Knot → Int) (l : List Knot) : List Knot := (sortR key [] l).reverse
def kT (x : Knot) : Int := x.1
def kN (x : Knot) : Int := - x.2.1
theorem revIns_perm (key : Knot → Int) (x : Knot) : ∀ (R : List Knot), (revIns key x R).Perm (x :: R)
  | [] => List.Perm.refl _
  | y :: r => by
    unfold revIns
    cases decide (key x < key y)
    · exact List.Perm.refl _
    · exact ((revIns_perm key x r).cons y).trans (List.Perm.swap x y r)
theorem sortR_perm (key : Knot → Int) : ∀ (T R : List Knot), (sortR key R T).Perm (R ++ T)
  | [], R => by rw [List.append_nil]; exact List.Perm.refl _
  | x :: S, R => (sortR_perm key S (revIns key x R)).trans (((revIns_perm key x R).append_right S).trans (List.perm_middle (a := x) (l₁ := R) (l₂ := S)).symm)
theorem isort_perm (key : Knot → Int) (l : List Knot) : (isort key l).Perm l := (List.reverse_perm _).trans (sortR_perm key l [])
theorem revIns_down (key : Knot → Int) (x : Knot) : ∀ (R : List Knot), R.Pairwise (fun a b => key b ≤ key a) → (revIns key x R).Pairwise (fun a b => key b ≤ key a)
  | [], _ => by simp [revIns]
  | y :: r, h => by
    have h' := List.pairwise_cons.1 h
    unfold revIns
    by_cases c : key x < key y
    · simp only [c, decide_true, cond_true]
      refine List.pairwise_cons.2 ⟨fun z hz => ?_, revIns_down key x r h'.2⟩
      rcases List.mem_cons.1 ((revIns_perm key x r).mem_iff.1 hz) with rfl | hz
      · omega
      · exact h'.1 z hz
    · simp only [c, decide_false, cond_false]
      refine List.pairwise_cons.2 ⟨fun z hz => ?_, h⟩
      rcases List.mem_cons.1 hz with rfl | hz
      · omega
      · have := h'.1 z hz; omega
theorem sortR_down (key : Knot → Int) : ∀ (T R : List Knot), R.Pairwise (fun a b => key b ≤ key a) → (sortR key R T).Pairwise (fun a b => key b ≤ key a)
  | [], R, h => h
  | x :: S, R, h => sortR_down key S _ (revIns_down key x R h)
theorem isort_up (key : Knot → Int) (l : List Knot) : (isort key l).Pairwise (fun a b => key a ≤ key b) := by
  unfold isort
  rw [List.pairwise_reverse]
  exact sortR_down key l [] List.Pairwise.nil
theorem isort_len (key : Knot → Int) (l : List Knot) : (isort key l).length = l.length := (isort_perm key l).length_eq
theorem mid_set {α : Type} {x y : α} {r : List α} : ∀ {p : List α} {n : Nat}, n = p.length → (p ++ x :: r).set n y = p ++ y :: r
  | [], _, rfl => rfl
  | z :: p, _, rfl => by show z :: (p ++ x :: r).set p.length y = _; rw [mid_set rfl]; rfl
theorem mid_getD {α : Type} {x d : α} {r : List α} : ∀ {p : List α} {n : Nat}, n = p.length → (p ++ x :: r).getD n d = x
  | [], _, rfl => rfl
  | z :: p, _, rfl => by show (p ++ x :: r).getD p.length d = _; rw [mid_getD rfl]
theorem cmp_eq (f : Nat) (a b : Int) : cmp_Compare_int_fn f ((a, ()), (b, ()), ()) = some ((if a < b then -1 else if a > b then 1 else 0, ()), ()) := by
  show cmp_Compare_int_pre f a b = _
  unfold cmp_Compare_int_pre
  have e : ∀ x : Int, cmp_isNaN_int_fn f ((x, ()), ()) = some ((false, ()), ()) := fun x => by
    show some (((x != x, ()), ())) = _
    simp
  simp only [e, Option.bind_some, cond_false]
  by_cases c1 : a < b
  · simp [c1]
  · by_cases c2 : a > b
    · simp [c1, c2]
    · simp [c1, c2]
theorem cmp_lt {a b : Int} : decide ((if a < b then (-1 : Int) else if a > b then 1 else 0) < 0) = decide (a < b) := by
  by_cases c1 : a < b
  · simp [c1]
  · by_cases c2 : a > b
    · simp [c1, c2]
    · simp [c1, c2]
theorem len_some (f n : Nat) (h : n < 13) : ∃ v, math_bits_Len_fn f ((IntKind.wrap .u64 (zz n), ()), ()) = some v := by
  have : ∀ n, n < 13 → (math_bits_Len_fn f ((IntKind.wrap .u64 (zz n), ()), ())).isSome = true := fun n h =>
    match n, h with
    | 0, _ => by kernel_rfl
    | 1, _ => by kernel_rfl
    | 2, _ => by kernel_rfl
    | 3, _ => by kernel_rfl
    | 4, _ => by kernel_rfl
    | 5, _ => by kernel_rfl
    | 6, _ => by kernel_rfl
    | 7, _ => by kernel_rfl
    | 8, _ => by kernel_rfl
    | 9, _ => by kernel_rfl
    | 10, _ => by kernel_rfl
    | 11, _ => by kernel_rfl
    | 12, _ => by kernel_rfl
    | n + 13, h => by omega
  exact Option.isSome_iff_exists.1 (this n h)
theorem byv0 (f : Nat) (x y : Knot) : impl_Pair_byThing_fn f ((x.1, x.2.1, ()), (y.1, y.2.1, ()), ()) = some ((if x.1 < y.1 then -1 else if x.1 > y.1 then 1 else 0, ()), ()) := by
  show impl_Pair_byThing_pre f x.1 x.2.1 y.1 y.2.1 = _
  unfold impl_Pair_byThing_pre
  rw [cmp_eq]; rfl
theorem keyv0 (x y : Knot) : decide (x.1 < y.1) = decide (kT x < kT y) := by
  unfold kT
  by_cases h : x.1 < y.1
  · have : x.1 < y.1 := by omega
    simp [h, this]
  · have : ¬ x.1 < y.1 := by omega
    simp [h, this]
theorem ins_loopv0 (f : Nat) (g0 : slices_insertionSortCmpFunc_impl_Pair_v0_V0 → slices_insertionSortCmpFunc_impl_Pair_v0_R) : ∀ (R : List Knot) (x : Knot) (S : List Knot) (i b : Int) (fuel : Nat), R.length < fuel → R.length + S.length < 1000 →
    iter (slices_insertionSortCmpFunc_impl_Pair_v0_st1 f g0) fuel ((R.length : Int), (0 : Int), i, b, R.reverse ++ x :: S) = g0 (w64 (i + 1), b, (0 : Int), (revIns kT x R).reverse ++ S)
  | _, _, _, _, _, 0, h, _ => by omega
  | [], x, S, i, b, fuel + 1, _, hl => by
    rw [iter]
    show slices_insertionSortCmpFunc_impl_Pair_v0_step1 f g0 _ _ = _
    unfold slices_insertionSortCmpFunc_impl_Pair_v0_step1
    rfl
  | y :: r, x, S, i, b, fuel + 1, hf, hl => by
    simp only [List.length_cons] at hf hl
    rw [iter]
    show slices_insertionSortCmpFunc_impl_Pair_v0_step1 f g0 _ _ = _
    unfold slices_insertionSortCmpFunc_impl_Pair_v0_step1
    have ed : (y :: r).reverse ++ x :: S = r.reverse ++ y :: x :: S := by simp
    have ed2 : (y :: r).reverse ++ x :: S = (r.reverse ++ [y]) ++ x :: S := by simp
    have en : w64 (((r.length + 1 : Nat) : Int) - 1) = (r.length : Int) := by rw [w64_id] <;> omega
    have ln : ((y :: r).reverse ++ x :: S).length = r.length + S.length + 2 := by simp; omega
    have gx : ((y :: r).reverse ++ x :: S).getD (r.length + 1) (0, 0, ()) = x := by rw [ed2]; exact mid_getD (by rw [List.length_append, List.length_reverse, List.length_singleton])
    have gy : ((y :: r).reverse ++ x :: S).getD r.length (0, 0, ()) = y := by rw [ed]; exact mid_getD (by rw [List.length_reverse])
    have st : (((y :: r).reverse ++ x :: S).set (r.length + 1) (y.1, y.2.1, ())).set r.length (x.1, x.2.1, ()) = r.reverse ++ x :: y :: S := by
      rw [ed2, mid_set (by rw [List.length_append, List.length_reverse, List.length_singleton]), List.append_assoc]
      exact mid_set (by rw [List.length_reverse])
    have c0 : decide (((r.length + 1 : Nat) : Int) > 0) = true := decide_eq_true (by omega)
    have l1 : r.length + 1 < r.length + S.length + 2 := by omega
    have l2 : r.length < r.length + S.length + 2 := by omega
    have ih := ins_loopv0 f g0 r x (y :: S) i b fuel (by omega) (by simp; omega)
    have en1 : (((y :: r).length : Nat) : Int) = ((r.length + 1 : Nat) : Int) := rfl
    simp only [en1, c0, en, cond_true, zz_eq, ln, List.length_set, le_cast, lt_cast l1, lt_cast l2, l1, l2, decide_true, Int.toNat_natCast, gx, gy, byv0, Option.bind_some, cmp_lt, keyv0, st]
    unfold revIns
    cases decide (kT x < kT y)
    · simp only [cond_false]; simp
    · simp only [cond_true]
      refine ih.trans ?_
      simp
theorem outer_loopv0 (f : Nat) (hf : 1000 < f) (n : Nat) (hn : n < 1000) : ∀ (T R : List Knot) (fuel : Nat), R.length + T.length = n → T.length < fuel →
    iter (slices_insertionSortCmpFunc_impl_Pair_v0_st0 f) fuel ((R.length : Int), (n : Int), (0 : Int), R.reverse ++ T) = some ((sortR kT R T).reverse, ())
  | _, _, 0, _, h => by omega
  | [], R, fuel + 1, hl, _ => by
    rw [iter]
    show slices_insertionSortCmpFunc_impl_Pair_v0_step0 f _ _ _ = _
    unfold slices_insertionSortCmpFunc_impl_Pair_v0_step0
    simp only [List.length_nil, Nat.add_zero] at hl
    subst hl
    simp only [nlt_cast, decide_false, cond_false, List.append_nil]
    rfl
  | x :: S, R, fuel + 1, hl, hfu => by
    simp only [List.length_cons] at hl hfu
    rw [iter]
    show slices_insertionSortCmpFunc_impl_Pair_v0_step0 f _ _ _ = _
    unfold slices_insertionSortCmpFunc_impl_Pair_v0_step0
    have l1 : R.length < n := by omega
    simp only [lt_cast l1, decide_true, cond_true]
    rw [ins_loopv0 f _ R x S _ _ f (by omega) (by omega), w64_up (by omega)]
    have hr : (revIns kT x R).length = R.length + 1 := (revIns_perm kT x R).length_eq
    have ih := outer_loopv0 f hf n hn S (revIns kT x R) fuel (by omega) (by omega)
    rw [hr] at ih
    exact ih
theorem insertionv0 (f : Nat) (hf : 1000 < f) (l : List Knot) (hl : l.length < 1000) : slices_insertionSortCmpFunc_impl_Pair_v0_fn f (l, (), (0 : Int), (l.length : Int), ()) = some (isort kT l, ()) := by
  show iter (slices_insertionSortCmpFunc_impl_Pair_v0_st0 f) f (w64 (0 + 1), (l.length : Int), (0 : Int), l) = _
  rw [show w64 (0 + 1) = (1 : Int) from by decide]
  cases l with
  | nil =>
    obtain ⟨g, rfl⟩ : ∃ g, f = g + 1 := ⟨f - 1, by omega⟩
    rw [iter]
    show slices_insertionSortCmpFunc_impl_Pair_v0_step0 _ _ _ _ = _
    unfold slices_insertionSortCmpFunc_impl_Pair_v0_step0
    rfl
  | cons x T =>
    simp only [List.length_cons] at hl
    exact outer_loopv0 f hf (T.length + 1) hl T [x] f (by simp; omega) (by omega)
theorem sortv0 (f : Nat) (hf : 1000 < f) (l : List Knot) (hl : l.length < 13) : impl_sortPairs_v0_fn f (l, (), ()) = some (isort kT l, ()) := by
  have e1 := insertionv0 f hf l (by omega)
  obtain ⟨v, hv⟩ := len_some f l.length hl
  have e2 : ∀ m : Int, slices_pdqsortCmpFunc_impl_Pair_v0_fn f (l, (), (0 : Int), (l.length : Int), m, ()) = some (isort kT l, ()) := fun m => by
    show iter (slices_pdqsortCmpFunc_impl_Pair_v0_st0 f) f _ = _
    obtain ⟨g, hg⟩ : ∃ g, f = g + 1 := ⟨f - 1, by omega⟩
    conv => lhs; arg 2; rw [hg]
    rw [iter]
    show slices_pdqsortCmpFunc_impl_Pair_v0_step0 f _ _ = _
    unfold slices_pdqsortCmpFunc_impl_Pair_v0_step0
    have : decide (w64 ((l.length : Int) - 0) ≤ (12 : Int)) = true := decide_eq_true (by rw [w64_id] <;> omega)
    show cond (decide (w64 ((l.length : Int) - 0) ≤ (12 : Int))) (Option.bind (slices_insertionSortCmpFunc_impl_Pair_v0_fn f (l, (), (0 : Int), (l.length : Int), ())) _) _ = _
    rw [this, e1]; rfl
  have e3 : slices_SortFunc_impl_Pair_impl_Pair_v0_fn f (l, (), ()) = some (isort kT l, ()) := by
    show slices_SortFunc_impl_Pair_impl_Pair_v0_pre f l = _
    unfold slices_SortFunc_impl_Pair_impl_Pair_v0_pre
    rw [hv, Option.bind_some, zz_eq, e2]; rfl
  show impl_sortPairs_v0_pre f l = _
  unfold impl_sortPairs_v0_pre
  rw [e3]; rfl
theorem byv1 (f : Nat) (x y : Knot) : impl_Pair_byNum_fn f ((x.1, x.2.1, ()), (y.1, y.2.1, ()), ()) = some ((if y.2.1 < x.2.1 then -1 else if y.2.1 > x.2.1 then 1 else 0, ()), ()) := by
  show impl_Pair_byNum_pre f x.1 x.2.1 y.1 y.2.1 = _
  unfold impl_Pair_byNum_pre
  rw [cmp_eq]; rfl
theorem keyv1 (x y : Knot) : decide (y.2.1 < x.2.1) = decide (kN x < kN y) := by
  unfold kN
  by_cases h : y.2.1 < x.2.1
  · have : -x.2.1 < -y.2.1 := by omega
    simp [h, this]
  · have : ¬ -x.2.1 < -y.2.1 := by omega
    simp [h, this]
theorem ins_loopv1 (f : Nat) (g0 : slices_insertionSortCmpFunc_impl_Pair_v1_V0 → slices_insertionSortCmpFunc_impl_Pair_v1_R) : ∀ (R : List Knot) (x : Knot) (S : List Knot) (i b : Int) (fuel : Nat), R.length < fuel → R.length + S.length < 1000 →
    iter (slices_insertionSortCmpFunc_impl_Pair_v1_st1 f g0) fuel ((R.length : Int), (0 : Int), i, b, R.reverse ++ x :: S) = g0 (w64 (i + 1), b, (0 : Int), (revIns kN x R).reverse ++ S)
  | _, _, _, _, _, 0, h, _ => by omega
  | [], x, S, i, b, fuel + 1, _, hl => by
    rw [iter]
    show slices_insertionSortCmpFunc_impl_Pair_v1_step1 f g0 _ _ = _
    unfold slices_insertionSortCmpFunc_impl_Pair_v1_step1
    rfl
  | y :: r, x, S, i, b, fuel + 1, hf, hl => by
    simp only [List.length_cons] at hf hl
    rw [iter]
    show slices_insertionSortCmpFunc_impl_Pair_v1_step1 f g0 _ _ = _
    unfold slices_insertionSortCmpFunc_impl_Pair_v1_step1
    have ed : (y :: r).reverse ++ x :: S = r.reverse ++ y :: x :: S := by simp
    have ed2 : (y :: r).reverse ++ x :: S = (r.reverse ++ [y]) ++ x :: S := by simp
    have en : w64 (((r.length + 1 : Nat) : Int) - 1) = (r.length : Int) := by rw [w64_id] <;> omega
    have ln : ((y :: r).reverse ++ x :: S).length = r.length + S.length + 2 := by simp; omega
    have gx : ((y :: r).reverse ++ x :: S).getD (r.length + 1) (0, 0, ()) = x := by rw [ed2]; exact mid_getD (by rw [List.length_append, List.length_reverse, List.length_singleton])
    have gy : ((y :: r).reverse ++ x :: S).getD r.length (0, 0, ()) = y := by rw [ed]; exact mid_getD (by rw [List.length_reverse])
    have st : (((y :: r).reverse ++ x :: S).set (r.length + 1) (y.1, y.2.1, ())).set r.length (x.1, x.2.1, ()) = r.reverse ++ x :: y :: S := by
      rw [ed2, mid_set (by rw [List.length_append, List.length_reverse, List.length_singleton]), List.append_assoc]
      exact mid_set (by rw [List.length_reverse])
    have c0 : decide (((r.length + 1 : Nat) : Int) > 0) = true := decide_eq_true (by omega)
    have l1 : r.length + 1 < r.length + S.length + 2 := by omega
    have l2 : r.length < r.length + S.length + 2 := by omega
    have ih := ins_loopv1 f g0 r x (y :: S) i b fuel (by omega) (by simp; omega)
    have en1 : (((y :: r).length : Nat) : Int) = ((r.length + 1 : Nat) : Int) := rfl
    simp only [en1, c0, en, cond_true, zz_eq, ln, List.length_set, le_cast, lt_cast l1, lt_cast l2, l1, l2, decide_true, Int.toNat_natCast, gx, gy, byv1, Option.bind_some, cmp_lt, keyv1, st]
    unfold revIns
    cases decide (kN x < kN y)
    · simp only [cond_false]; simp
    · simp only [cond_true]
      refine ih.trans ?_
      simp
theorem outer_loopv1 (f : Nat) (hf : 1000 < f) (n : Nat) (hn : n < 1000) : ∀ (T R : List Knot) (fuel : Nat), R.length + T.length = n → T.length < fuel →
    iter (slices_insertionSortCmpFunc_impl_Pair_v1_st0 f) fuel ((R.length : Int), (n : Int), (0 : Int), R.reverse ++ T) = some ((sortR kN R T).reverse, ())
  | _, _, 0, _, h => by omega
  | [], R, fuel + 1, hl, _ => by
    rw [iter]
    show slices_insertionSortCmpFunc_impl_Pair_v1_step0 f _ _ _ = _
    unfold slices_insertionSortCmpFunc_impl_Pair_v1_step0
    simp only [List.length_nil, Nat.add_zero] at hl
    subst hl
    simp only [nlt_cast, decide_false, cond_false, List.append_nil]
    rfl
  | x :: S, R, fuel + 1, hl, hfu => by
    simp only [List.length_cons] at hl hfu
    rw [iter]
    show slices_insertionSortCmpFunc_impl_Pair_v1_step0 f _ _ _ = _
    unfold slices_insertionSortCmpFunc_impl_Pair_v1_step0
    have l1 : R.length < n := by omega
    simp only [lt_cast l1, decide_true, cond_true]
    rw [ins_loopv1 f _ R x S _ _ f (by omega) (by omega), w64_up (by omega)]
    have hr : (revIns kN x R).length = R.length + 1 := (revIns_perm kN x R).length_eq
    have ih := outer_loopv1 f hf n hn S (revIns kN x R) fuel (by omega) (by omega)
    rw [hr] at ih
    exact ih
theorem insertionv1 (f : Nat) (hf : 1000 < f) (l : List Knot) (hl : l.length < 1000) : slices_insertionSortCmpFunc_impl_Pair_v1_fn f (l, (), (0 : Int), (l.length : Int), ()) = some (isort kN l, ()) := by
  show iter (slices_insertionSortCmpFunc_impl_Pair_v1_st0 f) f (w64 (0 + 1), (l.length : Int), (0 : Int), l) = _
  rw [show w64 (0 + 1) = (1 : Int) from by decide]
  cases l with
  | nil =>
    obtain ⟨g, rfl⟩ : ∃ g, f = g + 1 := ⟨f - 1, by omega⟩
    rw [iter]
    show slices_insertionSortCmpFunc_impl_Pair_v1_step0 _ _ _ _ = _
    unfold slices_insertionSortCmpFunc_impl_Pair_v1_step0
    rfl
  | cons x T =>
    simp only [List.length_cons] at hl
    exact outer_loopv1 f hf (T.length + 1) hl T [x] f (by simp; omega) (by omega)
theorem sortv1 (f : Nat) (hf : 1000 < f) (l : List Knot) (hl : l.length < 13) : impl_sortPairs_v1_fn f (l, (), ()) = some (isort kN l, ()) := by
  have e1 := insertionv1 f hf l (by omega)
  obtain ⟨v, hv⟩ := len_some f l.length hl
  have e2 : ∀ m : Int, slices_pdqsortCmpFunc_impl_Pair_v1_fn f (l, (), (0 : Int), (l.length : Int), m, ()) = some (isort kN l, ()) := fun m => by
    show iter (slices_pdqsortCmpFunc_impl_Pair_v1_st0 f) f _ = _
    obtain ⟨g, hg⟩ : ∃ g, f = g + 1 := ⟨f - 1, by omega⟩
    conv => lhs; arg 2; rw [hg]
    rw [iter]
    show slices_pdqsortCmpFunc_impl_Pair_v1_step0 f _ _ = _
    unfold slices_pdqsortCmpFunc_impl_Pair_v1_step0
    have : decide (w64 ((l.length : Int) - 0) ≤ (12 : Int)) = true := decide_eq_true (by rw [w64_id] <;> omega)
    show cond (decide (w64 ((l.length : Int) - 0) ≤ (12 : Int))) (Option.bind (slices_insertionSortCmpFunc_impl_Pair_v1_fn f (l, (), (0 : Int), (l.length : Int), ())) _) _ = _
    rw [this, e1]; rfl
  have e3 : slices_SortFunc_impl_Pair_impl_Pair_v1_fn f (l, (), ()) = some (isort kN l, ()) := by
    show slices_SortFunc_impl_Pair_impl_Pair_v1_pre f l = _
    unfold slices_SortFunc_impl_Pair_impl_Pair_v1_pre
    rw [hv, Option.bind_some, zz_eq, e2]; rfl
  show impl_sortPairs_v1_pre f l = _
  unfold impl_sortPairs_v1_pre
  rw [e3]; rfl
end Go.Proofs.YtdgdoeknpakmlaaGreat.Den
namespace Go.Proofs.YtdgdoeknpakmlaaGreat.Den
open Go
set_option linter.unusedVariables false
set_option linter.unusedSimpArgs false
def cntK : List Knot → Int → Int
  | [], _ => 0
  | x :: r, k => (if x.1 = k then x.2.1 else 0) + cntK r k
def ascK (c : Int → Int) : Nat → Int → List Knot
  | 0, _ => []
  | d + 1, i => cond (decide (0 < c i)) ((i, c i, ()) :: ascK c d (i + 1)) (ascK c d (i + 1))
def SA (l : List Knot) : Prop := l.Pairwise fun a b => a.1 < b.1
def Pos (m : Int) (l : List Knot) : Prop := ∀ x ∈ l, 0 ≤ x.1 ∧ x.1 ≤ 63 ∧ 1 ≤ x.2.1 ∧ x.2.1 ≤ m
theorem cntK_append : ∀ {a b : List Knot} {k : Int}, cntK (a ++ b) k = cntK a k + cntK b k
  | [], b, k => by simp [cntK]
  | x :: a, b, k => by
    show _ + cntK (a ++ b) k = _ + cntK a k + _
    rw [cntK_append]; omega
theorem cntK_perm {a b : List Knot} (h : a.Perm b) (k : Int) : cntK a k = cntK b k := by
  induction h with
  | nil => rfl
  | cons x _ ih => simp only [cntK, ih]
  | swap x y l => simp only [cntK]; omega
  | trans _ _ h1 h2 => rw [h1, h2]
theorem cntK_none {l : List Knot} {k : Int} (h : ∀ x ∈ l, x.1 ≠ k) : cntK l k = 0 := by
  induction l with
  | nil => rfl
  | cons x r ih => simp only [cntK, h x (List.mem_cons_self ..), if_false, ih fun y hy => h y (List.mem_cons_of_mem _ hy)]; rfl
theorem ascK_congr {c e : Int → Int} : ∀ {d : Nat} {i : Int}, (∀ k, i ≤ k → k < i + d → c k = e k) → ascK c d i = ascK e d i
  | 0, i, _ => rfl
  | d + 1, i, h => by
    unfold ascK
    rw [h i (Int.le_refl _) (by omega), ascK_congr (d := d) (i := i + 1) fun k h1 h2 => h k (by omega) (by omega)]
theorem ascK_of {m : Int} : ∀ {d : Nat} {i : Int} {l : List Knot}, SA l → Pos m l → (∀ x ∈ l, i ≤ x.1) → i + d = 64 → l = ascK (cntK l) d i
  | 0, i, l, hs, hp, hi, hd => by
    cases l with
    | nil => rfl
    | cons x l => have := hi x (List.mem_cons_self ..); have := hp x (List.mem_cons_self ..); omega
  | d + 1, i, l, hs, hp, hi, hd => by
    unfold ascK
    cases l with
    | nil =>
      have e := ascK_of (d := d) (i := i + 1) (l := []) hs hp (fun x hx => by cases hx) (by omega)
      show [] = cond (decide ((0 : Int) < 0)) _ _
      simp only [Int.lt_irrefl, decide_false, cond_false]
      exact e
    | cons x r =>
      have hs' := List.pairwise_cons.1 hs
      have px := hp x (List.mem_cons_self ..)
      have pr : Pos m r := fun y hy => hp y (List.mem_cons_of_mem _ hy)
      by_cases hx : x.1 = i
      · have c0 : cntK r i = 0 := cntK_none fun y hy => by have := hs'.1 y hy; omega
        have c1 : cntK (x :: r) i = x.2.1 := by simp only [cntK, hx, if_true, c0]; omega
        have c2 : (0 : Int) < x.2.1 := by omega
        have ih := ascK_of (d := d) (i := i + 1) (l := r) hs'.2 pr (fun y hy => by have := hs'.1 y hy; omega) (by omega)
        have e : ascK (cntK (x :: r)) d (i + 1) = ascK (cntK r) d (i + 1) := ascK_congr fun k h1 h2 => by
          have : x.1 ≠ k := by omega
          simp only [cntK, this, if_false]; omega
        subst hx
        simp only [c1, c2, decide_true, cond_true]
        show x :: r = (x.1, x.2.1, ()) :: _
        rw [e, ← ih]
      · have hi' : ∀ y ∈ x :: r, i + 1 ≤ y.1 := fun y hy => by
          have h1 := hi x (List.mem_cons_self ..)
          rcases List.mem_cons.1 hy with rfl | hy
          · omega
          · have := hs'.1 y hy; omega
        have c0 : cntK (x :: r) i = 0 := cntK_none fun y hy => by have := hi' y hy; omega
        simp only [c0, Int.lt_irrefl, decide_false, cond_false]
        exact ascK_of (d := d) (i := i + 1) hs hp hi' (by omega)
theorem pairs_ext {m n : Int} {a b : List Knot} (ha : SA a) (hb : SA b) (pa : Pos m a) (pb : Pos n b) (h : ∀ k, cntK a k = cntK b k) : a = b := by
  rw [ascK_of (d := 64) (i := 0) ha pa (fun x hx => (pa x hx).1) rfl, ascK_of (d := 64) (i := 0) hb pb (fun x hx => (pb x hx).1) rfl]
  exact ascK_congr fun k _ _ => h k
theorem putP_true (t n : Int) : ∀ (l : List Knot), putP t n l true = l
  | [] => rfl
  | x :: r => by
    unfold putP
    rw [putP_true t n r]; rfl
theorem putP_spec {m t n : Int} (ht : 0 ≤ t ∧ t ≤ 63) (hn : 1 ≤ n) (hm : n ≤ m) (hm2 : m ≤ 1000000) : ∀ {l : List Knot} {p : Int}, SA l → Pos m l → p < t → (∀ x ∈ l, p < x.1) →
    SA (putP t n l false) ∧ Pos (m + n) (putP t n l false) ∧ (∀ x ∈ putP t n l false, p < x.1) ∧ ∀ k, cntK (putP t n l false) k = cntK l k + if t = k then n else 0
  | [], p, _, _, h, _ => by
    refine ⟨List.pairwise_singleton _ _, fun x hx => ?_, fun x hx => ?_, fun k => ?_⟩
    · rcases List.mem_singleton.1 hx with rfl
      exact ⟨ht.1, ht.2, hn, by show n ≤ _; omega⟩
    · rcases List.mem_singleton.1 hx with rfl
      exact h
    · show (if t = k then n else 0) + 0 = 0 + _; omega
  | x :: r, p, hs, hp, h, hpx => by
    have hs' := List.pairwise_cons.1 hs
    have px := hp x (List.mem_cons_self ..)
    have pr : Pos m r := fun y hy => hp y (List.mem_cons_of_mem _ hy)
    have p0 := hpx x (List.mem_cons_self ..)
    unfold putP
    simp only [putP_true, Bool.not_false, Bool.true_and]
    by_cases c1 : x.1 ≥ t
    · by_cases c2 : x.1 = t
      · have e : w64 (n + x.2.1) = n + x.2.1 := by rw [w64_id] <;> omega
        have b : (x.1 == t) = true := by simpa using c2
        simp only [c1, decide_true, cond_true, b, e]
        refine ⟨List.pairwise_cons.2 ⟨fun y hy => by have := hs'.1 y hy; show t < y.1; omega, hs'.2⟩, fun y hy => ?_, fun y hy => ?_, fun k => ?_⟩
        · rcases List.mem_cons.1 hy with rfl | hy
          · exact ⟨ht.1, ht.2, by show 1 ≤ n + x.2.1; omega, by show n + x.2.1 ≤ _; omega⟩
          · have := pr y hy; exact ⟨this.1, this.2.1, this.2.2.1, by omega⟩
        · rcases List.mem_cons.1 hy with rfl | hy
          · exact h
          · exact hpx y (List.mem_cons_of_mem _ hy)
        · show (if t = k then n + x.2.1 else 0) + cntK r k = (if x.1 = k then x.2.1 else 0) + cntK r k + _
          rw [c2]; split <;> omega
      · have b : (x.1 == t) = false := by simpa using c2
        simp only [c1, decide_true, cond_true, b, cond_false]
        refine ⟨List.pairwise_cons.2 ⟨fun y hy => ?_, hs⟩, fun y hy => ?_, fun y hy => ?_, fun k => ?_⟩
        · rcases List.mem_cons.1 hy with rfl | hy
          · show t < x.1; omega
          · have := hs'.1 y hy; show t < y.1; omega
        · rcases List.mem_cons.1 hy with rfl | hy
          · exact ⟨ht.1, ht.2, hn, by show n ≤ _; omega⟩
          · have := hp y hy; exact ⟨this.1, this.2.1, this.2.2.1, by omega⟩
        · rcases List.mem_cons.1 hy with rfl | hy
          · exact h
          · exact hpx y hy
        · show (if t = k then n else 0) + ((if x.1 = k then x.2.1 else 0) + cntK r k) = (if x.1 = k then x.2.1 else 0) + cntK r k + _
          omega
    · simp only [c1, decide_false, cond_false]
      obtain ⟨i1, i2, i3, i4⟩ := putP_spec (p := x.1) ht hn hm hm2 hs'.2 pr (by omega) hs'.1
      refine ⟨List.pairwise_cons.2 ⟨i3, i1⟩, fun y hy => ?_, fun y hy => ?_, fun k => ?_⟩
      · rcases List.mem_cons.1 hy with rfl | hy
        · exact ⟨px.1, px.2.1, px.2.2.1, by show x.2.1 ≤ _; omega⟩
        · exact i2 y hy
      · rcases List.mem_cons.1 hy with rfl | hy
        · exact p0
        · have := i3 y hy; omega
      · show (if x.1 = k then x.2.1 else 0) + cntK (putP t n r false) k = (if x.1 = k then x.2.1 else 0) + cntK r k + _
        rw [i4]; omega
theorem Pos.mono {m n : Int} {l : List Knot} (h : Pos m l) (hm : m ≤ n) : Pos n l := fun x hx => by have := h x hx; exact ⟨this.1, this.2.1, this.2.2.1, by omega⟩
theorem putAll_spec {m : Int} (hm : 2000 ≤ m) : ∀ {b a : List Knot}, m + 2000 * b.length ≤ 1000000 → SA a → Pos m a → Pos 2000 b →
    SA (putAll a b) ∧ Pos (m + 2000 * b.length) (putAll a b) ∧ ∀ k, cntK (putAll a b) k = cntK a k + cntK b k
  | [], a, _, hs, hp, _ => ⟨hs, Pos.mono hp (by simp), fun k => by show cntK a k = cntK a k + 0; omega⟩
  | x :: b, a, hb, hs, hp, pb => by
    have px := pb x (List.mem_cons_self ..)
    simp only [List.length_cons] at hb
    obtain ⟨i1, i2, -, i4⟩ := putP_spec (m := m) (t := x.1) (n := x.2.1) (p := -1) ⟨px.1, px.2.1⟩ px.2.2.1 (by omega) (by omega) hs hp (by omega) (fun y hy => by have := hp y hy; omega)
    obtain ⟨j1, j2, j3⟩ := putAll_spec (m := m + 2000) (by omega) (b := b) (a := putP x.1 x.2.1 a false) (by omega) i1 (i2.mono (by omega)) (fun y hy => pb y (List.mem_cons_of_mem _ hy))
    refine ⟨j1, j2.mono (by simp only [List.length_cons]; omega), fun k => ?_⟩
    show cntK (putAll (putP x.1 x.2.1 a false) b) k = cntK a k + ((if x.1 = k then x.2.1 else 0) + cntK b k)
    rw [j3, i4]; omega
def glue : List Knot → List Knot → List Knot
  | R, [] => R
  | [], x :: S => glue [(x.1, x.2.1, ())] S
  | y :: r, x :: S => cond (y.1 == x.1) (glue ((y.1, w64 (y.2.1 + x.2.1), ()) :: r) S) (glue ((x.1, x.2.1, ()) :: y :: r) S)
def SD (l : List Knot) : Prop := l.Pairwise fun a b => b.1 < a.1
theorem glue_spec {m : Int} (hm : 2000 ≤ m) : ∀ {L R : List Knot}, m + 2000 * L.length ≤ 1000000 → SD R → Pos m R → L.Pairwise (fun a b => a.1 ≤ b.1) → Pos 2000 L → (∀ y ∈ R, ∀ x ∈ L, y.1 ≤ x.1) →
    SD (glue R L) ∧ Pos (m + 2000 * L.length) (glue R L) ∧ ∀ k, cntK (glue R L) k = cntK R k + cntK L k
  | [], R, _, hs, hp, _, _, _ => by
    refine ⟨by cases R <;> exact hs, by cases R <;> exact Pos.mono hp (by simp), fun k => ?_⟩
    cases R <;> simp [glue, cntK]
  | x :: S, [], hb, hs, hp, hl, pl, _ => by
    have hl' := List.pairwise_cons.1 hl
    have px := pl x (List.mem_cons_self ..)
    simp only [List.length_cons] at hb
    obtain ⟨j1, j2, j3⟩ := glue_spec (m := m) hm (L := S) (R := [(x.1, x.2.1, ())]) (by omega) (List.pairwise_singleton _ _) (fun y hy => by
      rcases List.mem_singleton.1 hy with rfl; exact ⟨px.1, px.2.1, px.2.2.1, by show x.2.1 ≤ m; omega⟩) hl'.2 (fun y hy => pl y (List.mem_cons_of_mem _ hy)) (fun y hy z hz => by
      rcases List.mem_singleton.1 hy with rfl; exact hl'.1 z hz)
    refine ⟨j1, j2.mono (by simp only [List.length_cons]; omega), fun k => ?_⟩
    show cntK (glue [(x.1, x.2.1, ())] S) k = 0 + ((if x.1 = k then x.2.1 else 0) + cntK S k)
    rw [j3]
    show (if x.1 = k then x.2.1 else 0) + 0 + _ = _
    omega
  | x :: S, y :: r, hb, hs, hp, hl, pl, hyx => by
    have hl' := List.pairwise_cons.1 hl
    have hs' := List.pairwise_cons.1 hs
    have px := pl x (List.mem_cons_self ..)
    have py := hp y (List.mem_cons_self ..)
    have yx := hyx y (List.mem_cons_self ..) x (List.mem_cons_self ..)
    simp only [List.length_cons] at hb
    unfold glue
    by_cases c : y.1 = x.1
    · have b : (y.1 == x.1) = true := by simpa using c
      have e : w64 (y.2.1 + x.2.1) = y.2.1 + x.2.1 := by rw [w64_id] <;> omega
      simp only [b, cond_true, e]
      obtain ⟨j1, j2, j3⟩ := glue_spec (m := m + 2000) (by omega) (L := S) (R := (y.1, y.2.1 + x.2.1, ()) :: r) (by omega) (List.pairwise_cons.2 ⟨hs'.1, hs'.2⟩) (fun z hz => by
        rcases List.mem_cons.1 hz with rfl | hz
        · exact ⟨py.1, py.2.1, by show 1 ≤ y.2.1 + x.2.1; omega, by show y.2.1 + x.2.1 ≤ _; omega⟩
        · have := hp z (List.mem_cons_of_mem _ hz); exact ⟨this.1, this.2.1, this.2.2.1, by omega⟩) hl'.2 (fun z hz => pl z (List.mem_cons_of_mem _ hz)) (fun z hz w hw => by
        rcases List.mem_cons.1 hz with rfl | hz
        · have := hl'.1 w hw; show y.1 ≤ w.1; omega
        · have := hs'.1 z hz; have := hl'.1 w hw; omega)
      refine ⟨j1, j2.mono (by simp only [List.length_cons]; omega), fun k => ?_⟩
      rw [j3]
      show (if y.1 = k then y.2.1 + x.2.1 else 0) + cntK r k + cntK S k = (if y.1 = k then y.2.1 else 0) + cntK r k + ((if x.1 = k then x.2.1 else 0) + cntK S k)
      rw [c]; split <;> omega
    · have b : (y.1 == x.1) = false := by simpa using c
      simp only [b, cond_false]
      obtain ⟨j1, j2, j3⟩ := glue_spec (m := m) hm (L := S) (R := (x.1, x.2.1, ()) :: y :: r) (by omega) (List.pairwise_cons.2 ⟨fun z hz => by
        rcases List.mem_cons.1 hz with rfl | hz
        · show z.1 < x.1; omega
        · have := hs'.1 z hz; show z.1 < x.1; omega, hs⟩) (fun z hz => by
        rcases List.mem_cons.1 hz with rfl | hz
        · exact ⟨px.1, px.2.1, px.2.2.1, by show x.2.1 ≤ m; omega⟩
        · exact hp z hz) hl'.2 (fun z hz => pl z (List.mem_cons_of_mem _ hz)) (fun z hz w hw => by
        have hw' := hl'.1 w hw
        rcases List.mem_cons.1 hz with rfl | hz
        · exact hw'
        · have := hyx z hz x (List.mem_cons_self ..); omega)
      refine ⟨j1, j2.mono (by simp only [List.length_cons]; omega), fun k => ?_⟩
      rw [j3]
      show (if x.1 = k then x.2.1 else 0) + ((if y.1 = k then y.2.1 else 0) + cntK r k) + cntK S k = (if y.1 = k then y.2.1 else 0) + cntK r k + ((if x.1 = k then x.2.1 else 0) + cntK S k)
      omega
theorem glue_loop (f : Nat) (L : List Knot) (hL : L.length < 1000) : ∀ (d i : Nat) (R : List Knot) (fuel : Nat), i + d = L.length → R.length ≤ i → d < fuel →
    iter (impl_bothPairs_st0 f) fuel ((i : Int), (L.length : Int), L, R.reverse) = some (((glue R (L.drop i)).reverse, ()), ())
  | _, _, _, 0, _, _, h => by omega
  | 0, i, R, fuel + 1, hi, _, _ => by
    rw [iter]
    show impl_bothPairs_step0 f _ _ = _
    unfold impl_bothPairs_step0
    obtain rfl : i = L.length := by omega
    simp only [nlt_cast, decide_false, cond_false, List.drop_eq_nil_of_le (Nat.le_refl _)]
    cases R <;> rfl
  | d + 1, i, R, fuel + 1, hi, hr, hf => by
    rw [iter]
    show impl_bothPairs_step0 f _ _ = _
    unfold impl_bothPairs_step0
    have l1 : i < L.length := by omega
    rw [drop_getD (0, 0, ()) l1]
    obtain ⟨x, hx⟩ : ∃ x : Knot, L.getD i (0, 0, ()) = x := ⟨_, rfl⟩
    simp only [lt_cast l1, zz_eq, le_cast, l1, decide_true, cond_true, Int.toNat_natCast, hx, w64_up (show i < 4294967296 by omega)]
    have h1 : R.reverse.length + 1 < LIM := by simp only [LIM, List.length_reverse]; omega
    cases R with
    | nil =>
      have e1 : w64 (((0 : Nat) : Int) - 1) = -1 := by decide
      have e2 : decide ((-1 : Int) ≥ 0) = false := by decide
      have h0 : 0 + 1 < LIM := by simp only [LIM]; omega
      have ih := glue_loop f L hL d (i + 1) [(x.1, x.2.1, ())] fuel (by omega) (by simp) (by omega)
      simp only [List.reverse_nil, List.length_nil, e1, e2, cond_false, h0, decide_true, cond_true, List.nil_append]
      exact ih
    | cons y r =>
      have en : w64 (((y :: r).reverse.length : Int) - 1) = (r.length : Int) := by
        rw [List.length_reverse, w64_id] <;> simp only [List.length_cons] at hr ⊢ <;> omega
      have l2 : r.length < (y :: r).reverse.length := by simp
      have ed : (y :: r).reverse = r.reverse ++ y :: [] := by simp
      have gy : (y :: r).reverse.getD r.length (0, 0, ()) = y := by rw [ed]; exact mid_getD (by rw [List.length_reverse])
      have st : ∀ z : Knot, (y :: r).reverse.set r.length z = (z :: r).reverse := fun z => by rw [ed, mid_set (by rw [List.length_reverse])]; simp
      have c0 : decide ((r.length : Int) ≥ 0) = true := decide_eq_true (by omega)
      have ih1 := glue_loop f L hL d (i + 1) ((y.1, w64 (y.2.1 + x.2.1), ()) :: r) fuel (by omega) (by simp only [List.length_cons] at hr ⊢; omega) (by omega)
      have ih2 := glue_loop f L hL d (i + 1) ((x.1, x.2.1, ()) :: y :: r) fuel (by omega) (by simp only [List.length_cons] at hr ⊢; omega) (by omega)
      simp only [en, c0, le_cast, lt_cast l2, l2, decide_true, cond_true, Int.toNat_natCast, gy, st, h1]
      unfold glue
      cases (y.1 == x.1)
      · simp only [cond_false]
        rw [← ih2]
        simp
      · simp only [cond_true]
        exact ih1
theorem concat_eq (f : Nat) (a b : List Knot) (hf : 1000 < f) (ha : a.length ≤ 8) (hb : b.length ≤ 8) : slices_Concat_impl_Pair_impl_Pair_fn f (([a, b], ()), ()) = some ((a ++ b, ()), ()) := by
  obtain ⟨g, rfl⟩ : ∃ g, f = g + 3 := ⟨f - 3, by omega⟩
  have grow : ∀ n : Nat, n ≤ 16 → slices_Grow_impl_Pair_impl_Pair_fn (g + 3) ((n : Int), ()) = some ([], ()) := fun n hn => by
    show slices_Grow_impl_Pair_impl_Pair_pre (g + 3) (n : Int) = _
    unfold slices_Grow_impl_Pair_impl_Pair_pre
    have e1 : ¬ ((n : Int) < 0) := by omega
    have e2 : w64 ((n : Int) - w64 (0 - zz 0)) = (n : Int) := by
      rw [show w64 (0 - zz 0) = 0 from by decide, w64_id] <;> omega
    have e3 : (n : Nat) < LIM := by simp only [LIM]; omega
    have e4 : ((zz 0) ≤ (zz (List.length (List.replicate n (Kd.dflt KP))))) := by rw [List.length_replicate, zz_eq, zz_eq]; omega
    simp only [e1, e2, decide_false, cond_false, le_cast, Int.toNat_natCast, e3, decide_true, cond_true, e4]
    cases decide ((n : Int) > 0)
    · rfl
    · rfl
  have w1 : w64 (0 + (a.length : Int)) = ((a.length : Nat) : Int) := by rw [w64_id] <;> omega
  have w2 : w64 ((a.length : Int) + (b.length : Int)) = ((a.length + b.length : Nat) : Int) := by rw [w64_id] <;> omega
  have n1 : ¬ ((a.length : Int) < 0) := by omega
  have n2 : ¬ (((a.length + b.length : Nat) : Int) < 0) := by omega
  have s1 : ([] : List Knot).length + a.length < LIM := by simp only [LIM, List.length_nil]; omega
  have s2 : a.length + b.length < LIM := by simp only [LIM]; omega
  have l2 : ([a, b] : List (List Knot)).length = 2 := rfl
  have g0 : ([a, b] : List (List Knot)).getD 0 [] = a := rfl
  have g1 : ([a, b] : List (List Knot)).getD 1 [] = b := rfl
  show slices_Concat_impl_Pair_impl_Pair_pre (g + 3) (iter (slices_Concat_impl_Pair_impl_Pair_st0 (g + 3)) (g + 3)) [a, b] = _
  unfold slices_Concat_impl_Pair_impl_Pair_pre
  have body : ∀ v : slices_Concat_impl_Pair_impl_Pair_V1, iter (slices_Concat_impl_Pair_impl_Pair_st1 (g + 3)) (g + 3) v = slices_Concat_impl_Pair_impl_Pair_step1 (g + 3) (fun v => slices_Concat_impl_Pair_impl_Pair_step1 (g + 3) (fun v => slices_Concat_impl_Pair_impl_Pair_step1 (g + 3) (iter (slices_Concat_impl_Pair_impl_Pair_st1 (g + 3)) g) v) v) v := fun v => rfl
  have outer : ∀ v : slices_Concat_impl_Pair_impl_Pair_V0, iter (slices_Concat_impl_Pair_impl_Pair_st0 (g + 3)) (g + 3) v = slices_Concat_impl_Pair_impl_Pair_step0 (g + 3) (iter (slices_Concat_impl_Pair_impl_Pair_st1 (g + 3)) (g + 3)) (fun v => slices_Concat_impl_Pair_impl_Pair_step0 (g + 3) (iter (slices_Concat_impl_Pair_impl_Pair_st1 (g + 3)) (g + 3)) (fun v => slices_Concat_impl_Pair_impl_Pair_step0 (g + 3) (iter (slices_Concat_impl_Pair_impl_Pair_st1 (g + 3)) (g + 3)) (iter (slices_Concat_impl_Pair_impl_Pair_st0 (g + 3)) g) v) v) v := fun v => rfl
  rw [outer]
  unfold slices_Concat_impl_Pair_impl_Pair_step0
  have z0 : w64 (0 + 1) = (1 : Int) := by decide
  have z1 : w64 (1 + 1) = (2 : Int) := by decide
  have k0 : decide ((0 : Int) < (2 : Int)) = true := rfl
  have k1 : decide ((1 : Int) < (2 : Int)) = true := rfl
  have k2 : decide ((2 : Int) < (2 : Int)) = false := rfl
  have k3 : decide ((0 : Int) ≤ 0) = true := rfl
  have k4 : decide ((0 : Int) ≤ 1) = true := rfl
  have t0 : Int.toNat 0 = 0 := rfl
  have t1 : Int.toNat 1 = 1 := rfl
  simp only [zz_eq, l2, show ((2 : Nat) : Int) = 2 from rfl, z0, z1, k0, k1, k2, k3, k4, t0, t1, g0, g1, w1, w2, n1, n2, decide_false, cond_true, cond_false, grow _ (show a.length + b.length ≤ 16 by omega), Option.bind_some, body]
  unfold slices_Concat_impl_Pair_impl_Pair_step1
  simp only [zz_eq, l2, show ((2 : Nat) : Int) = 2 from rfl, z0, z1, k0, k1, k2, k3, k4, t0, t1, g0, g1, s1, s2, List.nil_append, decide_true, cond_true, cond_false]
theorem SD.rev {l : List Knot} (h : SD l) : SA l.reverse := List.pairwise_reverse.2 h
theorem Pos.perm {m : Int} {a b : List Knot} (h : Pos m a) (hp : b.Perm a) : Pos m b := fun x hx => h x (hp.mem_iff.1 hx)
theorem both_eq (f : Nat) (a b : List Knot) (hf : 1000 < f) (ha : a.length ≤ 4) (hb : b.length ≤ 4) (sa : SA a) (pa : Pos 2000 a) (pb : Pos 2000 b) :
    impl_bothPairs_fn f ((a, ()), (b, ()), ()) = some ((putAll a b, ()), ()) := by
  show impl_bothPairs_pre f (iter (impl_bothPairs_st0 f) f) a b = _
  unfold impl_bothPairs_pre
  have hl : (a ++ b).length ≤ 8 := by rw [List.length_append]; omega
  have hs : (isort kT (a ++ b)).length ≤ 8 := by rw [isort_len]; exact hl
  have h1 : (isort kT (a ++ b)).length < LIM := by simp only [LIM]; omega
  rw [concat_eq f a b hf (by omega) (by omega), Option.bind_some, sortv0 f hf (a ++ b) (by omega), Option.bind_some]
  simp only [zz_eq, Int.toNat_natCast, le_cast, h1, decide_true, cond_true]
  have gl := glue_loop f (isort kT (a ++ b)) (by omega) (isort kT (a ++ b)).length 0 [] f (by omega) (by simp) (by omega)
  refine gl.trans ?_
  have pab : Pos 2000 (a ++ b) := fun x hx => (List.mem_append.1 hx).elim (pa x) (pb x)
  have g := glue_spec (m := 2000) (by omega) (L := isort kT (a ++ b)) (R := []) (by omega) List.Pairwise.nil (fun y hy => by cases hy) (isort_up kT (a ++ b)) (pab.perm (isort_perm kT _)) (fun y hy => by cases hy)
  have p := putAll_spec (m := 2000) (by omega) (b := b) (a := a) (by omega) sa pa pb
  have e : (glue [] (isort kT (a ++ b))).reverse = putAll a b := by
    refine pairs_ext g.1.rev p.1 (Pos.perm g.2.1 (List.reverse_perm _)) p.2.1 fun k => ?_
    rw [cntK_perm (List.reverse_perm _), g.2.2, p.2.2, cntK_perm (isort_perm kT _), cntK_append]
    show 0 + _ = _; omega
  rw [List.drop_zero, e]
end Go.Proofs.YtdgdoeknpakmlaaGreat.Den
namespace Go.Proofs.YtdgdoeknpakmlaaGreat.Den
open Go
set_option linter.unusedVariables false
set_option linter.unusedSimpArgs false
theorem topGo_spec {all : Int} (h0 : 0 ≤ all) (h1 : all ≤ 2000) : ∀ {l : List Knot} {p s : Int}, -1 ≤ p → 0 ≤ s → s ≤ 100000 → l.length ≤ 8 → s + 2000 * l.length ≤ 1000000 → topGo all l p s = true → (∀ x ∈ l, p < x.1) ∧ SA l ∧ Pos 2000 l
  | [], _, _, _, _, _, _, _, _ => ⟨fun x hx => (by cases hx), List.Pairwise.nil, fun x hx => (by cases hx)⟩
  | x :: r, p, s, hp, hs, hs2, hl, hb, h => by
    simp only [topGo, Bool.and_eq_true, decide_eq_true_eq] at h
    simp only [List.length_cons] at hl hb
    obtain ⟨hx, hr⟩ := h
    have e : w64 (s + x.2.1) = s + x.2.1 := by rw [w64_id] <;> omega
    rw [e] at hr
    by_cases hb2 : s + x.2.1 ≤ 100000
    · obtain ⟨i1, i2, i3⟩ := topGo_spec h0 h1 (by omega) (by omega) hb2 (by omega) (by omega) hr
      refine ⟨fun y hy => ?_, List.pairwise_cons.2 ⟨i1, i2⟩, fun y hy => ?_⟩
      · rcases List.mem_cons.1 hy with rfl | hy
        · exact hx.1
        · have := i1 y hy; omega
      · rcases List.mem_cons.1 hy with rfl | hy
        · exact ⟨by omega, hx.2.1, hx.2.2.1, hx.2.2.2⟩
        · exact i3 y hy
    · exfalso
      have big : ∀ (l : List Knot) (p s : Int), 2000 < s → s + 2000 * l.length ≤ 1000000 → topGo all l p s = true → False := by
        intro l
        induction l with
        | nil => intro p s hs _ h; simp only [topGo, decide_eq_true_eq] at h; omega
        | cons y l ih =>
          intro p s hs hb h
          simp only [topGo, Bool.and_eq_true, decide_eq_true_eq] at h
          simp only [List.length_cons] at hb
          have e : w64 (s + y.2.1) = s + y.2.1 := by rw [w64_id] <;> omega
          rw [e] at h
          exact ih y.1 (s + y.2.1) (by omega) (by omega) h.2
      exact big r x.1 (s + x.2.1) (by omega) (by omega) hr
theorem topB_spec {l : List Knot} {lost all : Int} (h : topB l lost all = true) : SA l ∧ Pos 2000 l ∧ l.length ≤ 4 ∧ 0 ≤ lost ∧ lost ≤ 2000 ∧ 0 ≤ all ∧ all ≤ 2000 := by
  have f := four h
  unfold topB at h
  simp only [Bool.and_eq_true] at h
  have g := topGo_spec f.2.2.2.1 f.2.2.2.2 (by omega) (by omega) (by omega) (by omega) (by omega) h.2
  exact ⟨g.2.1, g.2.2, f⟩
theorem cntGe_eq {m : Int} {l : List Knot} (hl : l.length < 1000) : cntGe m l = ((l.countP fun x => decide (x.2.1 ≥ m)) : Nat) := by
  have gen : ∀ (l : List Knot) (n : Nat), n + l.length < 1000 → l.foldl (fun (n : Int) x => cond (decide (x.2.1 ≥ m)) (w64 (n + 1)) n) (n : Int) = ((n + l.countP fun x => decide (x.2.1 ≥ m) : Nat) : Int) := by
    intro l
    induction l with
    | nil => intro n _; rfl
    | cons x l ih =>
      intro n hn
      simp only [List.length_cons] at hn
      rw [List.foldl_cons, List.countP_cons]
      cases hc : decide (x.2.1 ≥ m)
      · simp only [cond_false]
        rw [ih n (by omega)]; simp
      · have e : w64 ((n : Int) + 1) = ((n + 1 : Nat) : Int) := by rw [w64_id] <;> omega
        simp only [cond_true, e]
        rw [ih (n + 1) (by omega)]; simp; omega
  have := gen l 0 (by omega)
  simpa [cntGe] using this
theorem fold_max (p : Knot → Bool) : ∀ (l : List Knot) (b : Int), (∀ x ∈ l, p x = true → x.2.1 ≤ l.foldl (fun b x => cond (p x) (if x.2.1 > b then x.2.1 else b) b) b) ∧ b ≤ l.foldl (fun b x => cond (p x) (if x.2.1 > b then x.2.1 else b) b) b ∧
    (l.foldl (fun b x => cond (p x) (if x.2.1 > b then x.2.1 else b) b) b = b ∨ ∃ x ∈ l, p x = true ∧ l.foldl (fun b x => cond (p x) (if x.2.1 > b then x.2.1 else b) b) b = x.2.1)
  | [], b => ⟨fun x hx => (by cases hx), Int.le_refl _, .inl rfl⟩
  | y :: l, b => by
    rw [List.foldl_cons]
    obtain ⟨i1, i2, i3⟩ := fold_max p l (cond (p y) (if y.2.1 > b then y.2.1 else b) b)
    generalize l.foldl (fun b x => cond (p x) (if x.2.1 > b then x.2.1 else b) b) (cond (p y) (if y.2.1 > b then y.2.1 else b) b) = r at i1 i2 i3
    refine ⟨fun x hx hp => ?_, ?_, ?_⟩
    · rcases List.mem_cons.1 hx with rfl | hx
      · rw [hp, cond_true] at i2
        split at i2 <;> omega
      · exact i1 x hx hp
    · cases hp : p y
      · rw [hp, cond_false] at i2; exact i2
      · rw [hp, cond_true] at i2; split at i2 <;> omega
    · rcases i3 with h | ⟨x, hx, h1, h2⟩
      · cases hp : p y
        · rw [hp, cond_false] at h; exact .inl h
        · rw [hp, cond_true] at h
          by_cases hc : y.2.1 > b
          · rw [if_pos hc] at h; exact .inr ⟨y, List.mem_cons_self .., hp, h⟩
          · rw [if_neg hc] at h; exact .inl h
      · exact .inr ⟨x, List.mem_cons_of_mem _ hx, h1, h2⟩
theorem over3_eq {l : List Knot} (hl : l.length < 1000) : over3 l = l.foldl (fun b x => cond (decide (4 < l.countP fun y => decide (y.2.1 ≥ x.2.1))) (if x.2.1 > b then x.2.1 else b) b) 0 := by
  unfold over3
  congr 1
  funext b x
  congr 1
  rw [cntGe_eq hl]
  exact decide_eq_decide.2 (by omega)
theorem over3_few {l : List Knot} (h : l.length ≤ 4) : over3 l = 0 := by
  rw [over3_eq (by omega)]
  have g := fold_max (fun x => decide (4 < l.countP fun y => decide (y.2.1 ≥ x.2.1))) l 0
  rcases g.2.2 with h' | ⟨x, _, h1, _⟩
  · exact h'
  · have := List.countP_le_length (p := fun y : Knot => decide (y.2.1 ≥ x.2.1)) (l := l)
    have := of_decide_eq_true h1
    omega
theorem fifth {l : List Knot} {m : Int} (hp : Pos m l) {a0 a1 a2 a3 a4 : Knot} {r : List Knot} (h : isort kN l = a0 :: a1 :: a2 :: a3 :: a4 :: r) (hl : l.length < 1000) :
    over3 l = a4.2.1 ∧ 5 ≤ (l.countP fun y => decide (y.2.1 ≥ a4.2.1)) ∧ (l.countP fun y => decide (a4.2.1 < y.2.1)) ≤ 4 ∧ 1 ≤ a4.2.1 := by
  have pm := isort_perm kN l
  have up := isort_up kN l
  rw [h] at pm up
  simp only [List.pairwise_cons] at up
  obtain ⟨u0, u1, u2, u3, u4, -⟩ := up
  have m4 : a4 ∈ l := pm.mem_iff.1 (by simp)
  have p4 := hp a4 m4
  have g0 : a0.2.1 ≥ a4.2.1 := by have := u0 a4 (by simp); unfold kN at this; omega
  have g1 : a1.2.1 ≥ a4.2.1 := by have := u1 a4 (by simp); unfold kN at this; omega
  have g2 : a2.2.1 ≥ a4.2.1 := by have := u2 a4 (by simp); unfold kN at this; omega
  have g3 : a3.2.1 ≥ a4.2.1 := by have := u3 a4 (by simp); unfold kN at this; omega
  have gr : ∀ y ∈ r, y.2.1 ≤ a4.2.1 := fun y hy => by have := u4 y hy; unfold kN at this; omega
  have c5 : 5 ≤ (l.countP fun y => decide (y.2.1 ≥ a4.2.1)) := by
    rw [← pm.countP_eq]
    simp only [List.countP_cons, g0, g1, g2, g3, Int.le_refl, ge_iff_le, decide_true, if_true]
    omega
  have top4 : ∀ v : Int, a4.2.1 < v → (l.countP fun y => decide (v ≤ y.2.1)) ≤ 4 := fun v hv => by
    rw [← pm.countP_eq]
    have z : (r.countP fun y => decide (v ≤ y.2.1)) = 0 := by
      rw [List.countP_eq_zero]
      intro y hy
      have := gr y hy
      simp; omega
    have z4 : ¬ v ≤ a4.2.1 := by omega
    simp only [List.countP_cons, z, z4, decide_false]
    have : ∀ b : Bool, (if b = true then 1 else 0) ≤ 1 := fun b => by cases b <;> simp
    have h0 := this (decide (v ≤ a0.2.1))
    have h1 := this (decide (v ≤ a1.2.1))
    have h2 := this (decide (v ≤ a2.2.1))
    have h3 := this (decide (v ≤ a3.2.1))
    simp only [Bool.false_eq_true, if_false]
    omega
  refine ⟨?_, c5, ?_, p4.2.2.1⟩
  · rw [over3_eq hl]
    have g := fold_max (fun x => decide (4 < l.countP fun y => decide (y.2.1 ≥ x.2.1))) l 0
    generalize l.foldl (fun b x => cond (decide (4 < l.countP fun y => decide (y.2.1 ≥ x.2.1))) (if x.2.1 > b then x.2.1 else b) b) 0 = w at g
    have lo := g.1 a4 m4 (decide_eq_true (by omega))
    rcases g.2.2 with h' | ⟨x, _, h1, h2⟩
    · omega
    · have h3 : 4 < l.countP fun y => decide (y.2.1 ≥ x.2.1) := of_decide_eq_true h1
      by_cases hx : a4.2.1 < x.2.1
      · have h4 : (l.countP fun y => decide (y.2.1 ≥ x.2.1)) ≤ 4 := top4 x.2.1 hx
        omega
      · omega
  · have := top4 (a4.2.1 + 1) (by omega)
    exact this
theorem clone_eq (f : Nat) (l : List Knot) (h : 0 < l.length) (hl : l.length < 1000) : slices_Clone_impl_Pair_impl_Pair_fn f ((l, ()), ()) = some ((l, ()), ()) := by
  show slices_Clone_impl_Pair_impl_Pair_pre f l = _
  unfold slices_Clone_impl_Pair_impl_Pair_pre
  have h1 : 0 + l.length < LIM := by simp only [LIM]; omega
  simp only [h, h1, decide_true, cond_true, List.nil_append]
theorem cut_loop (f : Nat) (l : List Knot) (m : Int) (hl : l.length < 1000) (l0 : List Knot) (lost all u w : Int) : ∀ (d i : Nat) (out : List Knot) (fuel : Nat), i + d = l.length → out.length ≤ i → d < fuel →
    iter (impl_cutTop_st0 f) fuel ((i : Int), (l.length : Int), l, m, out, l0, lost, all, u, w) = some ((out ++ less3 m (l.drop i), w64 (lost + m), all, ()), ())
  | _, _, _, 0, _, _, h => by omega
  | 0, i, out, fuel + 1, hi, ho, hf => by
    rw [iter]
    show impl_cutTop_step0 f _ _ = _
    unfold impl_cutTop_step0
    obtain rfl : i = l.length := by omega
    simp only [nlt_cast, decide_false, cond_false, List.drop_eq_nil_of_le (Nat.le_refl _), less3, List.append_nil]
  | d + 1, i, out, fuel + 1, hi, ho, hf => by
    rw [iter]
    show impl_cutTop_step0 f _ _ = _
    unfold impl_cutTop_step0
    have hlt : i < l.length := by omega
    have ih : ∀ (out : List Knot), out.length ≤ i + 1 → _ := fun out h => cut_loop f l m hl l0 lost all u w d (i + 1) out fuel (by omega) h (by omega)
    have h1 : out.length + 1 < LIM := by simp only [LIM]; omega
    simp only [zz_eq, lt_cast hlt, le_cast, decide_true, cond_true, Int.toNat_natCast, w64_up (show i < 4294967296 by omega), h1]
    rw [drop_getD (0, 0, ()) hlt]
    obtain ⟨x, hx⟩ : ∃ x : Knot, l.getD i (0, 0, ()) = x := ⟨_, rfl⟩
    simp only [hx]
    have e1 := ih (out ++ [(x.1, w64 (x.2.1 - m), ())]) (by simp; omega)
    have e2 := ih out (by omega)
    simp only [e1, e2]
    simp only [less3, List.append_assoc, List.singleton_append, List.cons_append, List.nil_append]
    cases decide (x.2.1 > m) <;> rfl
theorem less3_zero : ∀ {l : List Knot}, Pos 1000000 l → less3 0 l = l
  | [], _ => rfl
  | x :: r, h => by
    have px := h x (List.mem_cons_self ..)
    have e : w64 (x.2.1 - 0) = x.2.1 := by rw [w64_id] <;> omega
    have c : decide (x.2.1 > 0) = true := decide_eq_true (by omega)
    unfold less3
    rw [c, e, cond_true, less3_zero fun y hy => h y (List.mem_cons_of_mem _ hy)]
theorem cut_eq (f : Nat) (hf : 1000 < f) (l : List Knot) (lost all : Int) (hl : l.length < 13) (hp : Pos 1000000 l) (h0 : 0 ≤ lost) (h1 : lost ≤ 1000000) : impl_cutTop_fn f ((l, lost, all, ()), ()) = some (cut3 l lost all, ()) := by
  show impl_cutTop_pre f (iter (impl_cutTop_st0 f) f) l lost all = _
  unfold impl_cutTop_pre cut3
  by_cases h : l.length ≤ 4
  · have c : (zz l.length ≤ (4 : Int)) := by rw [zz_eq]; omega
    have e : w64 (lost + 0) = lost := by rw [w64_id] <;> omega
    simp only [c, decide_true, cond_true, over3_few h, less3_zero hp, e]
  · have c : ¬ (zz l.length ≤ (4 : Int)) := by rw [zz_eq]; omega
    have hs := isort_len kN l
    obtain ⟨a0, a1, a2, a3, a4, r, hr⟩ : ∃ a0 a1 a2 a3 a4 r, isort kN l = a0 :: a1 :: a2 :: a3 :: a4 :: r := by
      match hq : isort kN l with
      | [] | [_] | [_, _] | [_, _, _] | [_, _, _, _] => rw [hq] at hs; simp at hs; omega
      | a0 :: a1 :: a2 :: a3 :: a4 :: r => exact ⟨a0, a1, a2, a3, a4, r, rfl⟩
    have fi := fifth hp hr (by omega)
    rw [clone_eq f l (by omega) (by omega), Option.bind_some, sortv1 f hf l hl, Option.bind_some]
    have c1 : (4 : Int) < zz (isort kN l).length := by rw [zz_eq, hs]; omega
    have c2 : Int.toNat 4 < (isort kN l).length := by rw [hs]; show 4 < _; omega
    have g4 : (isort kN l).getD (Int.toNat 4) (0, 0, ()) = a4 := by rw [hr]; rfl
    simp only [c, c1, c2, decide_true, decide_false, cond_true, cond_false, g4]
    have lp := cut_loop f l a4.2.1 (by omega) l lost all 0 0 l.length 0 [] f (by omega) (by simp) (by omega)
    rw [fi.1]
    exact lp
theorem topSum_eq (f : Nat) (hf : 1000 < f) (pa : List Knot) (la aa : Int) (pb : List Knot) (lb ab : Int) (ha : pa.length ≤ 4) (hb : pb.length ≤ 4) (sa : SA pa) (ga : Pos 2000 pa) (gb : Pos 2000 pb) (h0 : 0 ≤ la ∧ la ≤ 2000) (h1 : 0 ≤ lb ∧ lb ≤ 2000) :
    impl_topSum_fn f ((pa, la, aa, ()), (pb, lb, ab, ()), ()) = some (cut3 (putAll pa pb) (w64 (la + lb)) (w64 (aa + ab)), ()) := by
  show impl_topSum_pre f pa la aa pb lb ab = _
  unfold impl_topSum_pre
  have e : w64 (la + lb) = la + lb := by rw [w64_id] <;> omega
  have p := putAll_spec (m := 2000) (by omega) (b := pb) (a := pa) (by omega) sa ga gb
  have l8 := putAll_len pb pa
  rw [both_eq f pa pb hf ha hb sa ga gb, Option.bind_some, cut_eq f hf (putAll pa pb) (w64 (la + lb)) _ (by omega) (p.2.1.mono (by omega)) (by omega) (by omega), Option.bind_some]
theorem implTopAdd_eq (f : Nat) (hf : 1000 < f) (ps : List Knot) (lost all t : Int) : impl_TopAdd_fn f ((ps, lost, all, ()), (t, ()), ()) = some ((topAdd ps lost all t).1, ((topAdd ps lost all t).2, ()), ()) := by
  show impl_TopAdd_pre f ps lost all t = _
  unfold impl_TopAdd_pre topAdd
  simp only [implTop_eq f ps lost all (by omega), thing_eq, Option.bind_some]
  cases h : topB ps lost all
  · rfl
  cases ht : thingB t
  · rfl
  have b := topB_spec h
  have tt := thing_le ht
  by_cases c : all = 2000
  · have c1 : (all == 2000) = true := by simpa using c
    have c2 : ¬ all < 2000 := by omega
    simp only [c1, c2, decide_false, Bool.not_true, cond_false, cond_true, Bool.and_false]
    rfl
  · have c1 : (all == 2000) = false := by simpa using c
    have c2 : all < 2000 := by omega
    have e := topSum_eq f hf ps lost all [(t, 1, ())] 0 1 (by omega) (by simp) b.1 b.2.1 (fun x hx => by rcases List.mem_singleton.1 hx with rfl; exact ⟨tt.1, tt.2, by show (1 : Int) ≤ 1; omega, by show (1 : Int) ≤ 2000; omega⟩) (by omega) (by omega)
    have e0 : w64 (lost + 0) = lost := by rw [w64_id] <;> omega
    rw [e0, show putAll ps [(t, 1, ())] = putP t 1 ps false from rfl] at e
    simp only [c1, c2, decide_true, Bool.not_true, cond_false, cond_true, Bool.and_self, e, Option.bind_some]
end Go.Proofs.YtdgdoeknpakmlaaGreat.Den
namespace Go.Proofs.YtdgdoeknpakmlaaGreat.Den
open Go
set_option linter.unusedVariables false
set_option linter.unusedSimpArgs false
def In2k (l : List Int) : Prop := ∀ x ∈ l, 0 ≤ x ∧ x ≤ 2000
theorem isum_sum {l : List Int} (h : In2k l) (hl : l.length ≤ 1000) : isum l = l.sum := by
  have gen : ∀ (l : List Int) (s : Int), In2k l → 0 ≤ s → s + 2000 * l.length ≤ 4000000 → l.foldl (fun s x => w64 (s + x)) s = s + l.sum := by
    intro l
    induction l with
    | nil => intro s _ _ _; simp
    | cons x l ih =>
      intro s h h0 hb
      have hx := h x (List.mem_cons_self ..)
      simp only [List.length_cons] at hb
      have e : w64 (s + x) = s + x := by rw [w64_id] <;> omega
      rw [List.foldl_cons, e, ih (s + x) (fun y hy => h y (List.mem_cons_of_mem _ hy)) (by omega) (by omega), List.sum_cons]; omega
  unfold isum
  rw [gen l 0 h (by omega) (by omega)]; omega
theorem sum_set : ∀ {l : List Int} {i : Nat} {v : Int}, i < l.length → (l.set i v).sum = l.sum - l.getD i 0 + v
  | [], i, v, h => by simp at h
  | x :: l, 0, v, _ => by simp [List.sum_cons]; omega
  | x :: l, i + 1, v, h => by
    have := sum_set (l := l) (i := i) (v := v) (by simpa using h)
    rw [List.set_cons_succ, List.sum_cons, List.sum_cons, this, List.getD_cons_succ]; omega
theorem sum_nn : ∀ {l : List Int}, (∀ x ∈ l, 0 ≤ x) → 0 ≤ l.sum
  | [], _ => by simp
  | x :: l, h => by
    have h1 := h x (List.mem_cons_self ..)
    have h2 := sum_nn fun y hy => h y (List.mem_cons_of_mem _ hy)
    rw [List.sum_cons]; omega
theorem le_sum : ∀ {l : List Int}, (∀ x ∈ l, 0 ≤ x) → ∀ x ∈ l, x ≤ l.sum
  | y :: l, h, x, hx => by
    have h1 := h y (List.mem_cons_self ..)
    have h2 := sum_nn fun z hz => h z (List.mem_cons_of_mem _ hz)
    rw [List.sum_cons]
    rcases List.mem_cons.1 hx with rfl | hx
    · omega
    · have := le_sum (fun z hz => h z (List.mem_cons_of_mem _ hz)) x hx; omega
theorem getD_mem {l : List Int} {i : Nat} (h : i < l.length) : l.getD i 0 ∈ l := by
  rw [List.getD_eq_getElem?_getD, List.getElem?_eq_getElem h]; exact List.getElem_mem h
theorem getD_set2 {l : List Int} {i j : Nat} {x : Int} (h : i < l.length) : (l.set i x).getD j 0 = if i = j then x else l.getD j 0 := by
  rw [List.getD_eq_getElem?_getD, List.getElem?_set]
  split
  · simp [h]
  · rw [List.getD_eq_getElem?_getD]
theorem rowB_of {l : List Int} (h8 : l.length = 8) (hn : ∀ x ∈ l, 0 ≤ x) (hs : l.sum ≤ 2000) : rowB l = true ∧ isum l = l.sum := by
  have h2 : In2k l := fun x hx => ⟨hn x hx, by have := le_sum hn x hx; omega⟩
  have e := isum_sum h2 (by omega)
  refine ⟨?_, e⟩
  unfold rowB
  simp only [h8, e, hs, decide_true, Bool.true_and, Bool.and_true, List.all_eq_true]
  intro x hx
  exact decide_eq_true (h2 x hx)
theorem rowB_sum {l : List Int} (h : rowB l = true) : l.length = 8 ∧ In2k l ∧ isum l = l.sum ∧ 0 ≤ l.sum ∧ l.sum ≤ 2000 := by
  have h8 := row_len h
  have h2 : In2k l := row_all h
  have e := isum_sum h2 (by omega)
  refine ⟨h8, h2, e, sum_nn fun x hx => (h2 x hx).1, ?_⟩
  unfold rowB at h
  simp only [Bool.and_eq_true, decide_eq_true_eq] at h
  omega
theorem add1_row {a : List Int} {i : Nat} {n : Int} (h : rowB a = true) (hi : i < 8) (h0 : 0 ≤ n) (hs : isum a + n ≤ 2000) :
    rowB (add1 a i n) = true ∧ isum (add1 a i n) = isum a + n ∧ ∀ j, (add1 a i n).getD j 0 = a.getD j 0 + if i = j then n else 0 := by
  obtain ⟨h8, h2, e, s0, s1⟩ := rowB_sum h
  have hil : i < a.length := by omega
  have hx := h2 _ (getD_mem hil)
  have ew : w64 (a.getD i 0 + n) = a.getD i 0 + n := by rw [w64_id] <;> omega
  have es : (add1 a i n).sum = a.sum + n := by
    unfold add1
    rw [sum_set hil, ew]; omega
  have r := rowB_of (l := add1 a i n) (by unfold add1; rw [List.length_set]; exact h8) (fun x hx' => by
    unfold add1 at hx'
    rw [ew] at hx'
    rcases List.mem_or_eq_of_mem_set hx' with h' | h'
    · exact (h2 x h').1
    · omega) (by omega)
  refine ⟨r.1, by rw [r.2, es, e], fun j => ?_⟩
  unfold add1
  rw [getD_set2 hil, ew]
  split
  · rename_i h; subst h; rfl
  · omega
theorem roughB_mk {a b c : List Int} (ha : rowB a = true) (hb : rowB b = true) (hc : rowB c = true) (h1 : isum b = isum a) (h2 : isum c = isum a) : roughB [a, b, c] = true := by
  unfold roughB
  simp [ha, hb, hc, h1, h2]
theorem allR_eq {rs : List (List Int)} (h : roughB rs = true) : allR rs = isum (rs.getD 0 []) := by unfold allR; rw [h]; rfl
def cell (rs : List (List Int)) (i j : Nat) : Int := (rs.getD i []).getD j 0
theorem roughAdd_ok {rs : List (List Int)} {t n : Int} (h : roughB rs = true) (ht : thingB t = true) (h0 : 0 ≤ n) (hs : allR rs + n ≤ 2000) :
    (roughAdd rs t n).2 = true ∧ roughB (roughAdd rs t n).1 = true ∧ allR (roughAdd rs t n).1 = allR rs + n ∧ ∀ i, i < 3 → ∀ j, cell (roughAdd rs t n).1 i j = cell rs i j + if pl i t = j then n else 0 := by
  rw [allR_eq h] at hs ⊢
  obtain ⟨a, b, c, rfl, ha, hb, hc, e1, e2⟩ := rough_rows h
  rw [List.getD_cons_zero] at hs ⊢
  have sa := rowB_sum ha
  have ew : w64 (2000 - isum a) = 2000 - isum a := by rw [w64_id] <;> omega
  have cn : 0 ≤ n ∧ n ≤ w64 (2000 - isum a) := by rw [ew]; omega
  obtain ⟨a1, a2, a3⟩ := add1_row ha (pl_lt 0 t) h0 hs
  obtain ⟨b1, b2, b3⟩ := add1_row hb (pl_lt 1 t) h0 (by omega)
  obtain ⟨c1, c2, c3⟩ := add1_row hc (pl_lt 2 t) h0 (by omega)
  have er : roughAdd [a, b, c] t n = ([add1 a (pl 0 t) n, add1 b (pl 1 t) n, add1 c (pl 2 t) n], true) := by
    unfold roughAdd
    simp only [h, ht, List.getD_cons_zero, cn, and_self, decide_true, Bool.and_self, cond_true]
    rfl
  rw [er]
  have hB := roughB_mk a1 b1 c1 (by omega) (by omega)
  refine ⟨rfl, hB, by rw [allR_eq hB]; exact a2, fun i hi j => ?_⟩
  match i, hi with
  | 0, _ => exact a3 j
  | 1, _ => exact b3 j
  | 2, _ => exact c3 j
def sumN : List Knot → Int
  | [] => 0
  | x :: r => x.2.1 + sumN r
theorem sumN_nn {m : Int} : ∀ {l : List Knot}, Pos m l → 0 ≤ sumN l
  | [], _ => Int.le_refl 0
  | x :: r, h => by
    have h1 := h x (List.mem_cons_self ..)
    have h2 := sumN_nn (l := r) fun y hy => h y (List.mem_cons_of_mem _ hy)
    show 0 ≤ x.2.1 + sumN r; omega
theorem topGo_sum {all : Int} : ∀ {l : List Knot} {p s : Int}, 0 ≤ s → s + 2000 * l.length ≤ 1000000 → topGo all l p s = true → s + sumN l ≤ all
  | [], p, s, _, _, h => by simp only [topGo, decide_eq_true_eq] at h; simp only [sumN]; omega
  | x :: r, p, s, h0, hb, h => by
    simp only [topGo, Bool.and_eq_true, decide_eq_true_eq] at h
    simp only [List.length_cons] at hb
    have e : w64 (s + x.2.1) = s + x.2.1 := by rw [w64_id] <;> omega
    rw [e] at h
    have := topGo_sum (l := r) (by omega) (by omega) h.2
    simp only [sumN]; omega
theorem topGo_mk {all m : Int} (ha : all ≤ 2000) : ∀ {l : List Knot} {p s : Int}, 0 ≤ s → SA l → Pos m l → (∀ x ∈ l, p < x.1) → s + sumN l ≤ all → topGo all l p s = true
  | [], p, s, _, _, _, _, h => by simp only [topGo, decide_eq_true_eq]; simp only [sumN] at h; omega
  | x :: r, p, s, h0, hs, hp, hx, h => by
    have hs' := List.pairwise_cons.1 hs
    have px := hp x (List.mem_cons_self ..)
    have pr : Pos m r := fun y hy => hp y (List.mem_cons_of_mem _ hy)
    have nn := sumN_nn pr
    simp only [sumN] at h
    have e : w64 (s + x.2.1) = s + x.2.1 := by rw [w64_id] <;> omega
    simp only [topGo, Bool.and_eq_true, decide_eq_true_eq, e]
    exact ⟨⟨hx x (List.mem_cons_self ..), px.2.1, px.2.2.1, by omega⟩, topGo_mk ha (by omega) hs'.2 pr hs'.1 (by omega)⟩
theorem topB_sum {l : List Knot} {lost all : Int} (h : topB l lost all = true) : sumN l + 5 * lost ≤ all := by
  have f := four h
  unfold topB at h
  simp only [Bool.and_eq_true] at h
  have := topGo_sum (by omega) (by omega) h.2
  omega
theorem topB_mk {l : List Knot} {lost all m : Int} (hs : SA l) (hp : Pos m l) (h4 : l.length ≤ 4) (h0 : 0 ≤ lost) (ha0 : 0 ≤ all) (ha : all ≤ 2000) (h : sumN l + 5 * lost ≤ all) : topB l lost all = true := by
  have nn := sumN_nn hp
  unfold topB
  simp only [Bool.and_eq_true, decide_eq_true_eq]
  exact ⟨⟨h4, h0, by omega, ha0, ha⟩, topGo_mk ha (by omega) hs hp (fun x hx => by have := hp x hx; omega) (by omega)⟩
theorem sumN_put {t n : Int} : ∀ {l : List Knot} {m : Int}, Pos m l → 0 ≤ n → n ≤ 1000000 → m ≤ 1000000 → sumN (putP t n l false) = sumN l + n
  | [], m, _, _, _, _ => by show n + 0 = 0 + n; omega
  | x :: r, m, hp, h0, h1, hm => by
    have px := hp x (List.mem_cons_self ..)
    unfold putP
    simp only [putP_true, Bool.not_false, Bool.true_and]
    cases hc : decide (x.1 ≥ t)
    · simp only [cond_false]
      show x.2.1 + sumN (putP t n r false) = x.2.1 + sumN r + n
      rw [sumN_put (fun y hy => hp y (List.mem_cons_of_mem _ hy)) h0 h1 hm]; omega
    · simp only [cond_true]
      cases hd : (x.1 == t)
      · simp only [cond_false]
        show n + (x.2.1 + sumN r) = x.2.1 + sumN r + n
        omega
      · have e : w64 (n + x.2.1) = n + x.2.1 := by rw [w64_id] <;> omega
        simp only [cond_true, e]
        show n + x.2.1 + sumN r = x.2.1 + sumN r + n
        omega
theorem less3_spec {m M : Int} (h0 : 0 ≤ m) (h1 : m ≤ 1000000) (hM : M ≤ 1000000) : ∀ {l : List Knot}, SA l → Pos M l → SA (less3 m l) ∧ Pos M (less3 m l) ∧ (∀ x ∈ less3 m l, ∃ y ∈ l, y.1 = x.1) ∧
    sumN (less3 m l) + m * (l.countP fun y => decide (y.2.1 ≥ m)) ≤ sumN l ∧ (less3 m l).length = (l.countP fun y => decide (m < y.2.1)) ∧
    ∀ k, cntK (less3 m l) k ≤ cntK l k ∧ cntK l k ≤ cntK (less3 m l) k + m
  | [], hs, hp => ⟨hs, hp, fun x hx => by simp [less3] at hx, by simp [less3, sumN], rfl, fun k => by simp [less3, cntK]; omega⟩
  | x :: r, hs, hp => by
    have hs' := List.pairwise_cons.1 hs
    have px := hp x (List.mem_cons_self ..)
    obtain ⟨i1, i2, i3, i4, i5, i6⟩ := less3_spec h0 h1 hM hs'.2 (fun y hy => hp y (List.mem_cons_of_mem _ hy))
    have e : w64 (x.2.1 - m) = x.2.1 - m := by
      rw [w64_id] <;> omega
    unfold less3
    rw [e]
    by_cases hc : x.2.1 > m
    · have hg : x.2.1 ≥ m := by omega
      simp only [hc, decide_true, cond_true, List.countP_cons, hg, gt_iff_lt.1 hc, if_true]
      refine ⟨List.pairwise_cons.2 ⟨fun y hy => ?_, i1⟩, fun y hy => ?_, fun y hy => ?_, ?_, ?_, fun k => ?_⟩
      · obtain ⟨z, hz, hzy⟩ := i3 y hy
        have := hs'.1 z hz
        show x.1 < y.1; omega
      · rcases List.mem_cons.1 hy with rfl | hy
        · exact ⟨px.1, px.2.1, by show 1 ≤ x.2.1 - m; omega, by show x.2.1 - m ≤ M; omega⟩
        · exact i2 y hy
      · rcases List.mem_cons.1 hy with rfl | hy
        · exact ⟨x, List.mem_cons_self .., rfl⟩
        · obtain ⟨z, hz, hzy⟩ := i3 y hy
          exact ⟨z, List.mem_cons_of_mem _ hz, hzy⟩
      · show x.2.1 - m + sumN (less3 m r) + m * (((r.countP fun y => decide (y.2.1 ≥ m)) + 1 : Nat) : Int) ≤ x.2.1 + sumN r
        rw [Int.natCast_add, Int.mul_add]
        omega
      · rw [List.length_cons, i5]
      · have := i6 k
        show (if x.1 = k then x.2.1 - m else 0) + cntK (less3 m r) k ≤ (if x.1 = k then x.2.1 else 0) + cntK r k ∧ (if x.1 = k then x.2.1 else 0) + cntK r k ≤ (if x.1 = k then x.2.1 - m else 0) + cntK (less3 m r) k + m
        by_cases hk : x.1 = k
        · have c0 : cntK r k = 0 := cntK_none fun y hy => by have := hs'.1 y hy; omega
          have c1 : cntK (less3 m r) k = 0 := cntK_none fun y hy => by
            obtain ⟨z, hz, hzy⟩ := i3 y hy
            have := hs'.1 z hz; omega
          rw [if_pos hk, if_pos hk, c0, c1]; omega
        · rw [if_neg hk, if_neg hk]; omega
    · have hn : ¬ m < x.2.1 := hc
      simp only [hc, decide_false, cond_false, List.countP_cons, hn, Bool.false_eq_true, if_false]
      refine ⟨i1, i2, fun y hy => ?_, ?_, by omega, fun k => ?_⟩
      · obtain ⟨z, hz, hzy⟩ := i3 y hy
        exact ⟨z, List.mem_cons_of_mem _ hz, hzy⟩
      · show sumN (less3 m r) + m * (((r.countP fun y => decide (y.2.1 ≥ m)) + (if decide (x.2.1 ≥ m) = true then 1 else 0) : Nat) : Int) ≤ x.2.1 + sumN r
        by_cases hg : x.2.1 ≥ m
        · simp only [hg, decide_true, if_true]
          rw [Int.natCast_add, Int.mul_add]
          omega
        · simp only [hg, decide_false, Bool.false_eq_true, if_false, Nat.add_zero]
          omega
      · have := i6 k
        show cntK (less3 m r) k ≤ (if x.1 = k then x.2.1 else 0) + cntK r k ∧ (if x.1 = k then x.2.1 else 0) + cntK r k ≤ cntK (less3 m r) k + m
        by_cases hk : x.1 = k
        · have c0 : cntK r k = 0 := cntK_none fun y hy => by have := hs'.1 y hy; omega
          have c1 : cntK (less3 m r) k = 0 := cntK_none fun y hy => by
            obtain ⟨z, hz, hzy⟩ := i3 y hy
            have := hs'.1 z hz; omega
          rw [if_pos hk, c0, c1]; omega
        · rw [if_neg hk]; omega
theorem cut3_ok {l : List Knot} {lost all m : Int} (hs : SA l) (hp : Pos m l) (hm : m ≤ 1000000) (hl : l.length < 13) (h0 : 0 ≤ lost) (ha0 : 0 ≤ all) (ha : all ≤ 2000) (hsum : sumN l + 5 * lost ≤ all) :
    topB (cut3 l lost all).1 (cut3 l lost all).2.1 (cut3 l lost all).2.2.1 = true ∧ (cut3 l lost all).2.2.1 = all ∧ lost ≤ (cut3 l lost all).2.1 ∧
    ∀ k, cntK (cut3 l lost all).1 k ≤ cntK l k ∧ cntK l k + lost ≤ cntK (cut3 l lost all).1 k + (cut3 l lost all).2.1 := by
  have hp1 : Pos 1000000 l := hp.mono hm
  have nn := sumN_nn hp
  by_cases h : l.length ≤ 4
  · have e : cut3 l lost all = (l, lost, all, ()) := by
      have ew : w64 (lost + 0) = lost := by rw [w64_id] <;> omega
      unfold cut3
      rw [over3_few h, less3_zero hp1, ew]
    rw [e]
    exact ⟨topB_mk hs hp h h0 ha0 ha hsum, rfl, Int.le_refl _, fun k => ⟨Int.le_refl _, Int.le_refl _⟩⟩
  · have hsl := isort_len kN l
    obtain ⟨a0, a1, a2, a3, a4, r, hr⟩ : ∃ a0 a1 a2 a3 a4 r, isort kN l = a0 :: a1 :: a2 :: a3 :: a4 :: r := by
      match hq : isort kN l with
      | [] | [_] | [_, _] | [_, _, _] | [_, _, _, _] => rw [hq] at hsl; simp at hsl; omega
      | a0 :: a1 :: a2 :: a3 :: a4 :: r => exact ⟨a0, a1, a2, a3, a4, r, rfl⟩
    obtain ⟨f1, f2, f3, f4⟩ := fifth hp hr (by omega)
    obtain ⟨i1, i2, -, i4, i5, i6⟩ := less3_spec (m := a4.2.1) (by omega) (by have := hp a4 ((isort_perm kN l).mem_iff.1 (by rw [hr]; simp)); omega) hm hs hp
    have mul : a4.2.1 * 5 ≤ a4.2.1 * ((l.countP fun y => decide (y.2.1 ≥ a4.2.1) : Nat) : Int) := Int.mul_le_mul_of_nonneg_left (by omega) (by omega)
    have nn2 := sumN_nn i2
    have ew : w64 (lost + a4.2.1) = lost + a4.2.1 := by rw [w64_id] <;> omega
    have e : cut3 l lost all = (less3 a4.2.1 l, lost + a4.2.1, all, ()) := by
      unfold cut3
      rw [f1, ew]
    rw [e]
    refine ⟨topB_mk i1 i2 (by rw [i5]; omega) (by show 0 ≤ lost + a4.2.1; omega) ha0 ha (by show sumN (less3 a4.2.1 l) + 5 * (lost + a4.2.1) ≤ all; omega), rfl, by show lost ≤ lost + a4.2.1; omega, fun k => ?_⟩
    have := i6 k
    show cntK (less3 a4.2.1 l) k ≤ cntK l k ∧ cntK l k + lost ≤ cntK (less3 a4.2.1 l) k + (lost + a4.2.1)
    omega
theorem topAdd_ok {ps : List Knot} {lost all t : Int} (h : topB ps lost all = true) (ht : thingB t = true) (ha : all < 2000) :
    (topAdd ps lost all t).2 = true ∧ topB (topAdd ps lost all t).1.1 (topAdd ps lost all t).1.2.1 (topAdd ps lost all t).1.2.2.1 = true ∧ (topAdd ps lost all t).1.2.2.1 = all + 1 ∧ lost ≤ (topAdd ps lost all t).1.2.1 ∧
    ∀ k, cntK (topAdd ps lost all t).1.1 k ≤ cntK ps k + (if t = k then 1 else 0) ∧ cntK ps k + (if t = k then 1 else 0) + lost ≤ cntK (topAdd ps lost all t).1.1 k + (topAdd ps lost all t).1.2.1 := by
  obtain ⟨hs, hp, h4, l0, l1, a0, a1⟩ := topB_spec h
  have hsum := topB_sum h
  have tt := thing_le ht
  have ew : w64 (all + 1) = all + 1 := by rw [w64_id] <;> omega
  obtain ⟨i1, i2, -, i4⟩ := putP_spec (m := 2000) (t := t) (n := 1) (p := -1) tt (by omega) (by omega) (by omega) hs hp (by omega) (fun y hy => by have := hp y hy; omega)
  have il := putP_len t 1 ps false
  have is := sumN_put (t := t) (n := 1) hp (by omega) (by omega) (by omega)
  have e : topAdd ps lost all t = (cut3 (putP t 1 ps false) lost (all + 1), true) := by
    unfold topAdd
    simp only [h, ht, ha, decide_true, Bool.and_self, cond_true, ew]
  rw [e]
  obtain ⟨c1, c2, c3, c4⟩ := cut3_ok i1 i2 (by omega) (by omega) l0 (by omega) (by omega : all + 1 ≤ 2000) (by omega)
  exact ⟨rfl, c1, c2, c3, fun k => by have := c4 k; rw [i4 k] at this; exact this⟩
end Go.Proofs.YtdgdoeknpakmlaaGreat.Den
namespace Go.Proofs.YtdgdoeknpakmlaaGreat.Den
open Go
set_option linter.unusedVariables false
set_option linter.unusedSimpArgs false
def spanG : Nat → Int → Int → Int × Int
  | 0, l, h => (l - 64, h - 64)
  | n + 1, l, h => if l < 64 then spanG n (2 * l) (2 * h + 1) else (l - 64, h - 64)
def span (a : Int) : Int × Int := spanG 63 a a
theorem or_one (x : Nat) (h : x < 4611686018427387904) : (BitVec.ofInt 64 (2 * (x : Int)) ||| BitVec.ofInt 64 1).toNat = 2 * x + 1 := by
  rw [BitVec.toNat_or, BitVec.toNat_ofInt, BitVec.toNat_ofInt]
  have e1 : ((2 * (x : Int)) % ((2 ^ 64 : Nat) : Int)).toNat = x <<< 1 := by
    rw [Nat.shiftLeft_eq]; omega
  have e2 : ((1 : Int) % ((2 ^ 64 : Nat) : Int)).toNat = 1 := by decide
  rw [e1, e2, ← Nat.shiftLeft_add_eq_or_of_lt (by omega) x, Nat.shiftLeft_eq]
  omega
theorem shl_one (x : Int) (h0 : 0 ≤ x) (h : x < 4611686018427387904) : w64 (x * 2 ^ min (Int.toNat 1) (IntKind.bits IntKind.i64)) = 2 * x := by
  have e : (2 : Int) ^ min (Int.toNat 1) (IntKind.bits IntKind.i64) = 2 := by decide
  rw [e, w64_id] <;> omega
theorem impl_add_loop (f : Nat) (ks : List Knot) (hl : ks.length < 4294967296) (hg : GoodK ks) : ∀ (d i : Nat) (a : List Int) (fuel : Nat), i + d = ks.length → a.length = 128 → d < fuel →
    iter (impl_knotNums_addKnots_st0 f) fuel ((i : Int), (ks.length : Int), ks, a) = some (numsGo (ks.drop i) a, ())
  | 0, i, a, fuel + 1, hi, ha, hf => by
    rw [iter]
    show impl_knotNums_addKnots_step0 f _ _ = _
    unfold impl_knotNums_addKnots_step0
    have h1 : ¬ ((i : Int) < (ks.length : Int)) := by omega
    have h2 : ks.drop i = [] := List.drop_eq_nil_of_le (by omega)
    simp [h1, h2, numsGo]
  | d + 1, i, a, fuel + 1, hi, ha, hf => by
    rw [iter]
    show impl_knotNums_addKnots_step0 f _ _ = _
    unfold impl_knotNums_addKnots_step0
    have h1 : (i : Int) < (ks.length : Int) := by omega
    have h2 : (0 : Int) ≤ (i : Int) := by omega
    have h3 : w64 ((i : Int) + 1) = (i : Int) + 1 := by rw [w64_id] <;> omega
    have ih : ∀ a : List Int, a.length = 128 → iter (impl_knotNums_addKnots_st0 f) fuel ((i : Int) + 1, (ks.length : Int), ks, a) = some (numsGo (ks.drop (i + 1)) a, ()) := fun a ha => by
      exact_mod_cast impl_add_loop f ks hl hg d (i + 1) a fuel (by omega) ha (by omega)
    have hk := hg (ks.getD i (0, 0, ())) (by
      rw [List.getD_eq_getElem?_getD, List.getElem?_eq_getElem (by omega)]; exact List.getElem_mem _)
    rw [drop_cons (0, 0, ()) (show i < ks.length by omega)]
    simp only [h1, h2, h3, zz_eq, Int.toNat_natCast, decide_true, cond_true]
    obtain ⟨k, hk'⟩ : ∃ k : Knot, ks.getD i (0, 0, ()) = k := ⟨_, rfl⟩
    simp only [hk'] at hk ⊢
    have c1 : 0 ≤ k.1 := by omega
    have c2 : k.1 < ((128 : Nat) : Int) := by omega
    have c3 : k.1.toNat < a.length := by omega
    simp only [c1, c2, c3, decide_true, cond_true]
    rw [ih _ (by simpa using ha)]
    rfl
theorem implAddKnots_eq (f : Nat) (ks : List Knot) (a : List Int) (hl : ks.length < 4294967296) (hg : GoodK ks) (ha : a.length = 128) (hf : ks.length < f) : impl_knotNums_addKnots_fn f (a, (ks, ()), ()) = some (numsGo ks a, ()) := by
  unfold impl_knotNums_addKnots_fn impl_knotNums_addKnots_pre
  have := impl_add_loop f ks hl hg ks.length 0 a f (by omega) ha hf
  simpa [zz_eq] using this
def dq : Nat → Nat → List Int
  | _, 0 => []
  | n, k + 1 => (n : Int) :: dq (n - 1) k
theorem dq_len : ∀ {n k : Nat}, (dq n k).length = k
  | _, 0 => rfl
  | n, k + 1 => by simp [dq, dq_len]
theorem dq_snoc : ∀ {n k : Nat}, dq n (k + 1) = dq n k ++ [((n - k : Nat) : Int)]
  | n, 0 => by simp [dq]
  | n, k + 1 => by
    rw [dq, dq_snoc, dq, List.cons_append]
    have : n - 1 - k = n - (k + 1) := by omega
    rw [this]
theorem shl_or (x : Int) (h0 : 0 ≤ x) (h : x < 4611686018427387904) : w64 (zz (BitVec.toNat (BitVec.ofInt (IntKind.bits IntKind.i64) (w64 (x * 2 ^ min (Int.toNat 1) (IntKind.bits IntKind.i64))) ||| BitVec.ofInt (IntKind.bits IntKind.i64) 1))) = 2 * x + 1 := by
  rw [shl_one x h0 h]
  obtain ⟨y, rfl⟩ : ∃ y : Nat, x = y := ⟨x.toNat, by omega⟩
  show w64 (zz (BitVec.toNat (BitVec.ofInt 64 (2 * (y : Int)) ||| BitVec.ofInt 64 1))) = _
  rw [or_one y (by omega), zz_eq, w64_id] <;> omega
theorem and_one (x : Int) (h0 : 0 ≤ x) (h : x < 4611686018427387904) : w64 (zz (BitVec.toNat (BitVec.ofInt (IntKind.bits IntKind.i64) x &&& BitVec.ofInt (IntKind.bits IntKind.i64) 1))) = x % 2 := by
  show w64 (zz (BitVec.toNat (BitVec.ofInt 64 x &&& BitVec.ofInt 64 1))) = _
  obtain ⟨y, rfl⟩ : ∃ y : Nat, x = y := ⟨x.toNat, by omega⟩
  rw [BitVec.toNat_and, BitVec.toNat_ofInt, BitVec.toNat_ofInt]
  have e1 : ((y : Int) % ((2 ^ 64 : Nat) : Int)).toNat = y := by omega
  have e2 : ((1 : Int) % ((2 ^ 64 : Nat) : Int)).toNat = 1 := by decide
  rw [e1, e2, Nat.and_one_is_mod, zz_eq, w64_id] <;> omega
theorem shr_one (x : Int) (h0 : 0 ≤ x) : Int.fdiv x (2 ^ min (Int.toNat 1) (IntKind.bits IntKind.i64)) = x / 2 := by
  have e : (2 : Int) ^ min (Int.toNat 1) (IntKind.bits IntKind.i64) = 2 := by decide
  rw [e, Int.fdiv_eq_ediv_of_nonneg _ (by omega)]
theorem impl_sq_loop (f : Nat) (all : Int) : ∀ (n : Nat) (a : List Int) (fuel : Nat), n ≤ 63 → a.length = 128 → n < fuel →
    iter (impl_knotNums_squeeze_st1 f) fuel (all, a, dq n (n - n / 2)) = some (sqGo all n a, ())
  | 0, a, fuel + 1, hn, ha, hf => by
    rw [iter]
    show impl_knotNums_squeeze_step1 f _ _ = _
    unfold impl_knotNums_squeeze_step1
    simp [sqGo, dq, zz_eq]
  | n + 1, a, fuel + 1, hn, ha, hf => by
    rw [iter]
    show impl_knotNums_squeeze_step1 f _ _ = _
    obtain ⟨k, hk⟩ : ∃ k, n + 1 - (n + 1) / 2 = k + 1 := ⟨n - (n + 1) / 2, by omega⟩
    have ih : ∀ a : List Int, a.length = 128 → iter (impl_knotNums_squeeze_st1 f) fuel (all, a, dq n (n - n / 2)) = some (sqGo all n a, ()) := fun a ha =>
      impl_sq_loop f all n a fuel (by omega) ha (by omega)
    rw [hk, dq, Nat.add_sub_cancel]
    unfold impl_knotNums_squeeze_step1
    have g0 : (((n + 1 : Nat) : Int) :: dq n k).getD (Int.toNat 0) 0 = ((n + 1 : Nat) : Int) := rfl
    have g1 : List.take (k + 1 - Int.toNat 1) (List.drop (Int.toNat 1) (((n + 1 : Nat) : Int) :: dq n k)) = dq n k := by
      have : Int.toNat 1 = 1 := rfl
      rw [this, List.drop_succ_cons, List.drop_zero, Nat.add_sub_cancel]
      exact List.take_of_length_le (by rw [dq_len]; exact Nat.le_refl _)
    have hlen : (((n + 1 : Nat) : Int) :: dq n k).length = k + 1 := by simp [dq_len]
    have h1 : w64 (((n + 1 : Nat) : Int) * 2 ^ min (Int.toNat 1) (IntKind.bits IntKind.i64)) = ((2 * (n + 1) : Nat) : Int) := by
      rw [shl_one _ (by omega) (by omega)]; omega
    have h2 : w64 (zz (BitVec.toNat (BitVec.ofInt (IntKind.bits IntKind.i64) ((2 * (n + 1) : Nat) : Int) ||| BitVec.ofInt (IntKind.bits IntKind.i64) 1))) = ((2 * (n + 1) + 1 : Nat) : Int) := by
      have := shl_or ((n + 1 : Nat) : Int) (by omega) (by omega)
      rw [h1] at this
      rw [this]; omega
    have h3 := and_one ((n + 1 : Nat) : Int) (by omega) (by omega)
    have h4 := shr_one ((n + 1 : Nat) : Int) (by omega)
    simp only [zz_eq] at h2 h3
    have l0 : (0 : Int) < ((k + 1 : Nat) : Int) := by omega
    have l0' : (1 : Int) ≤ ((k + 1 : Nat) : Int) := by omega
    have l1 : 2 * (n + 1) < 128 := by omega
    have l2 : 2 * (n + 1) + 1 < 128 := by omega
    have l3 : n + 1 < 128 := by omega
    have l4 : ((2 * (n + 1) : Nat) : Int) < ((128 : Nat) : Int) := by omega
    have l5 : ((2 * (n + 1) + 1 : Nat) : Int) < ((128 : Nat) : Int) := by omega
    have l6 : ((n + 1 : Nat) : Int) < ((128 : Nat) : Int) := by omega
    have l7 : (dq n k).length + 1 < LIM := by rw [dq_len]; simp only [LIM]; omega
    have z0 : Int.toNat 0 < k + 1 := by simp
    simp only [g0, g1, hlen, h1, h2, h3, h4, zz_eq, l0, l0', gt_iff_lt, decide_true, cond_true, z0, Int.natCast_nonneg, Int.toNat_natCast, List.length_set, ha, l1, l2, l3, l4, l5, l6, l7, List.length_singleton]
    -- behind the two tests, the queue
    have q : ∀ a' : List Int, a'.length = 128 → (cond (((n + 1 : Nat) : Int) % 2 == 0) (iter (impl_knotNums_squeeze_st1 f) fuel (all, a', dq n k ++ [((n + 1 : Nat) : Int) / 2])) (iter (impl_knotNums_squeeze_st1 f) fuel (all, a', dq n k))) = some (sqGo all n a', ()) := by
      intro a' ha'
      by_cases hp : ((n + 1 : Nat) : Int) % 2 = 0
      · have e : dq n k ++ [((n + 1 : Nat) : Int) / 2] = dq n (n - n / 2) := by
          have e1 : n - n / 2 = k + 1 := by omega
          have e2 : ((n + 1 : Nat) : Int) / 2 = ((n - k : Nat) : Int) := by omega
          rw [e1, dq_snoc, e2]
        rw [hp, e]
        exact ih a' ha'
      · have e : k = n - n / 2 := by omega
        have hb : (((n + 1 : Nat) : Int) % 2 == 0) = false := by simpa using hp
        rw [hb, cond_false, e]
        exact ih a' ha'
    unfold sqGo sq1
    by_cases c1 : 0 < w64 (a.getD (2 * (n + 1)) 0 + a.getD (2 * (n + 1) + 1) 0)
    · by_cases c2 : w64 (w64 (a.getD (2 * (n + 1)) 0 + a.getD (2 * (n + 1) + 1) 0) + a.getD (n + 1) 0) ≤ w64 (all.tdiv 8)
      · rw [if_pos ⟨c1, c2⟩]
        simp only [c1, c2, decide_true, cond_true]
        exact q _ (by simpa using ha)
      · rw [if_neg (fun h => c2 h.2)]
        simp only [c1, c2, decide_true, decide_false, cond_true, cond_false]
        exact q _ ha
    · rw [if_neg (fun h => c1 h.1)]
      simp only [c1, decide_false, cond_false]
      exact q _ ha
theorem impl_queue_loop (f : Nat) (all : Int) (a : List Int) : ∀ (d : Nat) (q : List Int) (fuel : Nat), q.length + d ≤ 64 → d < fuel →
    iter (impl_knotNums_squeeze_st0 f) fuel (((31 + d : Nat) : Int), all, a, q) = iter (impl_knotNums_squeeze_st1 f) f (all, a, q ++ dq (31 + d) d)
  | 0, q, fuel + 1, hq, hf => by
    rw [iter]
    show impl_knotNums_squeeze_step0 f _ _ _ = _
    unfold impl_knotNums_squeeze_step0
    simp [dq]
  | d + 1, q, fuel + 1, hq, hf => by
    rw [iter]
    show impl_knotNums_squeeze_step0 f _ _ _ = _
    unfold impl_knotNums_squeeze_step0
    have h1 : ((31 + (d + 1) : Nat) : Int) ≥ 32 := by omega
    have h2 : w64 (((31 + (d + 1) : Nat) : Int) - 1) = ((31 + d : Nat) : Int) := by rw [w64_id] <;> omega
    have h3 : q.length + 1 < LIM := by simp only [LIM]; omega
    simp only [h1, h2, h3, decide_true, cond_true, List.length_singleton]
    rw [impl_queue_loop f all a d _ fuel (by simp; omega) (by omega), dq, show 31 + (d + 1) - 1 = 31 + d from by omega]
    simp
theorem implSq_eq (f : Nat) (a : List Int) (all : Int) (ha : a.length = 128) (hf : 64 < f) : impl_knotNums_squeeze_fn f (a, (all, ()), ()) = some (sqGo all 63 a, ()) := by
  unfold impl_knotNums_squeeze_fn impl_knotNums_squeeze_pre
  have h1 := impl_queue_loop f all a 32 [] f (by simp) (by omega)
  have h2 := impl_sq_loop f all 63 a f (by omega) ha (by omega)
  have e : (List.replicate (Int.toNat 0) (0 : Int)) = [] := rfl
  simp only [e]
  exact h1.trans h2
theorem impl_sum_loop (f : Nat) (a : List Int) (all u : Int) (ha : a.length = 128) : ∀ (d i : Nat) (out : List Knot) (fuel : Nat), i + d = 128 → out.length ≤ i → d < fuel →
    iter (impl_rankSum_st0 f) fuel ((i : Int), a, all, out, u) = some ((out ++ listGo i (a.drop i), all, ()), ())
  | 0, i, out, fuel + 1, hi, ho, hf => by
    rw [iter]
    show impl_rankSum_step0 f _ _ = _
    unfold impl_rankSum_step0
    have h1 : ¬ ((i : Int) < 128) := by omega
    have h2 : a.drop i = [] := List.drop_eq_nil_of_le (by omega)
    simp [h1, h2, listGo]
  | d + 1, i, out, fuel + 1, hi, ho, hf => by
    rw [iter]
    show impl_rankSum_step0 f _ _ = _
    unfold impl_rankSum_step0
    have h1 : (i : Int) < 128 := by omega
    have h1' : (i : Int) < ((128 : Nat) : Int) := by omega
    have h2 : (0 : Int) ≤ (i : Int) := by omega
    have h3 : w64 ((i : Int) + 1) = (i : Int) + 1 := by rw [w64_id] <;> omega
    have ih : ∀ out : List Knot, out.length ≤ i + 1 → iter (impl_rankSum_st0 f) fuel ((i : Int) + 1, a, all, out, u) = some ((out ++ listGo (i + 1) (a.drop (i + 1)), all, ()), ()) := fun out ho => by
      exact_mod_cast impl_sum_loop f a all u ha d (i + 1) out fuel (by omega) ho (by omega)
    have h4 : out.length + 1 < LIM := by simp only [LIM]; omega
    rw [drop_cons 0 (show i < a.length by omega)]
    simp only [h1, h1', h2, h3, zz_eq, ha, Int.toNat_natCast, decide_true, cond_true, listGo, List.length_singleton, h4]
    by_cases c : 0 < a.getD i 0
    · simp only [c, gt_iff_lt, decide_true, cond_true, if_true]
      rw [ih _ (by simp; omega)]
      simp
    · simp only [c, gt_iff_lt, decide_false, cond_false, if_false]
      exact ih _ (by omega)
theorem rankSum_eq (f : Nat) (ka kb : List Knot) (alla allb : Int) (hla : ka.length < 2147483648) (hlb : kb.length < 2147483648) (ga : GoodK ka) (gb : GoodK kb) (hfa : ka.length < f) (hfb : kb.length < f) (hf : 128 < f) :
    impl_rankSum_fn f ((ka, alla, ()), (kb, allb, ()), ()) = some ((sumK ka kb (w64 (alla + allb)), w64 (alla + allb), ()), ()) := by
  show impl_rankSum_pre f (iter (impl_rankSum_st0 f) f) ka alla kb allb = _
  unfold impl_rankSum_pre sumK
  have hz : (List.replicate 128 (0 : Int)).length = 128 := List.length_replicate ..
  have h1 : (numsGo ka zeros).length = 128 := by rw [numsGo_len]; exact hz
  have h2 : (numsGo kb (numsGo ka zeros)).length = 128 := by rw [numsGo_len]; exact h1
  have h3 : (sqGo (w64 (alla + allb)) 63 (numsGo kb (numsGo ka zeros))).length = 128 := by rw [sqGo_len]; exact h2
  have e1 := implAddKnots_eq f ka zeros (by omega) ga hz hfa
  have e2 := implAddKnots_eq f kb (numsGo ka zeros) (by omega) gb h1 hfb
  have e3 := implSq_eq f (numsGo kb (numsGo ka zeros)) (w64 (alla + allb)) h2 (by omega)
  have e4 := impl_sum_loop f (sqGo (w64 (alla + allb)) 63 (numsGo kb (numsGo ka zeros))) (w64 (alla + allb)) 0 h3 128 0 [] f (by omega) (by simp) hf
  have e0 : List.replicate 128 (0 : Int) = zeros := rfl
  rw [e0, e1, Option.bind_some, e2, Option.bind_some, e3, Option.bind_some]
  have e5 : Nat.beq ((sqGo (w64 (alla + allb)) 63 (numsGo kb (numsGo ka zeros))).length * Kd.sz (Kd.int IntKind.i64)) 128 = true := by
    rw [h3]; rfl
  simp only [e5, cond_true]
  rw [List.nil_append, List.drop_zero] at e4
  exact e4
theorem implAdd_eq (f : Nat) (ks : List Knot) (all t : Int) (hl : ks.length < 2147483648) (hf : ks.length < f) (hf2 : 128 < f) :
    impl_RankAdd_fn f ((ks, all, ()), (t, ()), ()) = some (if addB ks all t = true then ((addS ks all t, w64 (all + 1), ()), (true, ()), ()) else noRank) := by
  show impl_RankAdd_pre f ks all t = _
  unfold impl_RankAdd_pre noRank
  simp only [implOk_eq f ks all (by omega) hf, isThing_eq, Option.bind_some]
  by_cases c : okB ks all = true
  · by_cases c2 : 0 ≤ t ∧ t ≤ 63
    · have b := okB_all c
      by_cases c3 : all = 2000
      · have : addB ks all t = false := by unfold addB; simp [c, c3]
        subst c3
        simp [c, c2, this]
      · have c4 : (all == 2000) = false := by simpa using c3
        have h : addB ks all t = true := by unfold addB; simp [c]; omega
        obtain ⟨e1, e2⟩ := addS_sumK h
        have e3 : w64 (64 + t) = 64 + t := by rw [w64_id] <;> omega
        have g1 : GoodK [((64 + t, 1, ()) : Knot)] := fun k hk => by
          simp only [List.mem_singleton] at hk
          subst hk
          show 1 ≤ 64 + t ∧ 64 + t ≤ 127 ∧ (1 : Int) ≤ 1 ∧ (1 : Int) ≤ 2000
          omega
        have e4 := rankSum_eq f ks [(64 + t, 1, ())] all 1 hl (by simp) (okB_good c) g1 hf (by simp; omega) hf2
        rw [e2] at e4
        simp [c, c2, c4, h, e1, e2, e3, e4]
    · have : addB ks all t = false := by unfold addB; simp [c]; omega
      simp [c, c2, this]
  · have : addB ks all t = false := by unfold addB; simp [c]
    simp [c, this]
end Go.Proofs.YtdgdoeknpakmlaaGreat.Den
namespace Go.Proofs.YtdgdoeknpakmlaaGreat.Den
open Go
set_option linter.unusedVariables false
set_option linter.unusedSimpArgs false
def wsum (p : Nat → Bool) : Nat → List Int → Int
  | _, [] => 0
  | i, x :: r => (if p i = true then x else 0) + wsum p (i + 1) r
def ksum (p : Nat → Bool) : List Knot → Int
  | [] => 0
  | k :: r => (if p k.1.toNat = true then k.2.1 else 0) + ksum p r
abbrev yes : Nat → Bool := fun _ => true
theorem wsum_set (p : Nat → Bool) (x : Int) : ∀ {l : List Int} {i j : Nat}, j < l.length → wsum p i (l.set j x) = wsum p i l + (if p (i + j) = true then x - l.getD j 0 else 0)
  | [], i, j, h => by simp at h
  | y :: l, i, 0, h => by
    simp only [List.set_cons_zero, wsum, Nat.add_zero, List.getD_cons_zero]
    split <;> omega
  | y :: l, i, j + 1, h => by
    simp only [List.set_cons_succ, wsum, List.getD_cons_succ]
    rw [wsum_set p x (by simpa using h), show i + 1 + j = i + (j + 1) from by omega]
    omega
theorem getD_set {l : List Int} {i j : Nat} {x : Int} (h : i < l.length) : (l.set i x).getD j 0 = if i = j then x else l.getD j 0 := by
  simp only [List.getD_eq_getElem?_getD]
  by_cases e : i = j
  · subst e; rw [List.getElem?_set_self h, if_pos rfl]; rfl
  · rw [List.getElem?_set_ne e, if_neg e]
theorem wsum_nonneg {p : Nat → Bool} : ∀ {l : List Int} {i : Nat}, (∀ j, 0 ≤ l.getD j 0) → 0 ≤ wsum p i l
  | [], i, h => Int.le_refl _
  | x :: l, i, h => by
    have h0 : 0 ≤ x := h 0
    have := wsum_nonneg (p := p) (l := l) (i := i + 1) fun j => h (j + 1)
    simp only [wsum]; split <;> omega
theorem getD_le_wsum : ∀ {l : List Int} {i j : Nat}, (∀ j, 0 ≤ l.getD j 0) → l.getD j 0 ≤ wsum yes i l
  | [], i, j, h => by simp [wsum]
  | x :: l, i, 0, h => by
    have := wsum_nonneg (p := yes) (l := l) (i := i + 1) fun j => h (j + 1)
    simp only [wsum, List.getD_cons_zero, if_true]; omega
  | x :: l, i, j + 1, h => by
    have h0 : 0 ≤ x := h 0
    have := getD_le_wsum (l := l) (i := i + 1) (j := j) fun j => h (j + 1)
    simp only [wsum, List.getD_cons_succ, if_true]; omega
theorem getD2_le_wsum : ∀ {l : List Int} {i j k : Nat}, j < k → (∀ j, 0 ≤ l.getD j 0) → l.getD j 0 + l.getD k 0 ≤ wsum yes i l
  | [], i, j, k, hjk, h => by simp [wsum]
  | x :: l, i, 0, k + 1, hjk, h => by
    have := getD_le_wsum (l := l) (i := i + 1) (j := k) fun j => h (j + 1)
    simp only [wsum, List.getD_cons_zero, List.getD_cons_succ, if_true]; omega
  | x :: l, i, j + 1, k + 1, hjk, h => by
    have h0 : 0 ≤ x := h 0
    have := getD2_le_wsum (l := l) (i := i + 1) (j := j) (k := k) (by omega) fun j => h (j + 1)
    simp only [wsum, List.getD_cons_succ, if_true]; omega
theorem wsum_one : ∀ {l : List Int} {i j : Nat}, wsum (fun k => k == i + j) i l = l.getD j 0
  | [], i, j => by simp [wsum]
  | x :: l, i, 0 => by
    have : ∀ {l : List Int} {k : Nat}, i < k → wsum (fun m => m == i + 0) k l = 0 := by
      intro l
      induction l with
      | nil => intro k _; rfl
      | cons y l ih =>
        intro k hk
        have e : (k == i + 0) = false := by simp; omega
        show (if (k == i + 0) = true then y else 0) + wsum (fun m => m == i + 0) (k + 1) l = 0
        rw [e, ih (by omega)]; rfl
    simp only [wsum, List.getD_cons_zero]
    rw [this (by omega)]
    simp
  | x :: l, i, j + 1 => by
    simp only [wsum, List.getD_cons_succ]
    have e : ∀ k, (k == i + (j + 1)) = (k == i + 1 + j) := fun k => by rw [show i + (j + 1) = i + 1 + j from by omega]
    have : (i == i + (j + 1)) = false := by simp
    simp only [this]
    rw [show (fun k => k == i + (j + 1)) = fun k => k == i + 1 + j from funext e, wsum_one]
    simp
structure NumsP (a : List Int) (top : Int) : Prop where
  len : a.length = 128
  nn : ∀ j, 0 ≤ a.getD j 0
  top : wsum yes 0 a ≤ top
theorem wsum_zeros (p : Nat → Bool) : wsum p 0 zeros = 0 := by
  have : ∀ (n i : Nat), wsum p i (List.replicate n (0 : Int)) = 0 := by
    intro n
    induction n with
    | zero => intro i; rfl
    | succ n ih => intro i; simp [List.replicate_succ, wsum, ih]
  exact this 128 0
theorem zeros_p : NumsP zeros 0 where
  len := List.length_replicate ..
  nn j := by
    simp only [zeros, List.getD_eq_getElem?_getD, List.getElem?_replicate]
    split <;> simp
  top := by rw [wsum_zeros]; exact Int.le_refl _
theorem numsGo_sum : ∀ {ks : List Knot} {a : List Int} {top : Int}, GoodK ks → NumsP a top → 0 ≤ top → top + ksum yes ks ≤ 1000000000000 →
    NumsP (numsGo ks a) (top + ksum yes ks) ∧ ∀ p, wsum p 0 (numsGo ks a) = wsum p 0 a + ksum p ks
  | [], a, top, hg, ha, h0, ht => ⟨by simpa [numsGo, ksum] using ha, fun p => by simp [numsGo, ksum]⟩
  | k :: r, a, top, hg, ha, h0, ht => by
    have hk := hg k (by simp)
    have hkr : ∀ {r : List Knot}, GoodK r → 0 ≤ ksum yes r := by
      intro r
      induction r with
      | nil => intro _; exact Int.le_refl _
      | cons x r ih => intro hg; have := ih fun y hy => hg y (by simp [hy]); have := hg x (by simp); simp only [ksum, if_true]; omega
    have hr := hkr (r := r) fun y hy => hg y (by simp [hy])
    simp only [ksum, if_true] at ht
    have hle := getD_le_wsum (l := a) (i := 0) (j := k.1.toNat) ha.nn
    have h1 := ha.nn k.1.toNat
    have h2 := ha.top
    have hlen := ha.len
    have e : w64 (a.getD k.1.toNat 0 + k.2.1) = a.getD k.1.toNat 0 + k.2.1 := by rw [w64_id] <;> omega
    have hs : ∀ p, wsum p 0 (a.set k.1.toNat (a.getD k.1.toNat 0 + k.2.1)) = wsum p 0 a + (if p k.1.toNat = true then k.2.1 else 0) := fun p => by
      rw [wsum_set p _ (by omega), Nat.zero_add]; split <;> omega
    have ha' : NumsP (a.set k.1.toNat (a.getD k.1.toNat 0 + k.2.1)) (top + k.2.1) := {
      len := by simpa using hlen
      nn := fun j => by
        rw [getD_set (by omega)]
        split
        · omega
        · exact ha.nn j
      top := by rw [hs]; simp only [if_true]; omega }
    have ih := numsGo_sum (ks := r) (a := a.set k.1.toNat (a.getD k.1.toNat 0 + k.2.1)) (top := top + k.2.1) (fun y hy => hg y (by simp [hy])) ha' (by omega) (by omega)
    simp only [numsGo, ksum, e, if_true]
    refine ⟨?_, fun p => by rw [ih.2 p, hs p]; omega⟩
    rw [← Int.add_assoc]; exact ih.1
theorem sq1_sum {a : List Int} {top all : Int} {n : Nat} (ha : NumsP a top) (ht : top ≤ 1000000000000) (h1 : 1 ≤ n) (h2 : n ≤ 63) :
    NumsP (sq1 all n a) top ∧ (∃ l h : Int, 0 ≤ l ∧ 0 ≤ h ∧ ∀ p, wsum p 0 (sq1 all n a) = wsum p 0 a + (if p n = true then l + h else 0) - (if p (2 * n) = true then l else 0) - (if p (2 * n + 1) = true then h else 0)) ∧
      ((∀ j, 1 ≤ j → j < 64 → a.getD j 0 ≤ w64 (all.tdiv 8)) → 0 ≤ w64 (all.tdiv 8) → ∀ j, 1 ≤ j → j < 64 → (sq1 all n a).getD j 0 ≤ w64 (all.tdiv 8)) := by
  have hlen := ha.len
  have hl := ha.nn (2 * n)
  have hh := ha.nn (2 * n + 1)
  have hn := ha.nn n
  have htop := ha.top
  have b1 := getD2_le_wsum (l := a) (i := 0) (j := 2 * n) (k := 2 * n + 1) (by omega) ha.nn
  have b2 := getD_le_wsum (l := a) (i := 0) (j := n) ha.nn
  have e1 : w64 (a.getD (2 * n) 0 + a.getD (2 * n + 1) 0) = a.getD (2 * n) 0 + a.getD (2 * n + 1) 0 := by rw [w64_id] <;> omega
  have e2 : w64 (a.getD (2 * n) 0 + a.getD (2 * n + 1) 0 + a.getD n 0) = a.getD (2 * n) 0 + a.getD (2 * n + 1) 0 + a.getD n 0 := by rw [w64_id] <;> omega
  have e3 : w64 (a.getD n 0 + (a.getD (2 * n) 0 + a.getD (2 * n + 1) 0)) = a.getD n 0 + (a.getD (2 * n) 0 + a.getD (2 * n + 1) 0) := by rw [w64_id] <;> omega
  unfold sq1
  rw [e1, e2, e3]
  split
  · rename_i hc
    have g1 : ∀ j, (((a.set n (a.getD n 0 + (a.getD (2 * n) 0 + a.getD (2 * n + 1) 0))).set (2 * n) 0).set (2 * n + 1) 0).getD j 0 = if 2 * n + 1 = j then 0 else if 2 * n = j then 0 else if n = j then a.getD n 0 + (a.getD (2 * n) 0 + a.getD (2 * n + 1) 0) else a.getD j 0 := fun j => by
      rw [getD_set (by first | omega | (simp only [List.length_set]; omega)), getD_set (by first | omega | (simp only [List.length_set]; omega)), getD_set (by omega)]
    have hs : ∀ p, wsum p 0 (((a.set n (a.getD n 0 + (a.getD (2 * n) 0 + a.getD (2 * n + 1) 0))).set (2 * n) 0).set (2 * n + 1) 0) =
        wsum p 0 a + (if p n = true then a.getD (2 * n) 0 + a.getD (2 * n + 1) 0 else 0) - (if p (2 * n) = true then a.getD (2 * n) 0 else 0) - (if p (2 * n + 1) = true then a.getD (2 * n + 1) 0 else 0) := by
      intro p
      rw [wsum_set p 0 (by first | omega | (simp only [List.length_set]; omega)), wsum_set p 0 (by first | omega | (simp only [List.length_set]; omega)), wsum_set p _ (by omega), getD_set (by first | omega | (simp only [List.length_set]; omega)), getD_set (by first | omega | (simp only [List.length_set]; omega)), getD_set (by first | omega | (simp only [List.length_set]; omega))]
      rw [if_neg (show ¬ 2 * n = 2 * n + 1 by omega), if_neg (show ¬ n = 2 * n + 1 by omega), if_neg (show ¬ n = 2 * n by omega)]
      simp only [Nat.zero_add]
      split <;> split <;> split <;> omega
    refine ⟨⟨by simpa using hlen, fun j => ?_, ?_⟩, ⟨_, _, hl, hh, hs⟩, fun hb h0 j hj1 hj2 => ?_⟩
    · rw [g1]; repeat' split
      all_goals first | omega | exact ha.nn j
    · rw [hs]; simp only [if_true]; omega
    · rw [g1]; repeat' split
      all_goals first | omega | exact hb j hj1 hj2
  · exact ⟨ha, ⟨0, 0, Int.le_refl _, Int.le_refl _, fun p => by simp⟩, fun hb _ => hb⟩
theorem sqGo_sum {all top : Int} (ht : top ≤ 1000000000000) : ∀ {n : Nat} {a : List Int}, n ≤ 63 → NumsP a top → NumsP (sqGo all n a) top ∧
      (∀ p : Nat → Bool, (∀ m, 1 ≤ m → m ≤ 63 → p m = true → p (2 * m) = true ∧ p (2 * m + 1) = true) → wsum p 0 (sqGo all n a) ≤ wsum p 0 a) ∧
      (∀ p : Nat → Bool, (∀ m, 1 ≤ m → m ≤ 63 → p (2 * m) = true ∨ p (2 * m + 1) = true → p m = true) → wsum p 0 a ≤ wsum p 0 (sqGo all n a)) ∧
      ((∀ j, 1 ≤ j → j < 64 → a.getD j 0 ≤ w64 (all.tdiv 8)) → 0 ≤ w64 (all.tdiv 8) → ∀ j, 1 ≤ j → j < 64 → (sqGo all n a).getD j 0 ≤ w64 (all.tdiv 8))
  | 0, a, hn, ha => ⟨ha, fun p _ => Int.le_refl _, fun p _ => Int.le_refl _, fun hb _ => hb⟩
  | n + 1, a, hn, ha => by
    obtain ⟨h1, ⟨l, h, hl, hh, hs⟩, h3⟩ := sq1_sum (all := all) (n := n + 1) ha ht (by omega) (by omega)
    obtain ⟨i1, i2, i3, i4⟩ := sqGo_sum ht (n := n) (by omega) h1
    refine ⟨i1, fun p hp => Int.le_trans (i2 p hp) ?_, fun p hp => Int.le_trans ?_ (i3 p hp), fun hb h0 => i4 (h3 hb h0) h0⟩
    · rw [hs p]
      have := hp (n + 1) (by omega) (by omega)
      by_cases c : p (n + 1) = true
      · obtain ⟨c1, c2⟩ := this c
        simp only [c, c1, c2, if_true]; omega
      · rw [if_neg c]
        split <;> split <;> omega
    · rw [hs p]
      have := hp (n + 1) (by omega) (by omega)
      by_cases c : p (n + 1) = true
      · simp only [c, if_true]
        split <;> split <;> omega
      · have c1 : ¬ p (2 * (n + 1)) = true := fun h => c (this (.inl h))
        have c2 : ¬ p (2 * (n + 1) + 1) = true := fun h => c (this (.inr h))
        simp only [c, c1, c2]; simp
theorem ksum_list {p : Nat → Bool} : ∀ {l : List Int} {i : Nat}, (∀ j, 0 ≤ l.getD j 0) → ksum p (listGo i l) = wsum p i l
  | [], i, h => rfl
  | x :: l, i, h => by
    have h0 : 0 ≤ x := h 0
    have ih := ksum_list (p := p) (l := l) (i := i + 1) fun j => h (j + 1)
    unfold listGo
    split
    · simp only [ksum, wsum, ih, Int.toNat_natCast]
    · have : x = 0 := by omega
      subst this
      simp [wsum, ih]
theorem ok_list {all : Int} (hall : all ≤ 2000) : ∀ {l : List Int} {i : Nat} {before sum : Int}, before < i → 1 ≤ i → i + l.length ≤ 128 → (∀ j, 0 ≤ l.getD j 0) → (∀ j, i + j < 64 → l.getD j 0 ≤ w64 (all.tdiv 8)) →
    0 ≤ sum → sum + wsum yes i l = all → okGo all (listGo i l) before sum = true
  | [], i, before, sum, h1, h2, h3, h4, h5, h6, h7 => by
    simp only [wsum] at h7
    simp [listGo, okGo]; omega
  | x :: l, i, before, sum, h1, h2, h3, h4, h5, h6, h7 => by
    have hx : 0 ≤ x := h4 0
    have hw := wsum_nonneg (p := yes) (l := l) (i := i + 1) fun j => h4 (j + 1)
    simp only [wsum, if_true] at h7
    simp only [List.length_cons] at h3
    have ih := fun (b s : Int) (hb : b < ((i + 1 : Nat) : Int)) (hs : 0 ≤ s) (e : s + wsum yes (i + 1) l = all) => ok_list hall (l := l) (i := i + 1) (before := b) (sum := s) hb (by omega) (by omega) (fun j => h4 (j + 1)) (fun j hj => h5 (j + 1) (by omega)) hs e
    unfold listGo
    split
    · unfold okGo
      have e : w64 (sum + x) = sum + x := by rw [w64_id] <;> omega
      have h50 : i < 64 → x ≤ w64 (all.tdiv 8) := fun h => h5 0 (by omega)
      rw [if_neg (by
        show ¬ ((i : Int) ≤ before ∨ 128 ≤ (i : Int) ∨ x < 1 ∨ 2000 < x ∨ ((i : Int) < 64 ∧ w64 (all.tdiv 8) < x))
        rintro (h | h | h | h | ⟨h, h'⟩)
        · omega
        · omega
        · omega
        · omega
        · have := h50 (by omega); omega), e]
      exact ih _ _ (by show (i : Int) < ((i + 1 : Nat) : Int); omega) (by omega) (by omega)
    · have : x = 0 := by omega
      exact ih _ _ (by omega) h6 (by omega)
theorem w64_div {all : Int} (h0 : 0 ≤ all) (h1 : all ≤ 2000) : w64 (all.tdiv 8) = all / 8 := by
  rw [Int.tdiv_eq_ediv_of_nonneg h0, w64_id] <;> omega
theorem okGo_sum {all : Int} (hall : 0 ≤ all) (hall2 : all ≤ 2000) : ∀ {ks : List Knot} {before sum : Int}, 0 ≤ before → before ≤ 127 → 0 ≤ sum → sum + 2000 * (127 - before) ≤ 1000000 → okGo all ks before sum = true →
    sum + ksum yes ks = all ∧ (∀ j : Nat, (j : Int) ≤ before → ksum (fun k => k == j) ks = 0) ∧ (∀ j : Nat, j < 64 → ksum (fun k => k == j) ks ≤ all / 8) ∧ (ks.length : Int) ≤ 127 - before
  | [], before, sum, h0, h1, h2, h3, h => by
    simp [okGo] at h
    subst h
    refine ⟨by simp [ksum], fun j _ => rfl, fun j _ => ?_, by simp; omega⟩
    show (0 : Int) ≤ _; omega
  | k :: r, before, sum, h0, h1, h2, h3, h => by
    unfold okGo at h
    split at h
    · cases h
    · rename_i c
      have e : w64 (sum + k.2.1) = sum + k.2.1 := by rw [w64_id] <;> omega
      rw [e] at h
      have hd := w64_div hall hall2
      obtain ⟨i1, i2, i3, i4⟩ := okGo_sum hall hall2 (by omega) (by omega) (by omega) (by omega) h
      refine ⟨by simp only [ksum, if_true]; omega, fun j hj => ?_, fun j hj => ?_, by simp; omega⟩
      · have : ¬ (k.1.toNat == j) = true := by simp; omega
        simp only [ksum, this]
        rw [i2 j (by omega)]; simp
      · by_cases cj : k.1.toNat = j
        · have : (k.1.toNat == j) = true := by simp [cj]
          simp only [ksum, this, if_true]
          rw [i2 j (by omega)]
          omega
        · have : ¬ (k.1.toNat == j) = true := by simpa using cj
          simp only [ksum, this]
          have := i3 j hj
          simp; omega
structure InForm (ks : List Knot) (all : Int) : Prop where
  good : GoodK ks
  lo : 0 ≤ all
  hi : all ≤ 2000
  sum : ksum yes ks = all
  part : ∀ j : Nat, j < 64 → ksum (fun k => k == j) ks ≤ all / 8
  len : ks.length ≤ 127
theorem okB_form {ks : List Knot} {all : Int} (h : okB ks all = true) : InForm ks all := by
  have hg := okB_good h
  have ha := okB_all h
  unfold okB at h
  rw [if_neg (by omega)] at h
  obtain ⟨h1, _, h3, h4⟩ := okGo_sum ha.1 ha.2 (Int.le_refl 0) (by omega) (Int.le_refl 0) (by omega) h
  exact ⟨hg, ha.1, ha.2, by omega, h3, by omega⟩
theorem sumK_form {ka kb : List Knot} {alla allb : Int} (fa : InForm ka alla) (gb : GoodK kb) (sb : ksum yes kb = allb) (b0 : 0 ≤ allb) (pb : ∀ j : Nat, j < 64 → ksum (fun k => k == j) kb ≤ allb / 8) (hs : alla + allb ≤ 2000) :
    okB (sumK ka kb (alla + allb)) (alla + allb) = true ∧
    (∀ p : Nat → Bool, (∀ m, 1 ≤ m → m ≤ 63 → p m = true → p (2 * m) = true ∧ p (2 * m + 1) = true) → ksum p (sumK ka kb (alla + allb)) ≤ ksum p ka + ksum p kb) ∧
    (∀ p : Nat → Bool, (∀ m, 1 ≤ m → m ≤ 63 → p (2 * m) = true ∨ p (2 * m + 1) = true → p m = true) → ksum p ka + ksum p kb ≤ ksum p (sumK ka kb (alla + allb))) := by
  have fa1 := fa.lo
  have fa2 := fa.sum
  obtain ⟨n1, w1⟩ := numsGo_sum (ks := ka) fa.good zeros_p (Int.le_refl 0) (by omega)
  obtain ⟨n2, w2⟩ := numsGo_sum (ks := kb) gb n1 (by omega) (by omega)
  have hw : ∀ p, wsum p 0 (numsGo kb (numsGo ka zeros)) = ksum p ka + ksum p kb := fun p => by rw [w2, w1, wsum_zeros]; omega
  obtain ⟨s1, s2, s3, s4⟩ := sqGo_sum (all := alla + allb) (top := 0 + ksum yes ka + ksum yes kb) (by omega) (n := 63) (a := numsGo kb (numsGo ka zeros)) (by omega) n2
  have hd := w64_div (all := alla + allb) (by omega) hs
  have hpart : ∀ j, 1 ≤ j → j < 64 → (numsGo kb (numsGo ka zeros)).getD j 0 ≤ w64 ((alla + allb).tdiv 8) := fun j hj1 hj2 => by
    have := wsum_one (l := numsGo kb (numsGo ka zeros)) (i := 0) (j := j)
    rw [Nat.zero_add, hw] at this
    rw [← this, hd]
    have := fa.part j hj2
    have := pb j hj2
    omega
  have s4' := s4 hpart (by rw [hd]; omega)
  have hk : ∀ p, ksum p (sumK ka kb (alla + allb)) = wsum p 0 (sqGo (alla + allb) 63 (numsGo kb (numsGo ka zeros))) := fun p => ksum_list s1.nn
  refine ⟨?_, fun p hp => by rw [hk, ← hw]; exact s2 p hp, fun p hp => by rw [hk, ← hw]; exact s3 p hp⟩
  have hz : (sqGo (alla + allb) 63 (numsGo kb (numsGo ka zeros))).getD 0 0 = 0 := by
    rw [sqGo_zero, numsGo_zero gb, numsGo_zero fa.good]; decide
  have htot : wsum yes 0 (sqGo (alla + allb) 63 (numsGo kb (numsGo ka zeros))) = alla + allb := by
    have h1 := s2 yes (fun _ _ _ _ => ⟨rfl, rfl⟩)
    have h2 := s3 yes (fun _ _ _ _ => rfl)
    have h3 := hw yes
    omega
  unfold okB sumK
  rw [if_neg (by omega), listGo_zero (by omega)]
  obtain ⟨x, r, hxr⟩ : ∃ x r, sqGo (alla + allb) 63 (numsGo kb (numsGo ka zeros)) = x :: r := by
    cases h : sqGo (alla + allb) 63 (numsGo kb (numsGo ka zeros)) with
    | nil => have := s1.len; rw [h] at this; simp at this
    | cons x r => exact ⟨x, r, rfl⟩
  have hl := s1.len
  have hnn := s1.nn
  rw [hxr] at hz htot hl hnn s4' ⊢
  have hx : x = 0 := hz
  subst hx
  simp only [wsum, if_true, List.length_cons] at htot hl
  rw [List.drop_succ_cons, List.drop_zero]
  exact ok_list hs (by omega) (by omega) (by omega) (fun j => hnn (j + 1)) (fun j hj => s4' (j + 1) (by omega) (by omega)) (by omega) (by omega)
def plo (t : Int) (i : Nat) : Bool := decide ((span (i : Int)).2 ≤ t)
def phi (t : Int) (i : Nat) : Bool := decide ((span (i : Int)).1 ≤ t)
theorem span_kids : ∀ n : Nat, n < 64 → 1 ≤ n → (span ((2 * n : Nat) : Int)).2 ≤ (span (n : Int)).2 ∧ (span ((2 * n + 1 : Nat) : Int)).2 ≤ (span (n : Int)).2 ∧ (span (n : Int)).1 ≤ (span ((2 * n : Nat) : Int)).1 ∧ (span (n : Int)).1 ≤ (span ((2 * n + 1 : Nat) : Int)).1 := by
  decide +kernel
theorem plo_kids (t : Int) : ∀ m, 1 ≤ m → m ≤ 63 → plo t m = true → plo t (2 * m) = true ∧ plo t (2 * m + 1) = true := fun m h1 h2 h => by
  have := span_kids m (by omega) h1
  unfold plo at h ⊢
  simp only [decide_eq_true_eq] at h ⊢
  omega
theorem phi_kids (t : Int) : ∀ m, 1 ≤ m → m ≤ 63 → phi t (2 * m) = true ∨ phi t (2 * m + 1) = true → phi t m = true := fun m h1 h2 h => by
  have := span_kids m (by omega) h1
  unfold phi at h ⊢
  simp only [decide_eq_true_eq] at h ⊢
  omega
theorem span_thing (t : Int) (h0 : 0 ≤ t) (h1 : t ≤ 63) : span (64 + t) = (t, t) := by
  unfold span
  rw [show (63 : Nat) = 62 + 1 from rfl, spanG, if_neg (by omega)]
  have : 64 + t - 64 = t := by omega
  rw [this]
theorem one_knot {t : Int} (h0 : 0 ≤ t) (h1 : t ≤ 63) : GoodK [((64 + t, 1, ()) : Knot)] ∧ ksum yes [((64 + t, 1, ()) : Knot)] = 1 ∧ (∀ j : Nat, j < 64 → ksum (fun k => k == j) [((64 + t, 1, ()) : Knot)] ≤ 1 / 8) ∧
    (∀ i : Int, ksum (plo i) [((64 + t, 1, ()) : Knot)] = if t ≤ i then 1 else 0) ∧ (∀ i : Int, ksum (phi i) [((64 + t, 1, ()) : Knot)] = if t ≤ i then 1 else 0) := by
  have e : (((64 + t).toNat : Nat) : Int) = 64 + t := by omega
  refine ⟨fun k hk => ?_, rfl, fun j hj => ?_, fun i => ?_, fun i => ?_⟩
  · simp only [List.mem_singleton] at hk
    subst hk
    show 1 ≤ 64 + t ∧ 64 + t ≤ 127 ∧ (1 : Int) ≤ 1 ∧ (1 : Int) ≤ 2000
    omega
  · have : ((64 + t).toNat == j) = false := by simp; omega
    simp [ksum, this]
  · simp [ksum, plo, e, span_thing t h0 h1]
  · simp [ksum, phi, e, span_thing t h0 h1]
end Go.Proofs.YtdgdoeknpakmlaaGreat.Den
namespace Go.Proofs.YtdgdoeknpakmlaaGreat.Den
open Go
set_option linter.unusedVariables false
set_option linter.unusedSimpArgs false
theorem rankAdd_ok {ks : List Knot} {all t : Int} (h : okB ks all = true) (ht : thingB t = true) (ha : all < 2000) :
    (rankAdd ks all t).2 = true ∧ okB (rankAdd ks all t).1.1 (rankAdd ks all t).1.2.1 = true ∧ (rankAdd ks all t).1.2.1 = all + 1 ∧
    ∀ i, ksum (plo i) (rankAdd ks all t).1.1 ≤ ksum (plo i) ks + (if t ≤ i then 1 else 0) ∧ ksum (phi i) ks + (if t ≤ i then 1 else 0) ≤ ksum (phi i) (rankAdd ks all t).1.1 := by
  have tt := thing_le ht
  have hB : addB ks all t = true := by
    unfold addB
    simp only [Bool.and_eq_true, decide_eq_true_eq]
    exact ⟨h, tt.1, tt.2, ha⟩
  obtain ⟨e1, e2⟩ := addS_sumK hB
  have fa := okB_form h
  obtain ⟨g1, g2, g3, g4, g5⟩ := one_knot tt.1 tt.2
  obtain ⟨s1, s2, s3⟩ := sumK_form (ka := ks) (kb := [(64 + t, 1, ())]) (alla := all) (allb := 1) fa g1 g2 (by omega) g3 (by omega)
  have e : rankAdd ks all t = ((sumK ks [(64 + t, 1, ())] (all + 1), all + 1, ()), true) := by
    unfold rankAdd
    rw [hB, cond_true, e1, e2]
  rw [e]
  have lo := fun i => s2 (plo i) (plo_kids i)
  have hi := fun i => s3 (phi i) (phi_kids i)
  simp only [g4, g5] at lo hi
  generalize sumK ks [(64 + t, 1, ())] (all + 1) = K at s1 lo hi
  exact ⟨rfl, s1, rfl, fun i => ⟨lo i, hi i⟩⟩
theorem implRankAdd_eq (f : Nat) (ks : List Knot) (all t : Int) (hl : ks.length < 2147483648) (hf : ks.length < f) (hf2 : 128 < f) : impl_RankAdd_fn f ((ks, all, ()), (t, ()), ()) = some ((rankAdd ks all t).1, ((rankAdd ks all t).2, ()), ()) := by
  rw [implAdd_eq f ks all t hl hf hf2]; unfold rankAdd
  cases addB ks all t <;> rfl
theorem fst6_pos {p : Int → Bool} : 0 < (fst6 p).length ↔ ∃ k, 0 ≤ k ∧ k < 64 ∧ p k = true := by
  unfold fst6
  rw [List.length_take]
  constructor
  · intro h
    have h' : 0 < (ascN p 64 0).length := by omega
    obtain ⟨k, hk⟩ := List.exists_mem_of_length_pos h'
    have := ascN_mem.1 hk
    exact ⟨k, this.1, by omega, this.2.2⟩
  · rintro ⟨k, h0, h1, hp⟩
    have : k ∈ ascN p 64 0 := ascN_mem.2 ⟨h0, by omega, hp⟩
    have := List.length_pos_of_mem this
    omega
theorem fewAdd_fst6 {p : Int → Bool} {t : Int} (ht : thingB t = true) : fewAdd (fst6 p) t = (fst6 (fun k => p k || k == mark t), true) := by
  unfold fewAdd
  have m := mark_rng ht
  rw [fst6_form, ht, Bool.and_self, cond_true, few6_fst6 p m.1 m.2]
theorem fewAdd_ok {l : List Int} {t : Int} (h : fewB l = true) (ht : thingB t = true) : (fewAdd l t).2 = true ∧ fewB (fewAdd l t).1 = true ∧ 0 < (fewAdd l t).1.length := by
  rw [form_fst6 h, fewAdd_fst6 ht]
  have m := mark_rng ht
  exact ⟨rfl, fst6_form _, fst6_pos.2 ⟨mark t, m.1, by omega, by simp⟩⟩
theorem fst6_congr {p q : Int → Bool} (h : ∀ k, 0 ≤ k → k < 64 → p k = q k) : fst6 p = fst6 q := by
  unfold fst6
  rw [ascN_congr fun k h1 h2 => h k h1 (by omega)]
structure Form (s : SumD) : Prop where
  rough : roughB s.1 = true
  few : fewB s.2.1 = true
  top : topB s.2.2.1 s.2.2.2.1 s.2.2.2.2.1 = true
  rank : okB s.2.2.2.2.2.1 s.2.2.2.2.2.2.1 = true
  all : allR s.1 = s.2.2.2.2.1
  same : s.2.2.2.2.1 = s.2.2.2.2.2.2.1
  some : 0 < s.2.1.length ↔ 0 < s.2.2.2.2.1
theorem form_iff {s : SumD} : sumBD s = true ↔ Form s := by
  unfold sumBD sumB
  simp only [Bool.and_eq_true, beq_iff_eq]
  constructor
  · rintro ⟨h1, h2, h3, h4, h5, h6, h7⟩
    have h8 := decide_eq_decide.1 h7
    exact ⟨h1, h2, h3, h4, h5, h6, by omega⟩
  · rintro ⟨h1, h2, h3, h4, h5, h6, h7⟩
    exact ⟨h1, h2, h3, h4, h5, h6, decide_eq_decide.2 (by omega)⟩
theorem Form.all_rng {s : SumD} (h : Form s) : 0 ≤ s.2.2.2.2.1 ∧ s.2.2.2.2.1 ≤ 2000 := (four h.top).2.2.2
theorem form_new : Form sumNew := form_iff.1 sumNew_ok
abbrev pt (s : SumD) : List Knot := s.2.2.1
abbrev ptLost (s : SumD) : Int := s.2.2.2.1
abbrev allOf (s : SumD) : Int := s.2.2.2.2.1
abbrev kn (s : SumD) : List Knot := s.2.2.2.2.2.1
theorem sumAdd_ok {s : SumD} {t : Int} (h : Form s) (ht : thingB t = true) (ha : allOf s < 2000) :
    (sumAdd s t).2 = true ∧ Form (sumAdd s t).1 ∧ allOf (sumAdd s t).1 = allOf s + 1 ∧ (sumAdd s t).1.1 = (roughAdd s.1 t 1).1 ∧ (sumAdd s t).1.2.1 = (fewAdd s.2.1 t).1 ∧
    (∀ i, i < 3 → ∀ j, cell (sumAdd s t).1.1 i j = cell s.1 i j + if pl i t = j then 1 else 0) ∧ ptLost s ≤ ptLost (sumAdd s t).1 ∧
    (∀ k, cntK (pt (sumAdd s t).1) k ≤ cntK (pt s) k + (if t = k then 1 else 0) ∧ cntK (pt s) k + (if t = k then 1 else 0) + ptLost s ≤ cntK (pt (sumAdd s t).1) k + ptLost (sumAdd s t).1) ∧
    ∀ i, ksum (plo i) (kn (sumAdd s t).1) ≤ ksum (plo i) (kn s) + (if t ≤ i then 1 else 0) ∧ ksum (phi i) (kn s) + (if t ≤ i then 1 else 0) ≤ ksum (phi i) (kn (sumAdd s t).1) := by
  have hr := h.all_rng
  have ha' : s.2.2.2.2.1 < 2000 := ha
  have r := roughAdd_ok (n := 1) h.rough ht (by omega) (by have := h.all; show allR s.1 + 1 ≤ 2000; omega)
  have m := fewAdd_ok h.few ht
  have p := topAdd_ok h.top ht ha
  have k := rankAdd_ok h.rank ht (by have := h.same; omega)
  have hB := form_iff.2 h
  have e : sumAdd s t = (((roughAdd s.1 t 1).1, (fewAdd s.2.1 t).1, (topAdd s.2.2.1 s.2.2.2.1 s.2.2.2.2.1 t).1.1, (topAdd s.2.2.1 s.2.2.2.1 s.2.2.2.2.1 t).1.2.1, (topAdd s.2.2.1 s.2.2.2.1 s.2.2.2.2.1 t).1.2.2.1, (rankAdd s.2.2.2.2.2.1 s.2.2.2.2.2.2.1 t).1.1, (rankAdd s.2.2.2.2.2.1 s.2.2.2.2.2.2.1 t).1.2.1, ()), true) := by
    unfold sumAdd
    simp only [hB, ht, show s.2.2.2.2.1 < 2000 from ha, decide_true, Bool.and_self, cond_true]
  rw [e]
  refine ⟨rfl, ⟨r.2.1, m.2.1, p.2.1, k.2.1, ?_, ?_, ?_⟩, p.2.2.1, rfl, rfl, r.2.2.2, p.2.2.2.1, p.2.2.2.2, k.2.2.2⟩
  · show allR (roughAdd s.1 t 1).1 = (topAdd s.2.2.1 s.2.2.2.1 s.2.2.2.2.1 t).1.2.2.1
    rw [r.2.2.1, p.2.2.1, h.all]
  · show (topAdd s.2.2.1 s.2.2.2.1 s.2.2.2.2.1 t).1.2.2.1 = (rankAdd s.2.2.2.2.2.1 s.2.2.2.2.2.2.1 t).1.2.1
    rw [p.2.2.1, k.2.2.1, h.same]
  · show 0 < (fewAdd s.2.1 t).1.length ↔ 0 < (topAdd s.2.2.1 s.2.2.2.1 s.2.2.2.2.1 t).1.2.2.1
    rw [p.2.2.1]
    exact ⟨fun _ => (by omega), fun _ => m.2.2⟩
theorem sumAdd_no {s : SumD} {t : Int} (h : (sumBD s && (thingB t && decide (allOf s < 2000))) = false) : sumAdd s t = (noSum, false) := by
  unfold sumAdd
  rw [show (sumBD s && (thingB t && decide (s.2.2.2.2.1 < 2000))) = false from h]; rfl
theorem counted_eq (f : Nat) (hf : 1000 < f) (s : SumD) (t : Int) (h : Form s) (hk : s.2.2.2.2.2.1.length ≤ 128) : impl_Sum_counted_fn f (s, (t, ()), ()) = some ((sumAdd s t).1, ((sumAdd s t).2, ()), ()) := by
  obtain ⟨rs, ms, ps, lost, tall, ks, rall, ⟨⟩⟩ := s
  have hr := h.all_rng
  have h1 := h.rough; have h2 := h.few; have h3 := h.top; have h4 := h.rank; have h5 := h.all; have h6 := h.same
  simp only at h1 h2 h3 h4 h5 h6 hr hk
  have e1 : impl_Rough_with_fn f ((rs, ()), t, ()) = some ((((roughAdd rs t 1).1, ()), ()), (roughAdd rs t 1).2, ()) := by
    show impl_Rough_with_pre f rs t = _
    unfold impl_Rough_with_pre
    rw [implRoughAdd_eq f rs t 1 (by omega)]; rfl
  have e2 : impl_Few_with_fn f ((ms, ()), t, ()) = some ((((fewAdd ms t).1, ()), ()), (fewAdd ms t).2, ()) := by
    show impl_Few_with_pre f ms t = _
    unfold impl_Few_with_pre
    rw [implFewAdd_eq f ms t (by omega)]; rfl
  have e3 : impl_Top_with_fn f ((ps, lost, tall, ()), t, ()) = some (((topAdd ps lost tall t).1, ()), (topAdd ps lost tall t).2, ()) := by
    show impl_Top_with_pre f ps lost tall t = _
    unfold impl_Top_with_pre
    rw [implTopAdd_eq f hf ps lost tall t]; rfl
  have e4 : impl_Rank_with_fn f ((ks, rall, ()), t, ()) = some (((rankAdd ks rall t).1, ()), (rankAdd ks rall t).2, ()) := by
    show impl_Rank_with_pre f ks rall t = _
    unfold impl_Rank_with_pre
    rw [implRankAdd_eq f ks rall t (by omega) (by omega) (by omega)]; rfl
  show impl_Sum_counted_pre f rs ms ps lost tall ks rall t = _
  unfold impl_Sum_counted_pre
  rw [show impl_Sum_ways_fn f ((rs, ms, ps, lost, tall, ks, rall, ()), ()) = some ((((rs, ()), ()), ((ms, ()), ()), ((ps, lost, tall, ()), ()), ((ks, rall, ()), ()), ()), ()) from rfl, Option.bind_some]
  simp only [e1, Option.bind_some]
  cases ht : thingB t
  · have : (roughAdd rs t 1).2 = false := by unfold roughAdd; rw [ht]; simp
    rw [this, sumAdd_no (by rw [ht]; simp)]; rfl
  · by_cases ha : tall < 2000
    · have r := roughAdd_ok (n := 1) h1 ht (by omega) (by rw [h5]; omega)
      have m := fewAdd_ok h2 ht
      have p := topAdd_ok h3 ht ha
      have k := rankAdd_ok h4 ht (by omega)
      have hB := form_iff.2 h
      rw [r.1]
      simp only [Bool.not_true, cond_false, e2, Option.bind_some, m.1, e3, p.1, e4, k.1]
      unfold sumAdd
      simp only [hB, ht, ha, decide_true, Bool.and_self, cond_true]
      rfl
    · have : (roughAdd rs t 1).2 = false := by
        have ew : w64 (2000 - isum (rs.getD 0 [])) = 2000 - tall := by
          rw [← h5, allR_eq h1, w64_id] <;> · have := allR_eq h1; omega
        have n : ¬ ((0 : Int) ≤ 1 ∧ (1 : Int) ≤ 2000 - tall) := by omega
        unfold roughAdd; rw [ew]; simp only [n, decide_false, Bool.and_false, cond_false]
      rw [this, sumAdd_no (by
        have : ¬ allOf (rs, ms, ps, lost, tall, ks, rall, ()) < 2000 := ha
        simp [this])]; rfl
end Go.Proofs.YtdgdoeknpakmlaaGreat.Den
namespace Go.Proofs.YtdgdoeknpakmlaaGreat.Den
open Go
set_option linter.unusedVariables false
set_option linter.unusedSimpArgs false
theorem set_mid {α : Type} {x y : α} {r : List α} : ∀ {p : List α}, (p ++ x :: r).set p.length y = p ++ y :: r
  | [] => rfl
  | z :: p => by simp [set_mid (p := p)]
theorem getD_mid {α : Type} {x d : α} {r : List α} : ∀ {p : List α}, (p ++ x :: r).getD p.length d = x
  | [] => rfl
  | z :: p => by simp
theorem len_mid {α : Type} {x : α} {p r : List α} : (p ++ x :: r).length = p.length + r.length + 1 := by simp; omega
theorem toInts_eq (f : Nat) (l : List Int) (hl : l.length ≤ 1048576) (hf : l.length < f) : laws_toIntS_fn f ((l, ()), ()) = some ((l, ()), ()) := by
  show laws_toIntS_pre f (iter (laws_toIntS_st0 f) f) l = _
  unfold laws_toIntS_pre
  have h1 := lim_of hl
  simp only [zz_eq, Int.toNat_natCast, Int.natCast_nonneg, Int.le_refl, h1, decide_true, cond_true]
  refine (iter_fill0 (st := laws_toIntS_st0 f) (enc := fun i out => ((i : Int), l, out)) (fun out => some ((out, ()), ())) l 0 id ?_ ?_ f 0 hf).trans (by rw [List.map_id])
  · intro i out g hi ho
    show laws_toIntS_step0 f g _ = _
    unfold laws_toIntS_step0
    have ho' : i < out.length := by omega
    simp only [zz_eq, lt_cast hi, lt_cast ho', ho', le_cast, decide_true, cond_true, Int.toNat_natCast, w64_up (show i < 4294967296 by omega)]
    rfl
  · intro s g
    show laws_toIntS_step0 f g _ = _
    unfold laws_toIntS_step0
    simp only [zz_eq, nlt_cast, decide_false, cond_false]
theorem eqInts_refl (f : Nat) (l : List Int) (hl : l.length ≤ 1048576) (hf : l.length < f) : laws_eqIntS_fn f ((l, ()), (l, ()), ()) = some ((true, ()), ()) := by
  show laws_eqIntS_pre f (iter (laws_eqIntS_st0 f) f) l l = _
  unfold laws_eqIntS_pre
  simp only [bne_self_eq_false, cond_false]
  refine iter_skip (st := laws_eqIntS_st0 f) (enc := fun i => ((i : Int), l, l)) _ l.length ?_ ?_ l.length 0 f (by omega) hf
  · intro i g hi
    show laws_eqIntS_step0 f g _ = _
    unfold laws_eqIntS_step0
    simp only [zz_eq, lt_cast hi, le_cast, decide_true, cond_true, Int.toNat_natCast, w64_up (show i < 4294967296 by omega), bne_self_eq_false, cond_false]
  · intro g
    show laws_eqIntS_step0 f g _ = _
    unfold laws_eqIntS_step0
    simp only [zz_eq, nlt_cast, decide_false, cond_false]
theorem eqRows_refl (f : Nat) (l : List (List Int)) (hl : l.length ≤ 1048576) (hr : ∀ r ∈ l, r.length ≤ 1048576) (hf : 1048576 < f) : laws_eqIntSS_fn f ((l, ()), (l, ()), ()) = some ((true, ()), ()) := by
  show laws_eqIntSS_pre f (iter (laws_eqIntSS_st0 f) f) l l = _
  unfold laws_eqIntSS_pre
  simp only [bne_self_eq_false, cond_false]
  refine iter_skip (st := laws_eqIntSS_st0 f) (enc := fun i => ((i : Int), l, l)) _ l.length ?_ ?_ l.length 0 f (by omega) (by omega)
  · intro i g hi
    show laws_eqIntSS_step0 f g _ = _
    unfold laws_eqIntSS_step0
    have hx : (l.getD i []).length ≤ 1048576 := hr _ (by rw [List.getD_eq_getElem?_getD, List.getElem?_eq_getElem hi]; exact List.getElem_mem hi)
    simp only [zz_eq, lt_cast hi, le_cast, decide_true, cond_true, Int.toNat_natCast, w64_up (show i < 4294967296 by omega), eqInts_refl f _ hx (by omega), Option.bind_some, Bool.not_true, cond_false]
  · intro g
    show laws_eqIntSS_step0 f g _ = _
    unfold laws_eqIntSS_step0
    simp only [zz_eq, nlt_cast, decide_false, cond_false]
theorem eqPairs_refl (f : Nat) (l : List Knot) (hl : l.length ≤ 1048576) (hf : l.length < f) : laws_eqPairS_fn f ((l, ()), (l, ()), ()) = some ((true, ()), ()) := by
  show laws_eqPairS_pre f (iter (laws_eqPairS_st0 f) f) l l = _
  unfold laws_eqPairS_pre
  simp only [bne_self_eq_false, cond_false]
  have ek : ∀ x y : Int, laws_eqPair_fn f ((x, y, ()), (x, y, ()), ()) = some ((true, ()), ()) := fun x y => by
    show laws_eqPair_pre f x y x y = _
    unfold laws_eqPair_pre
    simp
  refine iter_skip (st := laws_eqPairS_st0 f) (enc := fun i => ((i : Int), l, l)) _ l.length ?_ ?_ l.length 0 f (by omega) hf
  · intro i g hi
    show laws_eqPairS_step0 f g _ = _
    unfold laws_eqPairS_step0
    simp only [zz_eq, lt_cast hi, le_cast, decide_true, cond_true, Int.toNat_natCast, w64_up (show i < 4294967296 by omega), ek, Option.bind_some, Bool.not_true, cond_false]
  · intro g
    show laws_eqPairS_step0 f g _ = _
    unfold laws_eqPairS_step0
    simp only [zz_eq, nlt_cast, decide_false, cond_false]
theorem eqKnots_refl (f : Nat) (l : List Knot) (hl : l.length ≤ 1048576) (hf : l.length < f) : laws_eqKnotS_fn f ((l, ()), (l, ()), ()) = some ((true, ()), ()) := by
  show laws_eqKnotS_pre f (iter (laws_eqKnotS_st0 f) f) l l = _
  unfold laws_eqKnotS_pre
  simp only [bne_self_eq_false, cond_false]
  have ek : ∀ x y : Int, laws_eqKnot_fn f ((x, y, ()), (x, y, ()), ()) = some ((true, ()), ()) := fun x y => by
    show laws_eqKnot_pre f x y x y = _
    unfold laws_eqKnot_pre
    simp
  refine iter_skip (st := laws_eqKnotS_st0 f) (enc := fun i => ((i : Int), l, l)) _ l.length ?_ ?_ l.length 0 f (by omega) hf
  · intro i g hi
    show laws_eqKnotS_step0 f g _ = _
    unfold laws_eqKnotS_step0
    simp only [zz_eq, lt_cast hi, le_cast, decide_true, cond_true, Int.toNat_natCast, w64_up (show i < 4294967296 by omega), ek, Option.bind_some, Bool.not_true, cond_false]
  · intro g
    show laws_eqKnotS_step0 f g _ = _
    unfold laws_eqKnotS_step0
    simp only [zz_eq, nlt_cast, decide_false, cond_false]
theorem eqSum_refl (f : Nat) (rs : List (List Int)) (ms : List Int) (ps : List Knot) (lost tall : Int) (ks : List Knot) (rall : Int) (hs : Short rs ms ps ks 1048576) (hf : 1048576 < f) :
    laws_eqSum_fn f ((rs, ms, ps, lost, tall, ks, rall, ()), (rs, ms, ps, lost, tall, ks, rall, ()), ()) = some ((true, ()), ()) := by
  obtain ⟨s1, s2, s3, s4, s5⟩ := hs
  show laws_eqSum_pre f rs ms ps lost tall ks rall rs ms ps lost tall ks rall = _
  unfold laws_eqSum_pre
  have e1 : laws_eqRough_fn f ((rs, ()), (rs, ()), ()) = some ((true, ()), ()) := by
    show laws_eqRough_pre f rs rs = _
    unfold laws_eqRough_pre; rw [eqRows_refl f rs s1 s2 hf]; rfl
  have e2 : laws_eqFew_fn f ((ms, ()), (ms, ()), ()) = some ((true, ()), ()) := by
    show laws_eqFew_pre f ms ms = _
    unfold laws_eqFew_pre; rw [eqInts_refl f ms s3 (by omega)]; rfl
  have e3 : laws_eqTop_fn f ((ps, lost, tall, ()), (ps, lost, tall, ()), ()) = some ((true, ()), ()) := by
    show laws_eqTop_pre f ps lost tall ps lost tall = _
    unfold laws_eqTop_pre; rw [eqPairs_refl f ps s4 (by omega)]; simp
  have e4 : laws_eqRank_fn f ((ks, rall, ()), (ks, rall, ()), ()) = some ((true, ()), ()) := by
    show laws_eqRank_pre f ks rall ks rall = _
    unfold laws_eqRank_pre; rw [eqKnots_refl f ks s5 (by omega)]; simp
  rw [e1, Option.bind_some, e2, Option.bind_some, e3, Option.bind_some, e4]; rfl
def mk : Nat → Int → List Knot
  | 0, _ => []
  | n + 1, k => (k, k + 1, ()) :: mk n (k + 2)
theorem markKnot_loop (f : Nat) : ∀ (r p : List Knot) (k : Int) (fuel : Nat), 0 ≤ k → k + 2 * r.length ≤ 1000000000000 → p.length + r.length < 4294967296 → r.length < fuel →
    iter (laws_markKnotS_v0_st0 f) fuel ((p.length : Int), k, p ++ r) = some (p ++ mk r.length k, (k + 2 * r.length, ()), ())
  | [], p, k, fuel + 1, h0, h1, hl, hf => by
    rw [iter]
    show laws_markKnotS_v0_step0 f _ _ = _
    unfold laws_markKnotS_v0_step0
    simp [zz_eq, mk]
  | x :: r, p, k, fuel + 1, h0, h1, hl, hf => by
    rw [iter]
    show laws_markKnotS_v0_step0 f _ _ = _
    unfold laws_markKnotS_v0_step0
    simp only [List.length_cons] at h1 hl hf
    have g1 : (p.length : Int) < ((p.length + r.length + 1 : Nat) : Int) := by omega
    have g2 : p.length < p.length + r.length + 1 := by omega
    have h3 : w64 ((p.length : Int) + 1) = ((p.length + 1 : Nat) : Int) := by rw [w64_id] <;> omega
    have h4 : (0 : Int) ≤ (p.length : Int) := by omega
    have e1 : w64 (k + 1) = k + 1 := by rw [w64_id] <;> omega
    have e2 : w64 (k + 1 + 1) = k + 2 := by rw [w64_id] <;> omega
    have ih := markKnot_loop f r (p ++ [(k, k + 1, ())]) (k + 2) fuel (by omega) (by omega) (by simp; omega) (by omega)
    simp only [List.append_assoc, List.singleton_append, List.length_append, List.length_singleton] at ih
    simp only [zz_eq, len_mid, g1, g2, h4, decide_true, cond_true, Int.toNat_natCast, getD_mid, set_mid, h3, e1, e2]
    rw [ih]
    have : k + 2 + 2 * (r.length : Int) = k + 2 * ((r.length + 1 : Nat) : Int) := by omega
    rw [this]; rfl
theorem markKnot_eq (f : Nat) (ks : List Knot) (k : Int) (h0 : 0 ≤ k) (h1 : k ≤ 100000000) (hl : ks.length ≤ 1048576) (hf : ks.length < f) :
    laws_markKnotS_v0_fn f (ks, (), (k, ()), ()) = some (mk ks.length k, (k + 2 * ks.length, ()), ()) := by
  show laws_markKnotS_v0_pre f (iter (laws_markKnotS_v0_st0 f) f) ks k = _
  unfold laws_markKnotS_v0_pre
  have := markKnot_loop f ks [] k f h0 (by omega) (by simp; omega) hf
  simpa using this
theorem heldKnot_loop (f : Nat) : ∀ (n : Nat) (p : List Knot) (k : Int) (fuel : Nat), 0 ≤ k → k + 2 * n ≤ 1000000000000 → p.length + n < 4294967296 → n < fuel →
    iter (laws_heldKnotS_st0 f) fuel ((p.length : Int), p ++ mk n k, k) = some ((k + 2 * n, ()), ())
  | 0, p, k, fuel + 1, h0, h1, hl, hf => by
    rw [iter]
    show laws_heldKnotS_step0 f _ _ = _
    unfold laws_heldKnotS_step0
    simp [zz_eq, mk]
  | n + 1, p, k, fuel + 1, h0, h1, hl, hf => by
    rw [iter]
    show laws_heldKnotS_step0 f _ _ = _
    unfold laws_heldKnotS_step0
    rw [mk]
    have g1 : (p.length : Int) < ((p.length + (mk n (k + 2)).length + 1 : Nat) : Int) := by omega
    have h3 : w64 ((p.length : Int) + 1) = ((p.length + 1 : Nat) : Int) := by rw [w64_id] <;> omega
    have h4 : (0 : Int) ≤ (p.length : Int) := by omega
    have e1 : w64 (k + 1) = k + 1 := by rw [w64_id] <;> omega
    have e2 : w64 (k + 1 + 1) = k + 2 := by rw [w64_id] <;> omega
    have ih := heldKnot_loop f n (p ++ [(k, k + 1, ())]) (k + 2) fuel (by omega) (by omega) (by simp; omega) (by omega)
    simp only [List.append_assoc, List.singleton_append, List.length_append, List.length_singleton] at ih
    simp only [zz_eq, len_mid, g1, h4, decide_true, cond_true, Int.toNat_natCast, getD_mid, h3, e1, e2, bne_self_eq_false, cond_false]
    rw [ih]
    have : k + 2 + 2 * (n : Int) = k + 2 * ((n + 1 : Nat) : Int) := by omega
    rw [this]
theorem heldKnot_eq (f n : Nat) (k : Int) (h0 : 0 ≤ k) (h1 : k ≤ 100000000) (hl : n ≤ 1048576) (hf : n < f) :
    laws_heldKnotS_fn f ((mk n k, ()), (k, ()), ()) = some ((k + 2 * n, ()), ()) := by
  show laws_heldKnotS_pre f (iter (laws_heldKnotS_st0 f) f) (mk n k) k = _
  unfold laws_heldKnotS_pre
  have := heldKnot_loop f n [] k f h0 (by omega) (by simp; omega) hf
  simpa using this
theorem markPair_loop (f : Nat) : ∀ (r p : List Knot) (k : Int) (fuel : Nat), 0 ≤ k → k + 2 * r.length ≤ 1000000000000 → p.length + r.length < 4294967296 → r.length < fuel →
    iter (laws_markPairS_v0_st0 f) fuel ((p.length : Int), k, p ++ r) = some (p ++ mk r.length k, (k + 2 * r.length, ()), ())
  | [], p, k, fuel + 1, h0, h1, hl, hf => by
    rw [iter]
    show laws_markPairS_v0_step0 f _ _ = _
    unfold laws_markPairS_v0_step0
    simp [zz_eq, mk]
  | x :: r, p, k, fuel + 1, h0, h1, hl, hf => by
    rw [iter]
    show laws_markPairS_v0_step0 f _ _ = _
    unfold laws_markPairS_v0_step0
    simp only [List.length_cons] at h1 hl hf
    have g1 : (p.length : Int) < ((p.length + r.length + 1 : Nat) : Int) := by omega
    have g2 : p.length < p.length + r.length + 1 := by omega
    have h3 : w64 ((p.length : Int) + 1) = ((p.length + 1 : Nat) : Int) := by rw [w64_id] <;> omega
    have h4 : (0 : Int) ≤ (p.length : Int) := by omega
    have e1 : w64 (k + 1) = k + 1 := by rw [w64_id] <;> omega
    have e2 : w64 (k + 1 + 1) = k + 2 := by rw [w64_id] <;> omega
    have ih := markPair_loop f r (p ++ [(k, k + 1, ())]) (k + 2) fuel (by omega) (by omega) (by simp; omega) (by omega)
    simp only [List.append_assoc, List.singleton_append, List.length_append, List.length_singleton] at ih
    simp only [zz_eq, len_mid, g1, g2, h4, decide_true, cond_true, Int.toNat_natCast, getD_mid, set_mid, h3, e1, e2]
    rw [ih]
    have : k + 2 + 2 * (r.length : Int) = k + 2 * ((r.length + 1 : Nat) : Int) := by omega
    rw [this]; rfl
theorem markPair_eq (f : Nat) (ks : List Knot) (k : Int) (h0 : 0 ≤ k) (h1 : k ≤ 100000000) (hl : ks.length ≤ 1048576) (hf : ks.length < f) :
    laws_markPairS_v0_fn f (ks, (), (k, ()), ()) = some (mk ks.length k, (k + 2 * ks.length, ()), ()) := by
  show laws_markPairS_v0_pre f (iter (laws_markPairS_v0_st0 f) f) ks k = _
  unfold laws_markPairS_v0_pre
  have := markPair_loop f ks [] k f h0 (by omega) (by simp; omega) hf
  simpa using this
theorem heldPair_loop (f : Nat) : ∀ (n : Nat) (p : List Knot) (k : Int) (fuel : Nat), 0 ≤ k → k + 2 * n ≤ 1000000000000 → p.length + n < 4294967296 → n < fuel →
    iter (laws_heldPairS_st0 f) fuel ((p.length : Int), p ++ mk n k, k) = some ((k + 2 * n, ()), ())
  | 0, p, k, fuel + 1, h0, h1, hl, hf => by
    rw [iter]
    show laws_heldPairS_step0 f _ _ = _
    unfold laws_heldPairS_step0
    simp [zz_eq, mk]
  | n + 1, p, k, fuel + 1, h0, h1, hl, hf => by
    rw [iter]
    show laws_heldPairS_step0 f _ _ = _
    unfold laws_heldPairS_step0
    rw [mk]
    have g1 : (p.length : Int) < ((p.length + (mk n (k + 2)).length + 1 : Nat) : Int) := by omega
    have h3 : w64 ((p.length : Int) + 1) = ((p.length + 1 : Nat) : Int) := by rw [w64_id] <;> omega
    have h4 : (0 : Int) ≤ (p.length : Int) := by omega
    have e1 : w64 (k + 1) = k + 1 := by rw [w64_id] <;> omega
    have e2 : w64 (k + 1 + 1) = k + 2 := by rw [w64_id] <;> omega
    have ih := heldPair_loop f n (p ++ [(k, k + 1, ())]) (k + 2) fuel (by omega) (by omega) (by simp; omega) (by omega)
    simp only [List.append_assoc, List.singleton_append, List.length_append, List.length_singleton] at ih
    simp only [zz_eq, len_mid, g1, h4, decide_true, cond_true, Int.toNat_natCast, getD_mid, h3, e1, e2, bne_self_eq_false, cond_false]
    rw [ih]
    have : k + 2 + 2 * (n : Int) = k + 2 * ((n + 1 : Nat) : Int) := by omega
    rw [this]
theorem heldPair_eq (f n : Nat) (k : Int) (h0 : 0 ≤ k) (h1 : k ≤ 100000000) (hl : n ≤ 1048576) (hf : n < f) :
    laws_heldPairS_fn f ((mk n k, ()), (k, ()), ()) = some ((k + 2 * n, ()), ()) := by
  show laws_heldPairS_pre f (iter (laws_heldPairS_st0 f) f) (mk n k) k = _
  unfold laws_heldPairS_pre
  have := heldPair_loop f n [] k f h0 (by omega) (by simp; omega) hf
  simpa using this
def mkN : Nat → Int → List Int
  | 0, _ => []
  | n + 1, k => k :: mkN n (k + 1)
theorem markI_loop (f : Nat) : ∀ (r p : List Int) (k : Int) (fuel : Nat), 0 ≤ k → k + r.length ≤ 1000000000000 → p.length + r.length < 4294967296 → r.length < fuel →
    iter (laws_markIntS_v0_st0 f) fuel ((p.length : Int), k, p ++ r) = some (p ++ mkN r.length k, (k + r.length, ()), ())
  | [], p, k, fuel + 1, h0, h1, hl, hf => by
    rw [iter]
    show laws_markIntS_v0_step0 f _ _ = _
    unfold laws_markIntS_v0_step0
    simp [zz_eq, mkN]
  | x :: r, p, k, fuel + 1, h0, h1, hl, hf => by
    rw [iter]
    show laws_markIntS_v0_step0 f _ _ = _
    unfold laws_markIntS_v0_step0
    simp only [List.length_cons] at h1 hl hf
    have g1 : (p.length : Int) < ((p.length + r.length + 1 : Nat) : Int) := by omega
    have g2 : p.length < p.length + r.length + 1 := by omega
    have h3 : w64 ((p.length : Int) + 1) = ((p.length + 1 : Nat) : Int) := by rw [w64_id] <;> omega
    have h4 : (0 : Int) ≤ (p.length : Int) := by omega
    have e1 : w64 (k + 1) = k + 1 := by rw [w64_id] <;> omega
    have ih := markI_loop f r (p ++ [k]) (k + 1) fuel (by omega) (by omega) (by simp; omega) (by omega)
    simp only [List.append_assoc, List.singleton_append, List.length_append, List.length_singleton] at ih
    simp only [zz_eq, len_mid, g1, g2, h4, decide_true, cond_true, Int.toNat_natCast, getD_mid, set_mid, h3, e1]
    rw [ih]
    have : k + 1 + (r.length : Int) = k + ((r.length + 1 : Nat) : Int) := by omega
    rw [this]; rfl
theorem markI_eq (f : Nat) (l : List Int) (k : Int) (h0 : 0 ≤ k) (h1 : k ≤ 100000000) (hl : l.length ≤ 1048576) (hf : l.length < f) :
    laws_markIntS_v0_fn f (l, (), (k, ()), ()) = some (mkN l.length k, (k + l.length, ()), ()) := by
  show laws_markIntS_v0_pre f (iter (laws_markIntS_v0_st0 f) f) l k = _
  unfold laws_markIntS_v0_pre
  have := markI_loop f l [] k f h0 (by omega) (by simp; omega) hf
  simpa using this
theorem heldI_loop (f : Nat) : ∀ (n : Nat) (p : List Int) (k : Int) (fuel : Nat), 0 ≤ k → k + n ≤ 1000000000000 → p.length + n < 4294967296 → n < fuel →
    iter (laws_heldIntS_st0 f) fuel ((p.length : Int), p ++ mkN n k, k) = some ((k + n, ()), ())
  | 0, p, k, fuel + 1, h0, h1, hl, hf => by
    rw [iter]
    show laws_heldIntS_step0 f _ _ = _
    unfold laws_heldIntS_step0
    simp [zz_eq, mkN]
  | n + 1, p, k, fuel + 1, h0, h1, hl, hf => by
    rw [iter]
    show laws_heldIntS_step0 f _ _ = _
    unfold laws_heldIntS_step0
    rw [mkN]
    have g1 : (p.length : Int) < ((p.length + (mkN n (k + 1)).length + 1 : Nat) : Int) := by omega
    have h3 : w64 ((p.length : Int) + 1) = ((p.length + 1 : Nat) : Int) := by rw [w64_id] <;> omega
    have h4 : (0 : Int) ≤ (p.length : Int) := by omega
    have e1 : w64 (k + 1) = k + 1 := by rw [w64_id] <;> omega
    have ih := heldI_loop f n (p ++ [k]) (k + 1) fuel (by omega) (by omega) (by simp; omega) (by omega)
    simp only [List.append_assoc, List.singleton_append, List.length_append, List.length_singleton] at ih
    simp only [zz_eq, len_mid, g1, h4, decide_true, cond_true, Int.toNat_natCast, getD_mid, h3, e1, bne_self_eq_false, cond_false]
    rw [ih]
    have : k + 1 + (n : Int) = k + ((n + 1 : Nat) : Int) := by omega
    rw [this]
theorem heldI_eq (f n : Nat) (k : Int) (h0 : 0 ≤ k) (h1 : k ≤ 100000000) (hl : n ≤ 1048576) (hf : n < f) :
    laws_heldIntS_fn f ((mkN n k, ()), (k, ()), ()) = some ((k + n, ()), ()) := by
  show laws_heldIntS_pre f (iter (laws_heldIntS_st0 f) f) (mkN n k) k = _
  unfold laws_heldIntS_pre
  have := heldI_loop f n [] k f h0 (by omega) (by simp; omega) hf
  simpa using this
theorem heldRows_eq (f : Nat) (a b c : Nat) (k : Int) (h0 : 0 ≤ k) (h1 : k ≤ 1000) (ha : a ≤ 1000) (hb : b ≤ 1000) (hc : c ≤ 1000) (hf : 2000 < f) :
    laws_heldIntSS_fn f (([mkN a k, mkN b (k + a), mkN c (k + a + b)], ()), (k, ()), ()) = some ((k + a + b + c, ()), ()) := by
  obtain ⟨g, rfl⟩ : ∃ g, f = g + 1 + 1 + 1 + 1 := ⟨f - 4, by omega⟩
  have e1 := heldI_eq (g + 1 + 1 + 1 + 1) a k (by omega) (by omega) (by omega) (by omega)
  have e2 := heldI_eq (g + 1 + 1 + 1 + 1) b (k + a) (by omega) (by omega) (by omega) (by omega)
  have e3 := heldI_eq (g + 1 + 1 + 1 + 1) c (k + a + b) (by omega) (by omega) (by omega) (by omega)
  show laws_heldIntSS_pre (g + 1 + 1 + 1 + 1) (iter (laws_heldIntSS_st0 (g + 1 + 1 + 1 + 1)) (g + 1 + 1 + 1 + 1)) _ k = _
  unfold laws_heldIntSS_pre
  have n1 : ¬ k + (a : Int) < 0 := by omega
  have n2 : ¬ k + (a : Int) + b < 0 := by omega
  have n3 : ¬ k + (a : Int) + b + c < 0 := by omega
  have u1 : w64 ((0 : Int) + 1) = 1 := rfl
  have u2 : w64 ((1 : Int) + 1) = 2 := rfl
  have u3 : w64 ((2 : Int) + 1) = 3 := rfl
  have z0 : decide ((0 : Int) < zz ([mkN a k, mkN b (k + a), mkN c (k + a + b)] : List (List Int)).length) = true := rfl
  have z1 : decide ((1 : Int) < zz ([mkN a k, mkN b (k + a), mkN c (k + a + b)] : List (List Int)).length) = true := rfl
  have z2 : decide ((2 : Int) < zz ([mkN a k, mkN b (k + a), mkN c (k + a + b)] : List (List Int)).length) = true := rfl
  have z3 : decide ((3 : Int) < zz ([mkN a k, mkN b (k + a), mkN c (k + a + b)] : List (List Int)).length) = false := rfl
  have d0 : ([mkN a k, mkN b (k + a), mkN c (k + a + b)] : List (List Int)).getD (Int.toNat 0) [] = mkN a k := rfl
  have d1 : ([mkN a k, mkN b (k + a), mkN c (k + a + b)] : List (List Int)).getD (Int.toNat 1) [] = mkN b (k + a) := rfl
  have d2 : ([mkN a k, mkN b (k + a), mkN c (k + a + b)] : List (List Int)).getD (Int.toNat 2) [] = mkN c (k + a + b) := rfl
  have o0 : decide ((0 : Int) ≤ 0) = true := rfl
  have o1 : decide ((0 : Int) ≤ 1) = true := rfl
  have o2 : decide ((0 : Int) ≤ 2) = true := rfl
  generalize ([mkN a k, mkN b (k + a), mkN c (k + a + b)] : List (List Int)) = L at *
  rw [iter]; show laws_heldIntSS_step0 _ _ _ = _; unfold laws_heldIntSS_step0
  simp only [z0, o0, cond_true, d0, e1, Option.bind_some, n1, decide_false, cond_false, u1]
  rw [iter]; show laws_heldIntSS_step0 _ _ _ = _; unfold laws_heldIntSS_step0
  simp only [z1, o1, cond_true, d1, e2, Option.bind_some, n2, decide_false, cond_false, u2]
  rw [iter]; show laws_heldIntSS_step0 _ _ _ = _; unfold laws_heldIntSS_step0
  simp only [z2, o2, cond_true, d2, e3, Option.bind_some, n3, decide_false, cond_false, u3]
  rw [iter]; show laws_heldIntSS_step0 _ _ _ = _; unfold laws_heldIntSS_step0
  simp only [z3, cond_false]
theorem heldSum_eq (f : Nat) (a b c m p q : Nat) (lost tall rall : Int) (ha : a ≤ 1000) (hb : b ≤ 1000) (hc : c ≤ 1000) (hm : m ≤ 1000) (hp : p ≤ 1000) (hq : q ≤ 1000) (hf : 2000 < f) :
    laws_heldSum_fn f (([mkN a 1, mkN b ((1 : Int) + a), mkN c ((1 : Int) + a + b)], mkN m ((1 : Int) + a + b + c), mk p ((1 : Int) + a + b + c + m), lost, tall, mk q ((1 : Int) + a + b + c + m + 2 * p), rall, ()), (1, ()), ()) = some (((1 : Int) + a + b + c + m + 2 * p + 2 * q, ()), ()) := by
  show laws_heldSum_pre f _ _ _ lost tall _ rall 1 = _
  unfold laws_heldSum_pre
  have e1 : laws_heldRough_fn f (([mkN a 1, mkN b ((1 : Int) + a), mkN c ((1 : Int) + a + b)], ()), (1, ()), ()) = some (((1 : Int) + a + b + c, ()), ()) := by
    show laws_heldRough_pre f _ 1 = _
    unfold laws_heldRough_pre
    rw [heldRows_eq f a b c 1 (by omega) (by omega) ha hb hc hf, Option.bind_some]
    have : ¬ (1 : Int) + a + b + c < 0 := by omega
    simp only [this, decide_false, cond_false]
  have e2 : laws_heldFew_fn f ((mkN m ((1 : Int) + a + b + c), ()), ((1 : Int) + a + b + c, ()), ()) = some (((1 : Int) + a + b + c + m, ()), ()) := by
    show laws_heldFew_pre f _ _ = _
    unfold laws_heldFew_pre
    rw [heldI_eq f m ((1 : Int) + a + b + c) (by omega) (by omega) (by omega) (by omega), Option.bind_some]
    have : ¬ (1 : Int) + a + b + c + m < 0 := by omega
    simp only [this, decide_false, cond_false]
  have e3 : laws_heldTop_fn f ((mk p ((1 : Int) + a + b + c + m), lost, tall, ()), ((1 : Int) + a + b + c + m, ()), ()) = some (((1 : Int) + a + b + c + m + 2 * p, ()), ()) := by
    show laws_heldTop_pre f _ _ _ _ = _
    unfold laws_heldTop_pre
    rw [heldPair_eq f p ((1 : Int) + a + b + c + m) (by omega) (by omega) (by omega) (by omega), Option.bind_some]
    have : ¬ (1 : Int) + a + b + c + m + 2 * p < 0 := by omega
    simp only [this, decide_false, cond_false]
  have e4 : laws_heldRank_fn f ((mk q ((1 : Int) + a + b + c + m + 2 * p), rall, ()), ((1 : Int) + a + b + c + m + 2 * p, ()), ()) = some (((1 : Int) + a + b + c + m + 2 * p + 2 * q, ()), ()) := by
    show laws_heldRank_pre f _ _ _ = _
    unfold laws_heldRank_pre
    rw [heldKnot_eq f q ((1 : Int) + a + b + c + m + 2 * p) (by omega) (by omega) (by omega) (by omega), Option.bind_some]
    have : ¬ (1 : Int) + a + b + c + m + 2 * p + 2 * q < 0 := by omega
    simp only [this, decide_false, cond_false]
  have n1 : ¬ (1 : Int) + a + b + c < 0 := by omega
  have n2 : ¬ (1 : Int) + a + b + c + m < 0 := by omega
  have n3 : ¬ (1 : Int) + a + b + c + m + 2 * p < 0 := by omega
  have n4 : ¬ (1 : Int) + a + b + c + m + 2 * p + 2 * q < 0 := by omega
  simp only [e1, e2, e3, e4, Option.bind_some, n1, n2, n3, n4, decide_false, cond_false]
end Go.Proofs.YtdgdoeknpakmlaaGreat.Den
namespace Go.Proofs.YtdgdoeknpakmlaaGreat.Den
open Go
set_option linter.unusedVariables false
set_option linter.unusedSimpArgs false
structure Tells (l : List Int) (s : SumD) : Prop where
  form : Form s
  things : ∀ t ∈ l, thingB t = true
  all : allOf s = (l.length : Int)
  rough : ∀ i, i < 3 → ∀ j, cell s.1 i j = ((l.countP fun t => pl i t == j : Nat) : Int)
  few : s.2.1 = fst6 fun k => l.any fun t => mark t == k
  top : ∀ k, cntK (pt s) k ≤ ((l.count k : Nat) : Int) ∧ ((l.count k : Nat) : Int) ≤ cntK (pt s) k + ptLost s
  rank : ∀ i, ksum (plo i) (kn s) ≤ ((l.countP fun t => decide (t ≤ i) : Nat) : Int) ∧ ((l.countP fun t => decide (t ≤ i) : Nat) : Int) ≤ ksum (phi i) (kn s)
theorem rep8 (j : Nat) : (List.replicate 8 (0 : Int)).getD j 0 = 0 := by
  rw [List.getD_eq_getElem?_getD, List.getElem?_replicate]
  split <;> rfl
theorem tells_new : Tells [] sumNew where
  form := form_new
  things := fun t ht => by cases ht
  all := rfl
  rough := fun i hi j => by
    match i, hi with
    | 0, _ => exact rep8 j
    | 1, _ => exact rep8 j
    | 2, _ => exact rep8 j
  few := by decide
  top := fun k => ⟨Int.le_refl _, Int.le_refl _⟩
  rank := fun i => ⟨Int.le_refl _, Int.le_refl _⟩
theorem tells_add {l : List Int} {s : SumD} {t : Int} (h : Tells l s) (ht : thingB t = true) (hl : l.length < 2000) : (sumAdd s t).2 = true ∧ Tells (l ++ [t]) (sumAdd s t).1 := by
  have ha : allOf s < 2000 := by rw [h.all]; omega
  obtain ⟨h1, h2, h3, h4, h5, h6, h7, h8, h9⟩ := sumAdd_ok h.form ht ha
  refine ⟨h1, h2, fun x hx => ?_, ?_, fun i hi j => ?_, ?_, fun k => ?_, fun i => ?_⟩
  · rcases List.mem_append.1 hx with hx | hx
    · exact h.things x hx
    · rcases List.mem_singleton.1 hx with rfl; exact ht
  · rw [h3, h.all, List.length_append, List.length_singleton]; omega
  · rw [h6 i hi j, h.rough i hi j, List.countP_append, List.countP_singleton]
    cases hc : pl i t == j
    · have : ¬ pl i t = j := by simpa using hc
      simp [this]
    · have : pl i t = j := by simpa using hc
      simp [this]
  · rw [h5, h.few, fewAdd_fst6 ht]
    refine fst6_congr fun k _ _ => ?_
    have : (k == mark t) = (mark t == k) := by rw [Bool.eq_iff_iff]; simp only [beq_iff_eq]; exact ⟨Eq.symm, Eq.symm⟩
    simp only [List.any_append, List.any_cons, List.any_nil, Bool.or_false, this]
  · have g1 := h.top k
    have g2 := h8 k
    rw [List.count_append, List.count_singleton]
    by_cases hk : t = k
    · subst hk
      simp only [if_true, beq_self_eq_true] at g2 ⊢
      omega
    · have e : (t == k) = false := by simpa using hk
      simp only [hk, e, if_false, Bool.false_eq_true] at g2 ⊢
      omega
  · have g1 := h.rank i
    have g2 := h9 i
    rw [List.countP_append, List.countP_singleton]
    by_cases hk : t ≤ i
    · simp only [hk, if_true, decide_true] at g2 ⊢
      omega
    · simp only [hk, if_false, decide_false, Bool.false_eq_true] at g2 ⊢
      omega
theorem sumOfGo_tells : ∀ (r l : List Int) (s : SumD), Tells l s → (sumOfGo r s).2 = true → Tells (l ++ r) (sumOfGo r s).1
  | [], l, s, h, _ => by rw [List.append_nil]; exact h
  | t :: r, l, s, h, h2 => by
    unfold sumOfGo at h2 ⊢
    cases ha : (sumAdd s t).2 with
    | false => rw [ha] at h2; cases h2
    | true =>
      rw [ha, cond_true] at h2
      simp only [cond_true]
      have hc : (sumBD s && (thingB t && decide (allOf s < 2000))) = true := by
        cases hc : (sumBD s && (thingB t && decide (allOf s < 2000)))
        · rw [sumAdd_no hc] at ha; cases ha
        · rfl
      simp only [Bool.and_eq_true, decide_eq_true_eq] at hc
      have hl : l.length < 2000 := by have := h.all; have := hc.2.2; omega
      have := sumOfGo_tells r (l ++ [t]) _ (tells_add h hc.2.1 hl).2 h2
      rw [List.append_assoc] at this
      exact this
theorem sumOf_tells {l : List Int} (h : (sumOf l).2 = true) : Tells l (sumOf l).1 := sumOfGo_tells l [] sumNew tells_new h
end Go.Proofs.YtdgdoeknpakmlaaGreat.Den
