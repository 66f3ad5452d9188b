/- Marks and pairs in form, all of a rough count, and sums in form: both readings of each say the same plain thing. -/
import Derived.Test.YtjnkefbdpcbkmaaQS1
namespace Go.Proofs.Ytjnkefbdpcbkmaa.Den
open Go
set_option linter.unusedVariables false
set_option linter.unusedSimpArgs false

def fewGo : List Int → Int → Bool
  | [], _ => true
  | x :: r, p => decide (p < x ∧ x ≤ 63) && fewGo r x
def fewB (l : List Int) : Bool := decide (l.length ≤ 6) && fewGo l (-1)

theorem implFew_eq (f : Nat) (l : List Int) (hf : 8 < f) : impl_FewOk_fn f ((l, ()), ()) = some ((fewB l, ()), ()) := by
  show impl_FewOk_pre f (iter (impl_FewOk_st0 f) f) l = _
  unfold impl_FewOk_pre fewB
  by_cases h : l.length ≤ 6
  · have e : ¬ ((l.length : Int) > 6) := by omega
    simp only [zz_eq, e, decide_false, cond_false, h, decide_true, Bool.true_and]
    refine (iter_list (st := impl_FewOk_st0 f) (enc := fun i (p : Int) => ((i : Int), (l.length : Int), l, p)) (fun x k p => cond (decide (p < x ∧ x ≤ 63)) (k x) (some ((false, ()), ()))) (fun s => some ((true, ()), ())) l 0 ?_ ?_ f (-1) (by omega)).trans ?_
    · intro i p g hi
      show impl_FewOk_step0 f g _ = _
      unfold impl_FewOk_step0
      simp only [zz_eq, lt_cast hi, le_cast, decide_true, cond_true, Int.toNat_natCast, w64_up (show i < 4294967296 by omega)]
      obtain ⟨x, hx⟩ : ∃ x : Int, l.getD i 0 = x := ⟨_, rfl⟩
      simp only [hx]
      by_cases c1 : x ≤ p
      · have : ¬ (p < x ∧ x ≤ 63) := by omega
        simp only [c1, this, and_self, and_true, true_and, and_false, false_and, decide_true, decide_false, cond_true, cond_false]
      · by_cases c2 : x ≥ 64
        · have : ¬ (p < x ∧ x ≤ 63) := by omega
          simp only [c1, c2, this, and_self, and_true, true_and, and_false, false_and, decide_true, decide_false, cond_true, cond_false]
        · have : p < x ∧ x ≤ 63 := by omega
          simp only [c1, c2, this, and_self, and_true, true_and, and_false, false_and, decide_true, decide_false, cond_true, cond_false]
    · intro s g
      show impl_FewOk_step0 f g _ = _
      unfold impl_FewOk_step0
      simp only [nlt_cast, decide_false, cond_false]
    · have : ∀ (l : List Int) (p : Int), goL (R := ((Bool × Unit) × Unit)) (fun x k p => cond (decide (p < x ∧ x ≤ 63)) (k x) (some ((false, ()), ()))) (fun s => some ((true, ()), ())) l p = some ((fewGo l p, ()), ()) := by
        intro l
        induction l with
        | nil => intro p; rfl
        | cons x l ih =>
          intro p
          show cond _ (goL _ _ l x) _ = _
          rw [ih]
          show _ = some ((decide (p < x ∧ x ≤ 63) && fewGo l x, ()), ())
          cases decide (p < x ∧ x ≤ 63) <;> rfl
      exact this l (-1)
  · have e : ((l.length : Int) > 6) := by omega
    simp only [zz_eq, e, decide_true, cond_true, h, decide_false, Bool.false_and]

theorem specFew_eq (f : Nat) (l : List Int) (hl : l.length < 4294967296) (hf : l.length < f) : spec_FewOk_fn f ((l, ()), ()) = some ((fewB l, ()), ()) := by
  show iter (spec_FewOk_st0 f) f ((0 : Int), l) = _
  refine (iter_prev (st := spec_FewOk_st0 f) (enc := fun i (s : Unit) => ((i : Int), l)) (fun x p k s => cond (decide (p < x ∧ 0 ≤ x ∧ x ≤ 63)) (k s) (some ((false, ()), ()))) (fun s => some ((decide (l.length ≤ 6), ()), ())) l 0 (-1) id ?_ ?_ f () hf).trans ?_
  · intro i s g hi
    show spec_FewOk_step0 f g _ = _
    unfold spec_FewOk_step0
    simp only [zz_eq, lt_cast hi, le_cast, decide_true, cond_true, Int.toNat_natCast, w64_up (show i < 4294967296 by omega), in_eq, Option.bind_some, id]
    obtain ⟨x, hx⟩ : ∃ x : Int, l.getD i 0 = x := ⟨_, rfl⟩
    simp only [hx]
    by_cases c1 : 0 ≤ x ∧ x ≤ 63
    · by_cases z : i = 0
      · have : -1 < x ∧ 0 ≤ x ∧ x ≤ 63 := by omega
        simp only [gt_cast0 z, c1, this, z, and_self, if_true, decide_true, decide_false, cond_true, cond_false, Bool.not_true]
        subst z; rfl
      · have g1 : i - 1 < l.length := by omega
        simp only [gt_cast1 z, w64_dn z (show i < 4294967296 by omega), lt_cast g1, le_cast, c1, z, and_self, if_false, decide_true, decide_false, cond_true, cond_false, Bool.not_true, Int.toNat_natCast]
        obtain ⟨y, hy⟩ : ∃ y : Int, l.getD (i - 1) 0 = y := ⟨_, rfl⟩
        simp only [hy]
        by_cases c2 : y ≥ x
        · have : ¬ (y < x ∧ True) := fun h => by have := h.1; omega
          simp only [c2, this, and_self, and_true, true_and, and_false, false_and, decide_true, decide_false, cond_true, cond_false]
        · have : (y < x ∧ True) := ⟨by omega, trivial⟩
          simp only [c2, this, and_self, and_true, true_and, and_false, false_and, decide_true, decide_false, cond_true, cond_false]
    · have : ∀ p : Int, ¬ (p < x ∧ 0 ≤ x ∧ x ≤ 63) := fun p h => c1 h.2
      simp only [c1, this, and_self, and_true, true_and, and_false, false_and, decide_true, decide_false, cond_true, cond_false, Bool.not_false]
  · intro s g
    show spec_FewOk_step0 f g _ = _
    unfold spec_FewOk_step0
    have : ((l.length : Int) ≤ 6) = (l.length ≤ 6) := by apply propext; omega
    simp only [zz_eq, nlt_cast, decide_false, cond_false, this]
  · have : ∀ (q : Bool) (l : List Int) (p : Int), -1 ≤ p → goL (R := ((Bool × Unit) × Unit)) (fun x k (ps : Int × Unit) => cond (decide (ps.1 < x ∧ 0 ≤ x ∧ x ≤ 63)) (k (id x, ps.2)) (some ((false, ()), ()))) (fun s => some ((q, ()), ())) l (p, ()) = some ((q && fewGo l p, ()), ()) := by
      intro q l
      induction l with
      | nil => intro p _; cases q <;> rfl
      | cons x l ih =>
        intro p hp
        show cond _ (goL _ _ l (x, ())) _ = _
        unfold fewGo
        by_cases c : p < x ∧ x ≤ 63
        · have : p < x ∧ 0 ≤ x ∧ x ≤ 63 := by omega
          rw [ih x (by omega)]
          simp only [c, this, and_self, decide_true, cond_true, Bool.true_and]
        · have : ¬ (p < x ∧ 0 ≤ x ∧ x ≤ 63) := by omega
          simp only [c, this, decide_false, cond_false, Bool.false_and, Bool.and_false]
    unfold fewB
    exact this _ l (-1) (by omega)

def topGo (all : Int) : List Knot → Int → Int → Bool
  | [], _, s => decide (s ≤ all)
  | x :: r, p, s => decide (p < x.1 ∧ x.1 ≤ 63 ∧ 1 ≤ x.2.1 ∧ x.2.1 ≤ 2000) && topGo all r x.1 (w64 (s + x.2.1))
def topB (l : List Knot) (lost all : Int) : Bool := decide (l.length ≤ 4 ∧ 0 ≤ lost ∧ lost ≤ 2000 ∧ 0 ≤ all ∧ all ≤ 2000) && topGo all l (-1) (lost * 5)

theorem implTop_eq (f : Nat) (l : List Knot) (lost all : Int) (hf : 8 < f) : impl_TopOk_fn f ((l, lost, all, ()), ()) = some ((topB l lost all, ()), ()) := by
  show impl_TopOk_pre f (iter (impl_TopOk_st0 f) f) l lost all = _
  unfold impl_TopOk_pre topB
  simp only [zz_eq]
  by_cases h : l.length ≤ 4 ∧ 0 ≤ lost ∧ lost ≤ 2000 ∧ 0 ≤ all ∧ all ≤ 2000
  · have e1 : ¬ ((l.length : Int) > 4) := by omega
    have e2 : ¬ (lost < 0) := by omega
    have e3 : ¬ (lost > 2000) := by omega
    have e4 : ¬ (all < 0) := by omega
    have e5 : ¬ (all > 2000) := by omega
    have e6 : w64 (lost * 5) = lost * 5 := by rw [w64_id] <;> omega
    simp only [e1, e2, e3, e4, e5, e6, decide_false, cond_false, h, and_self, decide_true, Bool.true_and]
    refine (iter_list (st := impl_TopOk_st0 f) (enc := fun i (p : Int × Int) => ((i : Int), (l.length : Int), l, p.1, p.2, l, lost, all)) (fun x k p => cond (decide (p.1 < x.1 ∧ x.1 ≤ 63 ∧ 1 ≤ x.2.1 ∧ x.2.1 ≤ 2000)) (k (x.1, w64 (p.2 + x.2.1))) (some ((false, ()), ()))) (fun p => some ((decide (p.2 ≤ all), ()), ())) l (0, 0, ()) ?_ ?_ f (-1, lost * 5) (by omega)).trans ?_
    · intro i p g hi
      show impl_TopOk_step0 f g _ = _
      unfold impl_TopOk_step0
      simp only [zz_eq, lt_cast hi, le_cast, decide_true, cond_true, Int.toNat_natCast, w64_up (show i < 4294967296 by omega)]
      obtain ⟨x, hx⟩ : ∃ x : Knot, l.getD i (0, 0, ()) = x := ⟨_, rfl⟩
      simp only [hx]
      by_cases c1 : x.1 ≤ p.1
      · have : ¬ (p.1 < x.1 ∧ x.1 ≤ 63 ∧ 1 ≤ x.2.1 ∧ x.2.1 ≤ 2000) := by omega
        simp only [c1, this, and_self, and_true, true_and, and_false, false_and, decide_true, decide_false, cond_true, cond_false]
      by_cases c2 : x.1 ≥ 64
      · have : ¬ (p.1 < x.1 ∧ x.1 ≤ 63 ∧ 1 ≤ x.2.1 ∧ x.2.1 ≤ 2000) := by omega
        simp only [c1, c2, this, and_self, and_true, true_and, and_false, false_and, decide_true, decide_false, cond_true, cond_false]
      by_cases c3 : x.2.1 < 1
      · have : ¬ (p.1 < x.1 ∧ x.1 ≤ 63 ∧ 1 ≤ x.2.1 ∧ x.2.1 ≤ 2000) := by omega
        simp only [c1, c2, c3, this, and_self, and_true, true_and, and_false, false_and, decide_true, decide_false, cond_true, cond_false]
      by_cases c4 : x.2.1 > 2000
      · have : ¬ (p.1 < x.1 ∧ x.1 ≤ 63 ∧ 1 ≤ x.2.1 ∧ x.2.1 ≤ 2000) := by omega
        simp only [c1, c2, c3, c4, this, and_self, and_true, true_and, and_false, false_and, decide_true, decide_false, cond_true, cond_false]
      have : (p.1 < x.1 ∧ x.1 ≤ 63 ∧ 1 ≤ x.2.1 ∧ x.2.1 ≤ 2000) := by omega
      simp only [c1, c2, c3, c4, this, and_self, and_true, true_and, and_false, false_and, decide_true, decide_false, cond_true, cond_false]
    · intro s g
      show impl_TopOk_step0 f g _ = _
      unfold impl_TopOk_step0
      simp only [nlt_cast, decide_false, cond_false]
    · have : ∀ (l : List Knot) (p : Int × Int), goL (R := ((Bool × Unit) × Unit)) (fun (x : Knot) k p => cond (decide (p.1 < x.1 ∧ x.1 ≤ 63 ∧ 1 ≤ x.2.1 ∧ x.2.1 ≤ 2000)) (k (x.1, w64 (p.2 + x.2.1))) (some ((false, ()), ()))) (fun p => some ((decide (p.2 ≤ all), ()), ())) l p = some ((topGo all l p.1 p.2, ()), ()) := by
        intro l
        induction l with
        | nil => intro p; rfl
        | cons x l ih =>
          intro p
          show cond _ (goL _ _ l _) _ = _
          rw [ih]
          show _ = some ((decide (p.1 < x.1 ∧ x.1 ≤ 63 ∧ 1 ≤ x.2.1 ∧ x.2.1 ≤ 2000) && topGo all l x.1 (w64 (p.2 + x.2.1)), ()), ())
          cases decide (p.1 < x.1 ∧ x.1 ≤ 63 ∧ 1 ≤ x.2.1 ∧ x.2.1 ≤ 2000) <;> rfl
      exact this l _
  · simp only [h, decide_false, Bool.false_and]
    by_cases c1 : (l.length : Int) > 4
    · simp only [c1, decide_true, cond_true]
    by_cases c2 : lost < 0
    · simp only [c1, c2, decide_true, cond_true, decide_false, cond_false]
    by_cases c3 : lost > 2000
    · simp only [c1, c2, c3, decide_true, cond_true, decide_false, cond_false]
    by_cases c4 : all < 0
    · simp only [c1, c2, c3, c4, decide_true, cond_true, decide_false, cond_false]
    by_cases c5 : all > 2000
    · simp only [c1, c2, c3, c4, c5, decide_true, cond_true, decide_false, cond_false]
    exact absurd ⟨by omega, by omega, by omega, by omega, by omega⟩ h

def tsum (l : List Knot) : Int := l.foldl (fun s x => w64 (s + x.2.1)) 0
theorem tsum_eq (f : Nat) (l : List Knot) (hl : l.length < 4294967296) (hf : l.length < f) : spec_l3All_fn f ((l, ()), ()) = some ((tsum l, ()), ()) := by
  show iter (spec_l3All_st0 f) f ((0 : Int), l, (0 : Int)) = _
  refine (iter_list (st := spec_l3All_st0 f) (enc := fun i s => ((i : Int), l, s)) (fun (x : Knot) k s => k (w64 (s + x.2.1))) (fun s => some ((s, ()), ())) l (0, 0, ()) ?_ ?_ f 0 hf).trans (fold_go (fun s x => w64 (s + x.2.1)) (fun _ _ _ => rfl) l 0)
  · intro i s g hi
    show spec_l3All_step0 f g _ = _
    unfold spec_l3All_step0
    simp only [zz_eq, lt_cast hi, le_cast, decide_true, cond_true, Int.toNat_natCast, w64_up (Nat.lt_trans hi hl)]
  · intro s g
    show spec_l3All_step0 f g _ = _
    unfold spec_l3All_step0
    simp only [zz_eq, nlt_cast, decide_false, cond_false]

def topAsc : List Knot → Int → Bool
  | [], _ => true
  | x :: r, p => decide (p < x.1 ∧ x.1 ≤ 63 ∧ 1 ≤ x.2.1 ∧ x.2.1 ≤ 2000) && topAsc r x.1
def psum : List Knot → Int
  | [] => 0
  | x :: r => x.2.1 + psum r
theorem topGo_eq (all : Int) : ∀ (l : List Knot) (p s : Int), 0 ≤ s → s + 2000 * l.length ≤ 1000000000000 → topGo all l p s = (topAsc l p && decide (s + psum l ≤ all))
  | [], p, s, _, _ => by simp [topGo, topAsc, psum]
  | x :: l, p, s, h0, h1 => by
    unfold topGo topAsc psum
    simp only [List.length_cons] at h1
    by_cases c : p < x.1 ∧ x.1 ≤ 63 ∧ 1 ≤ x.2.1 ∧ x.2.1 ≤ 2000
    · have e : w64 (s + x.2.1) = s + x.2.1 := by rw [w64_id] <;> omega
      rw [e, topGo_eq all l x.1 _ (by omega) (by omega)]
      simp only [c, and_self, decide_true, Bool.true_and, Int.add_assoc]
    · simp only [c, decide_false, Bool.false_and]
theorem tsum_go : ∀ (l : List Knot) (p s : Int), 0 ≤ s → s + 2000 * l.length ≤ 1000000000000 → topAsc l p = true → l.foldl (fun s x => w64 (s + x.2.1)) s = s + psum l ∧ 0 ≤ psum l ∧ psum l ≤ 2000 * l.length
  | [], p, s, _, _, _ => by simp [psum]
  | x :: l, p, s, h0, h1, h2 => by
    unfold topAsc at h2
    simp only [Bool.and_eq_true, decide_eq_true_eq] at h2
    simp only [List.length_cons] at h1 ⊢
    have e : w64 (s + x.2.1) = s + x.2.1 := by rw [w64_id] <;> omega
    obtain ⟨a, b, c⟩ := tsum_go l x.1 (s + x.2.1) (by omega) (by omega) h2.2
    unfold psum
    simp only [List.foldl_cons, e, a]
    omega

theorem specTop_eq (f : Nat) (l : List Knot) (lost all : Int) (hl : l.length < 4294967296) (hf : l.length < f) : spec_TopOk_fn f ((l, lost, all, ()), ()) = some ((topB l lost all, ()), ()) := by
  show iter (spec_TopOk_st0 f) f ((0 : Int), l, lost, all) = _
  refine (iter_prev (st := spec_TopOk_st0 f) (enc := fun i (s : Unit) => ((i : Int), l, lost, all)) (fun x p k s => cond (decide (p < x.1 ∧ 0 ≤ x.1 ∧ x.1 ≤ 63 ∧ 1 ≤ x.2.1 ∧ x.2.1 ≤ 2000)) (k s) (some ((false, ()), ()))) (fun s => some ((decide (l.length ≤ 4 ∧ 0 ≤ lost ∧ lost ≤ 2000 ∧ 0 ≤ all ∧ all ≤ 2000) && decide (w64 (tsum l + w64 (5 * lost)) ≤ all), ()), ())) l (0, 0, ()) (-1) (fun x => x.1) ?_ ?_ f () hf).trans ?_
  · intro i s g hi
    show spec_TopOk_step0 f g _ = _
    unfold spec_TopOk_step0
    simp only [zz_eq, lt_cast hi, le_cast, decide_true, cond_true, Int.toNat_natCast, w64_up (show i < 4294967296 by omega), in_eq, Option.bind_some]
    obtain ⟨x, hx⟩ : ∃ x : Knot, l.getD i (0, 0, ()) = x := ⟨_, rfl⟩
    simp only [hx]
    by_cases c1 : 0 ≤ x.1 ∧ x.1 ≤ 63
    · by_cases c3 : 1 ≤ x.2.1 ∧ x.2.1 ≤ 2000
      · by_cases z : i = 0
        · have : -1 < x.1 ∧ 0 ≤ x.1 ∧ x.1 ≤ 63 ∧ 1 ≤ x.2.1 ∧ x.2.1 ≤ 2000 := by omega
          simp only [gt_cast0 z, c1, c3, this, z, and_self, if_true, decide_true, decide_false, cond_true, cond_false, Bool.not_true]
          subst z; rfl
        · have g1 : i - 1 < l.length := by omega
          simp only [gt_cast1 z, w64_dn z (show i < 4294967296 by omega), lt_cast g1, le_cast, c1, c3, z, and_self, if_false, decide_true, decide_false, cond_true, cond_false, Bool.not_true, Int.toNat_natCast]
          obtain ⟨y, hy⟩ : ∃ y : Knot, l.getD (i - 1) (0, 0, ()) = y := ⟨_, rfl⟩
          simp only [hy]
          by_cases c2 : y.1 ≥ x.1
          · have : ¬ (y.1 < x.1 ∧ True) := fun h => by have := h.1; omega
            simp only [c2, this, and_self, and_true, true_and, and_false, false_and, decide_true, decide_false, cond_true, cond_false]
          · have : (y.1 < x.1 ∧ True) := ⟨by omega, trivial⟩
            simp only [c2, this, and_self, and_true, true_and, and_false, false_and, decide_true, decide_false, cond_true, cond_false]
      · have : ∀ p : Int, ¬ (p < x.1 ∧ 0 ≤ x.1 ∧ x.1 ≤ 63 ∧ 1 ≤ x.2.1 ∧ x.2.1 ≤ 2000) := fun p h => c3 h.2.2.2
        simp only [c1, c3, this, and_self, and_true, true_and, and_false, false_and, decide_true, decide_false, cond_true, cond_false, Bool.not_false, Bool.not_true]
    · have : ∀ p : Int, ¬ (p < x.1 ∧ 0 ≤ x.1 ∧ x.1 ≤ 63 ∧ 1 ≤ x.2.1 ∧ x.2.1 ≤ 2000) := fun p h => c1 ⟨h.2.1, h.2.2.1⟩
      simp only [c1, this, and_self, and_true, true_and, and_false, false_and, decide_true, decide_false, cond_true, cond_false, Bool.not_false]
  · intro s g
    show spec_TopOk_step0 f g _ = _
    unfold spec_TopOk_step0
    simp only [zz_eq, nlt_cast, decide_false, cond_false, in_eq, Option.bind_some, tsum_eq f l hl hf]
    by_cases h1 : l.length ≤ 4
    · have e1 : ((l.length : Int) ≤ 4) := by omega
      by_cases h2 : 0 ≤ all ∧ all ≤ 2000
      · by_cases h3 : 0 ≤ lost ∧ lost ≤ 2000
        · simp only [h1, e1, h2, h3, and_self, decide_true, cond_true, Bool.true_and]
        · have : ¬ (l.length ≤ 4 ∧ 0 ≤ lost ∧ lost ≤ 2000 ∧ 0 ≤ all ∧ all ≤ 2000) := by omega
          rw [decide_eq_false this]
          simp only [e1, h2, h3, and_self, decide_true, cond_true, decide_false, cond_false, Bool.false_and]
      · have : ¬ (l.length ≤ 4 ∧ 0 ≤ lost ∧ lost ≤ 2000 ∧ 0 ≤ all ∧ all ≤ 2000) := by omega
        rw [decide_eq_false this]
        simp only [e1, h2, and_self, decide_true, cond_true, decide_false, cond_false, Bool.false_and]
    · have e1 : ¬ ((l.length : Int) ≤ 4) := by omega
      have : ¬ (l.length ≤ 4 ∧ 0 ≤ lost ∧ lost ≤ 2000 ∧ 0 ≤ all ∧ all ≤ 2000) := by omega
      simp only [e1, this, and_self, decide_true, cond_true, decide_false, cond_false, Bool.false_and]
  · have : ∀ (q : Bool) (l : List Knot) (p : Int), -1 ≤ p → goL (R := ((Bool × Unit) × Unit)) (fun (x : Knot) k (ps : Int × Unit) => cond (decide (ps.1 < x.1 ∧ 0 ≤ x.1 ∧ x.1 ≤ 63 ∧ 1 ≤ x.2.1 ∧ x.2.1 ≤ 2000)) (k (x.1, ps.2)) (some ((false, ()), ()))) (fun s => some ((q, ()), ())) l (p, ()) = some ((topAsc l p && q, ()), ()) := by
      intro q l
      induction l with
      | nil => intro p _; rfl
      | cons x l ih =>
        intro p hp
        show cond _ (goL _ _ l (x.1, ())) _ = _
        unfold topAsc
        by_cases c : p < x.1 ∧ x.1 ≤ 63 ∧ 1 ≤ x.2.1 ∧ x.2.1 ≤ 2000
        · have : p < x.1 ∧ 0 ≤ x.1 ∧ x.1 ≤ 63 ∧ 1 ≤ x.2.1 ∧ x.2.1 ≤ 2000 := by omega
          rw [ih x.1 (by omega)]
          simp only [c, this, and_self, decide_true, cond_true, Bool.true_and]
        · have : ¬ (p < x.1 ∧ 0 ≤ x.1 ∧ x.1 ≤ 63 ∧ 1 ≤ x.2.1 ∧ x.2.1 ≤ 2000) := by omega
          simp only [c, this, decide_false, cond_false, Bool.false_and, Bool.and_false]
    refine (this _ l (-1) (by omega)).trans ?_
    unfold topB
    by_cases h : l.length ≤ 4 ∧ 0 ≤ lost ∧ lost ≤ 2000 ∧ 0 ≤ all ∧ all ≤ 2000
    · rw [topGo_eq all l (-1) (lost * 5) (by omega) (by omega)]
      simp only [h, and_self, decide_true, Bool.true_and]
      cases ht : topAsc l (-1)
      · rfl
      · obtain ⟨a, b, c⟩ := tsum_go l (-1) 0 (by omega) (by omega) ht
        have e : w64 (tsum l + w64 (5 * lost)) = lost * 5 + psum l := by
          have e1 : tsum l = psum l := by unfold tsum; rw [a]; omega
          rw [e1, w64_id (x := 5 * lost) (by omega) (by omega), w64_id (by omega) (by omega)]; omega
        rw [e]
    · simp only [h, decide_false, Bool.false_and, Bool.and_false]

def allR (rs : List (List Int)) : Int := cond (roughB rs) (isum (rs.getD 0 [])) (-1)
theorem implAll_eq (f : Nat) (rs : List (List Int)) (hf : 8 < f) : impl_RoughAll_fn f ((rs, ()), ()) = some ((allR rs, ()), ()) := by
  show impl_RoughAll_pre f rs = _
  unfold impl_RoughAll_pre allR
  rw [implRough_eq f rs hf, Option.bind_some]
  cases h : roughB rs
  · rfl
  · have h' := h
    unfold roughB at h'
    simp only [Bool.and_eq_true, decide_eq_true_eq] at h'
    obtain ⟨h3, h4⟩ := h'
    obtain ⟨a, b, c, rfl⟩ := three h3
    simp only [List.all_cons, Bool.and_eq_true, rowB] at h4
    have : (decide (a.length = 8) && a.all rng) = true := by simp [h4.1.1]
    simp only [zz_eq, Bool.not_true, cond_false, List.length_cons, List.length_nil, rowAll_eq f _ hf, Int.toNat_zero, List.getD_cons_zero, this, cond_true, Option.bind_some]
    rfl
theorem specAll_eq (f : Nat) (rs : List (List Int)) (hf : 8 < f) (hr : ∀ r ∈ rs, r.length < f ∧ r.length < 4294967296) : spec_RoughAll_fn f ((rs, ()), ()) = some ((allR rs, ()), ()) := by
  show spec_RoughAll_pre f rs = _
  unfold spec_RoughAll_pre allR
  rw [specRough_eq f rs hf hr, Option.bind_some]
  cases h : roughB rs
  · rfl
  · have h' := h
    unfold roughB at h'
    simp only [Bool.and_eq_true, decide_eq_true_eq] at h'
    obtain ⟨h3, h4⟩ := h'
    obtain ⟨a, b, c, rfl⟩ := three h3
    have := hr a (by simp)
    simp only [zz_eq, Bool.not_true, cond_false, List.length_cons, List.length_nil, Int.toNat_zero, List.getD_cons_zero, isum_eq f a this.2 this.1, cond_true, Option.bind_some]
    rfl

def sumB (rs : List (List Int)) (ms : List Int) (ps : List Knot) (lost tall : Int) (ks : List Knot) (rall : Int) : Bool :=
  roughB rs && (fewB ms && (topB ps lost tall && (okB ks rall && ((allR rs == tall) && ((tall == rall) && (decide ((ms.length : Int) > 0) == decide (tall > 0)))))))

theorem specSum_eq (f : Nat) (rs : List (List Int)) (ms : List Int) (ps : List Knot) (lost tall : Int) (ks : List Knot) (rall : Int) (hf : 8 < f)
    (hr : ∀ r ∈ rs, r.length < f ∧ r.length < 4294967296) (hm : ms.length < 4294967296 ∧ ms.length < f) (hp : ps.length < 4294967296 ∧ ps.length < f) (hk : ks.length < 4294967296 ∧ ks.length < f) :
    spec_SumOk_fn f ((rs, ms, ps, lost, tall, ks, rall, ()), ()) = some ((sumB rs ms ps lost tall ks rall, ()), ()) := by
  show spec_SumOk_pre f rs ms ps lost tall ks rall = _
  unfold spec_SumOk_pre sumB
  simp only [specRough_eq f rs hf hr, specFew_eq f ms hm.1 hm.2, specTop_eq f ps lost tall hp.1 hp.2, specOk_eq f ks rall hk.1 hk.2, specAll_eq f rs hf hr, Option.bind_some, zz_eq]
  cases roughB rs <;> cases fewB ms <;> cases topB ps lost tall <;> cases okB ks rall <;> cases allR rs == tall <;> cases tall == rall <;> rfl

theorem implSum_eq (f : Nat) (rs : List (List Int)) (ms : List Int) (ps : List Knot) (lost tall : Int) (ks : List Knot) (rall : Int) (hf : 8 < f) (hk : ks.length < 4294967296 ∧ ks.length < f) :
    impl_SumOk_fn f ((rs, ms, ps, lost, tall, ks, rall, ()), ()) = some ((sumB rs ms ps lost tall ks rall, ()), ()) := by
  show impl_SumOk_pre f rs ms ps lost tall ks rall = _
  unfold impl_SumOk_pre sumB
  have e0 : impl_Sum_ways_fn f ((rs, ms, ps, lost, tall, ks, rall, ()), ()) = some (((((rs, ()), ()), ((ms, ()), ()), ((ps, lost, tall, ()), ()), ((ks, rall, ()), ()), ()), ())) := rfl
  have e1 : impl_Rough_inForm_fn f ((rs, ()), ()) = some ((roughB rs, ()), ()) := by
    show impl_Rough_inForm_pre f rs = _
    unfold impl_Rough_inForm_pre
    rw [implRough_eq f rs hf]; rfl
  have e2 : impl_Few_inForm_fn f ((ms, ()), ()) = some ((fewB ms, ()), ()) := by
    show impl_Few_inForm_pre f ms = _
    unfold impl_Few_inForm_pre
    rw [implFew_eq f ms hf]; rfl
  have e3 : impl_Top_inForm_fn f ((ps, lost, tall, ()), ()) = some ((topB ps lost tall, ()), ()) := by
    show impl_Top_inForm_pre f ps lost tall = _
    unfold impl_Top_inForm_pre
    rw [implTop_eq f ps lost tall hf]; rfl
  have e4 : impl_Rank_inForm_fn f ((ks, rall, ()), ()) = some ((okB ks rall, ()), ()) := by
    show impl_Rank_inForm_pre f ks rall = _
    unfold impl_Rank_inForm_pre
    rw [implOk_eq f ks rall hk.1 hk.2]; rfl
  simp only [e0, e1, e2, e3, e4, implAll_eq f rs hf, Option.bind_some, zz_eq]
  cases roughB rs <;> cases fewB ms <;> cases topB ps lost tall <;> cases okB ks rall <;> try rfl
  by_cases c1 : tall = allR rs
  · subst c1
    simp only [beq_self_eq_true, cond_true, Bool.true_and, Bool.not_true, cond_false]
    by_cases c2 : rall = allR rs
    · subst c2
      simp only [beq_self_eq_true, cond_true, Bool.true_and]
      rfl
    · have g1 : (rall == allR rs) = false := by simpa using c2
      have g2 : (allR rs == rall) = false := by simpa using fun h => c2 h.symm
      simp only [g1, g2, cond_false, Bool.false_and]
  · have g1 : (tall == allR rs) = false := by simpa using c1
    have g2 : (allR rs == tall) = false := by simpa using fun h => c1 h.symm
    simp only [g1, g2, cond_false, Bool.false_and, Bool.not_true, Bool.and_false]
end Go.Proofs.Ytjnkefbdpcbkmaa.Den
