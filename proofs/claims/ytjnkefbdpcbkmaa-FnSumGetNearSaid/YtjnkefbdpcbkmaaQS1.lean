/- Rough counts, marks and pairs in form: both readings of each say the same plain thing. -/
import Derived.Test.YtjnkefbdpcbkmaaQS0
namespace Go.Proofs.Ytjnkefbdpcbkmaa.Den
open Go
set_option linter.unusedVariables false
set_option linter.unusedSimpArgs false

/-- All of a row together. -/
def isum (l : List Int) : Int := l.foldl (fun s x => w64 (s + x)) 0
def rng (x : Int) : Bool := decide (0 ≤ x ∧ x ≤ 2000)

theorem isum_eq (f : Nat) (l : List Int) (hl : l.length < 4294967296) (hf : l.length < f) : spec_l1Sum_fn f ((l, ()), ()) = some ((isum l, ()), ()) := by
  show iter (spec_l1Sum_st0 f) f ((0 : Int), l, (0 : Int)) = _
  refine (iter_list (st := spec_l1Sum_st0 f) (enc := fun i s => ((i : Int), l, s)) (fun x k s => k (w64 (s + x))) (fun s => some ((s, ()), ())) l 0 ?_ ?_ f 0 hf).trans (fold_go (fun s x => w64 (s + x)) (fun _ _ _ => rfl) l 0)
  · intro i s g hi
    show spec_l1Sum_step0 f g _ = _
    unfold spec_l1Sum_step0
    simp only [zz_eq, lt_cast hi, le_cast, decide_true, cond_true, Int.toNat_natCast, w64_up (Nat.lt_trans hi hl)]
  · intro s g
    show spec_l1Sum_step0 f g _ = _
    unfold spec_l1Sum_step0
    simp only [zz_eq, nlt_cast, decide_false, cond_false]

def rowB (row : List Int) : Bool := decide (row.length = 8) && (row.all rng && decide (isum row ≤ 2000))
def roughB (rs : List (List Int)) : Bool := decide (rs.length = 3) && rs.all fun row => rowB row && (isum row == isum (rs.getD 0 []))

theorem rowAll_eq (f : Nat) (l : List Int) (hf : 8 < f) : impl_rowAll_fn f ((l, ()), ()) = some (cond (decide (l.length = 8) && l.all rng) ((isum l, ()), (decide (isum l ≤ 2000), ()), ()) ((0, ()), (false, ()), ())) := by
  show impl_rowAll_pre f (iter (impl_rowAll_st0 f) f) l = _
  unfold impl_rowAll_pre
  by_cases h : l.length = 8
  · have hl : l.length < 4294967296 := by omega
    have e : (zz l.length != (8 : Int)) = false := by simp [zz_eq, h]
    rw [e, cond_false, zz_eq]
    have := iter_list (st := impl_rowAll_st0 f) (enc := fun i s => ((i : Int), (l.length : Int), l, s)) (fun x k s => cond (rng x) (k (w64 (s + x))) (some ((0, ()), (false, ()), ()))) (fun s => some ((s, ()), (decide (s ≤ 2000), ()), ())) l 0 ?_ ?_ f 0 (by omega)
    · refine this.trans ?_
      have : ∀ (l : List Int) (s : Int), goL (R := ((Int × Unit) × ((Bool × Unit) × Unit))) (fun x k s => cond (rng x) (k (w64 (s + x))) (some ((0, ()), (false, ()), ()))) (fun s => some ((s, ()), (decide (s ≤ 2000), ()), ())) l s = some (cond (l.all rng) ((l.foldl (fun s x => w64 (s + x)) s, ()), (decide (l.foldl (fun s x => w64 (s + x)) s ≤ 2000), ()), ()) ((0, ()), (false, ()), ())) := by
        intro l
        induction l with
        | nil => intro s; rfl
        | cons x l ih =>
          intro s
          show cond (rng x) (goL _ _ l _) _ = _
          rw [ih, List.all_cons]
          cases rng x <;> rfl
      rw [this]
      simp only [h, decide_true, Bool.true_and]
      rfl
    · intro i s g hi
      show impl_rowAll_step0 f g _ = _
      unfold impl_rowAll_step0
      simp only [zz_eq, lt_cast hi, le_cast, decide_true, cond_true, Int.toNat_natCast, w64_up (Nat.lt_trans hi hl)]
      obtain ⟨x, hx⟩ : ∃ x : Int, l.getD i 0 = x := ⟨_, rfl⟩
      simp only [hx]
      unfold rng
      by_cases c1 : x < 0
      · have : ¬ (0 ≤ x ∧ x ≤ 2000) := by omega
        simp [c1, this]
      · by_cases c2 : x > 2000
        · have : ¬ (0 ≤ x ∧ x ≤ 2000) := by omega
          simp [c1, c2, this]
        · have : (0 ≤ x ∧ x ≤ 2000) := by omega
          simp [c1, c2, this]
    · intro s g
      show impl_rowAll_step0 f g _ = _
      unfold impl_rowAll_step0
      simp only [nlt_cast, decide_false, cond_false]
  · have e : (zz l.length != (8 : Int)) = true := by simp [zz_eq]; omega
    rw [e, cond_true]
    simp [h]

theorem three {α : Type} {rs : List α} (h : rs.length = 3) : ∃ a b c, rs = [a, b, c] := by
  match rs, h with
  | [a, b, c], _ => exact ⟨a, b, c, rfl⟩

theorem implRough_eq (f : Nat) (rs : List (List Int)) (hf : 8 < f) : impl_RoughOk_fn f ((rs, ()), ()) = some ((roughB rs, ()), ()) := by
  show impl_RoughOk_pre f (iter (impl_RoughOk_st0 f) f) rs = _
  unfold impl_RoughOk_pre
  by_cases h : rs.length = 3
  · have e : ((rs.length : Int) != (3 : Int)) = false := by simp [h]
    have e0 : (0 : Int) < (rs.length : Int) := by omega
    simp only [zz_eq, e, cond_false, e0, decide_true, cond_true, rowAll_eq f _ hf, Option.bind_some]
    obtain ⟨w, hw⟩ : ∃ w : Int, (cond (decide ((rs.getD (Int.toNat 0) []).length = 8) && (rs.getD (Int.toNat 0) []).all rng) ((isum (rs.getD (Int.toNat 0) []), ()), (decide (isum (rs.getD (Int.toNat 0) []) ≤ 2000), ()), ()) ((0, ()), (false, ()), ()) : ((Int × Unit) × ((Bool × Unit) × Unit))).fst.fst = w := ⟨_, rfl⟩
    rw [hw]
    have := iter_list (st := impl_RoughOk_st0 f) (enc := fun i (s : Unit) => ((i : Int), (rs.length : Int), rs, w)) (fun row k s => cond (rowB row && (isum row == w)) (k s) (some ((false, ()), ()))) (fun s => some ((true, ()), ())) rs [] ?_ ?_ f () (by omega)
    · refine this.trans ?_
      rw [all_go _ _ (fun _ _ _ => rfl)]
      obtain ⟨a, b, c, rfl⟩ := three h
      unfold roughB
      simp only [List.all_cons, List.all_nil, List.getD_cons_zero, Int.toNat_zero, decide_true, Bool.true_and, List.length_cons, List.length_nil, Bool.and_true] at hw ⊢
      by_cases ha : rowB a = true
      · have ha' := ha
        unfold rowB at ha'
        have : (decide (a.length = 8) && a.all rng) = true := by
          revert ha'; cases decide (a.length = 8) <;> cases a.all rng <;> simp
        rw [this, cond_true] at hw
        rw [← hw, ha]
        simp only [beq_self_eq_true, Bool.and_self, Bool.true_and]
        cases (rowB b && (isum b == isum a)) <;> cases (rowB c && (isum c == isum a)) <;> rfl
      · have : rowB a = false := by simpa using ha
        simp [this]
    · intro i s g hi
      show impl_RoughOk_step0 f g _ = _
      unfold impl_RoughOk_step0
      simp only [zz_eq, lt_cast hi, le_cast, decide_true, cond_true, Int.toNat_natCast, w64_up (show i < 4294967296 by omega), rowAll_eq f _ hf, Option.bind_some]
      obtain ⟨x, hx⟩ : ∃ x : List Int, rs.getD i [] = x := ⟨_, rfl⟩
      simp only [hx]
      unfold rowB
      rw [← Bool.and_assoc]
      cases (decide (x.length = 8) && x.all rng) with
      | false => rfl
      | true =>
        simp only [cond_true, bne]
        cases decide (isum x ≤ 2000) <;> cases (isum x == w) <;> rfl
    · intro s g
      show impl_RoughOk_step0 f g _ = _
      unfold impl_RoughOk_step0
      simp only [nlt_cast, decide_false, cond_false]
  · have e : (zz rs.length != (3 : Int)) = true := by simp [zz_eq]; omega
    rw [e, cond_true]
    unfold roughB
    simp [h]

theorem specRough_eq (f : Nat) (rs : List (List Int)) (hf : 8 < f) (hr : ∀ r ∈ rs, r.length < f ∧ r.length < 4294967296) : spec_RoughOk_fn f ((rs, ()), ()) = some ((roughB rs, ()), ()) := by
  show spec_RoughOk_pre f (iter (spec_RoughOk_st0 f) f) rs = _
  unfold spec_RoughOk_pre
  by_cases h : rs.length = 3
  · have e : (zz rs.length != (3 : Int)) = false := by simp [zz_eq, h]
    rw [e, cond_false]
    have := iter_list (st := spec_RoughOk_st0 f) (enc := fun i (s : Unit) => ((i : Int), rs)) (fun row k s => cond (rowB row && (isum row == isum (rs.getD 0 []))) (k s) (some ((false, ()), ()))) (fun s => some ((true, ()), ())) rs [] ?_ ?_ f () (by omega)
    · refine this.trans ?_
      rw [all_go _ _ (fun _ _ _ => rfl)]
      unfold roughB
      simp only [h, decide_true, Bool.true_and]
      cases (rs.all fun row => rowB row && (isum row == isum (rs.getD 0 []))) <;> rfl
    · intro i s g hi
      show spec_RoughOk_step0 f _ g _ = _
      unfold spec_RoughOk_step0
      have l3 : (i : Int) < 3 := by omega
      simp only [zz_eq, lt_cast hi, l3, le_cast, decide_true, cond_true, Int.toNat_natCast]
      obtain ⟨x, hx⟩ : ∃ x : List Int, rs.getD i [] = x := ⟨_, rfl⟩
      simp only [hx]
      by_cases c1 : x.length = 8
      · have e8 : ((x.length : Int) != 8) = false := by simp [c1]
        rw [e8, cond_false]
        have := iter_list (st := spec_RoughOk_st1 f g) (enc := fun k (s : Unit) => ((k : Int), (i : Int), rs)) (fun y k s => cond (rng y) (k s) (some ((false, ()), ()))) (fun s => cond (isum x == isum (rs.getD 0 []) && decide (isum x ≤ 2000)) (g (((i + 1 : Nat) : Int), rs)) (some ((false, ()), ()))) x 0 ?_ ?_ f () (by omega)
        · refine this.trans ?_
          rw [all_go _ _ (fun _ _ _ => rfl)]
          unfold rowB
          simp only [c1, decide_true, Bool.true_and]
          cases x.all rng <;> cases (isum x == isum (rs.getD 0 [])) <;> cases decide (isum x ≤ 2000) <;> rfl
        · intro k s g' hk
          show spec_RoughOk_step1 f _ g' _ = _
          unfold spec_RoughOk_step1
          have l8 : (k : Int) < 8 := by omega
          simp only [zz_eq, lt_cast hi, lt_cast hk, l8, le_cast, decide_true, cond_true, Int.toNat_natCast, hx, in_eq, Option.bind_some, w64_up (show k < 4294967296 by omega)]
          unfold rng
          cases decide (0 ≤ x.getD k 0 ∧ x.getD k 0 ≤ 2000) <;> rfl
        · intro s g'
          show spec_RoughOk_step1 f _ g' _ = _
          unfold spec_RoughOk_step1
          have l8 : ¬ ((x.length : Int) < 8) := by omega
          have l0 : (0 : Int) < (rs.length : Int) := by omega
          have ix : spec_l1Sum_fn f ((x, ()), ()) = some ((isum x, ()), ()) := isum_eq f x (by omega) (by omega)
          simp only [zz_eq, l8, decide_false, cond_false, lt_cast hi, l0, le_cast, decide_true, cond_true, Int.toNat_natCast, hx, ix, Option.bind_some, w64_up (show i < 4294967296 by omega)]
          obtain ⟨g1, g2⟩ : (rs.getD 0 []).length < f ∧ (rs.getD 0 []).length < 4294967296 := by
            obtain ⟨a, b, c, rfl⟩ := three h
            exact hr a (by simp)
          have i0 : spec_l1Sum_fn f ((rs.getD 0 [], ()), ()) = some ((isum (rs.getD 0 []), ()), ()) := isum_eq f _ g2 g1
          simp only [Int.toNat_zero, i0, Option.bind_some]
          by_cases c3 : isum x = isum (rs.getD 0 [])
          · simp only [c3, bne_self_eq_false, cond_false, beq_self_eq_true, Bool.true_and]
            by_cases c : isum (rs.getD 0 []) ≤ 2000
            · have : ¬ isum (rs.getD 0 []) > 2000 := by omega
              simp only [c, this, decide_true, decide_false, cond_true, cond_false]
            · have : isum (rs.getD 0 []) > 2000 := by omega
              simp only [c, this, decide_true, decide_false, cond_true, cond_false]
          · have c4 : (isum x == isum (rs.getD 0 [])) = false := by simpa using c3
            simp only [bne, c4, Bool.not_false, Bool.false_and, cond_true, cond_false]
      · have e8 : ((x.length : Int) != 8) = true := by simp; omega
        rw [e8, cond_true]
        unfold rowB
        simp [c1]
    · intro s g
      show spec_RoughOk_step0 f _ g _ = _
      unfold spec_RoughOk_step0
      have l3 : ¬ ((rs.length : Int) < 3) := by omega
      simp only [l3, decide_false, cond_false]
  · have e : (zz rs.length != (3 : Int)) = true := by simp [zz_eq]; omega
    rw [e, cond_true]
    unfold roughB
    simp [h]
end Go.Proofs.Ytjnkefbdpcbkmaa.Den
