/- The reference's tops, sums with one more, of lists and joined, as plain functions. -/
import Derived.Test.YtjnkefbdpcbkmaaQS7
namespace Go.Proofs.Ytjnkefbdpcbkmaa.Den
open Go
set_option linter.unusedVariables false
set_option linter.unusedSimpArgs false

def putP (t n : Int) : List Knot → Bool → List Knot
  | [], done => cond done [] [(t, n, ())]
  | x :: r, done => cond (!done && decide (x.1 ≥ t)) (cond (x.1 == t) ((t, w64 (n + x.2.1), ()) :: putP t n r true) ((t, n, ()) :: (x.1, x.2.1, ()) :: putP t n r true)) ((x.1, x.2.1, ()) :: putP t n r done)

theorem putP_len (t n : Int) : ∀ (l : List Knot) (done : Bool), (putP t n l done).length ≤ l.length + 1
  | [], done => by cases done <;> simp [putP]
  | x :: r, done => by
    have h1 := putP_len t n r true
    have h2 := putP_len t n r done
    have h3 : ∀ (l : List Knot), (putP t n l true).length = l.length := by
      intro l
      induction l with
      | nil => rfl
      | cons x l ih => simp [putP, ih]
    unfold putP
    cases (!done && decide (x.1 ≥ t)) <;> cases (x.1 == t) <;> simp only [cond_true, cond_false, List.length_cons, h3] <;> omega

theorem put3_loop (f : Nat) (l : List Knot) (t n : Int) (hl : l.length < 100000000) : ∀ (d i : Nat) (done : Bool) (out : List Knot) (fuel : Nat), i + d = l.length → out.length ≤ 2 * i → d < fuel →
    iter (spec_l3Put_st0 f) fuel ((i : Int), l, done, t, n, out) = some ((out ++ putP t n (l.drop i) done, ()), ())
  | 0, i, done, out, fuel + 1, hi, ho, hf => by
    rw [iter]
    show spec_l3Put_step0 f _ _ = _
    unfold spec_l3Put_step0
    obtain rfl : i = l.length := by omega
    have h1 : out.length + 1 < LIM := by simp only [LIM]; omega
    simp only [h1, decide_true, cond_true]
    simp only [zz_eq, nlt_cast, decide_false, cond_false, List.drop_eq_nil_of_le (Nat.le_refl _)]
    cases done
    · rfl
    · simp only [putP, cond_true, Bool.not_true, cond_false, List.append_nil]
  | d + 1, i, done, out, fuel + 1, hi, ho, hf => by
    rw [iter]
    show spec_l3Put_step0 f _ _ = _
    unfold spec_l3Put_step0
    have hlt : i < l.length := by omega
    have ih : ∀ done (out : List Knot), out.length ≤ 2 * (i + 1) → iter (spec_l3Put_st0 f) fuel (((i + 1 : Nat) : Int), l, done, t, n, out) = some ((out ++ putP t n (l.drop (i + 1)) done, ()), ()) := fun done out h =>
      put3_loop f l t n hl d (i + 1) done out fuel (by omega) h (by omega)
    have h1 : out.length + 1 < LIM := by simp only [LIM]; omega
    have h2 : out.length + 1 + 1 < LIM := by simp only [LIM]; omega
    simp only [zz_eq, lt_cast hlt, le_cast, decide_true, cond_true, Int.toNat_natCast, w64_up (show i < 4294967296 by omega), h1, List.length_append, List.length_singleton, h2]
    rw [drop_getD (0, 0, ()) hlt]
    obtain ⟨x, hx⟩ : ∃ x : Knot, l.getD i (0, 0, ()) = x := ⟨_, rfl⟩
    simp only [hx]
    have e1 := ih true (out ++ [(t, n, ())] ++ [(x.1, x.2.1, ())]) (by simp; omega)
    have e2 := ih true (out ++ [(t, w64 (n + x.2.1), ())]) (by simp; omega)
    have e3 := ih done (out ++ [(x.1, x.2.1, ())]) (by simp; omega)
    simp only [e1, e2, e3]
    simp only [putP, List.append_assoc, List.singleton_append, List.cons_append, List.nil_append]
    cases done
    · by_cases c : x.1 ≥ t
      · simp only [c, decide_true, Bool.not_false, Bool.true_and, cond_true]
        cases (x.1 == t) <;> rfl
      · simp only [c, decide_false, Bool.not_false, Bool.true_and, cond_true, cond_false]
    · simp only [Bool.not_true, Bool.false_and, cond_false]
theorem specPut3_eq (f : Nat) (l : List Knot) (t n : Int) (hl : l.length < 100000000) (hf : l.length < f) : spec_l3Put_fn f ((l, ()), (t, n, ()), ()) = some ((putP t n l false, ()), ()) := by
  show iter (spec_l3Put_st0 f) f ((0 : Int), l, false, t, n, []) = _
  exact (put3_loop f l t n hl l.length 0 false [] f (by omega) (by simp) hf).trans rfl

def cntGe (m : Int) (l : List Knot) : Int := l.foldl (fun n x => cond (decide (x.2.1 ≥ m)) (w64 (n + 1)) n) 0
def over3 (l : List Knot) : Int := l.foldl (fun b x => cond (decide (cntGe x.2.1 l > 4)) (if x.2.1 > b then x.2.1 else b) b) 0
theorem specOver_eq (f : Nat) (l : List Knot) (hl : l.length < 100000000) (hf : l.length < f) : spec_l3Over_fn f ((l, ()), ()) = some ((over3 l, ()), ()) := by
  show iter (spec_l3Over_st0 f) f ((0 : Int), l, (0 : Int)) = _
  refine (iter_list (st := spec_l3Over_st0 f) (enc := fun i (b : Int) => ((i : Int), l, b)) (fun (x : Knot) k b => k (cond (decide (cntGe x.2.1 l > 4)) (if x.2.1 > b then x.2.1 else b) b)) (fun b => some ((b, ()), ())) l (0, 0, ()) ?_ ?_ f 0 hf).trans (fold_go (fun b x => cond (decide (cntGe x.2.1 l > 4)) (if x.2.1 > b then x.2.1 else b) b) (fun _ _ _ => rfl) l 0)
  · intro i b g hi
    show spec_l3Over_step0 f _ g _ = _
    unfold spec_l3Over_step0
    simp only [zz_eq, lt_cast hi, decide_true, cond_true]
    refine (iter_list (st := spec_l3Over_st1 f g) (enc := fun k (n : Int) => ((k : Int), l, (i : Int), n, b)) (fun (y : Knot) k n => k (cond (decide (y.2.1 ≥ (l.getD i (0, 0, ())).2.1)) (w64 (n + 1)) n))
      (fun n => g (((i + 1 : Nat) : Int), l, cond (decide (n > 4)) (if (l.getD i (0, 0, ())).2.1 > b then (l.getD i (0, 0, ())).2.1 else b) b)) l (0, 0, ()) ?_ ?_ f 0 hf).trans (fold_go (fun n y => cond (decide (y.2.1 ≥ (l.getD i (0, 0, ())).2.1)) (w64 (n + 1)) n) (fun _ _ _ => rfl) l 0)
    · intro k n g2 hk
      show spec_l3Over_step1 f g g2 _ = _
      unfold spec_l3Over_step1
      simp only [zz_eq, lt_cast hi, lt_cast hk, le_cast, decide_true, cond_true, Int.toNat_natCast, w64_up (show k < 4294967296 by omega)]
      cases decide ((l.getD k (0, 0, ())).2.1 ≥ (l.getD i (0, 0, ())).2.1) <;> rfl
    · intro n g2
      show spec_l3Over_step1 f g g2 _ = _
      unfold spec_l3Over_step1
      simp only [zz_eq, nlt_cast, lt_cast hi, le_cast, decide_true, decide_false, cond_true, cond_false, Int.toNat_natCast, w64_up (show i < 4294967296 by omega)]
      cases decide (n > 4) <;> rfl
  · intro b g
    show spec_l3Over_step0 f _ g _ = _
    unfold spec_l3Over_step0
    simp only [zz_eq, nlt_cast, decide_false, cond_false]

def less3 (m : Int) : List Knot → List Knot
  | [] => []
  | x :: r => cond (decide (x.2.1 > m)) ((x.1, w64 (x.2.1 - m), ()) :: less3 m r) (less3 m r)
theorem less3_len (m : Int) : ∀ (l : List Knot), (less3 m l).length ≤ l.length
  | [] => Nat.le_refl _
  | x :: r => by
    have := less3_len m r
    unfold less3
    cases decide (x.2.1 > m) <;> simp only [cond_true, cond_false, List.length_cons] <;> omega
theorem less_loop (f : Nat) (l : List Knot) (m : Int) (hl : l.length < 100000000) : ∀ (d i : Nat) (out : List Knot) (fuel : Nat), i + d = l.length → out.length ≤ i → d < fuel →
    iter (spec_l3Less_st0 f) fuel ((i : Int), l, m, out) = some ((out ++ less3 m (l.drop i), ()), ())
  | 0, i, out, fuel + 1, hi, ho, hf => by
    rw [iter]
    show spec_l3Less_step0 f _ _ = _
    unfold spec_l3Less_step0
    obtain rfl : i = l.length := by omega
    simp only [zz_eq, nlt_cast, decide_false, cond_false, List.drop_eq_nil_of_le (Nat.le_refl _), less3, List.append_nil]
  | d + 1, i, out, fuel + 1, hi, ho, hf => by
    rw [iter]
    show spec_l3Less_step0 f _ _ = _
    unfold spec_l3Less_step0
    have hlt : i < l.length := by omega
    have ih : ∀ (out : List Knot), out.length ≤ i + 1 → iter (spec_l3Less_st0 f) fuel (((i + 1 : Nat) : Int), l, m, out) = some ((out ++ less3 m (l.drop (i + 1)), ()), ()) := fun out h =>
      less_loop f l m hl d (i + 1) out fuel (by omega) h (by omega)
    have h1 : out.length + 1 < LIM := by simp only [LIM]; omega
    simp only [zz_eq, lt_cast hlt, le_cast, decide_true, cond_true, Int.toNat_natCast, w64_up (show i < 4294967296 by omega), h1]
    rw [drop_getD (0, 0, ()) hlt]
    obtain ⟨x, hx⟩ : ∃ x : Knot, l.getD i (0, 0, ()) = x := ⟨_, rfl⟩
    simp only [hx]
    have e1 := ih (out ++ [(x.1, w64 (x.2.1 - m), ())]) (by simp; omega)
    have e2 := ih out (by omega)
    simp only [e1, e2]
    simp only [less3, List.append_assoc, List.singleton_append, List.cons_append, List.nil_append]
    cases decide (x.2.1 > m) <;> rfl
theorem specLess_eq (f : Nat) (l : List Knot) (m : Int) (hl : l.length < 100000000) (hf : l.length < f) : spec_l3Less_fn f ((l, ()), (m, ()), ()) = some ((less3 m l, ()), ()) := by
  show iter (spec_l3Less_st0 f) f ((0 : Int), l, m, []) = _
  exact (less_loop f l m hl l.length 0 [] f (by omega) (by simp) hf).trans rfl

abbrev TopD := List Knot × Int × Int × Unit
def cut3 (l : List Knot) (lost all : Int) : TopD := (less3 (over3 l) l, w64 (lost + over3 l), all, ())
theorem specCut_eq (f : Nat) (l : List Knot) (lost all : Int) (hl : l.length < 100000000) (hf : l.length < f) : spec_l3Cut_fn f ((l, lost, all, ()), ()) = some (cut3 l lost all, ()) := by
  show spec_l3Cut_pre f l lost all = _
  unfold spec_l3Cut_pre
  simp only [specOver_eq f l hl hf, specLess_eq f l _ hl hf, Option.bind_some]
  rfl

def noTop : TopD := ([], 0, 0, ())
def topAdd (ps : List Knot) (lost all t : Int) : TopD × Bool := cond (topB ps lost all && (thingB t && decide (all < 2000))) (cut3 (putP t 1 ps false) lost (w64 (all + 1)), true) (noTop, false)
theorem specTopAdd_eq (f : Nat) (ps : List Knot) (lost all t : Int) (hl : ps.length < 10000000) (hf : ps.length + 1 < f) : spec_TopAdd_fn f ((ps, lost, all, ()), (t, ()), ()) = some ((topAdd ps lost all t).1, ((topAdd ps lost all t).2, ()), ()) := by
  show spec_TopAdd_pre f ps lost all t = _
  have h1 := putP_len t 1 ps false
  unfold spec_TopAdd_pre topAdd
  simp only [specTop_eq f ps lost all (by omega) (by omega), thing_in, Option.bind_some, specPut3_eq f ps t 1 (by omega) (by omega), specCut_eq f (putP t 1 ps false) lost _ (by omega) (by omega)]
  have : decide (all ≥ 2000) = !decide (all < 2000) := by
    by_cases h : all < 2000
    · have : ¬ all ≥ 2000 := by omega
      simp [h, this]
    · have : all ≥ 2000 := by omega
      simp [h, this]
  rw [this]
  cases topB ps lost all <;> cases thingB t <;> cases decide (all < 2000) <;> rfl

def putAll (a b : List Knot) : List Knot := b.foldl (fun k x => putP x.1 x.2.1 k false) a
theorem putAll_len : ∀ (b a : List Knot), (putAll a b).length ≤ a.length + b.length
  | [], a => Nat.le_refl _
  | x :: b, a => by
    have h1 := putAll_len b (putP x.1 x.2.1 a false)
    have h2 := putP_len x.1 x.2.1 a false
    show (putAll (putP x.1 x.2.1 a false) b).length ≤ _
    simp only [List.length_cons]; omega
def topJoin (pa : List Knot) (la aa : Int) (pb : List Knot) (lb ab : Int) : TopD × Bool :=
  cond (topB pa la aa && (topB pb lb ab && decide (w64 (aa + ab) ≤ 2000))) (cut3 (putAll pa pb) (w64 (la + lb)) (w64 (aa + ab)), true) (noTop, false)
theorem four {ps : List Knot} {l a : Int} (h : topB ps l a = true) : ps.length ≤ 4 ∧ 0 ≤ l ∧ l ≤ 2000 ∧ 0 ≤ a ∧ a ≤ 2000 := by
  unfold topB at h
  simp only [Bool.and_eq_true, decide_eq_true_eq] at h
  exact h.1
theorem specTopJoin_eq (f : Nat) (pa : List Knot) (la aa : Int) (pb : List Knot) (lb ab : Int) (ha : pa.length < 10000000) (hb : pb.length < 10000000) (hfa : pa.length < f) (hfb : pb.length < f) (hf : 16 < f) :
    spec_TopJoin_fn f ((pa, la, aa, ()), (pb, lb, ab, ()), ()) = some ((topJoin pa la aa pb lb ab).1, ((topJoin pa la aa pb lb ab).2, ()), ()) := by
  show spec_TopJoin_pre f (iter (spec_TopJoin_st0 f) f) pa la aa pb lb ab = _
  unfold spec_TopJoin_pre topJoin
  simp only [specTop_eq f pa la aa (by omega) (by omega), specTop_eq f pb lb ab (by omega) (by omega), Option.bind_some]
  cases h : topB pa la aa
  · rfl
  cases h' : topB pb lb ab
  · rfl
  have b1 := four h
  have b2 := four h'
  by_cases c : w64 (aa + ab) ≤ 2000
  · have c' : ¬ w64 (aa + ab) > 2000 := by omega
    have h1 : 0 + pa.length < LIM := by simp only [LIM]; omega
    simp only [c, c', decide_true, decide_false, h1, Bool.not_true, cond_false, cond_true, List.nil_append, Bool.and_self]
    refine (iter_list (st := spec_TopJoin_st0 f) (enc := fun i (k : List Knot) => ((i : Int), pb, lb, ab, k, pa, la, aa, (0 : Int), (0 : Int))) (fun (x : Knot) c (k : List Knot) => (spec_l3Put_fn f ((k, ()), (x.1, x.2.1, ()), ())).bind fun y => c y.1.1)
      (fun k => (spec_l3Cut_fn f ((k, w64 (la + lb), w64 (aa + ab), ()), ())).bind fun y => some ((y.1.1, y.1.2.1, y.1.2.2.1, ()), (true, ()), ())) pb (0, 0, ()) ?_ ?_ f pa hfb).trans ?_
    · intro i k g hi
      show spec_TopJoin_step0 f g _ = _
      unfold spec_TopJoin_step0
      simp only [zz_eq, lt_cast hi, le_cast, decide_true, cond_true, Int.toNat_natCast, w64_up (show i < 4294967296 by omega)]
    · intro k g
      show spec_TopJoin_step0 f g _ = _
      unfold spec_TopJoin_step0
      simp only [zz_eq, nlt_cast, decide_false, cond_false]
    · have : ∀ (b k : List Knot), k.length + b.length ≤ 12 → goL (R := (TopD × ((Bool × Unit) × Unit))) (fun (x : Knot) c (k : List Knot) => (spec_l3Put_fn f ((k, ()), (x.1, x.2.1, ()), ())).bind fun y => c y.1.1)
          (fun k => (spec_l3Cut_fn f ((k, w64 (la + lb), w64 (aa + ab), ()), ())).bind fun y => some ((y.1.1, y.1.2.1, y.1.2.2.1, ()), (true, ()), ())) b k = some (cut3 (putAll k b) (w64 (la + lb)) (w64 (aa + ab)), (true, ()), ()) := by
        intro b
        induction b with
        | nil =>
          intro k hk
          simp only [List.length_nil] at hk
          show (spec_l3Cut_fn f ((k, w64 (la + lb), w64 (aa + ab), ()), ())).bind _ = _
          rw [specCut_eq f k _ _ (by omega) (by omega)]; rfl
        | cons x b ih =>
          intro k hk
          simp only [List.length_cons] at hk
          have := putP_len x.1 x.2.1 k false
          show (spec_l3Put_fn f ((k, ()), (x.1, x.2.1, ()), ())).bind _ = _
          rw [specPut3_eq f k _ _ (by omega) (by omega)]
          exact ih (putP x.1 x.2.1 k false) (by omega)
      exact this pb pa (by omega)
  · have c' : w64 (aa + ab) > 2000 := by omega
    simp only [c, c', decide_true, decide_false, Bool.not_true, cond_false, cond_true, Bool.and_false]
    rfl

/-! ### sums -/
abbrev SumD := List (List Int) × List Int × List Knot × Int × Int × List Knot × Int × Unit
def noSum : SumD := ([], [], [], 0, 0, [], 0, ())
def sumNew : SumD := ([List.replicate 8 0, List.replicate 8 0, List.replicate 8 0], [], [], 0, 0, [], 0, ())
def sumBD (s : SumD) : Bool := sumB s.1 s.2.1 s.2.2.1 s.2.2.2.1 s.2.2.2.2.1 s.2.2.2.2.2.1 s.2.2.2.2.2.2.1
def rankAdd (ks : List Knot) (all t : Int) : (List Knot × Int × Unit) × Bool := cond (addB ks all t) ((addS ks all t, w64 (all + 1), ()), true) (([], 0, ()), false)
def rankJoin (ka : List Knot) (aa : Int) (kb : List Knot) (ab : Int) : (List Knot × Int × Unit) × Bool := cond (joinB ka aa kb ab) ((sumK ka kb (aa + ab), aa + ab, ()), true) (([], 0, ()), false)
theorem specRankAdd_eq (f : Nat) (ks : List Knot) (all t : Int) (hl : ks.length < 4294967296) (hf : ks.length < f) (hf2 : 128 < f) :
    spec_RankAdd_fn f ((ks, all, ()), (t, ()), ()) = some ((rankAdd ks all t).1, ((rankAdd ks all t).2, ()), ()) := by
  rw [specAdd_eq f ks all t hl hf hf2]; unfold rankAdd
  cases addB ks all t <;> rfl
theorem specRankJoin_eq (f : Nat) (ka kb : List Knot) (aa ab : Int) (hla : ka.length < 2147483648) (hlb : kb.length < 2147483648) (hfa : ka.length + kb.length < f) (hf : 128 < f) :
    spec_RankJoin_fn f ((ka, aa, ()), (kb, ab, ()), ()) = some ((rankJoin ka aa kb ab).1, ((rankJoin ka aa kb ab).2, ()), ()) := by
  rw [specJoin_eq f ka kb aa ab hla hlb hfa hf]; unfold rankJoin
  cases joinB ka aa kb ab <;> rfl

/-- How much there is of a sum. -/
structure SmallS (s : SumD) (n : Nat) : Prop where
  rows : s.1.length ≤ n
  row : ∀ r ∈ s.1, r.length ≤ n
  marks : s.2.1.length ≤ n
  pairs : s.2.2.1.length ≤ n
  knots : s.2.2.2.2.2.1.length ≤ n

theorem specSumD_eq (f : Nat) (s : SumD) {n : Nat} (hs : SmallS s n) (hn : n < 4294967296) (hf : 8 < f) (hnf : n < f) : spec_SumOk_fn f (s, ()) = some ((sumBD s, ()), ()) :=
  specSum_eq f s.1 s.2.1 s.2.2.1 s.2.2.2.1 s.2.2.2.2.1 s.2.2.2.2.2.1 s.2.2.2.2.2.2.1 hf (fun r hr => by have := hs.row r hr; omega) (by have := hs.marks; omega) (by have := hs.pairs; omega) (by have := hs.knots; omega)
theorem implSumD_eq (f : Nat) (s : SumD) {n : Nat} (hs : SmallS s n) (hn : n < 4294967296) (hf : 8 < f) (hnf : n < f) : impl_SumOk_fn f (s, ()) = some ((sumBD s, ()), ()) :=
  implSum_eq f s.1 s.2.1 s.2.2.1 s.2.2.2.1 s.2.2.2.2.1 s.2.2.2.2.2.1 s.2.2.2.2.2.2.1 hf (by have := hs.knots; omega)

def sumAdd (s : SumD) (t : Int) : SumD × Bool := cond (sumBD s && (thingB t && decide (s.2.2.2.2.1 < 2000)))
  (((roughAdd s.1 t 1).1, (fewAdd s.2.1 t).1, (topAdd s.2.2.1 s.2.2.2.1 s.2.2.2.2.1 t).1.1, (topAdd s.2.2.1 s.2.2.2.1 s.2.2.2.2.1 t).1.2.1, (topAdd s.2.2.1 s.2.2.2.1 s.2.2.2.2.1 t).1.2.2.1, (rankAdd s.2.2.2.2.2.1 s.2.2.2.2.2.2.1 t).1.1, (rankAdd s.2.2.2.2.2.1 s.2.2.2.2.2.2.1 t).1.2.1, ()), true) (noSum, false)
theorem specSumAdd_eq (f : Nat) (s : SumD) (t : Int) {n : Nat} (hs : SmallS s n) (hn : n < 1000000) (hnf : n + 1 < f) (hf : 128 < f) : spec_SumAdd_fn f (s, (t, ()), ()) = some ((sumAdd s t).1, ((sumAdd s t).2, ()), ()) := by
  obtain ⟨rs, ms, ps, lost, tall, ks, rall, ⟨⟩⟩ := s
  have e0 := specSumD_eq f (rs, ms, ps, lost, tall, ks, rall, ()) hs (by omega) (by omega) (by omega)
  have h1 := hs.rows; have h2 := hs.row; have h3 := hs.marks; have h4 := hs.pairs; have h5 := hs.knots
  simp only at h1 h2 h3 h4 h5
  show spec_SumAdd_pre f rs ms ps lost tall ks rall t = _
  unfold spec_SumAdd_pre sumAdd
  simp only [e0, thing_in, Option.bind_some, specRoughAdd_eq f rs t 1 (by omega) (fun r hr => by have := h2 r hr; omega), specFewAdd_eq f ms t (by omega) (by omega), specTopAdd_eq f ps lost tall t (by omega) (by omega), specRankAdd_eq f ks rall t (by omega) (by omega) (by omega)]
  have : decide (tall ≥ 2000) = !decide (tall < 2000) := by
    by_cases h : tall < 2000
    · have : ¬ tall ≥ 2000 := by omega
      simp [h, this]
    · have : tall ≥ 2000 := by omega
      simp [h, this]
  rw [this]
  cases sumBD (rs, ms, ps, lost, tall, ks, rall, ()) <;> cases thingB t <;> cases decide (tall < 2000) <;> rfl

theorem roughAdd_small {rs : List (List Int)} {t n : Int} : (roughAdd rs t n).1.length ≤ 8 ∧ ∀ r ∈ (roughAdd rs t n).1, r.length ≤ 8 := by
  unfold roughAdd
  cases h : roughB rs
  · simp
  obtain ⟨a, b, c, rfl, ha, hb, hc, -, -⟩ := rough_rows h
  have l0 := row_len ha
  have l1 := row_len hb
  have l2 := row_len hc
  generalize (thingB t && _) = q
  cases q
  · simp
  · simp only [Bool.and_self, cond_true]
    refine ⟨by simp, fun r hr => ?_⟩
    simp only [List.mem_cons, List.not_mem_nil, or_false] at hr
    rcases hr with rfl | rfl | rfl <;> simp [add1, l0, l1, l2]
theorem fewAdd_small {ms : List Int} {t : Int} : (fewAdd ms t).1.length ≤ 6 := by
  unfold fewAdd
  cases (fewB ms && thingB t)
  · exact Nat.zero_le _
  · exact few6_len _ _
theorem topAdd_small {ps : List Knot} {l a t : Int} : (topAdd ps l a t).1.1.length ≤ 5 := by
  unfold topAdd
  cases h : topB ps l a
  · exact Nat.zero_le _
  have := four h
  have h1 := putP_len t 1 ps false
  cases (thingB t && decide (a < 2000))
  · exact Nat.zero_le _
  · have := less3_len (over3 (putP t 1 ps false)) (putP t 1 ps false)
    show (less3 (over3 (putP t 1 ps false)) (putP t 1 ps false)).length ≤ 5
    omega
theorem rankAdd_small {ks : List Knot} {a t : Int} : (rankAdd ks a t).1.1.length ≤ 128 := by
  unfold rankAdd
  cases addB ks a t
  · exact Nat.zero_le _
  · have := addS_len (ks := ks) (all := a) (t := t)
    simp only [cond_true]
    omega
theorem sumNew_small : SmallS sumNew 128 := ⟨by decide, by decide, by decide, by decide, by decide⟩
theorem noSum_small : SmallS noSum 128 := ⟨by decide, by decide, by decide, by decide, by decide⟩
theorem smallS_mk {rs : List (List Int)} {ms : List Int} {ps ks : List Knot} {l a r : Int} {n : Nat} (h1 : rs.length ≤ n) (h2 : ∀ r ∈ rs, r.length ≤ n) (h3 : ms.length ≤ n) (h4 : ps.length ≤ n) (h5 : ks.length ≤ n) : SmallS (rs, ms, ps, l, a, ks, r, ()) n := ⟨h1, h2, h3, h4, h5⟩
theorem sumAdd_small (s : SumD) (t : Int) : SmallS (sumAdd s t).1 128 := by
  unfold sumAdd
  cases (sumBD s && (thingB t && decide (s.2.2.2.2.1 < 2000)))
  · exact noSum_small
  · have r := roughAdd_small (rs := s.1) (t := t) (n := 1)
    have m := fewAdd_small (ms := s.2.1) (t := t)
    have p := topAdd_small (ps := s.2.2.1) (l := s.2.2.2.1) (a := s.2.2.2.2.1) (t := t)
    have k := rankAdd_small (ks := s.2.2.2.2.2.1) (a := s.2.2.2.2.2.2.1) (t := t)
    exact smallS_mk (Nat.le_trans r.1 (by omega)) (fun q hq => Nat.le_trans (r.2 q hq) (by omega)) (Nat.le_trans m (by omega)) (Nat.le_trans p (by omega)) k

def sumOfGo : List Int → SumD → SumD × Bool
  | [], s => (s, true)
  | t :: r, s => cond (sumAdd s t).2 (sumOfGo r (sumAdd s t).1) (noSum, false)
def sumOf (l : List Int) : SumD × Bool := sumOfGo l sumNew
theorem sumOfGo_small : ∀ (l : List Int) (s : SumD), SmallS s 128 → SmallS (sumOfGo l s).1 128
  | [], s, h => h
  | t :: r, s, h => by
    unfold sumOfGo
    cases (sumAdd s t).2
    · exact noSum_small
    · exact sumOfGo_small r _ (sumAdd_small s t)
theorem sumOf_small (l : List Int) : SmallS (sumOf l).1 128 := sumOfGo_small l _ sumNew_small
theorem specRoughNew_eq (f : Nat) : spec_RoughNew_fn f () = some (([List.replicate 8 0, List.replicate 8 0, List.replicate 8 0], ()), ()) := rfl
theorem specSumNew_eq (f : Nat) : spec_SumNew_fn f () = some (sumNew, ()) := rfl
theorem specSumOf_eq (f : Nat) (l : List Int) (hl : l.length < 1000000000) (hfl : l.length < f) (hf : 200 < f) : spec_SumOf_fn f ((l, ()), ()) = some ((sumOf l).1, ((sumOf l).2, ()), ()) := by
  show spec_SumOf_pre f (iter (spec_SumOf_st0 f) f) l = _
  unfold spec_SumOf_pre
  simp only [specSumNew_eq, Option.bind_some]
  refine (iter_list (st := spec_SumOf_st0 f) (enc := fun i (s : SumD) => ((i : Int), l, s.1, s.2.2.2.1, s.2.2.2.2.1, s.2.2.2.2.2.2.1, (0 : Int), (0 : Int), (0 : Int), s.2.1, s.2.2.1, s.2.2.2.2.2.1)) (fun (x : Int) c (s : SumD) => (spec_SumAdd_fn f (s, (x, ()), ())).bind fun y => cond (!y.2.1.1) (some (noSum, (false, ()), ())) (c y.1))
      (fun s => some (s, (true, ()), ())) l 0 ?_ ?_ f sumNew hfl).trans ?_
  · intro i s g hi
    show spec_SumOf_step0 f g _ = _
    unfold spec_SumOf_step0
    simp only [zz_eq, lt_cast hi, le_cast, decide_true, cond_true, Int.toNat_natCast, w64_up (show i < 4294967296 by omega)]
    rfl
  · intro s g
    show spec_SumOf_step0 f g _ = _
    unfold spec_SumOf_step0
    simp only [zz_eq, nlt_cast, decide_false, cond_false]
  · have : ∀ (l : List Int) (s : SumD), SmallS s 128 → goL (R := SumD × ((Bool × Unit) × Unit)) (fun (x : Int) c (s : SumD) => (spec_SumAdd_fn f (s, (x, ()), ())).bind fun y => cond (!y.2.1.1) (some (noSum, (false, ()), ())) (c y.1))
        (fun s => some (s, (true, ()), ())) l s = some ((sumOfGo l s).1, ((sumOfGo l s).2, ()), ()) := by
      intro l
      induction l with
      | nil => intro s _; rfl
      | cons x l ih =>
        intro s hs
        show (spec_SumAdd_fn f (s, (x, ()), ())).bind _ = _
        rw [specSumAdd_eq f s x hs (by omega) (by omega) (by omega), Option.bind_some]
        unfold sumOfGo
        cases (sumAdd s x).2
        · rfl
        · exact ih _ (sumAdd_small s x)
    exact this l sumNew sumNew_small

def sumJoin (s u : SumD) : SumD × Bool := cond (sumBD s && (sumBD u && decide (w64 (s.2.2.2.2.1 + u.2.2.2.2.1) ≤ 2000)))
  (((roughJoin s.1 u.1).1, (fewJoin s.2.1 u.2.1).1, (topJoin s.2.2.1 s.2.2.2.1 s.2.2.2.2.1 u.2.2.1 u.2.2.2.1 u.2.2.2.2.1).1.1, (topJoin s.2.2.1 s.2.2.2.1 s.2.2.2.2.1 u.2.2.1 u.2.2.2.1 u.2.2.2.2.1).1.2.1, (topJoin s.2.2.1 s.2.2.2.1 s.2.2.2.2.1 u.2.2.1 u.2.2.2.1 u.2.2.2.2.1).1.2.2.1, (rankJoin s.2.2.2.2.2.1 s.2.2.2.2.2.2.1 u.2.2.2.2.2.1 u.2.2.2.2.2.2.1).1.1, (rankJoin s.2.2.2.2.2.1 s.2.2.2.2.2.2.1 u.2.2.2.2.2.1 u.2.2.2.2.2.2.1).1.2.1, ()), true) (noSum, false)
theorem specSumJoin_eq (f : Nat) (s u : SumD) {n : Nat} (hs : SmallS s n) (hu : SmallS u n) (hn : n < 1000000) (hnf : 2 * n < f) (hf : 128 < f) : spec_SumJoin_fn f (s, u, ()) = some ((sumJoin s u).1, ((sumJoin s u).2, ()), ()) := by
  obtain ⟨rs, ms, ps, lost, tall, ks, rall, ⟨⟩⟩ := s
  obtain ⟨rs', ms', ps', lost', tall', ks', rall', ⟨⟩⟩ := u
  have e0 := specSumD_eq f (rs, ms, ps, lost, tall, ks, rall, ()) hs (by omega) (by omega) (by omega)
  have e1 := specSumD_eq f (rs', ms', ps', lost', tall', ks', rall', ()) hu (by omega) (by omega) (by omega)
  have h1 := hs.rows; have h2 := hs.row; have h3 := hs.marks; have h4 := hs.pairs; have h5 := hs.knots
  have k1 := hu.rows; have k2 := hu.row; have k3 := hu.marks; have k4 := hu.pairs; have k5 := hu.knots
  simp only at h1 h2 h3 h4 h5 k1 k2 k3 k4 k5
  show spec_SumJoin_pre f rs ms ps lost tall ks rall rs' ms' ps' lost' tall' ks' rall' = _
  unfold spec_SumJoin_pre sumJoin
  simp only [e0, e1, Option.bind_some, specRoughJoin_eq f rs rs' (by omega) (fun r hr => by have := h2 r hr; omega) (fun r hr => by have := k2 r hr; omega), specFewJoin_eq f ms ms' (by omega) (by omega) (by omega) (by omega) (by omega),
    specTopJoin_eq f ps lost tall ps' lost' tall' (by omega) (by omega) (by omega) (by omega) (by omega), specRankJoin_eq f ks ks' rall rall' (by omega) (by omega) (by omega) (by omega)]
  have : decide (w64 (tall + tall') > 2000) = !decide (w64 (tall + tall') ≤ 2000) := by
    by_cases h : w64 (tall + tall') ≤ 2000
    · have : ¬ w64 (tall + tall') > 2000 := by omega
      simp [h, this]
    · have : w64 (tall + tall') > 2000 := by omega
      simp [h, this]
  rw [this]
  cases sumBD (rs, ms, ps, lost, tall, ks, rall, ()) <;> cases sumBD (rs', ms', ps', lost', tall', ks', rall', ()) <;> cases decide (w64 (tall + tall') ≤ 2000) <;> rfl
theorem zipAdd_len {a b : List Int} (h : a.length = 8) (h' : b.length = 8) : (zipAdd a b).length = 8 := by unfold zipAdd; rw [List.length_zipWith]; omega
theorem roughJoin_small {x y : List (List Int)} : (roughJoin x y).1.length ≤ 8 ∧ ∀ r ∈ (roughJoin x y).1, r.length ≤ 8 := by
  unfold roughJoin
  cases h : roughB x
  · simp
  cases h' : roughB y
  · simp
  obtain ⟨a, b, c, rfl, ha, hb, hc, -, -⟩ := rough_rows h
  obtain ⟨a', b', c', rfl, ha', hb', hc', -, -⟩ := rough_rows h'
  have l0 := zipAdd_len (row_len ha) (row_len ha')
  have l1 := zipAdd_len (row_len hb) (row_len hb')
  have l2 := zipAdd_len (row_len hc) (row_len hc')
  simp only [Bool.true_and, List.getD_cons_zero]
  cases hq : decide (w64 (isum a + isum a') ≤ 2000)
  · simp
  · simp only [cond_true]
    refine ⟨by simp, fun r hr => ?_⟩
    simp only [List.mem_cons, List.not_mem_nil, or_false] at hr
    rcases hr with rfl | rfl | rfl
    · exact Nat.le_of_eq l0
    · exact Nat.le_of_eq l1
    · exact Nat.le_of_eq l2
theorem fewJoin_small {a b : List Int} : (fewJoin a b).1.length ≤ 6 := by
  unfold fewJoin
  cases h : fewB a
  · exact Nat.zero_le _
  cases fewB b
  · exact Nat.zero_le _
  · exact fewJoinGo_len _ _ (six h)
theorem topJoin_small {pa : List Knot} {la aa : Int} {pb : List Knot} {lb ab : Int} : (topJoin pa la aa pb lb ab).1.1.length ≤ 8 := by
  unfold topJoin
  cases h : topB pa la aa
  · exact Nat.zero_le _
  cases h' : topB pb lb ab
  · exact Nat.zero_le _
  have b1 := four h
  have b2 := four h'
  cases decide (w64 (aa + ab) ≤ 2000)
  · exact Nat.zero_le _
  · have h1 := putAll_len pb pa
    have := less3_len (over3 (putAll pa pb)) (putAll pa pb)
    show (less3 (over3 (putAll pa pb)) (putAll pa pb)).length ≤ 8
    omega
theorem rankJoin_small {ka : List Knot} {aa : Int} {kb : List Knot} {ab : Int} : (rankJoin ka aa kb ab).1.1.length ≤ 128 := by
  unfold rankJoin
  cases joinB ka aa kb ab
  · exact Nat.zero_le _
  · simp only [cond_true]
    exact sumK_len
theorem sumJoin_small (s u : SumD) : SmallS (sumJoin s u).1 128 := by
  unfold sumJoin
  cases (sumBD s && (sumBD u && decide (w64 (s.2.2.2.2.1 + u.2.2.2.2.1) ≤ 2000)))
  · exact noSum_small
  · have r := roughJoin_small (x := s.1) (y := u.1)
    have m := fewJoin_small (a := s.2.1) (b := u.2.1)
    have p := topJoin_small (pa := s.2.2.1) (la := s.2.2.2.1) (aa := s.2.2.2.2.1) (pb := u.2.2.1) (lb := u.2.2.2.1) (ab := u.2.2.2.2.1)
    have k := rankJoin_small (ka := s.2.2.2.2.2.1) (aa := s.2.2.2.2.2.2.1) (kb := u.2.2.2.2.2.1) (ab := u.2.2.2.2.2.2.1)
    exact smallS_mk (Nat.le_trans r.1 (by omega)) (fun q hq => Nat.le_trans (r.2 q hq) (by omega)) (Nat.le_trans m (by omega)) (Nat.le_trans p (by omega)) k
end Go.Proofs.Ytjnkefbdpcbkmaa.Den
