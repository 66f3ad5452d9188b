/- The reference's rough counts, marks and pairs, with one more and joined, as plain functions. -/
import Derived.Test.YtjnkefbdpcbkmaaQS6
namespace Go.Proofs.Ytjnkefbdpcbkmaa.Den
open Go
set_option linter.unusedVariables false
set_option linter.unusedSimpArgs false

def add1 (l : List Int) (i : Nat) (n : Int) : List Int := l.set i (w64 (l.getD i 0 + n))
def roughAdd (rs : List (List Int)) (t n : Int) : List (List Int) × Bool :=
  cond (roughB rs && (thingB t && decide (0 ≤ n ∧ n ≤ w64 (2000 - isum (rs.getD 0 []))))) ([add1 (rs.getD 0 []) (pl 0 t) n, add1 (rs.getD 1 []) (pl 1 t) n, add1 (rs.getD 2 []) (pl 2 t) n], true) ([], false)

theorem copy_eq (f : Nat) (a b c : List Int) (ha : a.length = 8) (hb : b.length = 8) (hc : c.length = 8) : spec_l1Copy_fn f (([a, b, c], ()), ()) = some (([a, b, c], ()), ()) := by
  show spec_l1Copy_pre f a b c = _
  unfold spec_l1Copy_pre
  simp only [ha, hb, hc, LIM, List.nil_append]
  rfl

theorem specRoughAdd_eq (f : Nat) (rs : List (List Int)) (t n : Int) (hf : 8 < f) (hr : ∀ r ∈ rs, r.length < f ∧ r.length < 4294967296) : spec_RoughAdd_fn f ((rs, ()), (t, ()), (n, ()), ()) = some (((roughAdd rs t n).1, ()), ((roughAdd rs t n).2, ()), ()) := by
  show spec_RoughAdd_pre f rs t n = _
  unfold spec_RoughAdd_pre roughAdd
  simp only [specRough_eq f rs hf hr, thing_in, Option.bind_some]
  cases h : roughB rs
  · rfl
  cases ht : thingB t
  · rfl
  obtain ⟨a, b, c, rfl, ha, hb, hc, -, -⟩ := rough_rows h
  have l0 := row_len ha
  have l1 := row_len hb
  have l2 := row_len hc
  have i0 := isum_eq f a (by omega) (by omega)
  have g0 : decide ((0 : Int) < zz ([a, b, c] : List (List Int)).length) = true := rfl
  have g1 : ([a, b, c] : List (List Int)).getD (Int.toNat 0) [] = a := rfl
  simp only [Bool.not_true, cond_false, g0, cond_true, g1, i0, in_eq, Option.bind_some, List.getD_cons_zero, Bool.true_and]
  by_cases cn : 0 ≤ n ∧ n ≤ w64 (2000 - isum a)
  · have p0 := specPlace_eq f 0 t (by omega) ht
    have p1 := specPlace_eq f 1 t (by omega) ht
    have p2 := specPlace_eq f 2 t (by omega) ht
    rw [show ((0 : Nat) : Int) = 0 from rfl] at p0
    rw [show ((1 : Nat) : Int) = 1 from rfl] at p1
    rw [show ((2 : Nat) : Int) = 2 from rfl] at p2
    have q0 := pl_lt 0 t
    have q1 := pl_lt 1 t
    have q2 := pl_lt 2 t
    have d1 : ([a, b, c] : List (List Int)).getD 1 [] = b := rfl
    have d2 : ([a, b, c] : List (List Int)).getD 2 [] = c := rfl
    have z0 : (pl 0 t : Int) < 8 := by omega
    have z1 : (pl 1 t : Int) < 8 := by omega
    have z2 : (pl 2 t : Int) < 8 := by omega
    simp only [cn, and_self, decide_true, Bool.not_true, cond_false, copy_eq f a b c l0 l1 l2, p0, p1, p2, Option.bind_some, List.getD_cons_zero, d1, d2, zz_eq, l0, l1, l2, le_cast, show ((8 : Nat) : Int) = 8 from rfl, z0, z1, z2, q0, q1, q2, Int.toNat_natCast, cond_true]
    rfl
  · simp only [cn, decide_false, Bool.not_false, cond_true, cond_false]

def zipAdd (a b : List Int) : List Int := List.zipWith (fun u v => w64 (u + v)) a b
def roughJoin (x y : List (List Int)) : List (List Int) × Bool :=
  cond (roughB x && (roughB y && decide (w64 (isum (x.getD 0 []) + isum (y.getD 0 [])) ≤ 2000))) ([zipAdd (x.getD 0 []) (y.getD 0 []), zipAdd (x.getD 1 []) (y.getD 1 []), zipAdd (x.getD 2 []) (y.getD 2 [])], true) ([], false)

theorem specRoughJoin_eq (f : Nat) (x y : List (List Int)) (hf : 8 < f) (hx : ∀ r ∈ x, r.length < f ∧ r.length < 4294967296) (hy : ∀ r ∈ y, r.length < f ∧ r.length < 4294967296) :
    spec_RoughJoin_fn f ((x, ()), (y, ()), ()) = some (((roughJoin x y).1, ()), ((roughJoin x y).2, ()), ()) := by
  show spec_RoughJoin_pre f (iter (spec_RoughJoin_st0 f) f) x y = _
  unfold spec_RoughJoin_pre roughJoin
  simp only [specRough_eq f x hf hx, specRough_eq f y hf hy, Option.bind_some]
  cases h : roughB x
  · rfl
  cases h' : roughB y
  · rfl
  obtain ⟨a, b, c, rfl, ha, hb, hc, -, -⟩ := rough_rows h
  obtain ⟨a', b', c', rfl, ha', hb', hc', -, -⟩ := rough_rows h'
  have l0 := row_len ha
  have l1 := row_len hb
  have l2 := row_len hc
  have k0 := row_len ha'
  have k1 := row_len hb'
  have k2 := row_len hc'
  have i0 := isum_eq f a (by omega) (by omega)
  have j0 := isum_eq f a' (by omega) (by omega)
  have g0 : decide ((0 : Int) < zz ([a, b, c] : List (List Int)).length) = true := rfl
  have g0' : decide ((0 : Int) < zz ([a', b', c'] : List (List Int)).length) = true := rfl
  have g1 : ([a, b, c] : List (List Int)).getD (Int.toNat 0) [] = a := rfl
  have g1' : ([a', b', c'] : List (List Int)).getD (Int.toNat 0) [] = a' := rfl
  have d1 : ([a, b, c] : List (List Int)).getD 1 [] = b := rfl
  have d2 : ([a, b, c] : List (List Int)).getD 2 [] = c := rfl
  have d1' : ([a', b', c'] : List (List Int)).getD 1 [] = b' := rfl
  have d2' : ([a', b', c'] : List (List Int)).getD 2 [] = c' := rfl
  simp only [Bool.not_true, cond_false, g0, g0', cond_true, g1, g1', i0, j0, Option.bind_some, List.getD_cons_zero, Bool.true_and, d1, d2, d1', d2']
  by_cases cn : w64 (isum a + isum a') ≤ 2000
  · have cn' : ¬ w64 (isum a + isum a') > 2000 := by omega
    simp only [cn, cn', decide_true, decide_false, cond_false, cond_true, copy_eq f a b c l0 l1 l2, Option.bind_some, List.getD_cons_zero, d1, d2]
    obtain ⟨f, rfl⟩ : ∃ g, f = g + 4 := ⟨f - 4, by omega⟩
    have r0 : ∀ (G : spec_RoughJoin_V0 → Option (((List (List Int)) × Unit) × ((Bool × Unit) × Unit))), iter (spec_RoughJoin_st1 (f + 4) G) (f + 4) (.c0 (0, [a', b', c'], a, b, c)) = G (.c1 ([a', b', c'], zipAdd a a', b, c)) := fun G => by
      refine (iter_zip (st := spec_RoughJoin_st1 (f + 4) G) (enc := fun i out => .c0 ((i : Int), [a', b', c'], out, b, c)) (fun out => G (.c1 ([a', b', c'], out, b, c))) 8 a' 0 0 (fun u v => w64 (u + v)) k0 ?_ ?_ 8 0 a (f + 4) (by omega) l0 (by omega))
      · intro i out g hi ho
        show spec_RoughJoin_step1 (f + 4) G g _ = _
        unfold spec_RoughJoin_step1
        have h1 : (i : Int) < 8 := by omega
        have h2 : (i : Int) < ((8 : Nat) : Int) := by omega
        have g2 : ([a', b', c'] : List (List Int)).getD (Int.toNat 0) [] = a' := rfl
        have g3 : decide ((0 : Int) < (([a', b', c'] : List (List Int)).length : Int)) = true := rfl
        simp only [zz_eq, h1, le_cast, ho, h2, hi, g2, k0, decide_true, cond_true, Int.toNat_natCast, w64_up (show i < 4294967296 by omega)]
        rfl
      · intro out g ho
        show spec_RoughJoin_step1 (f + 4) G g _ = _
        unfold spec_RoughJoin_step1
        rfl
    have r1 : ∀ (G : spec_RoughJoin_V0 → Option (((List (List Int)) × Unit) × ((Bool × Unit) × Unit))) (a : List Int), iter (spec_RoughJoin_st1 (f + 4) G) (f + 4) (.c1 (0, [a', b', c'], a, b, c)) = G (.c2 ([a', b', c'], a, zipAdd b b', c)) := fun G a => by
      refine (iter_zip (st := spec_RoughJoin_st1 (f + 4) G) (enc := fun i out => .c1 ((i : Int), [a', b', c'], a, out, c)) (fun out => G (.c2 ([a', b', c'], a, out, c))) 8 b' 0 0 (fun u v => w64 (u + v)) k1 ?_ ?_ 8 0 b (f + 4) (by omega) l1 (by omega))
      · intro i out g hi ho
        show spec_RoughJoin_step1 (f + 4) G g _ = _
        unfold spec_RoughJoin_step1
        have h1 : (i : Int) < 8 := by omega
        have h2 : (i : Int) < ((8 : Nat) : Int) := by omega
        have g2 : ([a', b', c'] : List (List Int)).getD (Int.toNat 1) [] = b' := rfl
        simp only [zz_eq, h1, le_cast, ho, h2, hi, g2, k1, decide_true, cond_true, Int.toNat_natCast, w64_up (show i < 4294967296 by omega)]
        rfl
      · intro out g ho
        show spec_RoughJoin_step1 (f + 4) G g _ = _
        unfold spec_RoughJoin_step1
        rfl
    have r2 : ∀ (G : spec_RoughJoin_V0 → Option (((List (List Int)) × Unit) × ((Bool × Unit) × Unit))) (a b : List Int), iter (spec_RoughJoin_st1 (f + 4) G) (f + 4) (.c2 (0, [a', b', c'], a, b, c)) = G (.c3 ([a', b', c'], a, b, zipAdd c c')) := fun G a b => by
      refine (iter_zip (st := spec_RoughJoin_st1 (f + 4) G) (enc := fun i out => .c2 ((i : Int), [a', b', c'], a, b, out)) (fun out => G (.c3 ([a', b', c'], a, b, out))) 8 c' 0 0 (fun u v => w64 (u + v)) k2 ?_ ?_ 8 0 c (f + 4) (by omega) l2 (by omega))
      · intro i out g hi ho
        show spec_RoughJoin_step1 (f + 4) G g _ = _
        unfold spec_RoughJoin_step1
        have h1 : (i : Int) < 8 := by omega
        have h2 : (i : Int) < ((8 : Nat) : Int) := by omega
        have g2 : ([a', b', c'] : List (List Int)).getD (Int.toNat 2) [] = c' := rfl
        simp only [zz_eq, h1, le_cast, ho, h2, hi, g2, k2, decide_true, cond_true, Int.toNat_natCast, w64_up (show i < 4294967296 by omega)]
        rfl
      · intro out g ho
        show spec_RoughJoin_step1 (f + 4) G g _ = _
        unfold spec_RoughJoin_step1
        rfl
    have u : ∀ n v, iter (spec_RoughJoin_st0 (f + 4)) (n + 1) v = spec_RoughJoin_step0 (f + 4) (iter (spec_RoughJoin_st1 (f + 4) (iter (spec_RoughJoin_st0 (f + 4)) n)) (f + 4)) (iter (spec_RoughJoin_st0 (f + 4)) n) v := fun n v => rfl
    have s0 : ∀ X G v, spec_RoughJoin_step0 (f + 4) X G (.c0 v) = X (.c0 ((0 : Int), v.1, v.2.1, v.2.2.1, v.2.2.2)) := fun X G v => rfl
    have s1 : ∀ X G v, spec_RoughJoin_step0 (f + 4) X G (.c1 v) = X (.c1 ((0 : Int), v.1, v.2.1, v.2.2.1, v.2.2.2)) := fun X G v => rfl
    have s2 : ∀ X G v, spec_RoughJoin_step0 (f + 4) X G (.c2 v) = X (.c2 ((0 : Int), v.1, v.2.1, v.2.2.1, v.2.2.2)) := fun X G v => rfl
    have s3 : ∀ X G v, spec_RoughJoin_step0 (f + 4) X G (.c3 v) = some ((([v.2.1, v.2.2.1, v.2.2.2], ()), (true, ()), ())) := fun X G v => rfl
    refine (u (f + 3) _).trans ?_
    rw [s0, r0]
    refine (u (f + 2) _).trans ?_
    rw [s1, r1]
    refine (u (f + 1) _).trans ?_
    rw [s2, r2]
    refine (u f _).trans ?_
    rw [s3]
  · have cn' : w64 (isum a + isum a') > 2000 := by omega
    simp only [cn, cn', decide_true, decide_false, cond_true, cond_false]

def putM (m : Int) : List Int → Bool → List Int
  | [], done => cond done [] [m]
  | x :: r, done => cond (!done && decide (x ≥ m)) (m :: cond (x != m) (x :: putM m r true) (putM m r true)) (cond (x != m) (x :: putM m r done) (putM m r done))
def few6 (l : List Int) (m : Int) : List Int := (putM m l false).take 6

theorem take_min {l : List Int} : List.take (Int.toNat (if (6 : Int) < zz l.length then (6 : Int) else zz l.length) - 0) (List.drop 0 l) = l.take 6 := by
  rw [List.drop_zero, Nat.sub_zero]
  split
  · rfl
  · rename_i h
    rw [zz_eq] at h
    rw [zz_eq, Int.toNat_natCast, List.take_of_length_le (Nat.le_refl _), List.take_of_length_le (by omega)]
theorem min_nn {n : Nat} : (0 : Int) ≤ if (6 : Int) < zz n then (6 : Int) else zz n := by
  have := zz_eq n
  split <;> omega
theorem min_le {n : Nat} : (if (6 : Int) < zz n then (6 : Int) else zz n) ≤ zz n := by split <;> omega

theorem put_loop (f : Nat) (l : List Int) (m : Int) (hl : l.length < 100000000) : ∀ (d i : Nat) (done : Bool) (out : List Int) (fuel : Nat), i + d = l.length → out.length ≤ 2 * i → d < fuel →
    iter (spec_l2Put_st0 f) fuel ((i : Int), l, done, m, out) = some (((out ++ putM m (l.drop i) done).take 6, ()), ())
  | 0, i, done, out, fuel + 1, hi, ho, hf => by
    rw [iter]
    show spec_l2Put_step0 f _ _ = _
    unfold spec_l2Put_step0
    obtain rfl : i = l.length := by omega
    have h1 : out.length + 1 < LIM := by simp only [LIM]; omega
    simp only [take_min, min_nn, min_le, h1, decide_true, cond_true]
    simp only [zz_eq, nlt_cast, decide_false, cond_false, List.drop_eq_nil_of_le (Nat.le_refl _)]
    cases done
    · rfl
    · simp only [putM, cond_true, Bool.not_true, cond_false, List.append_nil]
  | d + 1, i, done, out, fuel + 1, hi, ho, hf => by
    rw [iter]
    show spec_l2Put_step0 f _ _ = _
    unfold spec_l2Put_step0
    have hlt : i < l.length := by omega
    have ih : ∀ done (out : List Int), out.length ≤ 2 * (i + 1) → iter (spec_l2Put_st0 f) fuel (((i + 1 : Nat) : Int), l, done, m, out) = some (((out ++ putM m (l.drop (i + 1)) done).take 6, ()), ()) := fun done out h =>
      put_loop f l m hl d (i + 1) done out fuel (by omega) h (by omega)
    have h1 : out.length + 1 < LIM := by simp only [LIM]; omega
    have h2 : out.length + 1 + 1 < LIM := by simp only [LIM]; omega
    simp only [zz_eq, lt_cast hlt, le_cast, decide_true, cond_true, Int.toNat_natCast, w64_up (show i < 4294967296 by omega), h1, List.length_append, List.length_singleton, h2]
    rw [drop_getD 0 hlt]
    obtain ⟨x, hx⟩ : ∃ x : Int, l.getD i 0 = x := ⟨_, rfl⟩
    simp only [hx]
    have e1 := ih true (out ++ [m] ++ [x]) (by simp; omega)
    have e2 := ih true (out ++ [m]) (by simp; omega)
    have e3 := ih done (out ++ [x]) (by simp; omega)
    have e4 := ih done out (by omega)
    simp only [e1, e2, e3, e4]
    simp only [putM, List.append_assoc, List.singleton_append, List.cons_append, List.nil_append]
    cases done
    · by_cases c : x ≥ m
      · simp only [c, decide_true, Bool.not_false, Bool.true_and, cond_true]
        cases (x != m) <;> rfl
      · simp only [c, decide_false, Bool.not_false, Bool.true_and, cond_true, cond_false]
        cases (x != m) <;> rfl
    · simp only [Bool.not_true, Bool.false_and, cond_false]
      cases (x != m) <;> rfl
theorem specPut_eq (f : Nat) (l : List Int) (m : Int) (hl : l.length < 100000000) (hf : l.length < f) : spec_l2Put_fn f ((l, ()), (m, ()), ()) = some ((few6 l m, ()), ()) := by
  show iter (spec_l2Put_st0 f) f ((0 : Int), l, false, m, []) = _
  exact (put_loop f l m hl l.length 0 false [] f (by omega) (by simp) hf).trans rfl

def fewAdd (ms : List Int) (t : Int) : List Int × Bool := cond (fewB ms && thingB t) (few6 ms (mark t), true) ([], false)
theorem specFewAdd_eq (f : Nat) (l : List Int) (t : Int) (hl : l.length < 100000000) (hf : l.length < f) : spec_FewAdd_fn f ((l, ()), (t, ()), ()) = some (((fewAdd l t).1, ()), ((fewAdd l t).2, ()), ()) := by
  show spec_FewAdd_pre f l t = _
  unfold spec_FewAdd_pre fewAdd
  simp only [specFew_eq f l (by omega) hf, thing_in, specMark_eq, specPut_eq f l _ hl hf, Option.bind_some]
  cases fewB l <;> cases thingB t <;> rfl

theorem few6_len (l : List Int) (m : Int) : (few6 l m).length ≤ 6 := by unfold few6; rw [List.length_take]; omega
def fewJoinGo : List Int → List Int → List Int
  | [], k => k
  | x :: r, k => fewJoinGo r (few6 k x)
def fewJoin (a b : List Int) : List Int × Bool := cond (fewB a && fewB b) (fewJoinGo b a, true) ([], false)
theorem fewJoinGo_len : ∀ (b a : List Int), a.length ≤ 6 → (fewJoinGo b a).length ≤ 6
  | [], a, h => h
  | x :: r, a, h => fewJoinGo_len r _ (few6_len a x)
theorem few_join_go (f : Nat) (hf : 8 < f) : ∀ (b k : List Int), k.length ≤ 6 → goL (R := ((List Int × Unit) × ((Bool × Unit) × Unit))) (fun (x : Int) c (k : List Int) => (spec_l2Put_fn f ((k, ()), (x, ()), ())).bind fun y => c y.fst.fst) (fun k => some ((k, ()), (true, ()), ())) b k = some ((fewJoinGo b k, ()), (true, ()), ())
  | [], k, h => rfl
  | x :: b, k, h => by
    unfold goL
    rw [specPut_eq f k x (by omega) (by omega), Option.bind_some]
    exact few_join_go f hf b _ (few6_len k x)
theorem specFewJoin_eq (f : Nat) (a b : List Int) (ha : a.length < 100000000) (hb : b.length < 100000000) (hfa : a.length < f) (hfb : b.length < f) (hf : 8 < f) : spec_FewJoin_fn f ((a, ()), (b, ()), ()) = some (((fewJoin a b).1, ()), ((fewJoin a b).2, ()), ()) := by
  show spec_FewJoin_pre f (iter (spec_FewJoin_st0 f) f) a b = _
  unfold spec_FewJoin_pre fewJoin
  simp only [specFew_eq f a (by omega) hfa, specFew_eq f b (by omega) hfb, Option.bind_some]
  cases h : fewB a
  · rfl
  cases h' : fewB b
  · rfl
  have h1 : 0 + a.length < LIM := by simp only [LIM]; omega
  simp only [h1, Bool.not_true, cond_false, decide_true, cond_true, List.nil_append, Bool.and_self]
  refine (iter_list (st := spec_FewJoin_st0 f) (enc := fun i k => ((i : Int), b, k)) (fun (x : Int) c (k : List Int) => (spec_l2Put_fn f ((k, ()), (x, ()), ())).bind fun y => c y.fst.fst) (fun k => some ((k, ()), (true, ()), ())) b 0 ?_ ?_ f a hfb).trans (few_join_go f hf b a (six h))
  · intro i s g hi
    show spec_FewJoin_step0 f g _ = _
    unfold spec_FewJoin_step0
    simp only [zz_eq, lt_cast hi, le_cast, decide_true, cond_true, Int.toNat_natCast, w64_up (show i < 4294967296 by omega)]
  · intro s g
    show spec_FewJoin_step0 f g _ = _
    unfold spec_FewJoin_step0
    simp only [zz_eq, nlt_cast, decide_false, cond_false]
end Go.Proofs.Ytjnkefbdpcbkmaa.Den
