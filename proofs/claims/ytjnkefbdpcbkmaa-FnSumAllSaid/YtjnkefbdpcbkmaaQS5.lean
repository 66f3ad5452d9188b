/- Ranks: counts at knots, squeezed, joined: the reference's readings say the plain thing. -/
import Derived.Test.YtjnkefbdpcbkmaaCS7
import Derived.Test.YtjnkefbdpcbkmaaQS4
namespace Go.Proofs.Ytjnkefbdpcbkmaa.Den
open Go
set_option linter.unusedVariables false
set_option linter.unusedSimpArgs false

def GoodK (ks : List Knot) : Prop := ∀ k ∈ ks, 1 ≤ k.1 ∧ k.1 ≤ 127 ∧ 1 ≤ k.2.1 ∧ k.2.1 ≤ 2000

theorem okGo_good {all : Int} : ∀ {ks : List Knot} {before sum : Int}, 0 ≤ before → okGo all ks before sum = true → GoodK ks
  | [], _, _, _, _ => fun k hk => by cases hk
  | k :: r, before, sum, hb, h => by
    unfold okGo at h
    split at h
    · cases h
    · rename_i c
      have ih := okGo_good (by omega) h
      intro k' hk'
      rcases List.mem_cons.1 hk' with rfl | hk'
      · omega
      · exact ih k' hk'
theorem okB_good {ks : List Knot} {all : Int} (h : okB ks all = true) : GoodK ks := by
  unfold okB at h
  split at h
  · cases h
  · exact okGo_good (Int.le_refl _) h

def numsGo : List Knot → List Int → List Int
  | [], a => a
  | k :: r, a => numsGo r (a.set k.1.toNat (w64 (a.getD k.1.toNat 0 + k.2.1)))
def zeros : List Int := List.replicate 128 0

theorem numsGo_len : ∀ {ks : List Knot} {a : List Int}, (numsGo ks a).length = a.length
  | [], a => rfl
  | k :: r, a => by rw [numsGo, numsGo_len]; simp
theorem numsGo_append : ∀ {ks ks' : List Knot} {a : List Int}, numsGo (ks ++ ks') a = numsGo ks' (numsGo ks a)
  | [], ks', a => rfl
  | k :: r, ks', a => by rw [List.cons_append, numsGo, numsGo, numsGo_append]

def sq1 (all : Int) (n : Nat) (a : List Int) : List Int :=
  if 0 < w64 (a.getD (2 * n) 0 + a.getD (2 * n + 1) 0) ∧ w64 (w64 (a.getD (2 * n) 0 + a.getD (2 * n + 1) 0) + a.getD n 0) ≤ w64 (all.tdiv 8) then
    ((a.set n (w64 (a.getD n 0 + w64 (a.getD (2 * n) 0 + a.getD (2 * n + 1) 0)))).set (2 * n) 0).set (2 * n + 1) 0
  else a
def sqGo (all : Int) : Nat → List Int → List Int
  | 0, a => a
  | n + 1, a => sqGo all n (sq1 all (n + 1) a)

theorem sq1_len {all : Int} {n : Nat} {a : List Int} : (sq1 all n a).length = a.length := by
  unfold sq1; split <;> simp
theorem sqGo_len {all : Int} : ∀ {n : Nat} {a : List Int}, (sqGo all n a).length = a.length
  | 0, a => rfl
  | n + 1, a => by rw [sqGo, sqGo_len, sq1_len]

def listGo : Nat → List Int → List Knot
  | _, [] => []
  | i, x :: r => if 0 < x then ((i : Int), x, ()) :: listGo (i + 1) r else listGo (i + 1) r
theorem listGo_len : ∀ {i : Nat} {l : List Int}, (listGo i l).length ≤ l.length
  | _, [] => by simp [listGo]
  | i, x :: r => by
    unfold listGo
    have := listGo_len (i := i + 1) (l := r)
    split <;> simp <;> omega

theorem spec_nums_loop (f : Nat) (ks : List Knot) (hl : ks.length < 4294967296) (hg : GoodK ks) : ∀ (d i : Nat) (a : List Int) (fuel : Nat), i + d = ks.length → a.length = 128 → d < fuel →
    iter (spec_l4Nums_st0 f) fuel ((i : Int), ks, a) = some ((numsGo (ks.drop i) a, ()), ())
  | 0, i, a, fuel + 1, hi, ha, hf => by
    rw [iter]
    show spec_l4Nums_step0 f _ _ = _
    unfold spec_l4Nums_step0
    have h1 : ¬ ((i : Int) < (ks.length : Int)) := by omega
    have h2 : ks.drop i = [] := List.drop_eq_nil_of_le (by omega)
    simp [h1, h2, numsGo, zz_eq]
  | d + 1, i, a, fuel + 1, hi, ha, hf => by
    rw [iter]
    show spec_l4Nums_step0 f _ _ = _
    unfold spec_l4Nums_step0
    have h1 : (i : Int) < (ks.length : Int) := by omega
    have h2 : (0 : Int) ≤ (i : Int) := by omega
    have h3 : w64 ((i : Int) + 1) = (i : Int) + 1 := by rw [w64_id] <;> omega
    have ih : ∀ a : List Int, a.length = 128 → iter (spec_l4Nums_st0 f) fuel ((i : Int) + 1, ks, a) = some ((numsGo (ks.drop (i + 1)) a, ()), ()) := fun a ha => by
      exact_mod_cast spec_nums_loop f ks hl hg d (i + 1) a fuel (by omega) ha (by omega)
    have hk := hg (ks.getD i (0, 0, ())) (by
      rw [List.getD_eq_getElem?_getD, List.getElem?_eq_getElem (by omega)]; exact List.getElem_mem _)
    rw [drop_cons (0, 0, ()) (show i < ks.length by omega)]
    simp only [h1, h2, h3, zz_eq, Int.toNat_natCast, decide_true, cond_true]
    obtain ⟨k, hk'⟩ : ∃ k : Knot, ks.getD i (0, 0, ()) = k := ⟨_, rfl⟩
    simp only [hk'] at hk ⊢
    have c1 : 0 ≤ k.1 := by omega
    have c2 : k.1 < ((a.length : Nat) : Int) := by omega
    have c3 : k.1.toNat < a.length := by omega
    simp only [c1, c2, c3, decide_true, cond_true]
    rw [ih _ (by simpa using ha)]
    rfl

theorem specNums_eq (f : Nat) (ks : List Knot) (hl : ks.length < 4294967296) (hg : GoodK ks) (hf : ks.length < f) : spec_l4Nums_fn f ((ks, ()), ()) = some ((numsGo ks zeros, ()), ()) := by
  unfold spec_l4Nums_fn spec_l4Nums_pre
  have := spec_nums_loop f ks hl hg ks.length 0 zeros f (by omega) (by simp [zeros]) hf
  simpa [zeros] using this

theorem tdiv2 (n : Nat) : Int.tdiv (2 * (n : Int)) 2 = n := by
  rw [Int.tdiv_eq_ediv_of_nonneg (by omega)]; omega

theorem spec_sq_loop (f : Nat) (all : Int) : ∀ (n : Nat) (a : List Int) (fuel : Nat), n ≤ 63 → a.length = 128 → n < fuel →
    iter (spec_l4Squeeze_st0 f) fuel (2 * (n : Int), all, a) = some (sqGo all n a, ())
  | 0, a, fuel + 1, hn, ha, hf => by
    rw [iter]
    show spec_l4Squeeze_step0 f _ _ = _
    unfold spec_l4Squeeze_step0
    simp [sqGo]
  | n + 1, a, fuel + 1, hn, ha, hf => by
    rw [iter]
    show spec_l4Squeeze_step0 f _ _ = _
    unfold spec_l4Squeeze_step0
    have ih : ∀ a : List Int, a.length = 128 → iter (spec_l4Squeeze_st0 f) fuel (2 * (n : Int), all, a) = some (sqGo all n a, ()) := fun a ha =>
      spec_sq_loop f all n a fuel (by omega) ha (by omega)
    have h1 : (2 * ((n + 1 : Nat) : Int)) ≥ 2 := by omega
    have h2 : (0 : Int) ≤ 2 * ((n + 1 : Nat) : Int) := by omega
    have h3 : 2 * ((n + 1 : Nat) : Int) < 128 := by omega
    have h4 : w64 (2 * ((n + 1 : Nat) : Int) + 1) = ((2 * (n + 1) + 1 : Nat) : Int) := by rw [w64_id] <;> omega
    have h5 : w64 (Int.tdiv (2 * ((n + 1 : Nat) : Int)) 2) = ((n + 1 : Nat) : Int) := by rw [tdiv2, w64_id] <;> omega
    have h6 : w64 (2 * ((n + 1 : Nat) : Int) - 2) = 2 * (n : Int) := by rw [w64_id] <;> omega
    have h7 : (2 * ((n + 1 : Nat) : Int)).toNat = 2 * (n + 1) := by omega
    have l1 : 2 * (n + 1) < 128 := by omega
    have l2 : 2 * (n + 1) + 1 < 128 := by omega
    have l3 : n + 1 < 128 := by omega
    have l4 : ((2 * (n + 1) + 1 : Nat) : Int) < 128 := by omega
    have l5 : ((n + 1 : Nat) : Int) < 128 := by omega
    simp only [h1, h2, h4, h5, h6, h7, zz_eq, List.length_set, ha, Int.toNat_natCast, Int.natCast_nonneg, decide_true, cond_true, l1, l2, l3, show (((128 : Nat) : Int)) = 128 from rfl, h3, l4, l5]
    unfold sqGo sq1
    by_cases c1 : 0 < w64 (a.getD (2 * (n + 1)) 0 + a.getD (2 * (n + 1) + 1) 0)
    · by_cases c2 : w64 (w64 (a.getD (2 * (n + 1)) 0 + a.getD (2 * (n + 1) + 1) 0) + a.getD (n + 1) 0) ≤ w64 (all.tdiv 8)
      · rw [if_pos ⟨c1, c2⟩]
        simp only [c1, c2, gt_iff_lt, decide_true, cond_true]
        exact ih _ (by simpa using ha)
      · rw [if_neg (fun h => c2 h.2)]
        simp only [c1, c2, gt_iff_lt, decide_true, decide_false, cond_true, cond_false]
        exact ih _ ha
    · rw [if_neg (fun h => c1 h.1)]
      simp only [c1, gt_iff_lt, decide_false, cond_false]
      exact ih _ ha

theorem specSq_eq (f : Nat) (a : List Int) (all : Int) (ha : a.length = 128) (hf : 63 < f) : spec_l4Squeeze_fn f (a, (), (all, ()), ()) = some (sqGo all 63 a, ()) := by
  unfold spec_l4Squeeze_fn spec_l4Squeeze_pre
  have := spec_sq_loop f all 63 a f (by omega) ha hf
  have e : w64 ((zz a.length) - 2) = 2 * ((63 : Nat) : Int) := by rw [zz_eq, ha, w64_id] <;> omega
  simp only [e]
  exact this

theorem spec_list_loop (f : Nat) (a : List Int) (ha : a.length = 128) : ∀ (d i : Nat) (out : List Knot) (fuel : Nat), i + d = 128 → out.length ≤ i → d < fuel →
    iter (spec_l4List_st0 f) fuel ((i : Int), a, out) = some ((out ++ listGo i (a.drop i), ()), ())
  | 0, i, out, fuel + 1, hi, ho, hf => by
    rw [iter]
    show spec_l4List_step0 f _ _ = _
    unfold spec_l4List_step0
    have h1 : ¬ ((i : Int) < (a.length : Int)) := by omega
    have h2 : a.drop i = [] := List.drop_eq_nil_of_le (by omega)
    simp [h1, h2, listGo, zz_eq]
  | d + 1, i, out, fuel + 1, hi, ho, hf => by
    rw [iter]
    show spec_l4List_step0 f _ _ = _
    unfold spec_l4List_step0
    have h1 : (i : Int) < (a.length : Int) := by omega
    have h2 : (0 : Int) ≤ (i : Int) := by omega
    have h3 : w64 ((i : Int) + 1) = (i : Int) + 1 := by rw [w64_id] <;> omega
    have ih : ∀ out : List Knot, out.length ≤ i + 1 → iter (spec_l4List_st0 f) fuel ((i : Int) + 1, a, out) = some ((out ++ listGo (i + 1) (a.drop (i + 1)), ()), ()) := fun out ho => by
      exact_mod_cast spec_list_loop f a ha d (i + 1) out fuel (by omega) ho (by omega)
    have h4 : out.length + 1 < LIM := by simp only [LIM]; omega
    rw [drop_cons 0 (show i < a.length by omega)]
    simp only [h1, h2, h3, zz_eq, Int.toNat_natCast, decide_true, cond_true, listGo, List.length_singleton, h4]
    by_cases c : 0 < a.getD i 0
    · simp only [c, gt_iff_lt, decide_true, cond_true, if_true]
      rw [ih _ (by simp; omega)]
      simp
    · simp only [c, gt_iff_lt, decide_false, cond_false, if_false]
      exact ih _ (by omega)

theorem specList_eq (f : Nat) (a : List Int) (ha : a.length = 128) (hf : 128 < f) : spec_l4List_fn f ((a, ()), ()) = some ((listGo 1 (a.drop 1), ()), ()) := by
  unfold spec_l4List_fn spec_l4List_pre
  have := spec_list_loop f a ha 127 1 [] f (by omega) (by simp) (by omega)
  simpa using this

def addB (ks : List Knot) (all t : Int) : Bool := okB ks all && decide (0 ≤ t ∧ t ≤ 63 ∧ all < 2000)
def addS (ks : List Knot) (all t : Int) : List Knot := listGo 1 ((sqGo (w64 (all + 1)) 63 ((numsGo ks zeros).set (64 + t).toNat (w64 ((numsGo ks zeros).getD (64 + t).toNat 0 + 1)))).drop 1)

theorem specAdd_eq (f : Nat) (ks : List Knot) (all t : Int) (hl : ks.length < 4294967296) (hf : ks.length < f) (hf2 : 128 < f) :
    spec_RankAdd_fn f ((ks, all, ()), (t, ()), ()) = some (if addB ks all t = true then ((addS ks all t, w64 (all + 1), ()), (true, ()), ()) else (([], 0, ()), (false, ()), ())) := by
  unfold spec_RankAdd_fn spec_RankAdd_pre addB addS
  simp only [specOk_eq f ks all hl hf, Option.bind_some, in_eq]
  by_cases c : okB ks all = true
  · by_cases c2 : 0 ≤ t ∧ t ≤ 63
    · by_cases c3 : all ≥ 2000
      · have c4 : ¬ all < 2000 := by omega
        simp [c, c2, c3, c4]
      · have c4 : all < 2000 := by omega
        have e1 : w64 (64 + t) = 64 + t := by rw [w64_id] <;> omega
        have hn : (numsGo ks zeros).length = 128 := by rw [numsGo_len]; simp [zeros]
        have e2 : 0 ≤ 64 + t := by omega
        have e3 : 64 + t < ((128 : Nat) : Int) := by omega
        have e4 : (64 + t).toNat < 128 := by omega
        simp only [c, c2, c3, c4, and_self, decide_true, decide_false, Bool.not_true, cond_false, specNums_eq f ks hl (okB_good c) hf, Option.bind_some, e1, zz_eq, hn, e2, e3, e4, cond_true, Bool.and_true]
        rw [specSq_eq f _ _ (by simpa using hn) (by omega)]
        simp only [Option.bind_some]
        rw [specList_eq f _ (by rw [sqGo_len]; simpa using hn) hf2]
        simp
    · have : ¬ (0 ≤ t ∧ t ≤ 63 ∧ all < 2000) := by omega
      simp [c, c2, this]
  · simp [c]
def sumK (ka : List Knot) (kb : List Knot) (all : Int) : List Knot := listGo 0 (sqGo all 63 (numsGo kb (numsGo ka zeros)))

theorem sumK_len {ka kb : List Knot} {all : Int} : (sumK ka kb all).length ≤ 128 := by
  unfold sumK
  refine Nat.le_trans listGo_len ?_
  rw [sqGo_len, numsGo_len, numsGo_len]
  simp [zeros]

theorem numsGo_zero : ∀ {ks : List Knot} {a : List Int}, GoodK ks → (numsGo ks a).getD 0 0 = a.getD 0 0
  | [], a, _ => rfl
  | k :: r, a, hg => by
    have hk := hg k (by simp)
    rw [numsGo, numsGo_zero fun x hx => hg x (by simp [hx])]
    simp only [List.getD_eq_getElem?_getD]
    rw [List.getElem?_set_ne (by omega)]
theorem sq1_zero {all : Int} {n : Nat} {a : List Int} (hn : 0 < n) : (sq1 all n a).getD 0 0 = a.getD 0 0 := by
  unfold sq1
  split
  · simp only [List.getD_eq_getElem?_getD]
    rw [List.getElem?_set_ne (by omega), List.getElem?_set_ne (by omega), List.getElem?_set_ne (by omega)]
  · rfl
theorem sqGo_zero {all : Int} : ∀ {n : Nat} {a : List Int}, (sqGo all n a).getD 0 0 = a.getD 0 0
  | 0, a => rfl
  | n + 1, a => by rw [sqGo, sqGo_zero, sq1_zero (by omega)]
theorem listGo_zero {a : List Int} (h : a.getD 0 0 ≤ 0) : listGo 0 a = listGo 1 (a.drop 1) := by
  cases a with
  | nil => rfl
  | cons x r =>
    have : ¬ 0 < x := by simpa using h
    simp [listGo, this]

theorem goodK_append {ka kb : List Knot} (ga : GoodK ka) (gb : GoodK kb) : GoodK (ka ++ kb) := fun k hk => by
  rcases List.mem_append.1 hk with h | h
  · exact ga k h
  · exact gb k h

def joinB (ka : List Knot) (alla : Int) (kb : List Knot) (allb : Int) : Bool := okB ka alla && (okB kb allb && decide (alla + allb ≤ 2000))
abbrev RankR := (List Knot × Int × Unit) × (Bool × Unit) × Unit
def noRank : RankR := (([], 0, ()), (false, ()), ())

theorem okB_all {ks : List Knot} {all : Int} (h : okB ks all = true) : 0 ≤ all ∧ all ≤ 2000 := by
  unfold okB at h
  split at h
  · cases h
  · omega

theorem specJoin_eq (f : Nat) (ka kb : List Knot) (alla allb : Int) (hla : ka.length < 2147483648) (hlb : kb.length < 2147483648) (hfa : ka.length + kb.length < f) (hf : 128 < f) :
    spec_RankJoin_fn f ((ka, alla, ()), (kb, allb, ()), ()) = some (if joinB ka alla kb allb = true then ((sumK ka kb (alla + allb), alla + allb, ()), (true, ()), ()) else noRank) := by
  show spec_RankJoin_pre f ka alla kb allb = _
  unfold spec_RankJoin_pre joinB noRank
  simp only [specOk_eq f ka alla (by omega) (by omega), specOk_eq f kb allb (by omega) (by omega), Option.bind_some]
  by_cases c : okB ka alla = true
  · by_cases c2 : okB kb allb = true
    · have b1 := okB_all c
      have b2 := okB_all c2
      have e : w64 (alla + allb) = alla + allb := by rw [w64_id] <;> omega
      by_cases c3 : alla + allb ≤ 2000
      · have c4 : ¬ alla + allb > 2000 := by omega
        have l1 : 0 + ka.length < LIM := by simp only [LIM]; omega
        have l2 : ([] ++ ka).length + kb.length < LIM := by simp only [LIM, List.nil_append]; omega
        have hz : zeros.length = 128 := List.length_replicate ..
        have g := goodK_append (okB_good c) (okB_good c2)
        have h2 : (numsGo (ka ++ kb) zeros).length = 128 := by rw [numsGo_len]; exact hz
        have e1 := specNums_eq f (ka ++ kb) (by simp; omega) g (by simp; omega)
        have e2 := specSq_eq f (numsGo (ka ++ kb) zeros) (alla + allb) h2 (by omega)
        have e3 := specList_eq f (sqGo (alla + allb) 63 (numsGo (ka ++ kb) zeros)) (by rw [sqGo_len]; exact h2) hf
        have e4 : listGo 1 ((sqGo (alla + allb) 63 (numsGo (ka ++ kb) zeros)).drop 1) = sumK ka kb (alla + allb) := by
          rw [← listGo_zero (by rw [sqGo_zero, numsGo_zero g]; decide), numsGo_append]; rfl
        simp only [c, c2, c3, e, c4, l1, l2, List.nil_append, e1, e2, e3, e4, Bool.not_true, cond_false, cond_true, decide_false, Option.bind_some, decide_true, Bool.and_self, if_true]
        have l2' : ka.length + kb.length < LIM := by simpa using l2
        simp only [l2', decide_true, cond_true, e1, e2, e3, e4, Option.bind_some]
      · have c4 : alla + allb > 2000 := by omega
        simp [c, c2, c3, e, c4]
    · simp [c, c2]
  · simp [c]

theorem addS_sumK {ks : List Knot} {all t : Int} (h : addB ks all t = true) : addS ks all t = sumK ks [(64 + t, 1, ())] (all + 1) ∧ w64 (all + 1) = all + 1 := by
  unfold addB at h
  simp only [Bool.and_eq_true, decide_eq_true_eq] at h
  have b := okB_all h.1
  have e : w64 (all + 1) = all + 1 := by rw [w64_id] <;> omega
  refine ⟨?_, e⟩
  unfold addS sumK
  rw [e]
  have g1 : GoodK [((64 + t, 1, ()) : Knot)] := fun k hk => by
    simp only [List.mem_singleton] at hk
    subst hk
    show 1 ≤ 64 + t ∧ 64 + t ≤ 127 ∧ (1 : Int) ≤ 1 ∧ (1 : Int) ≤ 2000
    omega
  rw [← listGo_zero]
  · rfl
  · rw [sqGo_zero]
    have := numsGo_zero (ks := [((64 + t, 1, ()) : Knot)]) (a := numsGo ks zeros) g1
    rw [numsGo_zero (okB_good h.1)] at this
    show (numsGo [((64 + t, 1, ()) : Knot)] (numsGo ks zeros)).getD 0 0 ≤ 0
    rw [this]; decide

theorem specAdd_eq' (f : Nat) (ks : List Knot) (all t : Int) (hl : ks.length < 4294967296) (hf : ks.length < f) (hf2 : 128 < f) :
    spec_RankAdd_fn f ((ks, all, ()), (t, ()), ()) = some (if addB ks all t = true then ((addS ks all t, w64 (all + 1), ()), (true, ()), ()) else noRank) := specAdd_eq f ks all t hl hf hf2

theorem addS_len {ks : List Knot} {all t : Int} : (addS ks all t).length ≤ 127 := by
  unfold addS
  refine Nat.le_trans listGo_len ?_
  rw [List.length_drop, sqGo_len, List.length_set, numsGo_len]
  simp [zeros]

end Go.Proofs.Ytjnkefbdpcbkmaa.Den
