/- Joined, and one more: the program's and the reference's ranks are the same. -/
import Derived.Test.YtapicafncjajnaaQ6
namespace Go.Proofs.Ytapicafncjajnaa.Den
open Go
set_option linter.unusedVariables false
set_option linter.unusedSimpArgs false

theorem impl_sum_loop (f : Nat) (a : List Int) (all u : Int) (ha : a.length = 128) : ∀ (d i : Nat) (out : List Knot) (fuel : Nat), i + d = 128 → out.length ≤ i → d < fuel →
    iter (impl_rankSum_st0 f) fuel ((i : Int), a, all, out, u) = some ((out ++ listGo i (a.drop i), all, ()), ())
  | 0, i, out, fuel + 1, hi, ho, hf => by
    rw [iter]
    show impl_rankSum_step0 f _ _ = _
    unfold impl_rankSum_step0
    have h1 : ¬ ((i : Int) < 128) := by omega
    have h2 : a.drop i = [] := List.drop_eq_nil_of_le (by omega)
    simp [h1, h2, listGo]
  | d + 1, i, out, fuel + 1, hi, ho, hf => by
    rw [iter]
    show impl_rankSum_step0 f _ _ = _
    unfold impl_rankSum_step0
    have h1 : (i : Int) < 128 := by omega
    have h1' : (i : Int) < ((128 : Nat) : Int) := by omega
    have h2 : (0 : Int) ≤ (i : Int) := by omega
    have h3 : w64 ((i : Int) + 1) = (i : Int) + 1 := by rw [w64_id] <;> omega
    have ih : ∀ out : List Knot, out.length ≤ i + 1 → iter (impl_rankSum_st0 f) fuel ((i : Int) + 1, a, all, out, u) = some ((out ++ listGo (i + 1) (a.drop (i + 1)), all, ()), ()) := fun out ho => by
      exact_mod_cast impl_sum_loop f a all u ha d (i + 1) out fuel (by omega) ho (by omega)
    have h4 : out.length + 1 < LIM := by simp only [LIM]; omega
    rw [drop_cons 0 (show i < a.length by omega)]
    simp only [h1, h1', h2, h3, zz_eq, ha, Int.toNat_natCast, decide_true, cond_true, listGo, List.length_singleton, h4]
    by_cases c : 0 < a.getD i 0
    · simp only [c, gt_iff_lt, decide_true, cond_true, if_true]
      rw [ih _ (by simp; omega)]
      simp
    · simp only [c, gt_iff_lt, decide_false, cond_false, if_false]
      exact ih _ (by omega)

/-- The knots of both, squeezed. -/
def sumK (ka : List Knot) (kb : List Knot) (all : Int) : List Knot := listGo 0 (sqGo all 63 (numsGo kb (numsGo ka zeros)))

theorem sumK_len {ka kb : List Knot} {all : Int} : (sumK ka kb all).length ≤ 128 := by
  unfold sumK
  refine Nat.le_trans listGo_len ?_
  rw [sqGo_len, numsGo_len, numsGo_len]
  simp [zeros]

theorem rankSum_eq (f : Nat) (ka kb : List Knot) (alla allb : Int) (hla : ka.length < 2147483648) (hlb : kb.length < 2147483648) (ga : GoodK ka) (gb : GoodK kb) (hfa : ka.length < f) (hfb : kb.length < f) (hf : 128 < f) :
    impl_rankSum_fn f ((ka, alla, ()), (kb, allb, ()), ()) = some ((sumK ka kb (w64 (alla + allb)), w64 (alla + allb), ()), ()) := by
  show impl_rankSum_pre f (iter (impl_rankSum_st0 f) f) ka alla kb allb = _
  unfold impl_rankSum_pre sumK
  have hz : (List.replicate 128 (0 : Int)).length = 128 := List.length_replicate ..
  have h1 : (numsGo ka zeros).length = 128 := by rw [numsGo_len]; exact hz
  have h2 : (numsGo kb (numsGo ka zeros)).length = 128 := by rw [numsGo_len]; exact h1
  have h3 : (sqGo (w64 (alla + allb)) 63 (numsGo kb (numsGo ka zeros))).length = 128 := by rw [sqGo_len]; exact h2
  have e1 := implAddKnots_eq f ka zeros (by omega) ga hz hfa
  have e2 := implAddKnots_eq f kb (numsGo ka zeros) (by omega) gb h1 hfb
  have e3 := implSq_eq f (numsGo kb (numsGo ka zeros)) (w64 (alla + allb)) h2 (by omega)
  have e4 := impl_sum_loop f (sqGo (w64 (alla + allb)) 63 (numsGo kb (numsGo ka zeros))) (w64 (alla + allb)) 0 h3 128 0 [] f (by omega) (by simp) hf
  have e0 : List.replicate 128 (0 : Int) = zeros := rfl
  rw [e0, e1, Option.bind_some, e2, Option.bind_some, e3, Option.bind_some]
  have e5 : Nat.beq ((sqGo (w64 (alla + allb)) 63 (numsGo kb (numsGo ka zeros))).length * Kd.sz (Kd.int IntKind.i64)) 128 = true := by
    rw [h3]; rfl
  simp only [e5, cond_true]
  rw [List.nil_append, List.drop_zero] at e4
  exact e4

/-- The number at no knot is never touched. -/
theorem numsGo_zero : ∀ {ks : List Knot} {a : List Int}, GoodK ks → (numsGo ks a).getD 0 0 = a.getD 0 0
  | [], a, _ => rfl
  | k :: r, a, hg => by
    have hk := hg k (by simp)
    rw [numsGo, numsGo_zero fun x hx => hg x (by simp [hx])]
    simp only [List.getD_eq_getElem?_getD]
    rw [List.getElem?_set_ne (by omega)]
theorem sq1_zero {all : Int} {n : Nat} {a : List Int} (hn : 0 < n) : (sq1 all n a).getD 0 0 = a.getD 0 0 := by
  unfold sq1
  split
  · simp only [List.getD_eq_getElem?_getD]
    rw [List.getElem?_set_ne (by omega), List.getElem?_set_ne (by omega), List.getElem?_set_ne (by omega)]
  · rfl
theorem sqGo_zero {all : Int} : ∀ {n : Nat} {a : List Int}, (sqGo all n a).getD 0 0 = a.getD 0 0
  | 0, a => rfl
  | n + 1, a => by rw [sqGo, sqGo_zero, sq1_zero (by omega)]
theorem listGo_zero {a : List Int} (h : a.getD 0 0 ≤ 0) : listGo 0 a = listGo 1 (a.drop 1) := by
  cases a with
  | nil => rfl
  | cons x r =>
    have : ¬ 0 < x := by simpa using h
    simp [listGo, this]

theorem goodK_append {ka kb : List Knot} (ga : GoodK ka) (gb : GoodK kb) : GoodK (ka ++ kb) := fun k hk => by
  rcases List.mem_append.1 hk with h | h
  · exact ga k h
  · exact gb k h

def joinB (ka : List Knot) (alla : Int) (kb : List Knot) (allb : Int) : Bool := okB ka alla && (okB kb allb && decide (alla + allb ≤ 2000))
abbrev RankR := (List Knot × Int × Unit) × (Bool × Unit) × Unit
def noRank : RankR := (([], 0, ()), (false, ()), ())

theorem okB_all {ks : List Knot} {all : Int} (h : okB ks all = true) : 0 ≤ all ∧ all ≤ 2000 := by
  unfold okB at h
  split at h
  · cases h
  · omega

theorem implJoin_eq (f : Nat) (ka kb : List Knot) (alla allb : Int) (hla : ka.length < 2147483648) (hlb : kb.length < 2147483648) (hfa : ka.length < f) (hfb : kb.length < f) (hf : 128 < f) :
    impl_RankJoin_fn f ((ka, alla, ()), (kb, allb, ()), ()) = some (if joinB ka alla kb allb = true then ((sumK ka kb (alla + allb), alla + allb, ()), (true, ()), ()) else noRank) := by
  show impl_RankJoin_pre f ka alla kb allb = _
  unfold impl_RankJoin_pre joinB noRank
  simp only [implOk_eq f ka alla (by omega) hfa, implOk_eq f kb allb (by omega) hfb, Option.bind_some]
  by_cases c : okB ka alla = true
  · by_cases c2 : okB kb allb = true
    · have b1 := okB_all c
      have b2 := okB_all c2
      have e : w64 (alla + allb) = alla + allb := by rw [w64_id] <;> omega
      by_cases c3 : alla + allb ≤ 2000
      · have c4 : ¬ alla + allb > 2000 := by omega
        simp only [c, c2, c3, e, c4, rankSum_eq f ka kb alla allb hla hlb (okB_good c) (okB_good c2) hfa hfb hf, Bool.not_true, cond_false, decide_false, Option.bind_some, decide_true, Bool.and_self, if_true]
      · have c4 : alla + allb > 2000 := by omega
        simp [c, c2, c3, e, c4]
    · simp [c, c2]
  · simp [c]

theorem specJoin_eq (f : Nat) (ka kb : List Knot) (alla allb : Int) (hla : ka.length < 2147483648) (hlb : kb.length < 2147483648) (hfa : ka.length + kb.length < f) (hf : 128 < f) :
    spec_RankJoin_fn f ((ka, alla, ()), (kb, allb, ()), ()) = some (if joinB ka alla kb allb = true then ((sumK ka kb (alla + allb), alla + allb, ()), (true, ()), ()) else noRank) := by
  show spec_RankJoin_pre f ka alla kb allb = _
  unfold spec_RankJoin_pre joinB noRank
  simp only [specOk_eq f ka alla (by omega) (by omega), specOk_eq f kb allb (by omega) (by omega), Option.bind_some]
  by_cases c : okB ka alla = true
  · by_cases c2 : okB kb allb = true
    · have b1 := okB_all c
      have b2 := okB_all c2
      have e : w64 (alla + allb) = alla + allb := by rw [w64_id] <;> omega
      by_cases c3 : alla + allb ≤ 2000
      · have c4 : ¬ alla + allb > 2000 := by omega
        have l1 : 0 + ka.length < LIM := by simp only [LIM]; omega
        have l2 : ([] ++ ka).length + kb.length < LIM := by simp only [LIM, List.nil_append]; omega
        have hz : zeros.length = 128 := List.length_replicate ..
        have g := goodK_append (okB_good c) (okB_good c2)
        have h2 : (numsGo (ka ++ kb) zeros).length = 128 := by rw [numsGo_len]; exact hz
        have e1 := specNums_eq f (ka ++ kb) (by simp; omega) g (by simp; omega)
        have e2 := specSq_eq f (numsGo (ka ++ kb) zeros) (alla + allb) h2 (by omega)
        have e3 := specList_eq f (sqGo (alla + allb) 63 (numsGo (ka ++ kb) zeros)) (by rw [sqGo_len]; exact h2) hf
        have e4 : listGo 1 ((sqGo (alla + allb) 63 (numsGo (ka ++ kb) zeros)).drop 1) = sumK ka kb (alla + allb) := by
          rw [← listGo_zero (by rw [sqGo_zero, numsGo_zero g]; decide), numsGo_append]; rfl
        simp only [c, c2, c3, e, c4, l1, l2, List.nil_append, e1, e2, e3, e4, Bool.not_true, cond_false, cond_true, decide_false, Option.bind_some, decide_true, Bool.and_self, if_true]
        have l2' : ka.length + kb.length < LIM := by simpa using l2
        simp only [l2', decide_true, cond_true, e1, e2, e3, e4, Option.bind_some]
      · have c4 : alla + allb > 2000 := by omega
        simp [c, c2, c3, e, c4]
    · simp [c, c2]
  · simp [c]

theorem addS_sumK {ks : List Knot} {all t : Int} (h : addB ks all t = true) : addS ks all t = sumK ks [(64 + t, 1, ())] (all + 1) ∧ w64 (all + 1) = all + 1 := by
  unfold addB at h
  simp only [Bool.and_eq_true, decide_eq_true_eq] at h
  have b := okB_all h.1
  have e : w64 (all + 1) = all + 1 := by rw [w64_id] <;> omega
  refine ⟨?_, e⟩
  unfold addS sumK
  rw [e]
  have g1 : GoodK [((64 + t, 1, ()) : Knot)] := fun k hk => by
    simp only [List.mem_singleton] at hk
    subst hk
    show 1 ≤ 64 + t ∧ 64 + t ≤ 127 ∧ (1 : Int) ≤ 1 ∧ (1 : Int) ≤ 2000
    omega
  rw [← listGo_zero]
  · rfl
  · rw [sqGo_zero]
    have := numsGo_zero (ks := [((64 + t, 1, ()) : Knot)]) (a := numsGo ks zeros) g1
    rw [numsGo_zero (okB_good h.1)] at this
    show (numsGo [((64 + t, 1, ()) : Knot)] (numsGo ks zeros)).getD 0 0 ≤ 0
    rw [this]; decide

theorem implAdd_eq (f : Nat) (ks : List Knot) (all t : Int) (hl : ks.length < 2147483648) (hf : ks.length < f) (hf2 : 128 < f) :
    impl_RankAdd_fn f ((ks, all, ()), (t, ()), ()) = some (if addB ks all t = true then ((addS ks all t, w64 (all + 1), ()), (true, ()), ()) else noRank) := by
  show impl_RankAdd_pre f ks all t = _
  unfold impl_RankAdd_pre noRank
  simp only [implOk_eq f ks all (by omega) hf, isThing_eq, Option.bind_some]
  by_cases c : okB ks all = true
  · by_cases c2 : 0 ≤ t ∧ t ≤ 63
    · have b := okB_all c
      by_cases c3 : all = 2000
      · have : addB ks all t = false := by unfold addB; simp [c, c3]
        subst c3
        simp [c, c2, this]
      · have c4 : (all == 2000) = false := by simpa using c3
        have h : addB ks all t = true := by unfold addB; simp [c]; omega
        obtain ⟨e1, e2⟩ := addS_sumK h
        have e3 : w64 (64 + t) = 64 + t := by rw [w64_id] <;> omega
        have g1 : GoodK [((64 + t, 1, ()) : Knot)] := fun k hk => by
          simp only [List.mem_singleton] at hk
          subst hk
          show 1 ≤ 64 + t ∧ 64 + t ≤ 127 ∧ (1 : Int) ≤ 1 ∧ (1 : Int) ≤ 2000
          omega
        have e4 := rankSum_eq f ks [(64 + t, 1, ())] all 1 hl (by simp) (okB_good c) g1 hf (by simp; omega) hf2
        rw [e2] at e4
        simp [c, c2, c4, h, e1, e2, e3, e4]
    · have : addB ks all t = false := by unfold addB; simp [c]; omega
      simp [c, c2, this]
  · have : addB ks all t = false := by unfold addB; simp [c]
    simp [c, this]
theorem specAdd_eq' (f : Nat) (ks : List Knot) (all t : Int) (hl : ks.length < 4294967296) (hf : ks.length < f) (hf2 : 128 < f) :
    spec_RankAdd_fn f ((ks, all, ()), (t, ()), ()) = some (if addB ks all t = true then ((addS ks all t, w64 (all + 1), ()), (true, ()), ()) else noRank) := specAdd_eq f ks all t hl hf hf2

theorem lk_loop (f : Nat) (ks : List Knot) (x y : Int) (hl : ks.length < 4294967296) : ∀ (d i fuel : Nat), i + d = ks.length → d < fuel → iter (laws_lkRank_st0 f) fuel ((i : Int), ks, x, ks, y) = some ((true, ()), ())
  | 0, i, fuel + 1, hi, hf => by
    rw [iter]
    show laws_lkRank_step0 f _ _ = _
    unfold laws_lkRank_step0
    have h1 : ¬ ((i : Int) < (ks.length : Int)) := by omega
    simp [h1, zz_eq]
  | d + 1, i, fuel + 1, hi, hf => by
    rw [iter]
    show laws_lkRank_step0 f _ _ = _
    unfold laws_lkRank_step0
    have h1 : (i : Int) < (ks.length : Int) := by omega
    have h2 : (0 : Int) ≤ (i : Int) := by omega
    have h3 : w64 ((i : Int) + 1) = ((i + 1 : Nat) : Int) := by rw [w64_id] <;> omega
    have ih := lk_loop f ks x y hl d (i + 1) fuel (by omega) (by omega)
    simp only [h1, h2, zz_eq, decide_true, cond_true, beq_self_eq_true, Bool.and_self, Bool.not_true, cond_false, h3]
    exact ih
theorem lk_refl (f : Nat) (ks : List Knot) (all : Int) (hl : ks.length < 4294967296) (hf : ks.length < f) : laws_lkRank_fn f ((ks, all, ()), (ks, all, ()), ()) = some ((true, ()), ()) := by
  show laws_lkRank_pre f (iter (laws_lkRank_st0 f) f) ks all ks all = _
  unfold laws_lkRank_pre
  have := lk_loop f ks all all hl ks.length 0 f (by omega) hf
  simpa using this
end Go.Proofs.Ytapicafncjajnaa.Den
