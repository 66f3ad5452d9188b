/- The thing that is told is the least: plainly. -/
import Derived.Test.YtapicafncjajnaaQ11
namespace Go.Proofs.Ytapicafncjajnaa.Den
open Go
set_option linter.unusedVariables false
set_option linter.unusedSimpArgs false

def atGo (ks : List Knot) (n : Int) : Nat → Nat → Nat
  | i, 0 => 63
  | i, d + 1 => if n ≤ ksum (plo i) ks then i else atGo ks n (i + 1) d

theorem span_top : ∀ n : Nat, n < 128 → 1 ≤ n → (span (n : Int)).2 ≤ 63 := by decide +kernel

theorem lo_top : ∀ {ks : List Knot}, GoodK ks → ksum (plo 63) ks = ksum yes ks
  | [], _ => rfl
  | k :: r, hg => by
    have hk := hg k (by simp)
    have h := span_top k.1.toNat (by omega) (by omega)
    have : plo 63 k.1.toNat = true := by unfold plo; exact decide_eq_true h
    have ih := lo_top (ks := r) fun x hx => hg x (by simp [hx])
    simp only [ksum, this, if_true, ih]

theorem atGo_spec {ks : List Knot} {n : Int} (htop : n ≤ ksum (plo 63) ks) : ∀ (d i : Nat), i + d = 63 → (∀ j : Nat, j + 1 = i → ksum (plo j) ks < n) →
    atGo ks n i d ≤ 63 ∧ n ≤ ksum (plo (atGo ks n i d : Nat)) ks ∧ ∀ j : Nat, j + 1 = atGo ks n i d → ksum (plo j) ks < n
  | 0, i, hi, hj => by
    simp only [atGo]
    exact ⟨Nat.le_refl _, htop, fun j h => hj j (by omega)⟩
  | d + 1, i, hi, hj => by
    unfold atGo
    split
    · rename_i c
      exact ⟨by omega, c, hj⟩
    · rename_i c
      exact atGo_spec htop d (i + 1) (by omega) fun j h => by
        obtain rfl : j = i := by omega
        omega

theorem specAt_loop (f : Nat) (ks : List Knot) (n all : Int) (hok : okB ks all = true) (hf : 300 < f) : ∀ (d i fuel : Nat), i + d = 63 → d < fuel →
    iter (spec_RankAt_st0 f) fuel ((i : Int), n, ks, all) = some ((((atGo ks n i d : Nat) : Int), ()), (true, ()), ())
  | 0, i, fuel + 1, hi, hfu => by
    rw [iter]
    show spec_RankAt_step0 f _ _ = _
    unfold spec_RankAt_step0
    have h1 : ¬ ((i : Int) < 63) := by omega
    simp only [h1, decide_false, cond_false, atGo]
    rfl
  | d + 1, i, fuel + 1, hi, hfu => by
    rw [iter]
    show spec_RankAt_step0 f _ _ = _
    unfold spec_RankAt_step0
    have hl := (okB_form hok).len
    have h1 : (i : Int) < 63 := by omega
    have e3 : w64 ((i : Int) + 1) = ((i + 1 : Nat) : Int) := by rw [w64_id] <;> omega
    have ih := specAt_loop f ks n all hok hf d (i + 1) fuel (by omega) (by omega)
    simp only [h1, decide_true, cond_true, specBelow_eq f ks all i (by omega) (by omega) (by omega), Option.bind_some, below_form hok (by omega) (show (i : Int) ≤ 63 by omega), e3, atGo]
    by_cases c : n ≤ ksum (plo i) ks
    · simp only [ge_iff_le, c, decide_true, cond_true, if_true]
    · simp only [ge_iff_le, c, decide_false, cond_false, if_false]
      exact ih

theorem implAt_loop (f : Nat) (ks : List Knot) (n all : Int) (hok : okB ks all = true) (htop : n ≤ ksum (plo 63) ks) (hf : 300 < f) : ∀ (d i fuel : Nat), i + d = 63 → d + 1 < fuel →
    iter (impl_RankAt_st0 f) fuel ((i : Int), n, ks, all) = some ((((atGo ks n i d : Nat) : Int), ()), (true, ()), ()) := by
  have hfm := okB_form hok
  have hl := hfm.len
  have up : ∀ i : Nat, i ≤ 63 → impl_Rank_upTo_fn f ((ks, all, ()), ((i : Int), ()), ()) = some ((ksum (plo i) ks, ()), (ksum (phi i) ks, ()), ()) := fun i hi => by
    have hlp := impl_upTo_loop f ks i (by omega) hfm.good (by omega) ks.length 0 0 0 f (by omega) (by omega)
    have hb := belowGo_sum (t := (i : Int)) hfm.good (Int.le_refl 0) (Int.le_refl 0) (by omega) (by omega)
    rw [List.drop_zero, hb] at hlp
    show impl_Rank_upTo_pre f (iter (impl_Rank_upTo_st0 f) f) ks all i = _
    unfold impl_Rank_upTo_pre
    simpa [zz_eq] using hlp
  intro d
  induction d with
  | zero =>
    intro i fuel hi hfu
    obtain ⟨fuel, rfl⟩ : ∃ m, fuel = m + 1 := ⟨fuel - 1, by omega⟩
    rw [iter]
    show impl_RankAt_step0 f _ _ = _
    unfold impl_RankAt_step0
    obtain rfl : i = 63 := by omega
    have h1 : ((63 : Nat) : Int) < 64 := by omega
    have c : n ≤ ksum (plo ((63 : Nat) : Int)) ks := htop
    simp only [h1, decide_true, cond_true, up 63 (by omega), Option.bind_some, ge_iff_le, c, atGo]
  | succ d ih =>
    intro i fuel hi hfu
    obtain ⟨fuel, rfl⟩ : ∃ m, fuel = m + 1 := ⟨fuel - 1, by omega⟩
    rw [iter]
    show impl_RankAt_step0 f _ _ = _
    unfold impl_RankAt_step0
    have h1 : (i : Int) < 64 := by omega
    have e3 : w64 ((i : Int) + 1) = ((i + 1 : Nat) : Int) := by rw [w64_id] <;> omega
    have ih' := ih (i + 1) fuel (by omega) (by omega)
    simp only [h1, decide_true, cond_true, up i (by omega), Option.bind_some, e3, atGo]
    by_cases c : n ≤ ksum (plo i) ks
    · simp only [ge_iff_le, c, decide_true, cond_true, if_true]
    · simp only [ge_iff_le, c, decide_false, cond_false, if_false]
      exact ih'

def atB (ks : List Knot) (all n : Int) : Bool := okB ks all && decide (1 ≤ n ∧ n ≤ all)

theorem specAt_eq (f : Nat) (ks : List Knot) (all n : Int) (hl : ks.length < 4294967296) (hf : ks.length < f) (hf2 : 300 < f) :
    spec_RankAt_fn f ((ks, all, ()), (n, ()), ()) = some (if atB ks all n = true then ((((atGo ks n 0 63 : Nat) : Int), ()), (true, ()), ()) else ((0, ()), (false, ()), ())) := by
  show spec_RankAt_pre f (iter (spec_RankAt_st0 f) f) ks all n = _
  unfold spec_RankAt_pre atB
  simp only [specOk_eq f ks all hl hf, Option.bind_some, in_eq]
  by_cases c : okB ks all = true
  · by_cases c2 : 1 ≤ n ∧ n ≤ all
    · have := specAt_loop f ks n all c hf2 63 0 f (by omega) (by omega)
      simp [c, c2]
      exact this
    · simp [c, c2]
  · simp [c]

theorem implAt_eq (f : Nat) (ks : List Knot) (all n : Int) (hl : ks.length < 4294967296) (hf : ks.length < f) (hf2 : 300 < f) :
    impl_RankAt_fn f ((ks, all, ()), (n, ()), ()) = some (if atB ks all n = true then ((((atGo ks n 0 63 : Nat) : Int), ()), (true, ()), ()) else ((0, ()), (false, ()), ())) := by
  show impl_RankAt_pre f (iter (impl_RankAt_st0 f) f) ks all n = _
  unfold impl_RankAt_pre atB
  simp only [implOk_eq f ks all hl hf, Option.bind_some]
  by_cases c : okB ks all = true
  · have hfm := okB_form c
    by_cases c1 : n < 1
    · have : ¬ (1 ≤ n ∧ n ≤ all) := by omega
      simp [c, c1, this]
    · by_cases c2 : n > all
      · have : ¬ (1 ≤ n ∧ n ≤ all) := by omega
        simp [c, c1, c2, this]
      · have c3 : 1 ≤ n ∧ n ≤ all := by omega
        have := implAt_loop f ks n all c (by rw [lo_top hfm.good, hfm.sum]; omega) hf2 63 0 f (by omega) (by omega)
        simp only [c, c1, c2, c3, Bool.not_true, cond_false, decide_false, and_self, decide_true, Bool.and_self, if_true]
        exact this
  · simp [c]

theorem drawAt_ok (f : Nat) (code : List Int) (hb : ∀ x ∈ code, 0 ≤ x ∧ x ≤ 255) (hf : 200 < f) : Ret (spec_DrawRankAt_fn f ((code, ()), ())) fun s => s.1.1.length ≤ 128 := by
  show Ret (spec_DrawRankAt_pre f code) _
  unfold spec_DrawRankAt_pre
  refine Ret.bind (open_ok f code hb) fun y hy => ?_
  rw [hy.2]
  refine Ret.bind (rank_ok2 f y.1 0 hy.1 (by omega) (by omega) hf) fun z hz => ?_
  have h1 := hz.1.1.2
  rw [hz.1.1.1]
  have e : w64 ((if (0 : Int) > z.2.1.2.1 then 0 else z.2.1.2.1) + 2) = z.2.1.2.1 + 2 := by
    rw [if_neg (by omega), w64_id] <;> omega
  rw [e]
  refine Ret.bind (pick_ok f y.1 z.1.2.1 (z.2.1.2.1 + 2) hy.1 (by omega) (by omega) (by omega)) fun t ht => ?_
  have h2 := ht.1.2
  rw [ht.1.1]
  refine Ret.bind (pick_ok f y.1 t.1.2.1 12 hy.1 (by omega) (by omega) (by omega)) fun u hu => ?_
  exact Ret.ret hz.1.2

theorem at_law (f : Nat) (code : List Int) (hb : ∀ x ∈ code, 0 ≤ x ∧ x ≤ 255) (hf : 300 < f) : laws_FnRankAt_fn f ((code, ()), ()) = some ((true, ()), ()) := by
  refine Ret.eq ?_
  show Ret (laws_FnRankAt_pre f code) _
  unfold laws_FnRankAt_pre
  refine Ret.cond (fun _ => Ret.ret rfl) fun _ => ?_
  refine Ret.bind (drawAt_ok f code hb (by omega)) fun y hy => ?_
  obtain ⟨⟨ks, all, ⟨⟩⟩, ⟨n, ⟨⟩⟩, ⟨⟩⟩ := y
  simp only at hy
  have js := specAt_eq f ks all n (by omega) (by omega) (by omega)
  have ji := implAt_eq f ks all n (by omega) (by omega) (by omega)
  cases hc : atB ks all n with
  | false =>
    rw [hc, if_neg (by simp)] at js ji
    simp only [js, ji, Option.bind_some, beq_self_eq_true, Bool.not_true, cond_false, Bool.not_false, cond_true, bne_self_eq_false]
    exact Ret.ret rfl
  | true =>
    rw [hc, if_pos rfl] at js ji
    unfold atB at hc
    simp only [Bool.and_eq_true, decide_eq_true_eq] at hc
    have hfm := okB_form hc.1
    obtain ⟨x1, x2, x3⟩ := atGo_spec (ks := ks) (n := n) (by rw [lo_top hfm.good, hfm.sum]; omega) 63 0 (by omega) (by omega)
    generalize atGo ks n 0 63 = x at js ji x1 x2 x3
    have b1 := implBelow_eq f ks all x (by omega) (by omega) (by omega)
    rw [below_form hc.1 (by omega) (by omega)] at b1
    simp only [js, ji, Option.bind_some, beq_self_eq_true, Bool.not_true, cond_false, bne_self_eq_false, b1]
    cases x with
    | zero =>
      simp only [Int.natCast_zero, beq_self_eq_true, cond_true, ge_iff_le]
      exact Ret.ret (by simpa using x2)
    | succ m =>
      have e : (((m + 1 : Nat) : Int) == 0) = false := by simp; omega
      have e2 : w64 (((m + 1 : Nat) : Int) - 1) = (m : Int) := by rw [w64_id] <;> omega
      have b2 := implBelow_eq f ks all m (by omega) (by omega) (by omega)
      rw [below_form hc.1 (by omega) (by omega)] at b2
      have h3 := x3 m rfl
      simp only [e, e2, cond_false, b2, Option.bind_some, ge_iff_le, x2, h3, decide_true, cond_true]
      exact Ret.ret rfl

theorem pureAt (a : CsT bytesC) (ha : wfCs bytesC a) : ∃ fuel, laws_FnRankAt_fn fuel (a, ()) = some ((true, ()), ()) := by
  obtain ⟨code, ⟨⟩⟩ := a
  exact ⟨301, at_law 301 code (bytes_of ha).2 (by omega)⟩
end Go.Proofs.Ytapicafncjajnaa.Den
