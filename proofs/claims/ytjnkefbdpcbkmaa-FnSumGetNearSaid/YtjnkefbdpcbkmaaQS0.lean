/- Ranks in form: both readings of RankOk say the same plain thing. -/
import Derived.Test.YtjnkefbdpcbkmaaCS4
import Derived.Test.YtjnkefbdpcbkmaaP1
namespace Go.Proofs.Ytjnkefbdpcbkmaa.Den
open Go
set_option linter.unusedVariables false
set_option linter.unusedSimpArgs false

abbrev Knot := Int × Int × Unit

theorem in_eq (f : Nat) (n lo hi : Int) : spec_l6In_fn f ((n, ()), (lo, ()), (hi, ()), ()) = some ((decide (lo ≤ n ∧ n ≤ hi), ()), ()) := by
  unfold spec_l6In_fn spec_l6In_pre
  by_cases h : lo ≤ n
  · simp [h]
  · simp [h]
theorem isThing_eq (f : Nat) (n : Int) : impl_isThing_fn f ((n, ()), ()) = some ((decide (0 ≤ n ∧ n ≤ 63), ()), ()) := by
  unfold impl_isThing_fn impl_isThing_pre
  by_cases h : 0 ≤ n
  · have e : (n < 64) ↔ (n ≤ 63) := by omega
    simp [h, e]
  · simp [h]

def okGo (all : Int) : List Knot → Int → Int → Bool
  | [], _, sum => sum == all
  | k :: r, before, sum => if k.1 ≤ before ∨ 128 ≤ k.1 ∨ k.2.1 < 1 ∨ 2000 < k.2.1 ∨ (k.1 < 64 ∧ w64 (all.tdiv 8) < k.2.1) then false else okGo all r k.1 (w64 (sum + k.2.1))
def okB (ks : List Knot) (all : Int) : Bool := if all < 0 ∨ 2000 < all then false else okGo all ks 0 0

theorem drop_cons {α : Type} {ks : List α} {i : Nat} (d : α) (h : i < ks.length) : ks.drop i = ks.getD i d :: ks.drop (i + 1) := by
  rw [List.drop_eq_getElem_cons h, List.getD_eq_getElem?_getD, List.getElem?_eq_getElem h]; rfl

theorem impl_ok_loop (f : Nat) (ks : List Knot) (all : Int) (hl : ks.length < 4294967296) : ∀ (d i : Nat) (before sum : Int) (fuel : Nat), i + d = ks.length → d < fuel →
    iter (impl_RankOk_st0 f) fuel ((i : Int), (ks.length : Int), ks, before, sum, ks, all) = some ((okGo all (ks.drop i) before sum, ()), ())
  | 0, i, before, sum, fuel + 1, hi, hf => by
    rw [iter]
    show impl_RankOk_step0 f _ _ = _
    unfold impl_RankOk_step0
    have h1 : ¬ ((i : Int) < (ks.length : Int)) := by omega
    have h2 : ks.drop i = [] := List.drop_eq_nil_of_le (by omega)
    simp [h1, h2, okGo]
  | d + 1, i, before, sum, fuel + 1, hi, hf => by
    rw [iter]
    show impl_RankOk_step0 f _ _ = _
    unfold impl_RankOk_step0
    have h1 : (i : Int) < (ks.length : Int) := by omega
    have h2 : (0 : Int) ≤ (i : Int) := by omega
    have h3 : w64 ((i : Int) + 1) = (i : Int) + 1 := by rw [w64_id] <;> omega
    have ih : ∀ before sum, iter (impl_RankOk_st0 f) fuel ((i : Int) + 1, (ks.length : Int), ks, before, sum, ks, all) = some ((okGo all (ks.drop (i + 1)) before sum, ()), ()) := fun b s => by
      exact_mod_cast impl_ok_loop f ks all hl d (i + 1) b s fuel (by omega) (by omega)
    rw [drop_cons (0, 0, ()) (show i < ks.length by omega)]
    simp only [h1, h2, h3, zz_eq, Int.toNat_natCast, decide_true, cond_true]
    obtain ⟨k, hk⟩ : ∃ k : Knot, ks.getD i (0, 0, ()) = k := ⟨_, rfl⟩
    simp only [hk]
    unfold okGo
    by_cases c1 : k.1 ≤ before
    · simp [c1]
    by_cases c2 : 128 ≤ k.1
    · simp [c1, c2]
    by_cases c3 : k.2.1 < 1
    · simp [c1, c2, c3]
    by_cases c4 : 2000 < k.2.1
    · simp [c1, c2, c3, c4]
    by_cases c5 : k.1 < 64
    · by_cases c6 : w64 (all.tdiv 8) < k.2.1
      · simp [c1, c2, c3, c4, c5, c6]
      · simp [c1, c2, c3, c4, c5, c6, ih]
    · simp [c1, c2, c3, c4, c5, ih]

theorem implOk_eq (f : Nat) (ks : List Knot) (all : Int) (hl : ks.length < 4294967296) (hf : ks.length < f) : impl_RankOk_fn f ((ks, all, ()), ()) = some ((okB ks all, ()), ()) := by
  unfold impl_RankOk_fn impl_RankOk_pre okB
  by_cases c1 : all < 0
  · simp [c1]
  by_cases c2 : 2000 < all
  · simp [c1, c2]
  have := impl_ok_loop f ks all hl ks.length 0 0 0 f (by omega) hf
  simp [c1, c2, zz_eq]
  simpa using this

theorem spec_ok_loop (f : Nat) (ks : List Knot) (all : Int) (hl : ks.length < 4294967296) : ∀ (d i : Nat) (before sum : Int) (fuel : Nat), i + d = ks.length → (i = 0 → before = 0) → (0 < i → before = (ks.getD (i - 1) (0, 0, ())).1 ∧ 1 ≤ before) → d < fuel →
    iter (spec_RankOk_st0 f) fuel ((i : Int), sum, ks, all) = some ((okGo all (ks.drop i) before sum, ()), ())
  | 0, i, before, sum, fuel + 1, hi, hb0, hb1, hf => by
    rw [iter]
    show spec_RankOk_step0 f _ _ = _
    unfold spec_RankOk_step0
    have h1 : ¬ ((i : Int) < (ks.length : Int)) := by omega
    have h2 : ks.drop i = [] := List.drop_eq_nil_of_le (by omega)
    simp [h1, h2, okGo, zz_eq]
  | d + 1, i, before, sum, fuel + 1, hi, hb0, hb1, hf => by
    rw [iter]
    show spec_RankOk_step0 f _ _ = _
    unfold spec_RankOk_step0
    have h1 : (i : Int) < (ks.length : Int) := by omega
    have h2 : (0 : Int) ≤ (i : Int) := by omega
    have h3 : w64 ((i : Int) + 1) = (i : Int) + 1 := by rw [w64_id] <;> omega
    have ih : ∀ sum, 1 ≤ (ks.getD i (0, 0, ())).1 → iter (spec_RankOk_st0 f) fuel ((i : Int) + 1, sum, ks, all) = some ((okGo all (ks.drop (i + 1)) (ks.getD i (0, 0, ())).1 sum, ()), ()) := fun sum h => by
      exact_mod_cast spec_ok_loop f ks all hl d (i + 1) _ sum fuel (by omega) (by omega) (fun _ => ⟨rfl, h⟩) (by omega)
    rw [drop_cons (0, 0, ()) (show i < ks.length by omega)]
    simp only [h1, h2, h3, zz_eq, Int.toNat_natCast, decide_true, cond_true, in_eq, Option.bind_some]
    have hpos : (decide ((i : Int) > 0) = true → 0 < i ∧ (0 : Int) ≤ w64 ((i : Int) - 1) ∧ w64 ((i : Int) - 1) < (ks.length : Int) ∧ (w64 ((i : Int) - 1)).toNat = i - 1) := by
      intro h
      have h0 : 0 < i := by simpa using h
      have e : w64 ((i : Int) - 1) = ((i - 1 : Nat) : Int) := by rw [w64_id] <;> omega
      rw [e]; omega
    obtain ⟨k, hk⟩ : ∃ k : Knot, ks.getD i (0, 0, ()) = k := ⟨_, rfl⟩
    simp only [hk] at ih ⊢
    unfold okGo
    by_cases c1 : 1 ≤ k.1 ∧ k.1 ≤ 127
    · by_cases c2 : 1 ≤ k.2.1 ∧ k.2.1 ≤ 2000
      · have d2 : ¬ 128 ≤ k.1 := by omega
        have d3 : ¬ k.2.1 < 1 := by omega
        have d4 : ¬ 2000 < k.2.1 := by omega
        have ih' := fun s => ih s c1.1
        simp only [c1, c2, and_self, decide_true, Bool.not_true, cond_false, d2, d3, d4, false_or]
        cases hz : decide ((i : Int) > 0) with
        | true =>
          obtain ⟨g0, g1, g2, g3⟩ := hpos hz
          obtain ⟨g4, g5⟩ := hb1 g0
          simp only [cond_true, g1, g2, g3, decide_true, ← g4]
          by_cases c3 : k.1 ≤ before
          · simp [c3]
          · by_cases c5 : k.1 < 64
            · by_cases c6 : w64 (all.tdiv 8) < k.2.1
              · simp [c3, c5, c6]
              · simp [c3, c5, c6, ih']
            · simp [c3, c5, ih']
        | false =>
          have g0 : i = 0 := by have : ¬ (i : Int) > 0 := of_decide_eq_false hz; omega
          have g1 := hb0 g0
          have c3 : ¬ k.1 ≤ before := by omega
          by_cases c5 : k.1 < 64
          · by_cases c6 : w64 (all.tdiv 8) < k.2.1
            · simp [c3, c5, c6]
            · simp [c3, c5, c6, ih']
          · simp [c3, c5, ih']
      · have : k.1 ≤ before ∨ 128 ≤ k.1 ∨ k.2.1 < 1 ∨ 2000 < k.2.1 ∨ (k.1 < 64 ∧ w64 (all.tdiv 8) < k.2.1) := by omega
        simp [c1, c2, this]
    · have hbp : 0 ≤ before := by
        rcases Nat.eq_zero_or_pos i with h | h
        · rw [hb0 h]; omega
        · have := (hb1 h).2; omega
      have : k.1 ≤ before ∨ 128 ≤ k.1 ∨ k.2.1 < 1 ∨ 2000 < k.2.1 ∨ (k.1 < 64 ∧ w64 (all.tdiv 8) < k.2.1) := by omega
      simp [c1, this]

theorem specOk_eq (f : Nat) (ks : List Knot) (all : Int) (hl : ks.length < 4294967296) (hf : ks.length < f) : spec_RankOk_fn f ((ks, all, ()), ()) = some ((okB ks all, ()), ()) := by
  unfold spec_RankOk_fn spec_RankOk_pre okB
  simp only [in_eq, Option.bind_some]
  by_cases c : 0 ≤ all ∧ all ≤ 2000
  · have c1 : ¬ (all < 0 ∨ 2000 < all) := by omega
    have := spec_ok_loop f ks all hl ks.length 0 0 0 f (by omega) (fun _ => rfl) (by omega) hf
    simp only [c, c1, and_self, decide_true, Bool.not_true, cond_false, if_false]
    simpa using this
  · have c1 : all < 0 ∨ 2000 < all := by omega
    simp [c, c1]
end Go.Proofs.Ytjnkefbdpcbkmaa.Den
