/- The program's sum of two ranks, plainly; joined and one more: the program's and the reference's are the same. -/
import Derived.Test.YtapicafncjajnaaC4
import Derived.Test.YtapicafncjajnaaQ4
namespace Go.Proofs.Ytapicafncjajnaa.Den
open Go
set_option linter.unusedVariables false
set_option linter.unusedSimpArgs false

theorem impl_add_loop (f : Nat) (ks : List Knot) (hl : ks.length < 4294967296) (hg : GoodK ks) : ∀ (d i : Nat) (a : List Int) (fuel : Nat), i + d = ks.length → a.length = 128 → d < fuel →
    iter (impl_knotNums_addKnots_st0 f) fuel ((i : Int), (ks.length : Int), ks, a) = some (numsGo (ks.drop i) a, ())
  | 0, i, a, fuel + 1, hi, ha, hf => by
    rw [iter]
    show impl_knotNums_addKnots_step0 f _ _ = _
    unfold impl_knotNums_addKnots_step0
    have h1 : ¬ ((i : Int) < (ks.length : Int)) := by omega
    have h2 : ks.drop i = [] := List.drop_eq_nil_of_le (by omega)
    simp [h1, h2, numsGo]
  | d + 1, i, a, fuel + 1, hi, ha, hf => by
    rw [iter]
    show impl_knotNums_addKnots_step0 f _ _ = _
    unfold impl_knotNums_addKnots_step0
    have h1 : (i : Int) < (ks.length : Int) := by omega
    have h2 : (0 : Int) ≤ (i : Int) := by omega
    have h3 : w64 ((i : Int) + 1) = (i : Int) + 1 := by rw [w64_id] <;> omega
    have ih : ∀ a : List Int, a.length = 128 → iter (impl_knotNums_addKnots_st0 f) fuel ((i : Int) + 1, (ks.length : Int), ks, a) = some (numsGo (ks.drop (i + 1)) a, ()) := fun a ha => by
      exact_mod_cast impl_add_loop f ks hl hg d (i + 1) a fuel (by omega) ha (by omega)
    have hk := hg (ks.getD i (0, 0, ())) (by
      rw [List.getD_eq_getElem?_getD, List.getElem?_eq_getElem (by omega)]; exact List.getElem_mem _)
    rw [drop_cons (0, 0, ()) (show i < ks.length by omega)]
    simp only [h1, h2, h3, zz_eq, Int.toNat_natCast, decide_true, cond_true]
    obtain ⟨k, hk'⟩ : ∃ k : Knot, ks.getD i (0, 0, ()) = k := ⟨_, rfl⟩
    simp only [hk'] at hk ⊢
    have c1 : 0 ≤ k.1 := by omega
    have c2 : k.1 < ((128 : Nat) : Int) := by omega
    have c3 : k.1.toNat < a.length := by omega
    simp only [c1, c2, c3, decide_true, cond_true]
    rw [ih _ (by simpa using ha)]
    rfl

theorem implAddKnots_eq (f : Nat) (ks : List Knot) (a : List Int) (hl : ks.length < 4294967296) (hg : GoodK ks) (ha : a.length = 128) (hf : ks.length < f) : impl_knotNums_addKnots_fn f (a, (ks, ()), ()) = some (numsGo ks a, ()) := by
  unfold impl_knotNums_addKnots_fn impl_knotNums_addKnots_pre
  have := impl_add_loop f ks hl hg ks.length 0 a f (by omega) ha hf
  simpa [zz_eq] using this

/-- Numbers from the first down, so many. -/
def dq : Nat → Nat → List Int
  | _, 0 => []
  | n, k + 1 => (n : Int) :: dq (n - 1) k
theorem dq_len : ∀ {n k : Nat}, (dq n k).length = k
  | _, 0 => rfl
  | n, k + 1 => by simp [dq, dq_len]
theorem dq_snoc : ∀ {n k : Nat}, dq n (k + 1) = dq n k ++ [((n - k : Nat) : Int)]
  | n, 0 => by simp [dq]
  | n, k + 1 => by
    rw [dq, dq_snoc, dq, List.cons_append]
    have : n - 1 - k = n - (k + 1) := by omega
    rw [this]

theorem shl_or (x : Int) (h0 : 0 ≤ x) (h : x < 4611686018427387904) : w64 (zz (BitVec.toNat (BitVec.ofInt (IntKind.bits IntKind.i64) (w64 (x * 2 ^ min (Int.toNat 1) (IntKind.bits IntKind.i64))) ||| BitVec.ofInt (IntKind.bits IntKind.i64) 1))) = 2 * x + 1 := by
  rw [shl_one x h0 h]
  obtain ⟨y, rfl⟩ : ∃ y : Nat, x = y := ⟨x.toNat, by omega⟩
  show w64 (zz (BitVec.toNat (BitVec.ofInt 64 (2 * (y : Int)) ||| BitVec.ofInt 64 1))) = _
  rw [or_one y (by omega), zz_eq, w64_id] <;> omega

theorem and_one (x : Int) (h0 : 0 ≤ x) (h : x < 4611686018427387904) : w64 (zz (BitVec.toNat (BitVec.ofInt (IntKind.bits IntKind.i64) x &&& BitVec.ofInt (IntKind.bits IntKind.i64) 1))) = x % 2 := by
  show w64 (zz (BitVec.toNat (BitVec.ofInt 64 x &&& BitVec.ofInt 64 1))) = _
  obtain ⟨y, rfl⟩ : ∃ y : Nat, x = y := ⟨x.toNat, by omega⟩
  rw [BitVec.toNat_and, BitVec.toNat_ofInt, BitVec.toNat_ofInt]
  have e1 : ((y : Int) % ((2 ^ 64 : Nat) : Int)).toNat = y := by omega
  have e2 : ((1 : Int) % ((2 ^ 64 : Nat) : Int)).toNat = 1 := by decide
  rw [e1, e2, Nat.and_one_is_mod, zz_eq, w64_id] <;> omega

theorem shr_one (x : Int) (h0 : 0 ≤ x) : Int.fdiv x (2 ^ min (Int.toNat 1) (IntKind.bits IntKind.i64)) = x / 2 := by
  have e : (2 : Int) ^ min (Int.toNat 1) (IntKind.bits IntKind.i64) = 2 := by decide
  rw [e, Int.fdiv_eq_ediv_of_nonneg _ (by omega)]

theorem impl_sq_loop (f : Nat) (all : Int) : ∀ (n : Nat) (a : List Int) (fuel : Nat), n ≤ 63 → a.length = 128 → n < fuel →
    iter (impl_knotNums_squeeze_st1 f) fuel (all, a, dq n (n - n / 2)) = some (sqGo all n a, ())
  | 0, a, fuel + 1, hn, ha, hf => by
    rw [iter]
    show impl_knotNums_squeeze_step1 f _ _ = _
    unfold impl_knotNums_squeeze_step1
    simp [sqGo, dq, zz_eq]
  | n + 1, a, fuel + 1, hn, ha, hf => by
    rw [iter]
    show impl_knotNums_squeeze_step1 f _ _ = _
    obtain ⟨k, hk⟩ : ∃ k, n + 1 - (n + 1) / 2 = k + 1 := ⟨n - (n + 1) / 2, by omega⟩
    have ih : ∀ a : List Int, a.length = 128 → iter (impl_knotNums_squeeze_st1 f) fuel (all, a, dq n (n - n / 2)) = some (sqGo all n a, ()) := fun a ha =>
      impl_sq_loop f all n a fuel (by omega) ha (by omega)
    rw [hk, dq, Nat.add_sub_cancel]
    unfold impl_knotNums_squeeze_step1
    have g0 : (((n + 1 : Nat) : Int) :: dq n k).getD (Int.toNat 0) 0 = ((n + 1 : Nat) : Int) := rfl
    have g1 : List.take (k + 1 - Int.toNat 1) (List.drop (Int.toNat 1) (((n + 1 : Nat) : Int) :: dq n k)) = dq n k := by
      have : Int.toNat 1 = 1 := rfl
      rw [this, List.drop_succ_cons, List.drop_zero, Nat.add_sub_cancel]
      exact List.take_of_length_le (by rw [dq_len]; exact Nat.le_refl _)
    have hlen : (((n + 1 : Nat) : Int) :: dq n k).length = k + 1 := by simp [dq_len]
    have h1 : w64 (((n + 1 : Nat) : Int) * 2 ^ min (Int.toNat 1) (IntKind.bits IntKind.i64)) = ((2 * (n + 1) : Nat) : Int) := by
      rw [shl_one _ (by omega) (by omega)]; omega
    have h2 : w64 (zz (BitVec.toNat (BitVec.ofInt (IntKind.bits IntKind.i64) ((2 * (n + 1) : Nat) : Int) ||| BitVec.ofInt (IntKind.bits IntKind.i64) 1))) = ((2 * (n + 1) + 1 : Nat) : Int) := by
      have := shl_or ((n + 1 : Nat) : Int) (by omega) (by omega)
      rw [h1] at this
      rw [this]; omega
    have h3 := and_one ((n + 1 : Nat) : Int) (by omega) (by omega)
    have h4 := shr_one ((n + 1 : Nat) : Int) (by omega)
    simp only [zz_eq] at h2 h3
    have l0 : (0 : Int) < ((k + 1 : Nat) : Int) := by omega
    have l0' : (1 : Int) ≤ ((k + 1 : Nat) : Int) := by omega
    have l1 : 2 * (n + 1) < 128 := by omega
    have l2 : 2 * (n + 1) + 1 < 128 := by omega
    have l3 : n + 1 < 128 := by omega
    have l4 : ((2 * (n + 1) : Nat) : Int) < ((128 : Nat) : Int) := by omega
    have l5 : ((2 * (n + 1) + 1 : Nat) : Int) < ((128 : Nat) : Int) := by omega
    have l6 : ((n + 1 : Nat) : Int) < ((128 : Nat) : Int) := by omega
    have l7 : (dq n k).length + 1 < LIM := by rw [dq_len]; simp only [LIM]; omega
    have z0 : Int.toNat 0 < k + 1 := by simp
    simp only [g0, g1, hlen, h1, h2, h3, h4, zz_eq, l0, l0', gt_iff_lt, decide_true, cond_true, z0, Int.natCast_nonneg, Int.toNat_natCast, List.length_set, ha, l1, l2, l3, l4, l5, l6, l7, List.length_singleton]
    -- behind the two tests, the queue
    have q : ∀ a' : List Int, a'.length = 128 → (cond (((n + 1 : Nat) : Int) % 2 == 0) (iter (impl_knotNums_squeeze_st1 f) fuel (all, a', dq n k ++ [((n + 1 : Nat) : Int) / 2])) (iter (impl_knotNums_squeeze_st1 f) fuel (all, a', dq n k))) = some (sqGo all n a', ()) := by
      intro a' ha'
      by_cases hp : ((n + 1 : Nat) : Int) % 2 = 0
      · have e : dq n k ++ [((n + 1 : Nat) : Int) / 2] = dq n (n - n / 2) := by
          have e1 : n - n / 2 = k + 1 := by omega
          have e2 : ((n + 1 : Nat) : Int) / 2 = ((n - k : Nat) : Int) := by omega
          rw [e1, dq_snoc, e2]
        rw [hp, e]
        exact ih a' ha'
      · have e : k = n - n / 2 := by omega
        have hb : (((n + 1 : Nat) : Int) % 2 == 0) = false := by simpa using hp
        rw [hb, cond_false, e]
        exact ih a' ha'
    unfold sqGo sq1
    by_cases c1 : 0 < w64 (a.getD (2 * (n + 1)) 0 + a.getD (2 * (n + 1) + 1) 0)
    · by_cases c2 : w64 (w64 (a.getD (2 * (n + 1)) 0 + a.getD (2 * (n + 1) + 1) 0) + a.getD (n + 1) 0) ≤ w64 (all.tdiv 8)
      · rw [if_pos ⟨c1, c2⟩]
        simp only [c1, c2, decide_true, cond_true]
        exact q _ (by simpa using ha)
      · rw [if_neg (fun h => c2 h.2)]
        simp only [c1, c2, decide_true, decide_false, cond_true, cond_false]
        exact q _ ha
    · rw [if_neg (fun h => c1 h.1)]
      simp only [c1, decide_false, cond_false]
      exact q _ ha

theorem impl_queue_loop (f : Nat) (all : Int) (a : List Int) : ∀ (d : Nat) (q : List Int) (fuel : Nat), q.length + d ≤ 64 → d < fuel →
    iter (impl_knotNums_squeeze_st0 f) fuel (((31 + d : Nat) : Int), all, a, q) = iter (impl_knotNums_squeeze_st1 f) f (all, a, q ++ dq (31 + d) d)
  | 0, q, fuel + 1, hq, hf => by
    rw [iter]
    show impl_knotNums_squeeze_step0 f _ _ _ = _
    unfold impl_knotNums_squeeze_step0
    simp [dq]
  | d + 1, q, fuel + 1, hq, hf => by
    rw [iter]
    show impl_knotNums_squeeze_step0 f _ _ _ = _
    unfold impl_knotNums_squeeze_step0
    have h1 : ((31 + (d + 1) : Nat) : Int) ≥ 32 := by omega
    have h2 : w64 (((31 + (d + 1) : Nat) : Int) - 1) = ((31 + d : Nat) : Int) := by rw [w64_id] <;> omega
    have h3 : q.length + 1 < LIM := by simp only [LIM]; omega
    simp only [h1, h2, h3, decide_true, cond_true, List.length_singleton]
    rw [impl_queue_loop f all a d _ fuel (by simp; omega) (by omega), dq, show 31 + (d + 1) - 1 = 31 + d from by omega]
    simp

theorem implSq_eq (f : Nat) (a : List Int) (all : Int) (ha : a.length = 128) (hf : 64 < f) : impl_knotNums_squeeze_fn f (a, (all, ()), ()) = some (sqGo all 63 a, ()) := by
  unfold impl_knotNums_squeeze_fn impl_knotNums_squeeze_pre
  have h1 := impl_queue_loop f all a 32 [] f (by simp) (by omega)
  have h2 := impl_sq_loop f all 63 a f (by omega) ha (by omega)
  have e : (List.replicate (Int.toNat 0) (0 : Int)) = [] := rfl
  simp only [e]
  exact h1.trans h2
end Go.Proofs.Ytapicafncjajnaa.Den
