/- One more is told nowhere as less; joined what is told is not nearer: plainly. -/
import Derived.Test.YtapicafncjajnaaQ10
namespace Go.Proofs.Ytapicafncjajnaa.Den
open Go
set_option linter.unusedVariables false
set_option linter.unusedSimpArgs false

def plo (t : Int) (i : Nat) : Bool := decide ((span (i : Int)).2 ≤ t)
def phi (t : Int) (i : Nat) : Bool := decide ((span (i : Int)).1 ≤ t)

theorem span_kids : ∀ n : Nat, n < 64 → 1 ≤ n → (span ((2 * n : Nat) : Int)).2 ≤ (span (n : Int)).2 ∧ (span ((2 * n + 1 : Nat) : Int)).2 ≤ (span (n : Int)).2 ∧ (span (n : Int)).1 ≤ (span ((2 * n : Nat) : Int)).1 ∧ (span (n : Int)).1 ≤ (span ((2 * n + 1 : Nat) : Int)).1 := by
  decide +kernel

theorem plo_kids (t : Int) : ∀ m, 1 ≤ m → m ≤ 63 → plo t m = true → plo t (2 * m) = true ∧ plo t (2 * m + 1) = true := fun m h1 h2 h => by
  have := span_kids m (by omega) h1
  unfold plo at h ⊢
  simp only [decide_eq_true_eq] at h ⊢
  omega
theorem phi_kids (t : Int) : ∀ m, 1 ≤ m → m ≤ 63 → phi t (2 * m) = true ∨ phi t (2 * m + 1) = true → phi t m = true := fun m h1 h2 h => by
  have := span_kids m (by omega) h1
  unfold phi at h ⊢
  simp only [decide_eq_true_eq] at h ⊢
  omega

theorem belowGo_sum {t : Int} : ∀ {ks : List Knot} {l m : Int}, GoodK ks → 0 ≤ l → 0 ≤ m → l + 2000 * ks.length ≤ 4611686018427387904 → m + 2000 * ks.length ≤ 4611686018427387904 →
    belowGo t ks l m = (l + ksum (plo t) ks, m + ksum (phi t) ks)
  | [], l, m, hg, h1, h2, h3, h4 => by simp [belowGo, ksum]
  | k :: r, l, m, hg, h1, h2, h3, h4 => by
    have hk := hg k (by simp)
    simp only [List.length_cons] at h3 h4
    have e1 : w64 (l + k.2.1) = l + k.2.1 := by rw [w64_id] <;> omega
    have e2 : w64 (m + k.2.1) = m + k.2.1 := by rw [w64_id] <;> omega
    have e3 : ((k.1.toNat : Nat) : Int) = k.1 := by omega
    have ih := belowGo_sum (t := t) (ks := r) (l := if (span k.1).2 ≤ t then l + k.2.1 else l) (m := if (span k.1).1 ≤ t then m + k.2.1 else m) (fun x hx => hg x (by simp [hx]))
      (by split <;> omega) (by split <;> omega) (by split <;> omega) (by split <;> omega)
    simp only [belowGo, e1, e2, ih, ksum, plo, phi, e3, decide_eq_true_eq]
    split <;> split <;> simp <;> omega

theorem below_form {ks : List Knot} {all i : Int} (h : okB ks all = true) (h0 : 0 ≤ i) (h1 : i ≤ 63) : belowB ks all i = (ksum (plo i) ks, ksum (phi i) ks) := by
  unfold belowB
  have hf := okB_form h
  have := hf.len
  rw [if_pos ⟨h, h0, h1⟩, belowGo_sum hf.good (Int.le_refl 0) (Int.le_refl 0) (by omega) (by omega)]
  simp

theorem ksum_bound {p : Nat → Bool} : ∀ {ks : List Knot}, GoodK ks → 0 ≤ ksum p ks ∧ ksum p ks ≤ ksum yes ks
  | [], _ => ⟨Int.le_refl _, Int.le_refl _⟩
  | k :: r, hg => by
    have hk := hg k (by simp)
    have ih := ksum_bound (p := p) (ks := r) fun x hx => hg x (by simp [hx])
    simp only [ksum, if_true]
    split <;> omega

theorem span_thing (t : Int) (h0 : 0 ≤ t) (h1 : t ≤ 63) : span (64 + t) = (t, t) := by
  unfold span
  rw [show (63 : Nat) = 62 + 1 from rfl, spanG, if_neg (by omega)]
  have : 64 + t - 64 = t := by omega
  rw [this]

theorem one_knot {t : Int} (h0 : 0 ≤ t) (h1 : t ≤ 63) : GoodK [((64 + t, 1, ()) : Knot)] ∧ ksum yes [((64 + t, 1, ()) : Knot)] = 1 ∧ (∀ j : Nat, j < 64 → ksum (fun k => k == j) [((64 + t, 1, ()) : Knot)] ≤ 1 / 8) ∧
    (∀ i : Int, ksum (plo i) [((64 + t, 1, ()) : Knot)] = if t ≤ i then 1 else 0) ∧ (∀ i : Int, ksum (phi i) [((64 + t, 1, ()) : Knot)] = if t ≤ i then 1 else 0) := by
  have e : (((64 + t).toNat : Nat) : Int) = 64 + t := by omega
  refine ⟨fun k hk => ?_, rfl, fun j hj => ?_, fun i => ?_, fun i => ?_⟩
  · simp only [List.mem_singleton] at hk
    subst hk
    show 1 ≤ 64 + t ∧ 64 + t ≤ 127 ∧ (1 : Int) ≤ 1 ∧ (1 : Int) ≤ 2000
    omega
  · have : ((64 + t).toNat == j) = false := by simp; omega
    simp [ksum, this]
  · simp [ksum, plo, e, span_thing t h0 h1]
  · simp [ksum, phi, e, span_thing t h0 h1]

theorem add_loop (f : Nat) (ks K : List Knot) (all t : Int) (h : addB ks all t = true) (hK : K = addS ks all t) (hf : 300 < f) : ∀ (d i fuel : Nat), i + d = 64 → d < fuel →
    iter (laws_FnRankAdd_st0 f) fuel ((i : Int), t, all, all + 1, ks, K) = some ((true, ()), ()) := by
  have hb := h
  unfold addB at hb
  simp only [Bool.and_eq_true, decide_eq_true_eq] at hb
  obtain ⟨hok, ht0, ht1, hall⟩ := hb
  have fa := okB_form hok
  have a0 := fa.lo
  obtain ⟨g1, g2, g3, g4, g5⟩ := one_knot ht0 ht1
  obtain ⟨k1, k2, k3⟩ := sumK_form fa g1 g2 (by omega) g3 (by omega : all + 1 ≤ 2000)
  rw [← (addS_sumK h).1, ← hK] at k1 k2 k3
  have fk := okB_form k1
  have l1 := fa.len
  have l2 := fk.len
  intro d
  induction d with
  | zero =>
    intro i fuel hi hfu
    obtain ⟨fuel, rfl⟩ : ∃ m, fuel = m + 1 := ⟨fuel - 1, by omega⟩
    rw [iter]
    show laws_FnRankAdd_step0 f _ _ = _
    unfold laws_FnRankAdd_step0
    have h1 : ¬ ((i : Int) < 64) := by omega
    have e : w64 (all + 1) = all + 1 := by rw [w64_id] <;> omega
    simp only [h1, decide_false, cond_false, implOk_eq f K (all + 1) (by omega) (by omega), Option.bind_some, k1, cond_true, e, beq_self_eq_true]
  | succ d ih =>
    intro i fuel hi hfu
    obtain ⟨fuel, rfl⟩ : ∃ m, fuel = m + 1 := ⟨fuel - 1, by omega⟩
    rw [iter]
    show laws_FnRankAdd_step0 f _ _ = _
    unfold laws_FnRankAdd_step0
    have h1 : (i : Int) < 64 := by omega
    have e3 : w64 ((i : Int) + 1) = ((i + 1 : Nat) : Int) := by rw [w64_id] <;> omega
    have q1 := k2 (plo i) (plo_kids i)
    have q2 := k3 (phi i) (phi_kids i)
    rw [g4] at q1
    rw [g5] at q2
    have b1 := ksum_bound (p := plo i) fa.good
    have b2 := ksum_bound (p := phi i) fa.good
    rw [fa.sum] at b1 b2
    simp only [h1, decide_true, cond_true, implBelow_eq f ks all i (by omega) (by omega) (by omega), implBelow_eq f K (all + 1) i (by omega) (by omega) (by omega), Option.bind_some, below_form hok (by omega) (show (i : Int) ≤ 63 by omega), below_form k1 (by omega) (show (i : Int) ≤ 63 by omega), e3]
    have ih' := ih (i + 1) fuel (by omega) (by omega)
    by_cases c : t ≤ (i : Int)
    · rw [if_pos c] at q1 q2
      have c1 : ¬ ksum (plo i) K > w64 (ksum (plo i) ks + 1) := by rw [w64_id] <;> omega
      have c2 : ¬ ksum (phi i) K < w64 (ksum (phi i) ks + 1) := by rw [w64_id] <;> omega
      simp only [ge_iff_le, c, c1, c2, decide_true, decide_false, cond_true, cond_false]
      exact ih'
    · rw [if_neg c] at q1 q2
      have c1 : ¬ ksum (plo i) K > w64 (ksum (plo i) ks + 0) := by rw [w64_id] <;> omega
      have c2 : ¬ ksum (phi i) K < w64 (ksum (phi i) ks + 0) := by rw [w64_id] <;> omega
      simp only [ge_iff_le, c, c1, c2, decide_true, decide_false, cond_true, cond_false]
      exact ih'

theorem add_law (f : Nat) (code : List Int) (hb : ∀ x ∈ code, 0 ≤ x ∧ x ≤ 255) (hf : 300 < f) : laws_FnRankAdd_fn f ((code, ()), ()) = some ((true, ()), ()) := by
  refine Ret.eq ?_
  show Ret (laws_FnRankAdd_pre f (iter (laws_FnRankAdd_st0 f) f) code) _
  unfold laws_FnRankAdd_pre
  refine Ret.cond (fun _ => Ret.ret rfl) fun _ => ?_
  refine Ret.bind (drawAdd_ok f code hb (by omega)) fun y hy => ?_
  obtain ⟨⟨ks, all, ⟨⟩⟩, ⟨t, ⟨⟩⟩, ⟨⟩⟩ := y
  simp only at hy
  have js := specAdd_eq' f ks all t (by omega) (by omega) (by omega)
  have ji := implAdd_eq f ks all t (by omega) (by omega) (by omega)
  cases hc : addB ks all t with
  | false =>
    rw [hc, if_neg (by simp)] at js ji
    have lk := lk_refl f [] 0 (by simp) (by simp; omega)
    simp only [js, ji, Option.bind_some, noRank, lk, beq_self_eq_true, Bool.not_true, cond_false, Bool.not_false, cond_true]
    exact Ret.ret rfl
  | true =>
    have hlen : (addS ks all t).length ≤ 127 := addS_len
    rw [hc, if_pos rfl, (addS_sumK hc).2] at js ji
    have hl := add_loop f ks (addS ks all t) all t hc rfl hf 64 0 f (by omega) (by omega)
    obtain ⟨K, hK⟩ : ∃ K, K = addS ks all t := ⟨_, rfl⟩
    rw [← hK] at js ji hlen hl
    clear hK
    have lk := lk_refl f K (all + 1) (by omega) (by omega)
    simp only [js, ji, Option.bind_some, lk, beq_self_eq_true, Bool.not_true, cond_false, cond_true]
    exact Ret.of hl

theorem join_loop (f : Nat) (ka kb K : List Knot) (alla allb : Int) (h : joinB ka alla kb allb = true) (hK : K = sumK ka kb (alla + allb)) (hf : 300 < f) : ∀ (d i fuel : Nat), i + d = 64 → d < fuel →
    iter (laws_FnRankJoinBelow_st0 f) fuel ((i : Int), alla, allb, alla + allb, ka, kb, K) = some ((true, ()), ()) := by
  obtain ⟨fa, fb, hs⟩ := joinB_form h
  have hok := h
  unfold joinB at hok
  simp only [Bool.and_eq_true, decide_eq_true_eq] at hok
  have a0 := fa.lo
  have b0 := fb.lo
  obtain ⟨k1, k2, k3⟩ := sumK_form fa fb.good fb.sum fb.lo fb.part hs
  rw [← hK] at k1 k2 k3
  have fk := okB_form k1
  have l1 := fa.len
  have l2 := fk.len
  have l3 := fb.len
  intro d
  induction d with
  | zero =>
    intro i fuel hi hfu
    obtain ⟨fuel, rfl⟩ : ∃ m, fuel = m + 1 := ⟨fuel - 1, by omega⟩
    rw [iter]
    show laws_FnRankJoinBelow_step0 f _ _ = _
    unfold laws_FnRankJoinBelow_step0
    have h1 : ¬ ((i : Int) < 64) := by omega
    simp only [h1, decide_false, cond_false]
  | succ d ih =>
    intro i fuel hi hfu
    obtain ⟨fuel, rfl⟩ : ∃ m, fuel = m + 1 := ⟨fuel - 1, by omega⟩
    rw [iter]
    show laws_FnRankJoinBelow_step0 f _ _ = _
    unfold laws_FnRankJoinBelow_step0
    have h1 : (i : Int) < 64 := by omega
    have e3 : w64 ((i : Int) + 1) = ((i + 1 : Nat) : Int) := by rw [w64_id] <;> omega
    have q1 := k2 (plo i) (plo_kids i)
    have q2 := k3 (phi i) (phi_kids i)
    have b1 := ksum_bound (p := plo i) fa.good
    have b2 := ksum_bound (p := phi i) fa.good
    have b3 := ksum_bound (p := plo i) fb.good
    have b4 := ksum_bound (p := phi i) fb.good
    rw [fa.sum] at b1 b2
    rw [fb.sum] at b3 b4
    simp only [h1, decide_true, cond_true, implBelow_eq f ka alla i (by omega) (by omega) (by omega), implBelow_eq f kb allb i (by omega) (by omega) (by omega), implBelow_eq f K (alla + allb) i (by omega) (by omega) (by omega), Option.bind_some, below_form hok.1 (by omega) (show (i : Int) ≤ 63 by omega), below_form hok.2.1 (by omega) (show (i : Int) ≤ 63 by omega), below_form k1 (by omega) (show (i : Int) ≤ 63 by omega), e3]
    have ih' := ih (i + 1) fuel (by omega) (by omega)
    have c1 : ¬ ksum (plo i) K > w64 (ksum (plo i) ka + ksum (plo i) kb) := by rw [w64_id] <;> omega
    have c2 : ¬ ksum (phi i) K < w64 (ksum (phi i) ka + ksum (phi i) kb) := by rw [w64_id] <;> omega
    simp only [c1, c2, decide_false, cond_false]
    exact ih'

theorem joinBelow_law (f : Nat) (code : List Int) (hb : ∀ x ∈ code, 0 ≤ x ∧ x ≤ 255) (hf : 300 < f) : laws_FnRankJoinBelow_fn f ((code, ()), ()) = some ((true, ()), ()) := by
  refine Ret.eq ?_
  show Ret (laws_FnRankJoinBelow_pre f (iter (laws_FnRankJoinBelow_st0 f) f) code) _
  unfold laws_FnRankJoinBelow_pre
  refine Ret.cond (fun _ => Ret.ret rfl) fun _ => ?_
  refine Ret.bind (drawJoin_ok f code hb (by omega)) fun y hy => ?_
  obtain ⟨⟨ka, alla, ⟨⟩⟩, ⟨kb, allb, ⟨⟩⟩, ⟨⟩⟩ := y
  simp only at hy
  have js := specJoin_eq f ka kb alla allb (by omega) (by omega) (by omega) (by omega)
  have ji := implJoin_eq f ka kb alla allb (by omega) (by omega) (by omega) (by omega) (by omega)
  cases hc : joinB ka alla kb allb with
  | false =>
    rw [hc, if_neg (by simp)] at js ji
    have lk := lk_refl f [] 0 (by simp) (by simp; omega)
    simp only [js, ji, Option.bind_some, noRank, lk, beq_self_eq_true, Bool.not_true, cond_false, Bool.not_false, cond_true]
    exact Ret.ret rfl
  | true =>
    have hlen : (sumK ka kb (alla + allb)).length ≤ 128 := sumK_len
    rw [hc, if_pos rfl] at js ji
    have hl := join_loop f ka kb (sumK ka kb (alla + allb)) alla allb hc rfl hf 64 0 f (by omega) (by omega)
    obtain ⟨K, hK⟩ : ∃ K, K = sumK ka kb (alla + allb) := ⟨_, rfl⟩
    rw [← hK] at js ji hlen hl
    clear hK
    have lk := lk_refl f K (alla + allb) (by omega) (by omega)
    simp only [js, ji, Option.bind_some, lk, beq_self_eq_true, Bool.not_true, cond_false, cond_true]
    exact Ret.of hl

theorem pureAdd (a : CsT bytesC) (ha : wfCs bytesC a) : ∃ fuel, laws_FnRankAdd_fn fuel (a, ()) = some ((true, ()), ()) := by
  obtain ⟨code, ⟨⟩⟩ := a
  exact ⟨301, add_law 301 code (bytes_of ha).2 (by omega)⟩
theorem pureJoinBelow (a : CsT bytesC) (ha : wfCs bytesC a) : ∃ fuel, laws_FnRankJoinBelow_fn fuel (a, ()) = some ((true, ()), ()) := by
  obtain ⟨code, ⟨⟩⟩ := a
  exact ⟨301, joinBelow_law 301 code (bytes_of ha).2 (by omega)⟩
end Go.Proofs.Ytapicafncjajnaa.Den
