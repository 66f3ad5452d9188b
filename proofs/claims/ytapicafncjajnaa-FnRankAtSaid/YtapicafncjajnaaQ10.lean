/- Joined is both together, either way: plainly. -/
import Derived.Test.YtapicafncjajnaaQ5
import Derived.Test.YtapicafncjajnaaQ9
namespace Go.Proofs.Ytapicafncjajnaa.Den
open Go
set_option linter.unusedVariables false
set_option linter.unusedSimpArgs false

theorem ext_getD {a b : List Int} (h : a.length = b.length) (h2 : ∀ j, a.getD j 0 = b.getD j 0) : a = b := by
  refine List.ext_getElem? fun j => ?_
  have h3 := h2 j
  simp only [List.getD_eq_getElem?_getD] at h3
  rcases Nat.lt_or_ge j a.length with h4 | h4
  · rw [List.getElem?_eq_getElem h4, List.getElem?_eq_getElem (by omega)] at h3 ⊢
    simpa using h3
  · rw [List.getElem?_eq_none h4, List.getElem?_eq_none (by omega)]

theorem sumK_comm {ka kb : List Knot} {alla allb all : Int} (fa : InForm ka alla) (fb : InForm kb allb) : sumK ka kb all = sumK kb ka all := by
  have a1 := fa.hi
  have b1 := fb.hi
  have a2 := fa.lo
  have b2 := fb.lo
  have sa := fa.sum
  have sb := fb.sum
  obtain ⟨n1, w1⟩ := numsGo_sum (ks := ka) fa.good zeros_p (Int.le_refl 0) (by omega)
  obtain ⟨n2, w2⟩ := numsGo_sum (ks := kb) fb.good n1 (by omega) (by omega)
  obtain ⟨m1, v1⟩ := numsGo_sum (ks := kb) fb.good zeros_p (Int.le_refl 0) (by omega)
  obtain ⟨m2, v2⟩ := numsGo_sum (ks := ka) fa.good m1 (by omega) (by omega)
  have e : numsGo kb (numsGo ka zeros) = numsGo ka (numsGo kb zeros) := by
    refine ext_getD (by rw [n2.len, m2.len]) fun j => ?_
    have h1 := wsum_one (l := numsGo kb (numsGo ka zeros)) (i := 0) (j := j)
    have h2 := wsum_one (l := numsGo ka (numsGo kb zeros)) (i := 0) (j := j)
    rw [w2, w1, wsum_zeros] at h1
    rw [v2, v1, wsum_zeros] at h2
    omega
  unfold sumK
  rw [e]

theorem drawJoin_ok (f : Nat) (code : List Int) (hb : ∀ x ∈ code, 0 ≤ x ∧ x ≤ 255) (hf : 200 < f) : Ret (spec_DrawRankJoin_fn f ((code, ()), ())) fun s => s.1.1.length ≤ 128 ∧ s.2.1.1.length ≤ 128 := by
  show Ret (spec_DrawRankJoin_pre f code) _
  unfold spec_DrawRankJoin_pre
  refine Ret.bind (open_ok f code hb) fun y hy => ?_
  rw [hy.2]
  refine Ret.bind (rank_ok f y.1 0 hy.1 (by omega) (by omega) hf) fun z hz => ?_
  have := hz.1.2
  rw [hz.1.1]
  refine Ret.bind (rank_ok f y.1 z.1.2.1 hy.1 (by omega) (by omega) hf) fun t ht => ?_
  exact Ret.ret ⟨hz.2, ht.2⟩

theorem joinB_form {ka kb : List Knot} {alla allb : Int} (h : joinB ka alla kb allb = true) : InForm ka alla ∧ InForm kb allb ∧ alla + allb ≤ 2000 := by
  unfold joinB at h
  simp only [Bool.and_eq_true, decide_eq_true_eq] at h
  exact ⟨okB_form h.1, okB_form h.2.1, h.2.2⟩

theorem join_law (f : Nat) (code : List Int) (hb : ∀ x ∈ code, 0 ≤ x ∧ x ≤ 255) (hf : 300 < f) : laws_FnRankJoin_fn f ((code, ()), ()) = some ((true, ()), ()) := by
  refine Ret.eq ?_
  show Ret (laws_FnRankJoin_pre f code) _
  unfold laws_FnRankJoin_pre
  refine Ret.cond (fun _ => Ret.ret rfl) fun _ => ?_
  refine Ret.bind (drawJoin_ok f code hb (by omega)) fun y hy => ?_
  obtain ⟨⟨ka, alla, ⟨⟩⟩, ⟨kb, allb, ⟨⟩⟩, ⟨⟩⟩ := y
  simp only at hy
  have js := specJoin_eq f ka kb alla allb (by omega) (by omega) (by omega) (by omega)
  have ji := implJoin_eq f ka kb alla allb (by omega) (by omega) (by omega) (by omega) (by omega)
  have jr := implJoin_eq f kb ka allb alla (by omega) (by omega) (by omega) (by omega) (by omega)
  cases hc : joinB ka alla kb allb with
  | false =>
    rw [hc, if_neg (by simp)] at js ji
    have lk := lk_refl f [] 0 (by simp) (by simp; omega)
    simp only [js, ji, Option.bind_some, noRank, lk, beq_self_eq_true, Bool.not_true, cond_false, Bool.not_false, cond_true]
    exact Ret.ret rfl
  | true =>
    obtain ⟨fa, fb, hs⟩ := joinB_form hc
    have hc2 : joinB kb allb ka alla = true := by
      unfold joinB at hc ⊢
      simp only [Bool.and_eq_true, decide_eq_true_eq] at hc ⊢
      exact ⟨hc.2.1, hc.1, by omega⟩
    have hfm := (sumK_form fa fb.good fb.sum fb.lo fb.part hs).1
    have hlen : (sumK ka kb (alla + allb)).length ≤ 128 := sumK_len
    have a1 := fa.lo
    have b1 := fb.lo
    rw [hc, if_pos rfl] at js ji
    rw [hc2, if_pos rfl, Int.add_comm allb alla, ← sumK_comm fa fb] at jr
    obtain ⟨K, hK⟩ : ∃ K, K = sumK ka kb (alla + allb) := ⟨_, rfl⟩
    rw [← hK] at js ji jr hfm hlen
    clear hK
    have lk := lk_refl f K (alla + allb) (by omega) (by omega)
    have ok := implOk_eq f K (alla + allb) (by omega) (by omega)
    have e : w64 (alla + allb) = alla + allb := by rw [w64_id] <;> omega
    simp only [js, ji, jr, Option.bind_some, lk, ok, hfm, e, beq_self_eq_true, Bool.not_true, cond_false, cond_true]
    exact Ret.ret rfl

theorem pureJoin (a : CsT bytesC) (ha : wfCs bytesC a) : ∃ fuel, laws_FnRankJoin_fn fuel (a, ()) = some ((true, ()), ()) := by
  obtain ⟨code, ⟨⟩⟩ := a
  exact ⟨301, join_law 301 code (bytes_of ha).2 (by omega)⟩
end Go.Proofs.Ytapicafncjajnaa.Den
