/- The program's RankJoin and RankAdd are the reference's, for all arguments: plainly. -/
import Derived.Test.YtapicafncjajnaaC5
import Derived.Test.YtapicafncjajnaaR0
import Derived.Test.YtapicafncjajnaaQ7
namespace Go.Proofs.Ytapicafncjajnaa.Den
open Go
set_option linter.unusedVariables false
set_option linter.unusedSimpArgs false

theorem set_mid {α : Type} {x y : α} {r : List α} : ∀ {p : List α}, (p ++ x :: r).set p.length y = p ++ y :: r
  | [] => rfl
  | z :: p => by simp [set_mid (p := p)]
theorem getD_mid {α : Type} {x d : α} {r : List α} : ∀ {p : List α}, (p ++ x :: r).getD p.length d = x
  | [] => rfl
  | z :: p => by simp
theorem len_mid {α : Type} {x : α} {p r : List α} : (p ++ x :: r).length = p.length + r.length + 1 := by simp; omega

def szR (n l : Int) : Int := if n - l < 0 then -1 else n - l
theorem szRank_eq (f : Nat) (ks : List Knot) (all n : Int) (h0 : 0 ≤ n) (h1 : n ≤ 1048576) (hl : ks.length ≤ maxLen) : laws_szRank_fn f ((ks, all, ()), (n, ()), ()) = some ((szR n ks.length, ()), ()) := by
  show laws_szRank_pre f ks all n = _
  unfold laws_szRank_pre
  have hm : maxLen ≤ 9223372036854775807 := by decide
  have e : w64 (n - (ks.length : Int)) = n - ks.length := by rw [w64_id] <;> omega
  have e1 : laws_szKnotS_fn f ((ks, ()), (n, ()), ()) = some ((szR n ks.length, ()), ()) := by
    show laws_szKnotS_pre f ks n = _
    unfold laws_szKnotS_pre szR
    simp only [zz_eq, e]
    by_cases c : n - (ks.length : Int) < 0 <;> simp [c]
  rw [e1, Option.bind_some]
  unfold szR
  by_cases c : n - (ks.length : Int) < 0
  · simp [c]
  · simp only [c, if_false, decide_false, cond_false]

theorem toKnots_loop (f : Nat) : ∀ (r p q : List Knot) (fuel : Nat), q.length = r.length → p.length + r.length < 4294967296 → r.length < fuel →
    iter (laws_toKnotS_st0 f) fuel ((p.length : Int), p ++ r, p ++ q) = some (((p ++ r, ()), ()))
  | [], p, q, fuel + 1, hq, hl, hf => by
    rw [iter]
    show laws_toKnotS_step0 f _ _ = _
    unfold laws_toKnotS_step0
    have : q = [] := List.eq_nil_of_length_eq_zero (by simpa using hq)
    subst this
    simp [zz_eq]
  | x :: r, p, y :: q, fuel + 1, hq, hl, hf => by
    rw [iter]
    show laws_toKnotS_step0 f _ _ = _
    unfold laws_toKnotS_step0
    simp only [List.length_cons] at hq hl hf
    have h1 : (p.length : Int) < ((p ++ x :: r).length : Int) := by rw [len_mid]; omega
    have h2 : (p.length : Int) < ((p ++ y :: q).length : Int) := by rw [len_mid]; omega
    have h2' : p.length < (p ++ y :: q).length := by rw [len_mid]; omega
    have h3 : w64 ((p.length : Int) + 1) = ((p.length + 1 : Nat) : Int) := by rw [w64_id] <;> omega
    have h4 : (0 : Int) ≤ (p.length : Int) := by omega
    have ih := toKnots_loop f r (p ++ [x]) q fuel (by omega) (by simp; omega) (by omega)
    simp only [List.append_assoc, List.singleton_append, List.length_append, List.length_singleton] at ih
    have ek : laws_toKnot_fn f ((x.1, x.2.1, ()), ()) = some ((x.1, x.2.1, ()), ()) := rfl
    simp only [zz_eq, h1, h2, h2', h4, decide_true, cond_true, Int.toNat_natCast, getD_mid, ek, Option.bind_some, set_mid, h3]
    exact ih
  | _ :: _, _, [], _, hq, _, _ => by simp at hq

theorem toRank_eq (f : Nat) (ks : List Knot) (all : Int) (hl : ks.length ≤ 1048576) (hf : ks.length < f) : laws_toRank_fn f ((ks, all, ()), ()) = some ((ks, all, ()), ()) := by
  show laws_toRank_pre f ks all = _
  unfold laws_toRank_pre
  have e : laws_toKnotS_fn f ((ks, ()), ()) = some ((ks, ()), ()) := by
    show laws_toKnotS_pre f (iter (laws_toKnotS_st0 f) f) ks = _
    unfold laws_toKnotS_pre
    have h1 : ks.length < LIM := by simp only [LIM]; omega
    have := toKnots_loop f ks [] (List.replicate ks.length (0, 0, ())) f (by simp) (by simp; omega) hf
    simp only [zz_eq, Int.toNat_natCast, Int.natCast_nonneg, Int.le_refl, h1, decide_true, cond_true]
    exact this
  rw [e, Option.bind_some]

theorem eqKnots_loop (f : Nat) (ks : List Knot) (hl : ks.length < 4294967296) : ∀ (d i fuel : Nat), i + d = ks.length → d < fuel → iter (laws_eqKnotS_st0 f) fuel ((i : Int), ks, ks) = some ((true, ()), ())
  | 0, i, fuel + 1, hi, hf => by
    rw [iter]
    show laws_eqKnotS_step0 f _ _ = _
    unfold laws_eqKnotS_step0
    have h1 : ¬ ((i : Int) < (ks.length : Int)) := by omega
    simp [h1, zz_eq]
  | d + 1, i, fuel + 1, hi, hf => by
    rw [iter]
    show laws_eqKnotS_step0 f _ _ = _
    unfold laws_eqKnotS_step0
    have h1 : (i : Int) < (ks.length : Int) := by omega
    have h2 : (0 : Int) ≤ (i : Int) := by omega
    have h3 : w64 ((i : Int) + 1) = ((i + 1 : Nat) : Int) := by rw [w64_id] <;> omega
    have ih := eqKnots_loop f ks hl d (i + 1) fuel (by omega) (by omega)
    have ek : ∀ x y : Int, laws_eqKnot_fn f ((x, y, ()), (x, y, ()), ()) = some ((true, ()), ()) := fun x y => by
      show laws_eqKnot_pre f x y x y = _
      unfold laws_eqKnot_pre
      simp
    simp only [h1, h2, zz_eq, decide_true, cond_true, ek, Option.bind_some, Bool.not_true, cond_false, h3]
    exact ih
theorem eqRank_refl (f : Nat) (ks : List Knot) (all : Int) (hl : ks.length < 4294967296) (hf : ks.length < f) : laws_eqRank_fn f ((ks, all, ()), (ks, all, ()), ()) = some ((true, ()), ()) := by
  show laws_eqRank_pre f ks all ks all = _
  unfold laws_eqRank_pre
  have e : laws_eqKnotS_fn f ((ks, ()), (ks, ()), ()) = some ((true, ()), ()) := by
    show laws_eqKnotS_pre f (iter (laws_eqKnotS_st0 f) f) ks ks = _
    unfold laws_eqKnotS_pre
    have := eqKnots_loop f ks hl ks.length 0 f (by omega) hf
    simpa using this
  rw [e, Option.bind_some]
  simp

/-- Marks: so many, from a number on. -/
def mk : Nat → Int → List Knot
  | 0, _ => []
  | n + 1, k => (k, k + 1, ()) :: mk n (k + 2)
theorem marks_len : ∀ {n : Nat} {k : Int}, (mk n k).length = n
  | 0, _ => rfl
  | n + 1, k => by simp [mk, marks_len]

theorem mark_loop (f : Nat) : ∀ (r p : List Knot) (k : Int) (fuel : Nat), 0 ≤ k → k + 2 * r.length ≤ 1000000000000 → p.length + r.length < 4294967296 → r.length < fuel →
    iter (laws_markKnotS_st0 f) fuel ((p.length : Int), k, p ++ r) = some (p ++ mk r.length k, (k + 2 * r.length, ()), ())
  | [], p, k, fuel + 1, h0, h1, hl, hf => by
    rw [iter]
    show laws_markKnotS_step0 f _ _ = _
    unfold laws_markKnotS_step0
    simp [zz_eq, mk]
  | x :: r, p, k, fuel + 1, h0, h1, hl, hf => by
    rw [iter]
    show laws_markKnotS_step0 f _ _ = _
    unfold laws_markKnotS_step0
    simp only [List.length_cons] at h1 hl hf
    have g1 : (p.length : Int) < ((p.length + r.length + 1 : Nat) : Int) := by omega
    have g2 : p.length < p.length + r.length + 1 := by omega
    have h3 : w64 ((p.length : Int) + 1) = ((p.length + 1 : Nat) : Int) := by rw [w64_id] <;> omega
    have h4 : (0 : Int) ≤ (p.length : Int) := by omega
    have e1 : w64 (k + 1) = k + 1 := by rw [w64_id] <;> omega
    have e2 : w64 (k + 1 + 1) = k + 2 := by rw [w64_id] <;> omega
    have ih := mark_loop f r (p ++ [(k, k + 1, ())]) (k + 2) fuel (by omega) (by omega) (by simp; omega) (by omega)
    simp only [List.append_assoc, List.singleton_append, List.length_append, List.length_singleton] at ih
    simp only [zz_eq, len_mid, g1, g2, h4, decide_true, cond_true, Int.toNat_natCast, getD_mid, set_mid, h3, e1, e2]
    rw [ih]
    have : k + 2 + 2 * (r.length : Int) = k + 2 * ((r.length + 1 : Nat) : Int) := by omega
    rw [this]; rfl

theorem mark_eq (f : Nat) (ks : List Knot) (all k : Int) (h0 : 0 ≤ k) (h1 : k ≤ 100000000) (hl : ks.length ≤ 1048576) (hf : ks.length < f) :
    laws_markRank_fn f (ks, (all, ()), (k, ()), ()) = some (mk ks.length k, (k + 2 * ks.length, ()), ()) := by
  show laws_markRank_pre f ks all k = _
  unfold laws_markRank_pre
  have e : laws_markKnotS_fn f (ks, (), (k, ()), ()) = some (mk ks.length k, (k + 2 * ks.length, ()), ()) := by
    show laws_markKnotS_pre f (iter (laws_markKnotS_st0 f) f) ks k = _
    unfold laws_markKnotS_pre
    have := mark_loop f ks [] k f h0 (by omega) (by simp; omega) hf
    simpa using this
  rw [e, Option.bind_some]

theorem held_loop (f : Nat) : ∀ (n : Nat) (p : List Knot) (k : Int) (fuel : Nat), 0 ≤ k → k + 2 * n ≤ 1000000000000 → p.length + n < 4294967296 → n < fuel →
    iter (laws_heldKnotS_st0 f) fuel ((p.length : Int), p ++ mk n k, k) = some ((k + 2 * n, ()), ())
  | 0, p, k, fuel + 1, h0, h1, hl, hf => by
    rw [iter]
    show laws_heldKnotS_step0 f _ _ = _
    unfold laws_heldKnotS_step0
    simp [zz_eq, mk]
  | n + 1, p, k, fuel + 1, h0, h1, hl, hf => by
    rw [iter]
    show laws_heldKnotS_step0 f _ _ = _
    unfold laws_heldKnotS_step0
    rw [mk]
    have g1 : (p.length : Int) < ((p.length + (mk n (k + 2)).length + 1 : Nat) : Int) := by omega
    have h3 : w64 ((p.length : Int) + 1) = ((p.length + 1 : Nat) : Int) := by rw [w64_id] <;> omega
    have h4 : (0 : Int) ≤ (p.length : Int) := by omega
    have e1 : w64 (k + 1) = k + 1 := by rw [w64_id] <;> omega
    have e2 : w64 (k + 1 + 1) = k + 2 := by rw [w64_id] <;> omega
    have ih := held_loop f n (p ++ [(k, k + 1, ())]) (k + 2) fuel (by omega) (by omega) (by simp; omega) (by omega)
    simp only [List.append_assoc, List.singleton_append, List.length_append, List.length_singleton] at ih
    simp only [zz_eq, len_mid, g1, h4, decide_true, cond_true, Int.toNat_natCast, getD_mid, h3, e1, e2, bne_self_eq_false, cond_false]
    rw [ih]
    have : k + 2 + 2 * (n : Int) = k + 2 * ((n + 1 : Nat) : Int) := by omega
    rw [this]

theorem held_eq (f n : Nat) (all k : Int) (h0 : 0 ≤ k) (h1 : k ≤ 100000000) (hl : n ≤ 1048576) (hf : n < f) :
    laws_heldRank_fn f ((mk n k, all, ()), (k, ()), ()) = some ((k + 2 * n, ()), ()) := by
  show laws_heldRank_pre f (mk n k) all k = _
  unfold laws_heldRank_pre
  have e : laws_heldKnotS_fn f ((mk n k, ()), (k, ()), ()) = some ((k + 2 * n, ()), ()) := by
    show laws_heldKnotS_pre f (iter (laws_heldKnotS_st0 f) f) (mk n k) k = _
    unfold laws_heldKnotS_pre
    have := held_loop f n [] k f h0 (by omega) (by simp; omega) hf
    simpa using this
  rw [e, Option.bind_some]
  have : ¬ k + 2 * (n : Int) < 0 := by omega
  simp only [this, decide_false, cond_false]

/-- What a join answers, in either reading, with room. -/
def joinR (ka : List Knot) (alla : Int) (kb : List Knot) (allb : Int) : RankR := if joinB ka alla kb allb = true then ((sumK ka kb (alla + allb), alla + allb, ()), (true, ()), ()) else noRank
theorem joinR_len {ka kb : List Knot} {alla allb : Int} : (joinR ka alla kb allb).1.1.length ≤ 128 := by
  unfold joinR
  cases joinB ka alla kb allb with
  | true =>
    rw [if_pos rfl]
    have h : (sumK ka kb (alla + allb)).length ≤ 128 := sumK_len
    generalize sumK ka kb (alla + allb) = l at h
    exact h
  | false => rw [if_neg (by simp)]; simp [noRank]

theorem exactJoin_eq (f : Nat) (ka kb : List Knot) (alla allb : Int) (hla : ka.length ≤ maxLen) (hlb : kb.length ≤ maxLen) (hf : 3000000 ≤ f) :
    laws_FnExactRankJoin_fn f ((ka, alla, ()), (kb, allb, ()), ()) = some ((true, ()), ()) := by
  refine Ret.eq ?_
  show Ret (laws_FnExactRankJoin_pre f ka alla kb allb) _
  unfold laws_FnExactRankJoin_pre
  rw [szRank_eq f ka alla 1048576 (by omega) (by omega) hla, Option.bind_some]
  refine Ret.cond (fun _ => Ret.ret rfl) fun h1 => ?_
  have h1' : (0 : Int) ≤ szR 1048576 ka.length := by have h : ¬ szR 1048576 ka.length < 0 := of_decide_eq_false h1; omega
  have e1 : szR 1048576 ka.length = 1048576 - ka.length ∧ ka.length ≤ 1048576 := by unfold szR at h1' ⊢; split at h1' <;> (try split) <;> omega
  have e3 := e1.2
  rw [e1.1]
  simp only
  rw [szRank_eq f kb allb (1048576 - ka.length) (by omega) (by omega) hlb, Option.bind_some]
  refine Ret.cond (fun _ => Ret.ret rfl) fun h2 => ?_
  have h2' : (0 : Int) ≤ szR (1048576 - ka.length) kb.length := by have h : ¬ szR (1048576 - ka.length) kb.length < 0 := of_decide_eq_false h2; omega
  have e2 : kb.length ≤ 1048576 := by unfold szR at h2'; split at h2' <;> omega
  have ta := toRank_eq f ka alla e3 (by omega)
  have tb := toRank_eq f kb allb e2 (by omega)
  have js : spec_RankJoin_fn f ((ka, alla, ()), (kb, allb, ()), ()) = some (joinR ka alla kb allb) := specJoin_eq f ka kb alla allb (by omega) (by omega) (by omega) (by omega)
  have ji : impl_RankJoin_fn f ((ka, alla, ()), (kb, allb, ()), ()) = some (joinR ka alla kb allb) := implJoin_eq f ka kb alla allb (by omega) (by omega) (by omega) (by omega) (by omega)
  have hj := joinR_len (ka := ka) (kb := kb) (alla := alla) (allb := allb)
  obtain ⟨R, hR⟩ : ∃ R, R = joinR ka alla kb allb := ⟨_, rfl⟩
  rw [← hR] at hj js ji
  clear hR
  simp only [ta, tb, js, ji, Option.bind_some]
  obtain ⟨⟨kj, allj, ⟨⟩⟩, ⟨okj, ⟨⟩⟩, ⟨⟩⟩ := R
  simp only at hj
  have ea := eqRank_refl f ka alla (by omega) (by omega)
  have eb := eqRank_refl f kb allb (by omega) (by omega)
  have ej := eqRank_refl f kj allj (by omega) (by omega)
  have ma := mark_eq f ka alla 1 (by omega) (by omega) e3 (by omega)
  have mb := mark_eq f kb allb (1 + 2 * ka.length) (by omega) (by omega) e2 (by omega)
  have mj := mark_eq f kj allj 1 (by omega) (by omega) (by omega) (by omega)
  have hj2 := held_eq f kj.length allj 1 (by omega) (by omega) (by omega) (by omega)
  have n1 : ¬ ((1 : Int) + 2 * ka.length + 2 * kb.length < 0) := by omega
  have n2 : ¬ ((1 : Int) + 2 * kj.length < 0) := by omega
  simp only [ea, eb, ej, ma, mb, mj, hj2, n1, n2, Option.bind_some, Bool.not_true, cond_false, beq_self_eq_true, decide_false, bne_self_eq_false]
  exact Ret.ret rfl

theorem addR_len {ks : List Knot} {all t : Int} {r : RankR} (h : r = if addB ks all t = true then ((addS ks all t, w64 (all + 1), ()), (true, ()), ()) else noRank) : r.1.1.length ≤ 128 := by
  cases hc : addB ks all t with
  | true =>
    rw [hc, if_pos rfl] at h
    have h2 : (addS ks all t).length ≤ 127 := addS_len
    generalize addS ks all t = l at h h2
    subst h
    show l.length ≤ 128
    omega
  | false =>
    rw [hc, if_neg (by simp)] at h
    subst h; simp [noRank]

theorem exactAdd_eq (f : Nat) (ka : List Knot) (alla t : Int) (hla : ka.length ≤ maxLen) (hf : 3000000 ≤ f) :
    laws_FnExactRankAdd_fn f ((ka, alla, ()), (t, ()), ()) = some ((true, ()), ()) := by
  refine Ret.eq ?_
  show Ret (laws_FnExactRankAdd_pre f ka alla t) _
  unfold laws_FnExactRankAdd_pre
  rw [szRank_eq f ka alla 1048576 (by omega) (by omega) hla, Option.bind_some]
  refine Ret.cond (fun _ => Ret.ret rfl) fun h1 => ?_
  have h1' : (0 : Int) ≤ szR 1048576 ka.length := by have h : ¬ szR 1048576 ka.length < 0 := of_decide_eq_false h1; omega
  have e3 : ka.length ≤ 1048576 := by unfold szR at h1'; split at h1' <;> omega
  have ta := toRank_eq f ka alla e3 (by omega)
  have js := specAdd_eq' f ka alla t (by omega) (by omega) (by omega)
  have ji := implAdd_eq f ka alla t (by omega) (by omega) (by omega)
  obtain ⟨r, hr⟩ : ∃ r : RankR, r = if addB ka alla t = true then ((addS ka alla t, w64 (alla + 1), ()), (true, ()), ()) else noRank := ⟨_, rfl⟩
  rw [← hr] at js ji
  have hj := addR_len hr
  clear hr
  simp only [ta, js, ji, Option.bind_some]
  obtain ⟨⟨kj, allj, ⟨⟩⟩, ⟨okj, ⟨⟩⟩, ⟨⟩⟩ := r
  simp only at hj
  have ea := eqRank_refl f ka alla (by omega) (by omega)
  have ej := eqRank_refl f kj allj (by omega) (by omega)
  have ma := mark_eq f ka alla 1 (by omega) (by omega) e3 (by omega)
  have mj := mark_eq f kj allj 1 (by omega) (by omega) (by omega) (by omega)
  have hj2 := held_eq f kj.length allj 1 (by omega) (by omega) (by omega) (by omega)
  have n1 : ¬ ((1 : Int) + 2 * ka.length < 0) := by omega
  have n2 : ¬ ((1 : Int) + 2 * kj.length < 0) := by omega
  simp only [ea, ej, ma, mj, hj2, n1, n2, Option.bind_some, Bool.not_true, cond_false, beq_self_eq_true, decide_false, bne_self_eq_false]
  exact Ret.ret rfl

abbrev rankC : List (Kd × Bool) := [(Kd.list (.pair (.int .i64) (.pair (.int .i64) .unit)), false), (.int .i64, false)]
theorem pureExactJoin (a b : CsT rankC) (ha : wfCs rankC a) (hb : wfCs rankC b) : ∃ fuel, laws_FnExactRankJoin_fn fuel (a, (b, ())) = some ((true, ()), ()) := by
  obtain ⟨ka, alla, ⟨⟩⟩ := a
  obtain ⟨kb, allb, ⟨⟩⟩ := b
  exact ⟨3000000, exactJoin_eq 3000000 ka kb alla allb ha.1.1 hb.1.1 (Nat.le_refl _)⟩
theorem pureExactAdd (a : CsT rankC) (b : CsT [((.int .i64 : Kd), false)]) (ha : wfCs rankC a) (hb : wfCs [((.int .i64 : Kd), false)] b) : ∃ fuel, laws_FnExactRankAdd_fn fuel (a, (b, ())) = some ((true, ()), ()) := by
  obtain ⟨ka, alla, ⟨⟩⟩ := a
  obtain ⟨t, ⟨⟩⟩ := b
  exact ⟨3000000, exactAdd_eq 3000000 ka alla t ha.1.1 (Nat.le_refl _)⟩
end Go.Proofs.Ytapicafncjajnaa.Den
