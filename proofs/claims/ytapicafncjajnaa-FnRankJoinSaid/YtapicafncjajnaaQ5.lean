/- Up to a greater thing there are not fewer, plainly. -/
import Derived.Test.YtapicafncjajnaaQ4
import Derived.Test.YtapicafncjajnaaR0
namespace Go.Proofs.Ytapicafncjajnaa.Den
open Go
set_option linter.unusedVariables false
set_option linter.unusedSimpArgs false

abbrev bytesC : List (Kd × Bool) := [(Kd.list (.int .u8), false)]

theorem bytes_of {a : CsT bytesC} (h : wfCs bytesC a) : a.1.length ≤ maxLen ∧ ∀ x ∈ a.1, 0 ≤ x ∧ x ≤ 255 := by
  have h1 := h.1
  simp only [wfD] at h1
  refine ⟨h1.1, fun x hx => ?_⟩
  have h2 := h1.2 x hx
  simp only [Lit.wf, Bool.and_eq_true, decide_eq_true_eq, show IntKind.u8.min = 0 from by decide, show IntKind.u8.max = 255 from by decide] at h2
  exact h2

theorem more_eq (f : Nat) (code more : List Int) (hb : ∀ x ∈ code, 0 ≤ x ∧ x ≤ 255) (hf : 200 < f) : laws_FnRankMore_fn f ((code, ()), (more, ()), ()) = some ((true, ()), ()) := by
  refine Ret.eq ?_
  show Ret (laws_FnRankMore_pre f code more) _
  unfold laws_FnRankMore_pre
  have z1 := zz_eq more.length
  refine Ret.cond (fun _ => Ret.ret rfl) fun _ => ?_
  refine Ret.cond (fun _ => Ret.ret rfl) fun hm => ?_
  have hm' := of_decide_eq_false hm
  refine Ret.bind (drawBelow_ok f code hb hf) fun y hy => ?_
  obtain ⟨⟨ks, all, ⟨⟩⟩, ⟨t, ⟨⟩⟩, ⟨⟩⟩ := y
  simp only at hy
  simp only [specBelow_eq f ks all t (by omega) (by omega) (by omega), implBelow_eq f ks all t (by omega) (by omega) (by omega), Option.bind_some, bne_self_eq_false, cond_false]
  refine Ret.cond (fun _ => ⟨_, by simp, rfl⟩) fun hneg => ?_
  have hn : 0 ≤ (belowB ks all t).1 := by have := of_decide_eq_false hneg; omega
  have ht : 0 ≤ t ∧ t ≤ 63 := by
    unfold belowB at hn
    split at hn
    · rename_i c; exact ⟨c.2.1, c.2.2⟩
    · simp at hn
  have e1 : w64 (64 - t) = 64 - t := by rw [w64_id] <;> omega
  have m1 := Int.tmod_nonneg (64 - t) (a := zz more.length) (by omega)
  have m2 := Int.tmod_lt_of_pos (zz more.length) (b := 64 - t) (by omega)
  have e2 : w64 (t + Int.tmod (zz more.length) (64 - t)) = t + Int.tmod (zz more.length) (64 - t) := by rw [w64_id] <;> omega
  refine Ret.tst (by rw [e1, decide_eq_false (by omega)]; rfl) ?_
  rw [e1, e2, implBelow_eq f ks all _ (by omega) (by omega) (by omega), Option.bind_some]
  have hmono := belowB_mono (ks := ks) (all := all) (t := t) (t' := t + Int.tmod (zz more.length) (64 - t)) (by omega) (by omega) (by omega) hn
  refine Ret.cond (fun _ => Ret.ret ?_) fun h => ?_
  · have := decide_eq_true hmono.2.1
    simp only [ge_iff_le, this]
  · have := of_decide_eq_false h; exact absurd hmono.1 this

theorem pureMore (a b : CsT bytesC) (ha : wfCs bytesC a) (hb : wfCs bytesC b) : ∃ fuel, laws_FnRankMore_fn fuel (a, (b, ())) = some ((true, ()), ()) := by
  obtain ⟨code, ⟨⟩⟩ := a
  obtain ⟨more, ⟨⟩⟩ := b
  exact ⟨201, more_eq 201 code more (bytes_of ha).2 (by omega)⟩
end Go.Proofs.Ytapicafncjajnaa.Den
