/- Laws of one drawn sum, at the data that a row's reading gives. -/
import Derived.Test.YtjnkefbdpcbkmaaQS9
import Derived.Test.YtjnkefbdpcbkmaaR0
namespace Go.Proofs.Ytjnkefbdpcbkmaa.Den
open Go
set_option linter.unusedVariables false
set_option linter.unusedSimpArgs false

abbrev bytesC : List (Kd × Bool) := [(Kd.list (.int .u8), false)]

theorem bytes_of {a : CsT bytesC} (h : wfCs bytesC a) : a.1.length ≤ maxLen ∧ ∀ x ∈ a.1, 0 ≤ x ∧ x ≤ 255 := by
  have h1 := h.1
  simp only [wfD] at h1
  refine ⟨h1.1, fun x hx => ?_⟩
  have h2 := h1.2 x hx
  simp only [Lit.wf, Bool.and_eq_true, decide_eq_true_eq, show IntKind.u8.min = 0 from by decide, show IntKind.u8.max = 255 from by decide] at h2
  exact h2

theorem pureSumAll (a : CsT bytesC) (ha : wfCs bytesC a) : ∃ fuel, laws_FnSumAll_fn fuel (a, ()) = some ((true, ()), ()) := by
  obtain ⟨code, ⟨⟩⟩ := a
  exact ⟨301, lawSumAll 301 (by omega) code (bytes_of ha).2⟩
theorem pureSumOk (a : CsT bytesC) (ha : wfCs bytesC a) : ∃ fuel, laws_FnSumOk_fn fuel (a, ()) = some ((true, ()), ()) := by
  obtain ⟨code, ⟨⟩⟩ := a
  exact ⟨301, lawSumOk 301 (by omega) code (bytes_of ha).2⟩
theorem pureSumGetNear (a : CsT bytesC) (ha : wfCs bytesC a) : ∃ fuel, laws_FnSumGetNear_fn fuel (a, ()) = some ((true, ()), ()) := by
  obtain ⟨code, ⟨⟩⟩ := a
  exact ⟨301, lawSumGetNear 301 (by omega) code (bytes_of ha).2⟩
end Go.Proofs.Ytjnkefbdpcbkmaa.Den
