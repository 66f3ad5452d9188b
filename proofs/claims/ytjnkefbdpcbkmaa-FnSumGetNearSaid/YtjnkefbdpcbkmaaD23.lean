/- Loops as a step that is gone over. -/
import Derived.Test.YtjnkefbdpcbkmaaD22
namespace Go.Proofs.Ytjnkefbdpcbkmaa.Den
open Go Go.RowKit
set_option linter.unusedVariables false

/-- A step, gone over at most so often. -/
def iter {V R : Type} (step : (V → Option R) → V → Option R) : Nat → V → Option R
  | 0, _ => none
  | n + 1, v => step (iter step n) v

theorem loop_iter {V R : Type} {T : Tab} {n0 fuel : Nat} {nm : Norm} {c : C} {k : Ex → Env → Heap → Option R} {enc : V → Env × Heap} {step : (V → Option R) → V → Option R}
    (h : ∀ (G : Env → Heap → Option R) (v : V), run T n0 fuel c (enc v).1 (enc v).2 (loopK n0 nm G k) = step (fun v => G (enc v).1 (enc v).2) v) :
    ∀ n, (fun v => loopN (run T n0 fuel c) n0 nm n (enc v).1 (enc v).2 k) = iter step n := by
  intro n
  induction n with
  | zero => rfl
  | succ n ih =>
    funext v
    show run T n0 fuel c (enc v).1 (enc v).2 (loopK n0 nm (fun τ H => loopN (run T n0 fuel c) n0 nm n τ H k) k) = step (iter step n) v
    rw [h, ih]
end Go.Proofs.Ytjnkefbdpcbkmaa.Den
