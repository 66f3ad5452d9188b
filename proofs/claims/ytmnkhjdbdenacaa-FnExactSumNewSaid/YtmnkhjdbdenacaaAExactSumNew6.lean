/- Part 6 of the texts behind the row. -/
import Derived.Test.YtmnkhjdbdenacaaAExactSumNew5
import Derived.WalkKit
import Derived.OpenShut
import Derived.ChangeArms
set_option linter.unusedVariables false
set_option linter.unusedSimpArgs false
namespace Go.Proofs.Ytmnkhjdbdenacaa.Den
open Go Go.RowKit
set_option linter.unusedVariables false
set_option linter.unusedSimpArgs false
section
variable {H : Type} {enc : TypeId × Value → H} {P : Program} {w : World} {base : Nat} {spare : Nat → Bool} {held : Bool}
end
def Kd.flat : Kd → List Kd
  | .unit => []
  | .pair a b => a.flat ++ b.flat
  | K => [K]
section
variable {H : Type} {enc : TypeId × Value → H} {P : Program} {w : World} {base : Nat} {spare : Nat → Bool} {held : Bool}
end
@[reducible] def boolRs : List Pm := [{ cs := [(Kd.bool, false)], ag := false }]
theorem law_walk {P : Program} {f : FuncId} {ps : List Pm} {fl : Bool} {fn : PsT ps → Option (PsT boolRs)} (h : FnSpec P f ⟨ps, boolRs, fl, fn⟩) {w : World} {vs : List Value} {x : PsT ps} {b : Bool}
    (hps : PsRel w (fun b => b < w.heap.size ∧ ¬ False) ps x vs) (hfn : fn x = some ((b, ()), ())) :
    Calls P f vs.toArray w fun e w' => e = .returned (.bool b) ∧ Below w.heap.size w w' := by
  refine Calls.mono (h w (fun _ => False) vs x _ (fun _ h => h.elim) hps hfn) fun e w' he => ?_
  obtain ⟨us, tk, rfl, h1, h2, h3, h4, h5, _, _, h6⟩ := he
  refine ⟨?_, ⟨h1, h2, h3, h4, h5⟩⟩
  simp only [boolRs, PsOut, CsOut] at h6
  obtain ⟨v, vs', t1, t2, e1, _, ⟨u, us', e2, h7, h8, _⟩, h9, _⟩ := h6
  simp only [CRel] at h7
  simp at h7 e2
  obtain ⟨rfl, rfl⟩ := e2
  subst h7; subst h9
  have : us = #[.bool b] := Array.toList_inj.1 (by simpa using e1)
  subst this
  simp [resU]
end Go.Proofs.Ytmnkhjdbdenacaa.Den
namespace Go.Proofs.Ytmnkhjdbdenacaa.Den
open Go
theorem lawExactSumNew : laws_FnExactSumNew_fn 100 () = some ((true, ()), ()) := by kernel_rfl
theorem pureExactSumNew : ∃ fuel, laws_FnExactSumNew_fn fuel () = some ((true, ()), ()) := ⟨100, lawExactSumNew⟩
end Go.Proofs.Ytmnkhjdbdenacaa.Den
