/- Part 6 of the texts behind the row. -/
import Derived.Test.YtdgdoeknpakmlaaGreatB57053cccdc
import Derived.Test.YtdgdoeknpakmlaaGreatChecked
import Derived.KernelRfl
set_option linter.unusedVariables false
set_option linter.unusedSimpArgs false
namespace Go.Proofs.YtdgdoeknpakmlaaGreat.Den
open Go Go.RowKit
noncomputable def bodyOf (f : Func) : Code := match f.body with | some c => c | none => .skip
noncomputable def irOf (P : Program) (f : Func) (frz : List Nat) (ann : List Norm) (cuts : List (Nat × Norm)) : C := match lightC P frz f.ntmps ann cuts 0 (bodyOf f) with | some (c, _) => c | none => .skip
theorem mixed : Tryz.prog.follows .mixedOrders = true := Checked.mixed Tryz.checked
theorem entNil {P : Program} : ∀ p ∈ ([] : List (Nat × TE)), EntryOK P p.1 p.2 := fun _ h => nomatch h
theorem entCons {P : Program} {f : Nat} {te : TE} {l : List (Nat × TE)} (h : EntryOK P f te) (t : ∀ p ∈ l, EntryOK P p.1 p.2) : ∀ p ∈ (f, te) :: l, EntryOK P p.1 p.2 := List.forall_mem_cons.2 ⟨h, t⟩
theorem methNil {P : Program} : ∀ p ∈ ([] : List (Nat × String × Nat)), MethOK P p.1 p.2.1 p.2.2 := fun _ h => nomatch h
theorem methCons {P : Program} {t : Nat} {m : String} {f : Nat} {l : List (Nat × String × Nat)} (h : MethOK P t m f) (r : ∀ p ∈ l, MethOK P p.1 p.2.1 p.2.2) : ∀ p ∈ (t, m, f) :: l, MethOK P p.1 p.2.1 p.2.2 := List.forall_mem_cons.2 ⟨h, r⟩
theorem isFn {P : Program} {f : Nat} {fn : Func} (h : P.funcs[f]? = some fn) (hn : decide (fn.name = "runtime.NumGoroutine") = false) (hb : fn.body.isSome = true) : ∃ fn, P.funcs[f]? = some fn ∧ fn.name ≠ "runtime.NumGoroutine" ∧ fn.body.isSome = true := ⟨fn, h, of_decide_eq_false hn, hb⟩
abbrev I6 : Kd := .int .i64
abbrev KP : Kd := .pair I6 (.pair I6 .unit)
abbrev LP := List (Int × (Int × Unit))
abbrev SumY := (List (List Int)) × ((List Int) × (LP × (Int × (Int × (LP × (Int × Unit))))))
def w64 (n : Int) : Int := IntKind.wrap .i64 n
def zz (n : Nat) : Int := (n : Int)
theorem zz_eq (n : Nat) : zz n = (n : Int) := rfl
def lit3 {α R : Type} (l : List α) (k : α → α → α → Option R) : Option R := match l with | [a, b, c] => k a b c | _ => none
theorem zrc {α R : Type} {l : List α} {k : α → α → α → Option R} {r : R} (h : lit3 l k = some r) : ∃ a b c, l = [a, b, c] ∧ k a b c = some r := by
  unfold lit3 at h
  split at h
  · exact ⟨_, _, _, rfl, h⟩
  · cases h
end Go.Proofs.YtdgdoeknpakmlaaGreat.Den
