/- The law FnNetReachPath, as the program's text has it, returns true at every input, and leaves its arguments as they read. No condition. -/
import Derived.Test.YtljojacnjjgceaaRows
import Derived.Test.YtljojacnjjgceaaANP10
import Derived.WalkKit
import Derived.ProofKit
import Derived.OpenShut
import Derived.ShutString
import Derived.ChangeOld
import Derived.Below
import Derived.SizedLaws
namespace Go.Proofs.Ytljojacnjjgceaa.fnNetReachPath
open Go.ChangeShapes Go.WideShapes Go.ChangeAt Go.RowKit Go.Proofs.Ytljojacnjjgceaa.Den
open Go.ChangeMaps (open_string shut_string)
set_option linter.unusedVariables false
set_option linter.unusedSimpArgs false
theorem own : ownKnob Try.prog.godebug = none := by kernel_rfl
theorem laidOut : laidOutB Try.prog = true := by kernel_rfl
theorem ty0 : tyOK Try.prog 14 22 (Kd.list (.int .u8)) = true := by kernel_rfl
theorem sz0 : Try.prog.cellsOf 22 = Kd.sz (Kd.list (.int .u8)) := by kernel_rfl
set_option maxRecDepth 100000 in
theorem lifted (os : Os) (started : os.Started) (H : Type) (enc : TypeId × Value → H) :
    ReturnsInHanded {} Try.checked os 4 .any (Rows.fnNetReachPathSpec.pre6 enc Try.prog Try.f4 Rows.fnNetReachPathRow.domain false) (Rows.fnNetReachPathSpec.post enc Try.prog Try.f4 false true false false) := by
  refine returnsInHanded_of_change_sized (C := Try.checked) own started (by kernel_rfl) Try.func4
    (ChangeSpec.witness6 (enc := enc) (C := Try.checked) false ⟨#[], #[.slice none 0 0], []⟩ 8 (by kernel_rfl) (by kernel_rfl) (by kernel_rfl) (by kernel_rfl)) ?_
  intro W base args ds gs before hval0 hW hcnd hsz0 _
  have hval : ∀ (j : Nat) t v, Try.f4.params[j]? = some t → args[j]? = some v → Value.okWide Try.prog W .any base t v := hval0
  have hW' := hW
  obtain ⟨p, q, hA0, hV, rfl, hfz, hnd⟩ := hW
  have hA : DataW.TrodAll enc Try.prog W 0 (fun _ => true) true Try.f4.params.toList args.toList ds p := hA0
  rw [Try.params4] at hA hval
  obtain ⟨v0, vs0, d0, ds0, p0, q0, hargs, rfl, rfl, h0, r0⟩ := trodAll_cons hA
  obtain ⟨rfl, rfl, rfl⟩ := trodAll_nil r0
  obtain rfl : args = #[v0] := by cases args; simp_all
  obtain ⟨rfl, rfl⟩ := trodVars_none hV
  obtain ⟨a0, len0, cap0, rfl⟩ := okWide_slice Try.underlying22 (hval 0 22 v0 rfl rfl)
  have k0 := h0
  have lt0 : ∀ x ∈ p0, x.block < W.heap.size := by obtain ⟨m, hm⟩ := k0; exact DataW.trod_lt m _ _ _ hm
  obtain ⟨z0, g0, w0⟩ := zBh (Kd.list (.int .u8)) ty0 sz0 h0 rfl
  clear hA0 hval0 hsz0
  obtain ⟨fuel, hfn⟩ := pureNetReachPath z0 w0
  have hps : WX W (fun b => b < W.heap.size ∧ ¬ False) zpT ((z0, ()), ()) [.slice a0 len0 cap0] [] := ⟨[_], _, [], [], rfl, rfl, ⟨_, _, rfl, g0, rfl, rfl⟩, ⟨rfl, rfl⟩⟩
  refine (zBi (zyy fuel) hps hfn).mono fun e W' ⟨he, bel⟩ => ?_
  subst he
  exact ⟨_, rfl, _, _, _, [], _, [], hW', trodAll_mk1 (shut_bool Try.underlying4 _), (trodAll_cons_mk (Below.trod laidOut (by kernel_rfl) (of_decide_eq_true (by kernel_rfl)) k0 bel lt0) trodAll_mk0), rfl, bel.frame _, fun h => by cases h⟩
theorem over : Rows.fnNetReachPathRow.holds Try.pinned (OpenSpec.ofChange Rows.fnNetReachPathSpec) :=
  OpenClaim.holds_of_wide 4 Try.f4 rfl rfl rfl rfl rfl rfl rfl ⟨rfl, rfl, rfl, rfl, rfl⟩ rfl rfl rfl rfl rfl (by kernel_rfl) Try.func4 (by kernel_rfl)
    (of_decide_eq_true (by kernel_rfl)) (by unfold Func.isWrapper; first | (rw [if_pos (by decide +kernel)]; kernel_rfl) | (rw [if_neg (by decide +kernel)]; exact ⟨rfl, rfl⟩))
    (fun os started H enc _ => lifted os started H enc)
theorem proved : Rows.FnNetReachPathSaid := over
#print axioms proved
end Go.Proofs.Ytljojacnjjgceaa.fnNetReachPath
namespace Go.Proofs.Ytljojacnjjgceaa
/-- The row, under a short name. -/
theorem fnNetReachPath_holds : Rows.FnNetReachPathSaid := fnNetReachPath.proved
end Go.Proofs.Ytljojacnjjgceaa
