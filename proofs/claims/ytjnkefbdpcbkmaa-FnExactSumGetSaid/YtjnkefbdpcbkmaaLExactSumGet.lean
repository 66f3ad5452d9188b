/- The law FnExactSumGet, as the program's text has it, returns true at every input, and leaves its arguments as they read. No condition. -/
import Derived.Test.YtjnkefbdpcbkmaaRows
import Derived.Test.YtjnkefbdpcbkmaaQS4
import Derived.WalkKit
import Derived.ProofKit
import Derived.OpenShut
import Derived.ShutString
import Derived.ChangeOld
import Derived.Below
import Derived.SizedLaws
namespace Go.Proofs.Ytjnkefbdpcbkmaa.fnExactSumGet
open Go.ChangeShapes Go.WideShapes Go.ChangeAt Go.RowKit Go.Proofs.Ytjnkefbdpcbkmaa.Den
open Go.ChangeMaps (open_string shut_string)
set_option linter.unusedVariables false
set_option linter.unusedSimpArgs false
theorem own : ownKnob Try.prog.godebug = none := by kernel_rfl
theorem laidOut : laidOutB Try.prog = true := by kernel_rfl
theorem ty0 : tyOK Try.prog 9 49 (Kd.pair (.pair (.list (.list (.int .i64))) .unit) (.pair (.pair (.list (.int .i64)) .unit) (.pair (.pair (.list (.pair (.int .i64) (.pair (.int .i64) .unit))) (.pair (.int .i64) (.pair (.int .i64) .unit))) (.pair (.pair (.list (.pair (.int .i64) (.pair (.int .i64) .unit))) (.pair (.int .i64) .unit)) .unit)))) = true := by kernel_rfl
theorem sz0 : Try.prog.cellsOf 49 = Kd.sz (Kd.pair (.pair (.list (.list (.int .i64))) .unit) (.pair (.pair (.list (.int .i64)) .unit) (.pair (.pair (.list (.pair (.int .i64) (.pair (.int .i64) .unit))) (.pair (.int .i64) (.pair (.int .i64) .unit))) (.pair (.pair (.list (.pair (.int .i64) (.pair (.int .i64) .unit))) (.pair (.int .i64) .unit)) .unit)))) := by kernel_rfl
theorem ty1 : tyOK Try.prog 9 3 (Kd.int .i64) = true := by kernel_rfl
theorem sz1 : Try.prog.cellsOf 3 = Kd.sz (Kd.int .i64) := by kernel_rfl
set_option maxRecDepth 100000 in
theorem lifted (os : Os) (started : os.Started) (H : Type) (enc : TypeId × Value → H) :
    ReturnsInHanded {} Try.checked os 8 .any (Rows.fnExactSumGetSpec.pre6 enc Try.prog Try.f8 Rows.fnExactSumGetRow.domain false) (Rows.fnExactSumGetSpec.post enc Try.prog Try.f8 false true false false) := by
  refine returnsInHanded_of_change_sized (C := Try.checked) own started (by kernel_rfl) Try.func8
    (ChangeSpec.witness6 (enc := enc) (C := Try.checked) false ⟨#[], #[.agg #[.slice none 0 0, .slice none 0 0, .slice none 0 0, .int .i64 0, .int .i64 0, .slice none 0 0, .int .i64 0], .int .i64 0], []⟩ 8 (by kernel_rfl) (by kernel_rfl) (by kernel_rfl) (by kernel_rfl)) ?_
  intro W base args ds gs before hval0 hW hcnd hsz0 _
  have hval : ∀ (j : Nat) t v, Try.f8.params[j]? = some t → args[j]? = some v → Value.okWide Try.prog W .any base t v := hval0
  have hW' := hW
  obtain ⟨p, q, hA0, hV, rfl, hfz, hnd⟩ := hW
  have hA : DataW.TrodAll enc Try.prog W 0 (fun _ => true) true Try.f8.params.toList args.toList ds p := hA0
  rw [Try.params8] at hA hval
  obtain ⟨v0, vs0, d0, ds0, p0, q0, hargs, rfl, rfl, h0, r0⟩ := trodAll_cons hA
  obtain ⟨v1, vs1, d1, ds1, p1, q1, rfl, rfl, rfl, h1, r1⟩ := trodAll_cons r0
  obtain ⟨rfl, rfl, rfl⟩ := trodAll_nil r1
  obtain rfl : args = #[v0, v1] := by cases args; simp_all
  obtain ⟨rfl, rfl⟩ := trodVars_none hV
  obtain ⟨a0, rfl, _⟩ := okWide_struct Try.underlying49 (hval 0 49 v0 rfl rfl)
  have k0 := h0
  have lt0 : ∀ x ∈ p0, x.block < W.heap.size := by obtain ⟨m, hm⟩ := k0; exact DataW.trod_lt m _ _ _ hm
  obtain ⟨z0, g0, w0⟩ := trod_cells (Kd.pair (.pair (.list (.list (.int .i64))) .unit) (.pair (.pair (.list (.int .i64)) .unit) (.pair (.pair (.list (.pair (.int .i64) (.pair (.int .i64) .unit))) (.pair (.int .i64) (.pair (.int .i64) .unit))) (.pair (.pair (.list (.pair (.int .i64) (.pair (.int .i64) .unit))) (.pair (.int .i64) .unit)) .unit)))) ty0 sz0 h0 rfl
  obtain ⟨n1, rfl⟩ := okWide_int Try.underlying3 (hval 1 3 v1 rfl rfl)
  have k1 := h1
  have lt1 : ∀ x ∈ p1, x.block < W.heap.size := by obtain ⟨m, hm⟩ := k1; exact DataW.trod_lt m _ _ _ hm
  obtain ⟨z1, g1, w1⟩ := trod_cells (Kd.int .i64) ty1 sz1 h1 rfl
  clear hA0 hval0 hsz0
  obtain ⟨fuel, hfn⟩ := pureExactSumGet z0 z1 w0 w1
  have hps : PsRel W (fun b => b < W.heap.size ∧ ¬ False) laws_FnExactSumGet_ps (z0, (z1, ())) [.agg a0, .int .i64 n1] := ⟨_, _, rfl, ⟨_, rfl, g0⟩, ⟨_, _, rfl, g1, rfl⟩⟩
  refine (law_walk (laws_FnExactSumGet_spec fuel) hps hfn).mono fun e W' ⟨he, bel⟩ => ?_
  subst he
  exact ⟨_, rfl, _, _, _, [], _, [], hW', trodAll_mk1 (shut_bool Try.underlying4 _), (trodAll_cons_mk (Below.trod laidOut (by kernel_rfl) (of_decide_eq_true (by kernel_rfl)) k0 bel lt0) (trodAll_cons_mk (Below.trod laidOut (by kernel_rfl) (of_decide_eq_true (by kernel_rfl)) k1 bel lt1) trodAll_mk0)), rfl, bel.frame _, fun h => by cases h⟩
theorem over : Rows.fnExactSumGetRow.holds Try.pinned (OpenSpec.ofChange Rows.fnExactSumGetSpec) :=
  OpenClaim.holds_of_wide 8 Try.f8 rfl rfl rfl rfl rfl rfl rfl ⟨rfl, rfl, rfl, rfl, rfl⟩ rfl rfl rfl rfl rfl (by kernel_rfl) Try.func8 (by kernel_rfl)
    (of_decide_eq_true (by kernel_rfl)) (by unfold Func.isWrapper; first | (rw [if_pos (by decide +kernel)]; kernel_rfl) | (rw [if_neg (by decide +kernel)]; exact ⟨rfl, rfl⟩))
    (fun os started H enc _ => lifted os started H enc)
theorem proved : Rows.FnExactSumGetSaid := over
#print axioms proved
end Go.Proofs.Ytjnkefbdpcbkmaa.fnExactSumGet
namespace Go.Proofs.Ytjnkefbdpcbkmaa
/-- The row, under a short name. -/
theorem fnExactSumGet_holds : Rows.FnExactSumGetSaid := fnExactSumGet.proved
end Go.Proofs.Ytjnkefbdpcbkmaa
