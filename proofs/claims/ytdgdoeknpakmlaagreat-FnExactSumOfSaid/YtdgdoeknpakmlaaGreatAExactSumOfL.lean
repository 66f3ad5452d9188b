/- The law FnExactSumOf, as the program's text has it, returns true at every input, and leaves its arguments as they read. No condition. -/
import Derived.Test.YtdgdoeknpakmlaaGreatRows
import Derived.Test.YtdgdoeknpakmlaaGreatBd9aa885466
import Derived.WalkKit
import Derived.ProofKit
import Derived.OpenShut
import Derived.ShutString
import Derived.ChangeOld
import Derived.Below
import Derived.SizedLaws
namespace Go.Proofs.YtdgdoeknpakmlaaGreat.fnExactSumOf
open Go.ChangeShapes Go.WideShapes Go.ChangeAt Go.RowKit Go.Proofs.YtdgdoeknpakmlaaGreat.Den
open Go.ChangeMaps (open_string shut_string)
set_option linter.unusedVariables false
set_option linter.unusedSimpArgs false
theorem own : ownKnob Tryz.prog.godebug = none := by kernel_rfl
theorem laidOut : laidOutB Tryz.prog = true := by kernel_rfl
theorem ty0 : tyOK Tryz.prog 9 23 (Kd.list (.int .i64)) = true := by kernel_rfl
theorem sz0 : Tryz.prog.cellsOf 23 = Kd.sz (Kd.list (.int .i64)) := by kernel_rfl
set_option maxRecDepth 100000 in
theorem lifted (os : Os) (started : os.Started) (H : Type) (enc : TypeId × Value → H) :
    ReturnsInHanded {} Tryz.checked os 25 .any (Rows.fnExactSumOfSpec.pre6 enc Tryz.prog Tryz.f25 Rows.fnExactSumOfRow.domain false) (Rows.fnExactSumOfSpec.post enc Tryz.prog Tryz.f25 false true false false) := by
  refine returnsInHanded_of_change_sized (C := Tryz.checked) own started (by kernel_rfl) Tryz.func25
    (ChangeSpec.witness6 (enc := enc) (C := Tryz.checked) false ⟨#[], #[.slice none 0 0], []⟩ 8 (by kernel_rfl) (by kernel_rfl) (by kernel_rfl) (by kernel_rfl)) ?_
  intro W base args ds gs before hval0 hW hcnd hsz0 _
  have hval : ∀ (j : Nat) t v, Tryz.f25.params[j]? = some t → args[j]? = some v → Value.okWide Tryz.prog W .any base t v := hval0
  have hW' := hW
  obtain ⟨p, q, hA0, hV, rfl, hfz, hnd⟩ := hW
  have hA : DataW.TrodAll enc Tryz.prog W 0 (fun _ => true) true Tryz.f25.params.toList args.toList ds p := hA0
  rw [Tryz.params25] at hA hval
  obtain ⟨v0, vs0, d0, ds0, p0, q0, hargs, rfl, rfl, h0, r0⟩ := trodAll_cons hA
  obtain ⟨rfl, rfl, rfl⟩ := trodAll_nil r0
  obtain rfl : args = #[v0] := by cases args; simp_all
  obtain ⟨rfl, rfl⟩ := trodVars_none hV
  obtain ⟨a0, len0, cap0, rfl⟩ := okWide_slice Tryz.underlying23 (hval 0 23 v0 rfl rfl)
  have k0 := h0
  have lt0 : ∀ x ∈ p0, x.block < W.heap.size := by obtain ⟨m, hm⟩ := k0; exact DataW.trod_lt m _ _ _ hm
  obtain ⟨z0, g0, w0⟩ := trod_cells (Kd.list (.int .i64)) ty0 sz0 h0 rfl
  clear hA0 hval0 hsz0
  rcases pureExactSumOf z0 w0 with ⟨fuel, hfn⟩ | ⟨fuel, hfn⟩
  · have hps : PsRel W (fun b => b < W.heap.size ∧ ¬ False) laws_FnExactSumOf_ps (z0, ()) [.slice a0 len0 cap0] := ⟨_, _, rfl, g0, rfl⟩
    refine (law_walk (laws_FnExactSumOf_spec fuel) hps hfn).mono fun e W' ⟨he, bel⟩ => ?_
    subst he
    exact ⟨_, rfl, _, _, _, [], _, [], hW', trodAll_mk1 (shut_bool Tryz.underlying4 _), (trodAll_cons_mk (Below.trod laidOut (by kernel_rfl) (of_decide_eq_true (by kernel_rfl)) k0 bel lt0) trodAll_mk0), rfl, bel.frame _, fun h => by cases h⟩
  · have hps : PsRel W (fun b => b < W.heap.size ∧ ¬ False) laws_FnExactSumOf_x0_ps (z0, ()) [.slice a0 len0 cap0] := ⟨_, _, rfl, g0, rfl⟩
    refine (law_walk (laws_FnExactSumOf_x0_spec fuel) hps hfn).mono fun e W' ⟨he, bel⟩ => ?_
    subst he
    exact ⟨_, rfl, _, _, _, [], _, [], hW', trodAll_mk1 (shut_bool Tryz.underlying4 _), (trodAll_cons_mk (Below.trod laidOut (by kernel_rfl) (of_decide_eq_true (by kernel_rfl)) k0 bel lt0) trodAll_mk0), rfl, bel.frame _, fun h => by cases h⟩
theorem c4 : (Rows.fnExactSumOfRow.inPlace == Tryz.prog.inPlace 25) = true := by kernel_rfl
theorem c5 : (Rows.fnExactSumOfRow.unfollowed == Tryz.prog.unfollowed 25) = true := by kernel_rfl
theorem c6 : (Rows.fnExactSumOfRow.named == Tryz.prog.varsNamed 25) = true := by kernel_rfl
theorem c7 : (Rows.fnExactSumOfRow.recurses == Tryz.prog.recurses 25) = true := by kernel_rfl
theorem c8 : (Rows.fnExactSumOfRow.plainKeys == Tryz.prog.plainKeys) = true := by rw [show Rows.fnExactSumOfRow.plainKeys = Rows.fnSumOfRow.plainKeys from rfl]; exact Facts.c8
theorem c11 : (Rows.fnExactSumOfRow.lifted == Tryz.prog.liftsFinal) = true := by rw [show Rows.fnExactSumOfRow.lifted = Rows.fnSumOfRow.lifted from rfl]; exact Facts.c11
theorem c12 : (Tryz.prog.make == some Rows.fnExactSumOfRow.make) = true := by rw [show Rows.fnExactSumOfRow.make = Rows.fnSumOfRow.make from rfl]; exact Facts.c12
theorem closed : joinedFacts Tryz.prog 25 Tryz.f25 Rows.fnExactSumOfSpec Rows.fnExactSumOfRow = true := by
  unfold joinedFacts
  repeat' (with_reducible apply Facts.band)
  all_goals (first | with_reducible exact Facts.c0 | with_reducible exact Facts.c1 | with_reducible exact Facts.c2 | with_reducible exact Facts.c3 | with_reducible exact Facts.c9 | with_reducible exact Facts.c10 | with_reducible exact c4 | with_reducible exact c5 | with_reducible exact c6 | with_reducible exact c7 | with_reducible exact c8 | with_reducible exact c11 | with_reducible exact c12 | kernel_rfl)
theorem over : Rows.fnExactSumOfRow.holds Tryz.pinned (OpenSpec.ofChange Rows.fnExactSumOfSpec) :=
  OpenClaim.holds_of_wide 25 Tryz.f25 rfl rfl rfl rfl rfl rfl rfl ⟨rfl, rfl, rfl, rfl, rfl⟩ rfl rfl rfl rfl rfl (by kernel_rfl) Tryz.func25 closed
    (of_decide_eq_true (by kernel_rfl)) (by unfold Func.isWrapper; first | (rw [if_pos (by decide +kernel)]; kernel_rfl) | (rw [if_neg (by decide +kernel)]; exact ⟨rfl, rfl⟩))
    (fun os started H enc _ => lifted os started H enc)
theorem proved : Rows.FnExactSumOfSaid := over
#print axioms proved
end Go.Proofs.YtdgdoeknpakmlaaGreat.fnExactSumOf
namespace Go.Proofs.YtdgdoeknpakmlaaGreat
/-- The row, under a short name. -/
theorem fnExactSumOf_holds : Rows.FnExactSumOfSaid := fnExactSumOf.proved
end Go.Proofs.YtdgdoeknpakmlaaGreat
