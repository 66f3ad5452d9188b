/- The law FnExactSumJoin, as the program's text has it, returns true at every input, and leaves its arguments as they read. No condition. -/
import Derived.Test.YtdgdoeknpakmlaaGreatRows
import Derived.Test.YtdgdoeknpakmlaaGreatB9ff58a06dd
import Derived.WalkKit
import Derived.ProofKit
import Derived.OpenShut
import Derived.ShutString
import Derived.ChangeOld
import Derived.Below
import Derived.SizedLaws
namespace Go.Proofs.YtdgdoeknpakmlaaGreat.fnExactSumJoin
open Go.ChangeShapes Go.WideShapes Go.ChangeAt Go.RowKit Go.Proofs.YtdgdoeknpakmlaaGreat.Den
open Go.ChangeMaps (open_string shut_string)
set_option linter.unusedVariables false
set_option linter.unusedSimpArgs false
theorem own : ownKnob Tryz.prog.godebug = none := by kernel_rfl
theorem laidOut : laidOutB Tryz.prog = true := by kernel_rfl
theorem ty0 : tyOK Tryz.prog 9 99 (Kd.pair (.pair (.list (.list (.int .i64))) .unit) (.pair (.pair (.list (.int .i64)) .unit) (.pair (.pair (.list (.pair (.int .i64) (.pair (.int .i64) .unit))) (.pair (.int .i64) (.pair (.int .i64) .unit))) (.pair (.pair (.list (.pair (.int .i64) (.pair (.int .i64) .unit))) (.pair (.int .i64) .unit)) .unit)))) = true := by kernel_rfl
theorem sz0 : Tryz.prog.cellsOf 99 = Kd.sz (Kd.pair (.pair (.list (.list (.int .i64))) .unit) (.pair (.pair (.list (.int .i64)) .unit) (.pair (.pair (.list (.pair (.int .i64) (.pair (.int .i64) .unit))) (.pair (.int .i64) (.pair (.int .i64) .unit))) (.pair (.pair (.list (.pair (.int .i64) (.pair (.int .i64) .unit))) (.pair (.int .i64) .unit)) .unit)))) := by kernel_rfl
theorem ty1 : tyOK Tryz.prog 9 99 (Kd.pair (.pair (.list (.list (.int .i64))) .unit) (.pair (.pair (.list (.int .i64)) .unit) (.pair (.pair (.list (.pair (.int .i64) (.pair (.int .i64) .unit))) (.pair (.int .i64) (.pair (.int .i64) .unit))) (.pair (.pair (.list (.pair (.int .i64) (.pair (.int .i64) .unit))) (.pair (.int .i64) .unit)) .unit)))) = true := by kernel_rfl
theorem sz1 : Tryz.prog.cellsOf 99 = Kd.sz (Kd.pair (.pair (.list (.list (.int .i64))) .unit) (.pair (.pair (.list (.int .i64)) .unit) (.pair (.pair (.list (.pair (.int .i64) (.pair (.int .i64) .unit))) (.pair (.int .i64) (.pair (.int .i64) .unit))) (.pair (.pair (.list (.pair (.int .i64) (.pair (.int .i64) .unit))) (.pair (.int .i64) .unit)) .unit)))) := by kernel_rfl
set_option maxRecDepth 100000 in
theorem lifted (os : Os) (started : os.Started) (H : Type) (enc : TypeId × Value → H) :
    ReturnsInHanded {} Tryz.checked os 26 .any (Rows.fnExactSumJoinSpec.pre6 enc Tryz.prog Tryz.f26 Rows.fnExactSumJoinRow.domain false) (Rows.fnExactSumJoinSpec.post enc Tryz.prog Tryz.f26 false true false false) := by
  refine returnsInHanded_of_change_sized (C := Tryz.checked) own started (by kernel_rfl) Tryz.func26
    (ChangeSpec.witness6 (enc := enc) (C := Tryz.checked) false ⟨#[], #[.agg #[.slice none 0 0, .slice none 0 0, .slice none 0 0, .int .i64 0, .int .i64 0, .slice none 0 0, .int .i64 0], .agg #[.slice none 0 0, .slice none 0 0, .slice none 0 0, .int .i64 0, .int .i64 0, .slice none 0 0, .int .i64 0]], []⟩ 8 (by kernel_rfl) (by kernel_rfl) (by kernel_rfl) (by kernel_rfl)) ?_
  intro W base args ds gs before hval0 hW hcnd hsz0 _
  have hval : ∀ (j : Nat) t v, Tryz.f26.params[j]? = some t → args[j]? = some v → Value.okWide Tryz.prog W .any base t v := hval0
  have hW' := hW
  obtain ⟨p, q, hA0, hV, rfl, hfz, hnd⟩ := hW
  have hA : DataW.TrodAll enc Tryz.prog W 0 (fun _ => true) true Tryz.f26.params.toList args.toList ds p := hA0
  rw [Tryz.params26] at hA hval
  obtain ⟨v0, vs0, d0, ds0, p0, q0, hargs, rfl, rfl, h0, r0⟩ := trodAll_cons hA
  obtain ⟨v1, vs1, d1, ds1, p1, q1, rfl, rfl, rfl, h1, r1⟩ := trodAll_cons r0
  obtain ⟨rfl, rfl, rfl⟩ := trodAll_nil r1
  obtain rfl : args = #[v0, v1] := by cases args; simp_all
  obtain ⟨rfl, rfl⟩ := trodVars_none hV
  obtain ⟨a0, rfl, _⟩ := okWide_struct Tryz.underlying99 (hval 0 99 v0 rfl rfl)
  have k0 := h0
  have lt0 : ∀ x ∈ p0, x.block < W.heap.size := by obtain ⟨m, hm⟩ := k0; exact DataW.trod_lt m _ _ _ hm
  obtain ⟨z0, g0, w0⟩ := zCw (Kd.pair (.pair (.list (.list (.int .i64))) .unit) (.pair (.pair (.list (.int .i64)) .unit) (.pair (.pair (.list (.pair (.int .i64) (.pair (.int .i64) .unit))) (.pair (.int .i64) (.pair (.int .i64) .unit))) (.pair (.pair (.list (.pair (.int .i64) (.pair (.int .i64) .unit))) (.pair (.int .i64) .unit)) .unit)))) ty0 sz0 h0 rfl
  obtain ⟨a1, rfl, _⟩ := okWide_struct Tryz.underlying99 (hval 1 99 v1 rfl rfl)
  have k1 := h1
  have lt1 : ∀ x ∈ p1, x.block < W.heap.size := by obtain ⟨m, hm⟩ := k1; exact DataW.trod_lt m _ _ _ hm
  obtain ⟨z1, g1, w1⟩ := zCw (Kd.pair (.pair (.list (.list (.int .i64))) .unit) (.pair (.pair (.list (.int .i64)) .unit) (.pair (.pair (.list (.pair (.int .i64) (.pair (.int .i64) .unit))) (.pair (.int .i64) (.pair (.int .i64) .unit))) (.pair (.pair (.list (.pair (.int .i64) (.pair (.int .i64) .unit))) (.pair (.int .i64) .unit)) .unit)))) ty1 sz1 h1 rfl
  clear hA0 hval0 hsz0
  rcases pureExactSumJoin z0 z1 w0 w1 with ⟨fuel, hfn⟩ | ⟨fuel, hfn⟩
  · have hps : PsRel W (fun b => b < W.heap.size ∧ ¬ False) zlF (z0, (z1, ())) [.agg a0, .agg a1] := ⟨_, _, rfl, ⟨_, rfl, g0⟩, ⟨_, _, rfl, ⟨_, rfl, g1⟩, rfl⟩⟩
    refine (zCx (zM2 fuel) hps hfn).mono fun e W' ⟨he, bel⟩ => ?_
    subst he
    exact ⟨_, rfl, _, _, _, [], _, [], hW', trodAll_mk1 (shut_bool Tryz.underlying4 _), (trodAll_cons_mk (Below.trod laidOut (by kernel_rfl) (of_decide_eq_true (by kernel_rfl)) k0 bel lt0) (trodAll_cons_mk (Below.trod laidOut (by kernel_rfl) (of_decide_eq_true (by kernel_rfl)) k1 bel lt1) trodAll_mk0)), rfl, bel.frame _, fun h => by cases h⟩
  · have hps : PsRel W (fun b => b < W.heap.size ∧ ¬ False) zlH (z0, (z1, ())) [.agg a0, .agg a1] := ⟨_, _, rfl, ⟨_, rfl, g0⟩, ⟨_, _, rfl, ⟨_, rfl, g1⟩, rfl⟩⟩
    refine (zCx (zM6 fuel) hps hfn).mono fun e W' ⟨he, bel⟩ => ?_
    subst he
    exact ⟨_, rfl, _, _, _, [], _, [], hW', trodAll_mk1 (shut_bool Tryz.underlying4 _), (trodAll_cons_mk (Below.trod laidOut (by kernel_rfl) (of_decide_eq_true (by kernel_rfl)) k0 bel lt0) (trodAll_cons_mk (Below.trod laidOut (by kernel_rfl) (of_decide_eq_true (by kernel_rfl)) k1 bel lt1) trodAll_mk0)), rfl, bel.frame _, fun h => by cases h⟩
theorem c4 : (Rows.fnExactSumJoinRow.inPlace == Tryz.prog.inPlace 26) = true := by kernel_rfl
theorem c5 : (Rows.fnExactSumJoinRow.unfollowed == Tryz.prog.unfollowed 26) = true := by kernel_rfl
theorem c6 : (Rows.fnExactSumJoinRow.named == Tryz.prog.varsNamed 26) = true := by kernel_rfl
theorem c7 : (Rows.fnExactSumJoinRow.recurses == Tryz.prog.recurses 26) = true := by kernel_rfl
theorem c8 : (Rows.fnExactSumJoinRow.plainKeys == Tryz.prog.plainKeys) = true := by rw [show Rows.fnExactSumJoinRow.plainKeys = Rows.fnSumOfRow.plainKeys from rfl]; exact Facts.c8
theorem c11 : (Rows.fnExactSumJoinRow.lifted == Tryz.prog.liftsFinal) = true := by rw [show Rows.fnExactSumJoinRow.lifted = Rows.fnSumOfRow.lifted from rfl]; exact Facts.c11
theorem c12 : (Tryz.prog.make == some Rows.fnExactSumJoinRow.make) = true := by rw [show Rows.fnExactSumJoinRow.make = Rows.fnSumOfRow.make from rfl]; exact Facts.c12
theorem closed : joinedFacts Tryz.prog 26 Tryz.f26 Rows.fnExactSumJoinSpec Rows.fnExactSumJoinRow = true := by
  unfold joinedFacts
  repeat' (with_reducible apply Facts.band)
  all_goals (first | with_reducible exact Facts.c0 | with_reducible exact Facts.c1 | with_reducible exact Facts.c2 | with_reducible exact Facts.c3 | with_reducible exact Facts.c9 | with_reducible exact Facts.c10 | with_reducible exact c4 | with_reducible exact c5 | with_reducible exact c6 | with_reducible exact c7 | with_reducible exact c8 | with_reducible exact c11 | with_reducible exact c12 | kernel_rfl)
theorem over : Rows.fnExactSumJoinRow.holds Tryz.pinned (OpenSpec.ofChange Rows.fnExactSumJoinSpec) :=
  OpenClaim.holds_of_wide 26 Tryz.f26 rfl rfl rfl rfl rfl rfl rfl ⟨rfl, rfl, rfl, rfl, rfl⟩ rfl rfl rfl rfl rfl (by kernel_rfl) Tryz.func26 closed
    (of_decide_eq_true (by kernel_rfl)) (by unfold Func.isWrapper; first | (rw [if_pos (by decide +kernel)]; kernel_rfl) | (rw [if_neg (by decide +kernel)]; exact ⟨rfl, rfl⟩))
    (fun os started H enc _ => lifted os started H enc)
theorem proved : Rows.FnExactSumJoinSaid := over
#print axioms proved
end Go.Proofs.YtdgdoeknpakmlaaGreat.fnExactSumJoin
namespace Go.Proofs.YtdgdoeknpakmlaaGreat
/-- The row, under a short name. -/
theorem fnExactSumJoin_holds : Rows.FnExactSumJoinSaid := fnExactSumJoin.proved
end Go.Proofs.YtdgdoeknpakmlaaGreat
