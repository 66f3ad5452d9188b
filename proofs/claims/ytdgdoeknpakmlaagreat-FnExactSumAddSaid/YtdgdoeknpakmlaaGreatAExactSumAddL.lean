/- The law FnExactSumAdd, as the program's text has it, returns true at every input, and leaves its arguments as they read. No condition. -/
import Derived.Test.YtdgdoeknpakmlaaGreatRows
import Derived.Test.YtdgdoeknpakmlaaGreatBb7ca1f2a66
import Derived.WalkKit
import Derived.ProofKit
import Derived.OpenShut
import Derived.ShutString
import Derived.ChangeOld
import Derived.Below
import Derived.SizedLaws
namespace Go.Proofs.YtdgdoeknpakmlaaGreat.fnExactSumAdd
open Go.ChangeShapes Go.WideShapes Go.ChangeAt Go.RowKit Go.Proofs.YtdgdoeknpakmlaaGreat.Den
open Go.ChangeMaps (open_string shut_string)
set_option linter.unusedVariables false
set_option linter.unusedSimpArgs false
theorem own : ownKnob Tryz.prog.godebug = none := by kernel_rfl
theorem laidOut : laidOutB Tryz.prog = true := by kernel_rfl
theorem ty0 : tyOK Tryz.prog 9 99 (Kd.pair (.pair (.list (.list (.int .i64))) .unit) (.pair (.pair (.list (.int .i64)) .unit) (.pair (.pair (.list (.pair (.int .i64) (.pair (.int .i64) .unit))) (.pair (.int .i64) (.pair (.int .i64) .unit))) (.pair (.pair (.list (.pair (.int .i64) (.pair (.int .i64) .unit))) (.pair (.int .i64) .unit)) .unit)))) = true := by kernel_rfl
theorem sz0 : Tryz.prog.cellsOf 99 = Kd.sz (Kd.pair (.pair (.list (.list (.int .i64))) .unit) (.pair (.pair (.list (.int .i64)) .unit) (.pair (.pair (.list (.pair (.int .i64) (.pair (.int .i64) .unit))) (.pair (.int .i64) (.pair (.int .i64) .unit))) (.pair (.pair (.list (.pair (.int .i64) (.pair (.int .i64) .unit))) (.pair (.int .i64) .unit)) .unit)))) := by kernel_rfl
theorem ty1 : tyOK Tryz.prog 9 3 (Kd.int .i64) = true := by kernel_rfl
theorem sz1 : Tryz.prog.cellsOf 3 = Kd.sz (Kd.int .i64) := by kernel_rfl
set_option maxRecDepth 100000 in
theorem lifted (os : Os) (started : os.Started) (H : Type) (enc : TypeId × Value → H) :
    ReturnsInHanded {} Tryz.checked os 27 .any (Rows.fnExactSumAddSpec.pre6 enc Tryz.prog Tryz.f27 Rows.fnExactSumAddRow.domain false) (Rows.fnExactSumAddSpec.post enc Tryz.prog Tryz.f27 false true false false) := by
  refine returnsInHanded_of_change_sized (C := Tryz.checked) own started (by kernel_rfl) Tryz.func27
    (ChangeSpec.witness6 (enc := enc) (C := Tryz.checked) false ⟨#[], #[.agg #[.slice none 0 0, .slice none 0 0, .slice none 0 0, .int .i64 0, .int .i64 0, .slice none 0 0, .int .i64 0], .int .i64 0], []⟩ 8 (by kernel_rfl) (by kernel_rfl) (by kernel_rfl) (by kernel_rfl)) ?_
  intro W base args ds gs before hval0 hW hcnd hsz0 _
  have hval : ∀ (j : Nat) t v, Tryz.f27.params[j]? = some t → args[j]? = some v → Value.okWide Tryz.prog W .any base t v := hval0
  have hW' := hW
  obtain ⟨p, q, hA0, hV, rfl, hfz, hnd⟩ := hW
  have hA : DataW.TrodAll enc Tryz.prog W 0 (fun _ => true) true Tryz.f27.params.toList args.toList ds p := hA0
  rw [Tryz.params27] at hA hval
  obtain ⟨v0, vs0, d0, ds0, p0, q0, hargs, rfl, rfl, h0, r0⟩ := trodAll_cons hA
  obtain ⟨v1, vs1, d1, ds1, p1, q1, rfl, rfl, rfl, h1, r1⟩ := trodAll_cons r0
  obtain ⟨rfl, rfl, rfl⟩ := trodAll_nil r1
  obtain rfl : args = #[v0, v1] := by cases args; simp_all
  obtain ⟨rfl, rfl⟩ := trodVars_none hV
  obtain ⟨a0, rfl, _⟩ := okWide_struct Tryz.underlying99 (hval 0 99 v0 rfl rfl)
  have k0 := h0
  have lt0 : ∀ x ∈ p0, x.block < W.heap.size := by obtain ⟨m, hm⟩ := k0; exact DataW.trod_lt m _ _ _ hm
  obtain ⟨z0, g0, w0⟩ := zDb (Kd.pair (.pair (.list (.list (.int .i64))) .unit) (.pair (.pair (.list (.int .i64)) .unit) (.pair (.pair (.list (.pair (.int .i64) (.pair (.int .i64) .unit))) (.pair (.int .i64) (.pair (.int .i64) .unit))) (.pair (.pair (.list (.pair (.int .i64) (.pair (.int .i64) .unit))) (.pair (.int .i64) .unit)) .unit)))) ty0 sz0 h0 rfl
  obtain ⟨n1, rfl⟩ := okWide_int Tryz.underlying3 (hval 1 3 v1 rfl rfl)
  have k1 := h1
  have lt1 : ∀ x ∈ p1, x.block < W.heap.size := by obtain ⟨m, hm⟩ := k1; exact DataW.trod_lt m _ _ _ hm
  obtain ⟨z1, g1, w1⟩ := zDb (Kd.int .i64) ty1 sz1 h1 rfl
  clear hA0 hval0 hsz0
  rcases pureExactSumAdd z0 z1 w0 w1 with ⟨fuel, hfn⟩ | ⟨fuel, hfn⟩
  · have hps : PsRel W (fun b => b < W.heap.size ∧ ¬ False) zk8 (z0, (z1, ())) [.agg a0, .int .i64 n1] := ⟨_, _, rfl, ⟨_, rfl, g0⟩, ⟨_, _, rfl, g1, rfl⟩⟩
    refine (zDc (zOq fuel) hps hfn).mono fun e W' ⟨he, bel⟩ => ?_
    subst he
    exact ⟨_, rfl, _, _, _, [], _, [], hW', trodAll_mk1 (shut_bool Tryz.underlying4 _), (trodAll_cons_mk (Below.trod laidOut (by kernel_rfl) (of_decide_eq_true (by kernel_rfl)) k0 bel lt0) (trodAll_cons_mk (Below.trod laidOut (by kernel_rfl) (of_decide_eq_true (by kernel_rfl)) k1 bel lt1) trodAll_mk0)), rfl, bel.frame _, fun h => by cases h⟩
  · have hps : PsRel W (fun b => b < W.heap.size ∧ ¬ False) zla (z0, (z1, ())) [.agg a0, .int .i64 n1] := ⟨_, _, rfl, ⟨_, rfl, g0⟩, ⟨_, _, rfl, g1, rfl⟩⟩
    refine (zDc (zOu fuel) hps hfn).mono fun e W' ⟨he, bel⟩ => ?_
    subst he
    exact ⟨_, rfl, _, _, _, [], _, [], hW', trodAll_mk1 (shut_bool Tryz.underlying4 _), (trodAll_cons_mk (Below.trod laidOut (by kernel_rfl) (of_decide_eq_true (by kernel_rfl)) k0 bel lt0) (trodAll_cons_mk (Below.trod laidOut (by kernel_rfl) (of_decide_eq_true (by kernel_rfl)) k1 bel lt1) trodAll_mk0)), rfl, bel.frame _, fun h => by cases h⟩
theorem c4 : (Rows.fnExactSumAddRow.inPlace == Tryz.prog.inPlace 27) = true := by kernel_rfl
theorem c5 : (Rows.fnExactSumAddRow.unfollowed == Tryz.prog.unfollowed 27) = true := by kernel_rfl
theorem c6 : (Rows.fnExactSumAddRow.named == Tryz.prog.varsNamed 27) = true := by kernel_rfl
theorem c7 : (Rows.fnExactSumAddRow.recurses == Tryz.prog.recurses 27) = true := by kernel_rfl
theorem c8 : (Rows.fnExactSumAddRow.plainKeys == Tryz.prog.plainKeys) = true := by rw [show Rows.fnExactSumAddRow.plainKeys = Rows.fnSumOfRow.plainKeys from rfl]; exact Facts.c8
theorem c11 : (Rows.fnExactSumAddRow.lifted == Tryz.prog.liftsFinal) = true := by rw [show Rows.fnExactSumAddRow.lifted = Rows.fnSumOfRow.lifted from rfl]; exact Facts.c11
theorem c12 : (Tryz.prog.make == some Rows.fnExactSumAddRow.make) = true := by rw [show Rows.fnExactSumAddRow.make = Rows.fnSumOfRow.make from rfl]; exact Facts.c12
theorem closed : joinedFacts Tryz.prog 27 Tryz.f27 Rows.fnExactSumAddSpec Rows.fnExactSumAddRow = true := by
  unfold joinedFacts
  repeat' (with_reducible apply Facts.band)
  all_goals (first | with_reducible exact Facts.c0 | with_reducible exact Facts.c1 | with_reducible exact Facts.c2 | with_reducible exact Facts.c3 | with_reducible exact Facts.c9 | with_reducible exact Facts.c10 | with_reducible exact c4 | with_reducible exact c5 | with_reducible exact c6 | with_reducible exact c7 | with_reducible exact c8 | with_reducible exact c11 | with_reducible exact c12 | kernel_rfl)
theorem over : Rows.fnExactSumAddRow.holds Tryz.pinned (OpenSpec.ofChange Rows.fnExactSumAddSpec) :=
  OpenClaim.holds_of_wide 27 Tryz.f27 rfl rfl rfl rfl rfl rfl rfl ⟨rfl, rfl, rfl, rfl, rfl⟩ rfl rfl rfl rfl rfl (by kernel_rfl) Tryz.func27 closed
    (of_decide_eq_true (by kernel_rfl)) (by unfold Func.isWrapper; first | (rw [if_pos (by decide +kernel)]; kernel_rfl) | (rw [if_neg (by decide +kernel)]; exact ⟨rfl, rfl⟩))
    (fun os started H enc _ => lifted os started H enc)
theorem proved : Rows.FnExactSumAddSaid := over
#print axioms proved
end Go.Proofs.YtdgdoeknpakmlaaGreat.fnExactSumAdd
namespace Go.Proofs.YtdgdoeknpakmlaaGreat
/-- The row, under a short name. -/
theorem fnExactSumAdd_holds : Rows.FnExactSumAddSaid := fnExactSumAdd.proved
end Go.Proofs.YtdgdoeknpakmlaaGreat
