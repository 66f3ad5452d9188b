/- Part 5 of the texts behind the row. -/
import Derived.Test.YtmnkhjdbdenacaaAExactSumNew4
import Derived.Test.YtmnkhjdbdenacaaChecked
import Derived.KernelRfl
set_option linter.unusedVariables false
set_option linter.unusedSimpArgs false
namespace Go.Proofs.Ytmnkhjdbdenacaa.Den
open Go Go.RowKit
noncomputable def bodyOf (f : Func) : Code := match f.body with | some c => c | none => .skip
noncomputable def irOf (P : Program) (f : Func) (frz : List Nat) (ann : List Norm) (cuts : List (Nat × Norm)) : C := match lightC P frz f.ntmps ann cuts 0 (bodyOf f) with | some (c, _) => c | none => .skip
theorem mixed : Try.prog.follows .mixedOrders = true := Checked.mixed Try.checked
theorem entNil {P : Program} : ∀ p ∈ ([] : List (Nat × TE)), EntryOK P p.1 p.2 := fun _ h => nomatch h
theorem entCons {P : Program} {f : Nat} {te : TE} {l : List (Nat × TE)} (h : EntryOK P f te) (t : ∀ p ∈ l, EntryOK P p.1 p.2) : ∀ p ∈ (f, te) :: l, EntryOK P p.1 p.2 := List.forall_mem_cons.2 ⟨h, t⟩
theorem methNil {P : Program} : ∀ p ∈ ([] : List (Nat × String × Nat)), MethOK P p.1 p.2.1 p.2.2 := fun _ h => nomatch h
theorem isFn {P : Program} {f : Nat} {fn : Func} (h : P.funcs[f]? = some fn) (hn : decide (fn.name = "runtime.NumGoroutine") = false) (hb : fn.body.isSome = true) : ∃ fn, P.funcs[f]? = some fn ∧ fn.name ≠ "runtime.NumGoroutine" ∧ fn.body.isSome = true := ⟨fn, h, of_decide_eq_false hn, hb⟩
abbrev I6 : Kd := .int .i64
abbrev KP : Kd := .pair I6 (.pair I6 .unit)
abbrev LP := List (Int × (Int × Unit))
abbrev SumY := (List (List Int)) × ((List Int) × (LP × (Int × (Int × (LP × (Int × Unit))))))
def w64 (n : Int) : Int := IntKind.wrap .i64 n
def zz (n : Nat) : Int := (n : Int)
end Go.Proofs.Ytmnkhjdbdenacaa.Den
namespace Go.Proofs.Ytmnkhjdbdenacaa.Den
open Go Go.RowKit
set_option linter.unusedVariables false
set_option linter.unusedSimpArgs false
def spec_RoughNew_T (fuel : Nat) : Tab := Tab.of [] []
abbrev spec_RoughNew_ps : List Pm := []
abbrev spec_RoughNew_rs : List Pm := [{ cs := [(Kd.list (Kd.list I6), false)], ag := true }]
def spec_RoughNew_ann : List Norm := [{ live := [2, 1, 0], fix := [] }]
noncomputable def spec_RoughNew_c : C := irOf Try.prog Try.f9 [] spec_RoughNew_ann []
theorem spec_RoughNew_l : lightC Try.prog [] Try.f9.ntmps spec_RoughNew_ann [] 0 (bodyOf Try.f9) = some (spec_RoughNew_c, 1) := by kernel_rfl
def spec_RoughNew_rv : List (Nat × Option (Nat × Bool)) := [(0, some (1, true))]
def spec_RoughNew_pre (fuel : Nat)  : Option (((List (List Int)) × Unit) × Unit) :=
 some ((([List.replicate (Int.toNat (8 : Int)) 0, List.replicate (Int.toNat (8 : Int)) 0, List.replicate (Int.toNat (8 : Int)) 0], ()), ()))
def spec_RoughNew_fn (fuel : Nat) (x : Unit) : Option (((List (List Int)) × Unit) × Unit) := spec_RoughNew_pre fuel
theorem spec_RoughNew_run (fuel : Nat) (x : PsT spec_RoughNew_ps) : run (spec_RoughNew_T fuel) 0 (fuel + 6) spec_RoughNew_c (env0 (svPs spec_RoughNew_ps x) 0) [] (endF spec_RoughNew_rv spec_RoughNew_rs) = spec_RoughNew_fn fuel x := by kernel_rfl
def spec_RoughNew_tf (fuel : Nat) : TF := ⟨spec_RoughNew_ps, spec_RoughNew_rs, false, spec_RoughNew_fn fuel⟩
theorem spec_RoughNew_spec (fuel : Nat) : FnSpec Try.prog 9 (spec_RoughNew_tf fuel) :=
  fn_spec (T := spec_RoughNew_T fuel) (c := bodyOf Try.f9) (fn := Try.f9) (TabOK.of (entNil) (methNil)) mixed (by kernel_rfl) (by kernel_rfl) spec_RoughNew_l (by kernel_rfl) (Nat.le_of_ble_eq_true (by kernel_rfl)) (rv := spec_RoughNew_rv) (by kernel_rfl) (spec_RoughNew_run fuel)
theorem spec_RoughNew_ok (fuel : Nat) : EntryOK Try.prog 9 (spec_RoughNew_tf fuel).te := EntryOK.tf rfl (spec_RoughNew_spec fuel) (isFn (fn := Try.f9) (by kernel_rfl) (by kernel_rfl) (by kernel_rfl))
def spec_SumNew_T (fuel : Nat) : Tab := Tab.of [(9, (spec_RoughNew_tf fuel).te)] []
abbrev spec_SumNew_ps : List Pm := []
abbrev spec_SumNew_rs : List Pm := [{ cs := [(Kd.list (Kd.list I6), false), (Kd.list I6, true), (Kd.list KP, true), (I6, false), (I6, false), (Kd.list KP, true), (I6, false)], ag := true }]
def spec_SumNew_ann : List Norm := []
noncomputable def spec_SumNew_c : C := irOf Try.prog Try.f4 [] spec_SumNew_ann []
theorem spec_SumNew_l : lightC Try.prog [] Try.f4.ntmps spec_SumNew_ann [] 0 (bodyOf Try.f4) = some (spec_SumNew_c, 0) := by kernel_rfl
def spec_SumNew_rv : List (Nat × Option (Nat × Bool)) := [(0, some (7, true))]
def spec_SumNew_pre (fuel : Nat)  : Option (SumY × Unit) :=
 Option.bind (spec_RoughNew_fn fuel ()) fun y_1 =>
 some (((y_1.1.1, [], [], (0 : Int), (0 : Int), [], (0 : Int), ()), ()))
def spec_SumNew_fn (fuel : Nat) (x : Unit) : Option (SumY × Unit) := spec_SumNew_pre fuel
theorem spec_SumNew_run (fuel : Nat) (x : PsT spec_SumNew_ps) : run (spec_SumNew_T fuel) 0 fuel spec_SumNew_c (env0 (svPs spec_SumNew_ps x) 0) [] (endF spec_SumNew_rv spec_SumNew_rs) = spec_SumNew_fn fuel x := by kernel_rfl
def spec_SumNew_tf (fuel : Nat) : TF := ⟨spec_SumNew_ps, spec_SumNew_rs, false, spec_SumNew_fn fuel⟩
theorem spec_SumNew_spec (fuel : Nat) : FnSpec Try.prog 4 (spec_SumNew_tf fuel) :=
  fn_spec (T := spec_SumNew_T fuel) (c := bodyOf Try.f4) (fn := Try.f4) (TabOK.of (entCons (spec_RoughNew_ok fuel) entNil) (methNil)) mixed (by kernel_rfl) (by kernel_rfl) spec_SumNew_l (by kernel_rfl) (Nat.le_of_ble_eq_true (by kernel_rfl)) (rv := spec_SumNew_rv) (by kernel_rfl) (spec_SumNew_run fuel)
theorem spec_SumNew_ok (fuel : Nat) : EntryOK Try.prog 4 (spec_SumNew_tf fuel).te := EntryOK.tf rfl (spec_SumNew_spec fuel) (isFn (fn := Try.f4) (by kernel_rfl) (by kernel_rfl) (by kernel_rfl))
def impl_RoughNew_x0_T (fuel : Nat) : Tab := Tab.of [] []
def impl_RoughNew_x0_ann : List Norm := [{ live := [6, 5, 1, 0], fix := [] }]
noncomputable def impl_RoughNew_x0_c : C := irOf Try.prog Try.f10 [3] impl_RoughNew_x0_ann []
theorem impl_RoughNew_x0_l : lightC Try.prog [3] Try.f10.ntmps impl_RoughNew_x0_ann [] 0 (bodyOf Try.f10) = some (impl_RoughNew_x0_c, 1) := by kernel_rfl
def impl_RoughNew_x0_rv : List (Nat × Option (Nat × Bool)) := [(0, some (1, true))]
noncomputable def impl_RoughNew_x0_ie (fuel : Nat) : IE := inlIE 0 (impl_RoughNew_x0_T fuel) (fuel + 6) impl_RoughNew_x0_c impl_RoughNew_x0_rv
theorem impl_RoughNew_x0_ok (fuel : Nat) : ISound Try.prog 10 (impl_RoughNew_x0_ie fuel) :=
  inl_sound (T := impl_RoughNew_x0_T fuel) (c := bodyOf Try.f10) (fn := Try.f10) (TabOK.of (entNil) (methNil)) mixed (by kernel_rfl) (by kernel_rfl) impl_RoughNew_x0_l (by kernel_rfl) (Nat.le_of_ble_eq_true (by kernel_rfl)) (rv := impl_RoughNew_x0_rv) (by kernel_rfl) (isFn (fn := Try.f10) (by kernel_rfl) (by kernel_rfl) (by kernel_rfl))
noncomputable def impl_SumNew_x0_T (fuel : Nat) : Tab := Tab.ofI [] [] [(10, impl_RoughNew_x0_ie fuel)]
def impl_SumNew_x0_ann : List Norm := []
noncomputable def impl_SumNew_x0_c : C := irOf Try.prog Try.f5 [1] impl_SumNew_x0_ann []
theorem impl_SumNew_x0_l : lightC Try.prog [1] Try.f5.ntmps impl_SumNew_x0_ann [] 0 (bodyOf Try.f5) = some (impl_SumNew_x0_c, 0) := by kernel_rfl
def impl_SumNew_x0_rv : List (Nat × Option (Nat × Bool)) := [(0, some (7, true))]
noncomputable def impl_SumNew_x0_ie (fuel : Nat) : IE := inlIE 0 (impl_SumNew_x0_T fuel) fuel impl_SumNew_x0_c impl_SumNew_x0_rv
theorem impl_SumNew_x0_ok (fuel : Nat) : ISound Try.prog 5 (impl_SumNew_x0_ie fuel) :=
  inl_sound (T := impl_SumNew_x0_T fuel) (c := bodyOf Try.f5) (fn := Try.f5) (TabOK.ofI (entNil) (methNil) (inlCons (impl_RoughNew_x0_ok fuel) (inlNil))) mixed (by kernel_rfl) (by kernel_rfl) impl_SumNew_x0_l (by kernel_rfl) (Nat.le_of_ble_eq_true (by kernel_rfl)) (rv := impl_SumNew_x0_rv) (by kernel_rfl) (isFn (fn := Try.f5) (by kernel_rfl) (by kernel_rfl) (by kernel_rfl))
def laws_eqIntS_T (fuel : Nat) : Tab := Tab.of [] []
abbrev laws_eqIntS_ps : List Pm := [{ cs := [(Kd.list I6, false)], ag := false }, { cs := [(Kd.list I6, false)], ag := false }]
abbrev laws_eqIntS_rs : List Pm := [{ cs := [(Kd.bool, false)], ag := false }]
def laws_eqIntS_ann : List Norm := [{ live := [5, 0, 1], fix := [] }]
noncomputable def laws_eqIntS_c : C := irOf Try.prog Try.f24 [] laws_eqIntS_ann []
theorem laws_eqIntS_l : lightC Try.prog [] Try.f24.ntmps laws_eqIntS_ann [] 0 (bodyOf Try.f24) = some (laws_eqIntS_c, 1) := by kernel_rfl
def laws_eqIntS_rv : List (Nat × Option (Nat × Bool)) := [(4, none)]
abbrev laws_eqIntS_V0 := (Int) × (List Int) × (List Int)
def laws_eqIntS_enc0 (v : laws_eqIntS_V0) : Env × Heap := ([(5, SV.int .i64 v.1), (0, SV.es I6 v.2.1), (1, SV.es I6 v.2.2)], [])
def laws_eqIntS_step0 (fuel : Nat) (g0 : laws_eqIntS_V0 → Option ((Bool × Unit) × Unit)) (v : laws_eqIntS_V0) : Option ((Bool × Unit) × Unit) :=
 cond (decide (v.1 < (zz (List.length v.2.1))))
 (tst (decide (0 ≤ v.1)) <|
  tst (decide (v.1 < (zz (List.length v.2.1)))) <|
  tst (decide (0 ≤ v.1)) <|
  tst (decide (v.1 < (zz (List.length v.2.2)))) <|
  cond (List.getD v.2.1 (Int.toNat v.1) 0 != List.getD v.2.2 (Int.toNat v.1) 0)
  (some (((false, ()), ())))
  (g0 (w64 (v.1 + (1 : Int)), v.2.1, v.2.2)))
 (some (((true, ()), ())))
def laws_eqIntS_st0 (fuel : Nat) (g0 : laws_eqIntS_V0 → Option ((Bool × Unit) × Unit)) : laws_eqIntS_V0 → Option ((Bool × Unit) × Unit) := laws_eqIntS_step0 fuel g0
theorem laws_eqIntS_lp0 (fuel : Nat) (G) : laws_eqIntS_c.lp (laws_eqIntS_T fuel) 0 fuel G (endF laws_eqIntS_rv laws_eqIntS_rs) 0 laws_eqIntS_enc0 = iter (laws_eqIntS_st0 fuel) fuel := C.lp_iter fun g v => by kernel_rfl
def laws_eqIntS_pre (fuel : Nat) (X0 : laws_eqIntS_V0 → Option ((Bool × Unit) × Unit)) (x0 : List Int) (x1 : List Int) : Option ((Bool × Unit) × Unit) :=
 cond ((zz (List.length x0)) != (zz (List.length x1)))
 (some (((false, ()), ())))
 (X0 ((0 : Int), x0, x1))
def laws_eqIntS_fn (fuel : Nat) (x : (((List Int) × Unit) × (((List Int) × Unit) × Unit))) : Option ((Bool × Unit) × Unit) := laws_eqIntS_pre fuel (iter (laws_eqIntS_st0 fuel) fuel) x.1.1 x.2.1.1
theorem laws_eqIntS_run (fuel : Nat) (x : PsT laws_eqIntS_ps) : run (laws_eqIntS_T fuel) 0 fuel laws_eqIntS_c (env0 (svPs laws_eqIntS_ps x) 0) [] (endF laws_eqIntS_rv laws_eqIntS_rs) = laws_eqIntS_fn fuel x :=
  (show run (laws_eqIntS_T fuel) 0 fuel laws_eqIntS_c (env0 (svPs laws_eqIntS_ps x) 0) [] (endF laws_eqIntS_rv laws_eqIntS_rs) = laws_eqIntS_pre fuel (laws_eqIntS_c.lp (laws_eqIntS_T fuel) 0 fuel (fun _ _ _ => none) (endF laws_eqIntS_rv laws_eqIntS_rs) 0 laws_eqIntS_enc0) x.1.1 x.2.1.1 by kernel_rfl).trans (by rw [laws_eqIntS_lp0]; rfl)
def laws_eqIntS_tf (fuel : Nat) : TF := ⟨laws_eqIntS_ps, laws_eqIntS_rs, true, laws_eqIntS_fn fuel⟩
theorem laws_eqIntS_spec (fuel : Nat) : FnSpec Try.prog 24 (laws_eqIntS_tf fuel) :=
  fn_spec (T := laws_eqIntS_T fuel) (c := bodyOf Try.f24) (fn := Try.f24) (TabOK.of (entNil) (methNil)) mixed (by kernel_rfl) (by kernel_rfl) laws_eqIntS_l (by kernel_rfl) (Nat.le_of_ble_eq_true (by kernel_rfl)) (rv := laws_eqIntS_rv) (by kernel_rfl) (laws_eqIntS_run fuel)
theorem laws_eqIntS_ok (fuel : Nat) : EntryOK Try.prog 24 (laws_eqIntS_tf fuel).te := EntryOK.tf rfl (laws_eqIntS_spec fuel) (isFn (fn := Try.f24) (by kernel_rfl) (by kernel_rfl) (by kernel_rfl))
def laws_eqIntSS_T (fuel : Nat) : Tab := Tab.of [(24, (laws_eqIntS_tf fuel).te)] []
abbrev laws_eqIntSS_ps : List Pm := [{ cs := [(Kd.list (Kd.list I6), false)], ag := false }, { cs := [(Kd.list (Kd.list I6), false)], ag := false }]
abbrev laws_eqIntSS_rs : List Pm := [{ cs := [(Kd.bool, false)], ag := false }]
def laws_eqIntSS_ann : List Norm := [{ live := [5, 0, 1], fix := [] }]
noncomputable def laws_eqIntSS_c : C := irOf Try.prog Try.f23 [] laws_eqIntSS_ann []
theorem laws_eqIntSS_l : lightC Try.prog [] Try.f23.ntmps laws_eqIntSS_ann [] 0 (bodyOf Try.f23) = some (laws_eqIntSS_c, 1) := by kernel_rfl
def laws_eqIntSS_rv : List (Nat × Option (Nat × Bool)) := [(4, none)]
abbrev laws_eqIntSS_V0 := (Int) × (List (List Int)) × (List (List Int))
def laws_eqIntSS_enc0 (v : laws_eqIntSS_V0) : Env × Heap := ([(5, SV.int .i64 v.1), (0, SV.es (Kd.list I6) v.2.1), (1, SV.es (Kd.list I6) v.2.2)], [])
def laws_eqIntSS_step0 (fuel : Nat) (g0 : laws_eqIntSS_V0 → Option ((Bool × Unit) × Unit)) (v : laws_eqIntSS_V0) : Option ((Bool × Unit) × Unit) :=
 cond (decide (v.1 < (zz (List.length v.2.1))))
 (tst (decide (0 ≤ v.1)) <|
  tst (decide (v.1 < (zz (List.length v.2.1)))) <|
  tst (decide (0 ≤ v.1)) <|
  tst (decide (v.1 < (zz (List.length v.2.2)))) <|
  Option.bind (laws_eqIntS_fn fuel ((List.getD v.2.1 (Int.toNat v.1) [], ()), (List.getD v.2.2 (Int.toNat v.1) [], ()), ())) fun y_2 =>
  cond (!y_2.1.1)
   (some (((false, ()), ())))
   (g0 (w64 (v.1 + (1 : Int)), v.2.1, v.2.2)))
 (some (((true, ()), ())))
def laws_eqIntSS_st0 (fuel : Nat) (g0 : laws_eqIntSS_V0 → Option ((Bool × Unit) × Unit)) : laws_eqIntSS_V0 → Option ((Bool × Unit) × Unit) := laws_eqIntSS_step0 fuel g0
theorem laws_eqIntSS_lp0 (fuel : Nat) (G) : laws_eqIntSS_c.lp (laws_eqIntSS_T fuel) 0 fuel G (endF laws_eqIntSS_rv laws_eqIntSS_rs) 0 laws_eqIntSS_enc0 = iter (laws_eqIntSS_st0 fuel) fuel := C.lp_iter fun g v => by kernel_rfl
def laws_eqIntSS_pre (fuel : Nat) (X0 : laws_eqIntSS_V0 → Option ((Bool × Unit) × Unit)) (x0 : List (List Int)) (x1 : List (List Int)) : Option ((Bool × Unit) × Unit) :=
 cond ((zz (List.length x0)) != (zz (List.length x1)))
 (some (((false, ()), ())))
 (X0 ((0 : Int), x0, x1))
def laws_eqIntSS_fn (fuel : Nat) (x : (((List (List Int)) × Unit) × (((List (List Int)) × Unit) × Unit))) : Option ((Bool × Unit) × Unit) := laws_eqIntSS_pre fuel (iter (laws_eqIntSS_st0 fuel) fuel) x.1.1 x.2.1.1
theorem laws_eqIntSS_run (fuel : Nat) (x : PsT laws_eqIntSS_ps) : run (laws_eqIntSS_T fuel) 0 fuel laws_eqIntSS_c (env0 (svPs laws_eqIntSS_ps x) 0) [] (endF laws_eqIntSS_rv laws_eqIntSS_rs) = laws_eqIntSS_fn fuel x :=
  (show run (laws_eqIntSS_T fuel) 0 fuel laws_eqIntSS_c (env0 (svPs laws_eqIntSS_ps x) 0) [] (endF laws_eqIntSS_rv laws_eqIntSS_rs) = laws_eqIntSS_pre fuel (laws_eqIntSS_c.lp (laws_eqIntSS_T fuel) 0 fuel (fun _ _ _ => none) (endF laws_eqIntSS_rv laws_eqIntSS_rs) 0 laws_eqIntSS_enc0) x.1.1 x.2.1.1 by kernel_rfl).trans (by rw [laws_eqIntSS_lp0]; rfl)
def laws_eqIntSS_tf (fuel : Nat) : TF := ⟨laws_eqIntSS_ps, laws_eqIntSS_rs, true, laws_eqIntSS_fn fuel⟩
theorem laws_eqIntSS_spec (fuel : Nat) : FnSpec Try.prog 23 (laws_eqIntSS_tf fuel) :=
  fn_spec (T := laws_eqIntSS_T fuel) (c := bodyOf Try.f23) (fn := Try.f23) (TabOK.of (entCons (laws_eqIntS_ok fuel) entNil) (methNil)) mixed (by kernel_rfl) (by kernel_rfl) laws_eqIntSS_l (by kernel_rfl) (Nat.le_of_ble_eq_true (by kernel_rfl)) (rv := laws_eqIntSS_rv) (by kernel_rfl) (laws_eqIntSS_run fuel)
theorem laws_eqIntSS_ok (fuel : Nat) : EntryOK Try.prog 23 (laws_eqIntSS_tf fuel).te := EntryOK.tf rfl (laws_eqIntSS_spec fuel) (isFn (fn := Try.f23) (by kernel_rfl) (by kernel_rfl) (by kernel_rfl))
def laws_eqRough_T (fuel : Nat) : Tab := Tab.of [(23, (laws_eqIntSS_tf fuel).te)] []
abbrev laws_eqRough_ps : List Pm := [{ cs := [(Kd.list (Kd.list I6), false)], ag := true }, { cs := [(Kd.list (Kd.list I6), false)], ag := true }]
abbrev laws_eqRough_rs : List Pm := [{ cs := [(Kd.bool, false)], ag := false }]
def laws_eqRough_ann : List Norm := []
noncomputable def laws_eqRough_c : C := irOf Try.prog Try.f11 [] laws_eqRough_ann []
theorem laws_eqRough_l : lightC Try.prog [] Try.f11.ntmps laws_eqRough_ann [] 0 (bodyOf Try.f11) = some (laws_eqRough_c, 0) := by kernel_rfl
def laws_eqRough_rv : List (Nat × Option (Nat × Bool)) := [(4, none)]
def laws_eqRough_pre (fuel : Nat) (x0 : List (List Int)) (x1 : List (List Int)) : Option ((Bool × Unit) × Unit) :=
 Option.bind (laws_eqIntSS_fn fuel ((x0, ()), (x1, ()), ())) fun y_1 =>
 cond (!y_1.1.1)
  (some (((false, ()), ())))
  (some (((true, ()), ())))
def laws_eqRough_fn (fuel : Nat) (x : (((List (List Int)) × Unit) × (((List (List Int)) × Unit) × Unit))) : Option ((Bool × Unit) × Unit) := laws_eqRough_pre fuel x.1.1 x.2.1.1
theorem laws_eqRough_run (fuel : Nat) (x : PsT laws_eqRough_ps) : run (laws_eqRough_T fuel) 0 fuel laws_eqRough_c (env0 (svPs laws_eqRough_ps x) 0) [] (endF laws_eqRough_rv laws_eqRough_rs) = laws_eqRough_fn fuel x := by kernel_rfl
def laws_eqRough_tf (fuel : Nat) : TF := ⟨laws_eqRough_ps, laws_eqRough_rs, true, laws_eqRough_fn fuel⟩
theorem laws_eqRough_spec (fuel : Nat) : FnSpec Try.prog 11 (laws_eqRough_tf fuel) :=
  fn_spec (T := laws_eqRough_T fuel) (c := bodyOf Try.f11) (fn := Try.f11) (TabOK.of (entCons (laws_eqIntSS_ok fuel) entNil) (methNil)) mixed (by kernel_rfl) (by kernel_rfl) laws_eqRough_l (by kernel_rfl) (Nat.le_of_ble_eq_true (by kernel_rfl)) (rv := laws_eqRough_rv) (by kernel_rfl) (laws_eqRough_run fuel)
theorem laws_eqRough_ok (fuel : Nat) : EntryOK Try.prog 11 (laws_eqRough_tf fuel).te := EntryOK.tf rfl (laws_eqRough_spec fuel) (isFn (fn := Try.f11) (by kernel_rfl) (by kernel_rfl) (by kernel_rfl))
def laws_eqFew_T (fuel : Nat) : Tab := Tab.of [(24, (laws_eqIntS_tf fuel).te)] []
abbrev laws_eqFew_ps : List Pm := [{ cs := [(Kd.list I6, false)], ag := true }, { cs := [(Kd.list I6, false)], ag := true }]
abbrev laws_eqFew_rs : List Pm := [{ cs := [(Kd.bool, false)], ag := false }]
def laws_eqFew_ann : List Norm := []
noncomputable def laws_eqFew_c : C := irOf Try.prog Try.f12 [] laws_eqFew_ann []
theorem laws_eqFew_l : lightC Try.prog [] Try.f12.ntmps laws_eqFew_ann [] 0 (bodyOf Try.f12) = some (laws_eqFew_c, 0) := by kernel_rfl
def laws_eqFew_rv : List (Nat × Option (Nat × Bool)) := [(4, none)]
def laws_eqFew_pre (fuel : Nat) (x0 : List Int) (x1 : List Int) : Option ((Bool × Unit) × Unit) :=
 Option.bind (laws_eqIntS_fn fuel ((x0, ()), (x1, ()), ())) fun y_1 =>
 cond (!y_1.1.1)
  (some (((false, ()), ())))
  (some (((true, ()), ())))
def laws_eqFew_fn (fuel : Nat) (x : (((List Int) × Unit) × (((List Int) × Unit) × Unit))) : Option ((Bool × Unit) × Unit) := laws_eqFew_pre fuel x.1.1 x.2.1.1
theorem laws_eqFew_run (fuel : Nat) (x : PsT laws_eqFew_ps) : run (laws_eqFew_T fuel) 0 fuel laws_eqFew_c (env0 (svPs laws_eqFew_ps x) 0) [] (endF laws_eqFew_rv laws_eqFew_rs) = laws_eqFew_fn fuel x := by kernel_rfl
def laws_eqFew_tf (fuel : Nat) : TF := ⟨laws_eqFew_ps, laws_eqFew_rs, true, laws_eqFew_fn fuel⟩
theorem laws_eqFew_spec (fuel : Nat) : FnSpec Try.prog 12 (laws_eqFew_tf fuel) :=
  fn_spec (T := laws_eqFew_T fuel) (c := bodyOf Try.f12) (fn := Try.f12) (TabOK.of (entCons (laws_eqIntS_ok fuel) entNil) (methNil)) mixed (by kernel_rfl) (by kernel_rfl) laws_eqFew_l (by kernel_rfl) (Nat.le_of_ble_eq_true (by kernel_rfl)) (rv := laws_eqFew_rv) (by kernel_rfl) (laws_eqFew_run fuel)
theorem laws_eqFew_ok (fuel : Nat) : EntryOK Try.prog 12 (laws_eqFew_tf fuel).te := EntryOK.tf rfl (laws_eqFew_spec fuel) (isFn (fn := Try.f12) (by kernel_rfl) (by kernel_rfl) (by kernel_rfl))
def laws_eqPair_T (fuel : Nat) : Tab := Tab.of [] []
abbrev laws_eqPair_ps : List Pm := [{ cs := [(I6, false), (I6, false)], ag := true }, { cs := [(I6, false), (I6, false)], ag := true }]
abbrev laws_eqPair_rs : List Pm := [{ cs := [(Kd.bool, false)], ag := false }]
def laws_eqPair_ann : List Norm := []
noncomputable def laws_eqPair_c : C := irOf Try.prog Try.f35 [] laws_eqPair_ann []
theorem laws_eqPair_l : lightC Try.prog [] Try.f35.ntmps laws_eqPair_ann [] 0 (bodyOf Try.f35) = some (laws_eqPair_c, 0) := by kernel_rfl
def laws_eqPair_rv : List (Nat × Option (Nat × Bool)) := [(4, none)]
def laws_eqPair_pre (fuel : Nat) (x0 : Int) (x1 : Int) (x2 : Int) (x3 : Int) : Option ((Bool × Unit) × Unit) :=
 cond (x0 != x2)
 (some (((false, ()), ())))
 (cond (x1 != x3)
  (some (((false, ()), ())))
  (some (((true, ()), ()))))
def laws_eqPair_fn (fuel : Nat) (x : ((Int × (Int × Unit)) × ((Int × (Int × Unit)) × Unit))) : Option ((Bool × Unit) × Unit) := laws_eqPair_pre fuel x.1.1 x.1.2.1 x.2.1.1 x.2.1.2.1
theorem laws_eqPair_run (fuel : Nat) (x : PsT laws_eqPair_ps) : run (laws_eqPair_T fuel) 0 fuel laws_eqPair_c (env0 (svPs laws_eqPair_ps x) 0) [] (endF laws_eqPair_rv laws_eqPair_rs) = laws_eqPair_fn fuel x := by kernel_rfl
def laws_eqPair_tf (fuel : Nat) : TF := ⟨laws_eqPair_ps, laws_eqPair_rs, true, laws_eqPair_fn fuel⟩
theorem laws_eqPair_spec (fuel : Nat) : FnSpec Try.prog 35 (laws_eqPair_tf fuel) :=
  fn_spec (T := laws_eqPair_T fuel) (c := bodyOf Try.f35) (fn := Try.f35) (TabOK.of (entNil) (methNil)) mixed (by kernel_rfl) (by kernel_rfl) laws_eqPair_l (by kernel_rfl) (Nat.le_of_ble_eq_true (by kernel_rfl)) (rv := laws_eqPair_rv) (by kernel_rfl) (laws_eqPair_run fuel)
theorem laws_eqPair_ok (fuel : Nat) : EntryOK Try.prog 35 (laws_eqPair_tf fuel).te := EntryOK.tf rfl (laws_eqPair_spec fuel) (isFn (fn := Try.f35) (by kernel_rfl) (by kernel_rfl) (by kernel_rfl))
def laws_eqPairS_T (fuel : Nat) : Tab := Tab.of [(35, (laws_eqPair_tf fuel).te)] []
abbrev laws_eqPairS_ps : List Pm := [{ cs := [(Kd.list KP, false)], ag := false }, { cs := [(Kd.list KP, false)], ag := false }]
abbrev laws_eqPairS_rs : List Pm := [{ cs := [(Kd.bool, false)], ag := false }]
def laws_eqPairS_ann : List Norm := [{ live := [5, 0, 1], fix := [] }]
noncomputable def laws_eqPairS_c : C := irOf Try.prog Try.f25 [] laws_eqPairS_ann []
theorem laws_eqPairS_l : lightC Try.prog [] Try.f25.ntmps laws_eqPairS_ann [] 0 (bodyOf Try.f25) = some (laws_eqPairS_c, 1) := by kernel_rfl
def laws_eqPairS_rv : List (Nat × Option (Nat × Bool)) := [(4, none)]
abbrev laws_eqPairS_V0 := (Int) × LP × LP
def laws_eqPairS_enc0 (v : laws_eqPairS_V0) : Env × Heap := ([(5, SV.int .i64 v.1), (0, SV.es KP v.2.1), (1, SV.es KP v.2.2)], [])
def laws_eqPairS_step0 (fuel : Nat) (g0 : laws_eqPairS_V0 → Option ((Bool × Unit) × Unit)) (v : laws_eqPairS_V0) : Option ((Bool × Unit) × Unit) :=
 cond (decide (v.1 < (zz (List.length v.2.1))))
 (tst (decide (0 ≤ v.1)) <|
  tst (decide (v.1 < (zz (List.length v.2.1)))) <|
  tst (decide (0 ≤ v.1)) <|
  tst (decide (v.1 < (zz (List.length v.2.2)))) <|
  Option.bind (laws_eqPair_fn fuel (((List.getD v.2.1 (Int.toNat v.1) (0, (0, ()))).1, (List.getD v.2.1 (Int.toNat v.1) (0, (0, ()))).2.1, ()), ((List.getD v.2.2 (Int.toNat v.1) (0, (0, ()))).1, (List.getD v.2.2 (Int.toNat v.1) (0, (0, ()))).2.1, ()), ())) fun y_2 =>
  cond (!y_2.1.1)
   (some (((false, ()), ())))
   (g0 (w64 (v.1 + (1 : Int)), v.2.1, v.2.2)))
 (some (((true, ()), ())))
def laws_eqPairS_st0 (fuel : Nat) (g0 : laws_eqPairS_V0 → Option ((Bool × Unit) × Unit)) : laws_eqPairS_V0 → Option ((Bool × Unit) × Unit) := laws_eqPairS_step0 fuel g0
theorem laws_eqPairS_lp0 (fuel : Nat) (G) : laws_eqPairS_c.lp (laws_eqPairS_T fuel) 0 fuel G (endF laws_eqPairS_rv laws_eqPairS_rs) 0 laws_eqPairS_enc0 = iter (laws_eqPairS_st0 fuel) fuel := C.lp_iter fun g v => by kernel_rfl
def laws_eqPairS_pre (fuel : Nat) (X0 : laws_eqPairS_V0 → Option ((Bool × Unit) × Unit)) (x0 : LP) (x1 : LP) : Option ((Bool × Unit) × Unit) :=
 cond ((zz (List.length x0)) != (zz (List.length x1)))
 (some (((false, ()), ())))
 (X0 ((0 : Int), x0, x1))
def laws_eqPairS_fn (fuel : Nat) (x : ((LP × Unit) × ((LP × Unit) × Unit))) : Option ((Bool × Unit) × Unit) := laws_eqPairS_pre fuel (iter (laws_eqPairS_st0 fuel) fuel) x.1.1 x.2.1.1
theorem laws_eqPairS_run (fuel : Nat) (x : PsT laws_eqPairS_ps) : run (laws_eqPairS_T fuel) 0 fuel laws_eqPairS_c (env0 (svPs laws_eqPairS_ps x) 0) [] (endF laws_eqPairS_rv laws_eqPairS_rs) = laws_eqPairS_fn fuel x :=
  (show run (laws_eqPairS_T fuel) 0 fuel laws_eqPairS_c (env0 (svPs laws_eqPairS_ps x) 0) [] (endF laws_eqPairS_rv laws_eqPairS_rs) = laws_eqPairS_pre fuel (laws_eqPairS_c.lp (laws_eqPairS_T fuel) 0 fuel (fun _ _ _ => none) (endF laws_eqPairS_rv laws_eqPairS_rs) 0 laws_eqPairS_enc0) x.1.1 x.2.1.1 by kernel_rfl).trans (by rw [laws_eqPairS_lp0]; rfl)
def laws_eqPairS_tf (fuel : Nat) : TF := ⟨laws_eqPairS_ps, laws_eqPairS_rs, true, laws_eqPairS_fn fuel⟩
theorem laws_eqPairS_spec (fuel : Nat) : FnSpec Try.prog 25 (laws_eqPairS_tf fuel) :=
  fn_spec (T := laws_eqPairS_T fuel) (c := bodyOf Try.f25) (fn := Try.f25) (TabOK.of (entCons (laws_eqPair_ok fuel) entNil) (methNil)) mixed (by kernel_rfl) (by kernel_rfl) laws_eqPairS_l (by kernel_rfl) (Nat.le_of_ble_eq_true (by kernel_rfl)) (rv := laws_eqPairS_rv) (by kernel_rfl) (laws_eqPairS_run fuel)
theorem laws_eqPairS_ok (fuel : Nat) : EntryOK Try.prog 25 (laws_eqPairS_tf fuel).te := EntryOK.tf rfl (laws_eqPairS_spec fuel) (isFn (fn := Try.f25) (by kernel_rfl) (by kernel_rfl) (by kernel_rfl))
def laws_eqTop_T (fuel : Nat) : Tab := Tab.of [(25, (laws_eqPairS_tf fuel).te)] []
abbrev laws_eqTop_ps : List Pm := [{ cs := [(Kd.list KP, false), (I6, false), (I6, false)], ag := true }, { cs := [(Kd.list KP, false), (I6, false), (I6, false)], ag := true }]
abbrev laws_eqTop_rs : List Pm := [{ cs := [(Kd.bool, false)], ag := false }]
def laws_eqTop_ann : List Norm := []
noncomputable def laws_eqTop_c : C := irOf Try.prog Try.f13 [] laws_eqTop_ann []
theorem laws_eqTop_l : lightC Try.prog [] Try.f13.ntmps laws_eqTop_ann [] 0 (bodyOf Try.f13) = some (laws_eqTop_c, 0) := by kernel_rfl
def laws_eqTop_rv : List (Nat × Option (Nat × Bool)) := [(4, none)]
def laws_eqTop_pre (fuel : Nat) (x0 : LP) (x1 : Int) (x2 : Int) (x3 : LP) (x4 : Int) (x5 : Int) : Option ((Bool × Unit) × Unit) :=
 Option.bind (laws_eqPairS_fn fuel ((x0, ()), (x3, ()), ())) fun y_1 =>
 cond (!y_1.1.1)
  (some (((false, ()), ())))
  (cond (x1 != x4)
   (some (((false, ()), ())))
   (cond (x2 != x5)
    (some (((false, ()), ())))
    (some (((true, ()), ())))))
def laws_eqTop_fn (fuel : Nat) (x : ((LP × (Int × (Int × Unit))) × ((LP × (Int × (Int × Unit))) × Unit))) : Option ((Bool × Unit) × Unit) := laws_eqTop_pre fuel x.1.1 x.1.2.1 x.1.2.2.1 x.2.1.1 x.2.1.2.1 x.2.1.2.2.1
theorem laws_eqTop_run (fuel : Nat) (x : PsT laws_eqTop_ps) : run (laws_eqTop_T fuel) 0 fuel laws_eqTop_c (env0 (svPs laws_eqTop_ps x) 0) [] (endF laws_eqTop_rv laws_eqTop_rs) = laws_eqTop_fn fuel x := by kernel_rfl
def laws_eqTop_tf (fuel : Nat) : TF := ⟨laws_eqTop_ps, laws_eqTop_rs, true, laws_eqTop_fn fuel⟩
theorem laws_eqTop_spec (fuel : Nat) : FnSpec Try.prog 13 (laws_eqTop_tf fuel) :=
  fn_spec (T := laws_eqTop_T fuel) (c := bodyOf Try.f13) (fn := Try.f13) (TabOK.of (entCons (laws_eqPairS_ok fuel) entNil) (methNil)) mixed (by kernel_rfl) (by kernel_rfl) laws_eqTop_l (by kernel_rfl) (Nat.le_of_ble_eq_true (by kernel_rfl)) (rv := laws_eqTop_rv) (by kernel_rfl) (laws_eqTop_run fuel)
theorem laws_eqTop_ok (fuel : Nat) : EntryOK Try.prog 13 (laws_eqTop_tf fuel).te := EntryOK.tf rfl (laws_eqTop_spec fuel) (isFn (fn := Try.f13) (by kernel_rfl) (by kernel_rfl) (by kernel_rfl))
def laws_eqKnot_T (fuel : Nat) : Tab := Tab.of [] []
abbrev laws_eqKnot_ps : List Pm := [{ cs := [(I6, false), (I6, false)], ag := true }, { cs := [(I6, false), (I6, false)], ag := true }]
abbrev laws_eqKnot_rs : List Pm := [{ cs := [(Kd.bool, false)], ag := false }]
def laws_eqKnot_ann : List Norm := []
noncomputable def laws_eqKnot_c : C := irOf Try.prog Try.f36 [] laws_eqKnot_ann []
theorem laws_eqKnot_l : lightC Try.prog [] Try.f36.ntmps laws_eqKnot_ann [] 0 (bodyOf Try.f36) = some (laws_eqKnot_c, 0) := by kernel_rfl
def laws_eqKnot_rv : List (Nat × Option (Nat × Bool)) := [(4, none)]
def laws_eqKnot_pre (fuel : Nat) (x0 : Int) (x1 : Int) (x2 : Int) (x3 : Int) : Option ((Bool × Unit) × Unit) :=
 cond (x0 != x2)
 (some (((false, ()), ())))
 (cond (x1 != x3)
  (some (((false, ()), ())))
  (some (((true, ()), ()))))
def laws_eqKnot_fn (fuel : Nat) (x : ((Int × (Int × Unit)) × ((Int × (Int × Unit)) × Unit))) : Option ((Bool × Unit) × Unit) := laws_eqKnot_pre fuel x.1.1 x.1.2.1 x.2.1.1 x.2.1.2.1
theorem laws_eqKnot_run (fuel : Nat) (x : PsT laws_eqKnot_ps) : run (laws_eqKnot_T fuel) 0 fuel laws_eqKnot_c (env0 (svPs laws_eqKnot_ps x) 0) [] (endF laws_eqKnot_rv laws_eqKnot_rs) = laws_eqKnot_fn fuel x := by kernel_rfl
def laws_eqKnot_tf (fuel : Nat) : TF := ⟨laws_eqKnot_ps, laws_eqKnot_rs, true, laws_eqKnot_fn fuel⟩
theorem laws_eqKnot_spec (fuel : Nat) : FnSpec Try.prog 36 (laws_eqKnot_tf fuel) :=
  fn_spec (T := laws_eqKnot_T fuel) (c := bodyOf Try.f36) (fn := Try.f36) (TabOK.of (entNil) (methNil)) mixed (by kernel_rfl) (by kernel_rfl) laws_eqKnot_l (by kernel_rfl) (Nat.le_of_ble_eq_true (by kernel_rfl)) (rv := laws_eqKnot_rv) (by kernel_rfl) (laws_eqKnot_run fuel)
theorem laws_eqKnot_ok (fuel : Nat) : EntryOK Try.prog 36 (laws_eqKnot_tf fuel).te := EntryOK.tf rfl (laws_eqKnot_spec fuel) (isFn (fn := Try.f36) (by kernel_rfl) (by kernel_rfl) (by kernel_rfl))
def laws_eqKnotS_T (fuel : Nat) : Tab := Tab.of [(36, (laws_eqKnot_tf fuel).te)] []
abbrev laws_eqKnotS_ps : List Pm := [{ cs := [(Kd.list KP, false)], ag := false }, { cs := [(Kd.list KP, false)], ag := false }]
abbrev laws_eqKnotS_rs : List Pm := [{ cs := [(Kd.bool, false)], ag := false }]
def laws_eqKnotS_ann : List Norm := [{ live := [5, 0, 1], fix := [] }]
noncomputable def laws_eqKnotS_c : C := irOf Try.prog Try.f26 [] laws_eqKnotS_ann []
theorem laws_eqKnotS_l : lightC Try.prog [] Try.f26.ntmps laws_eqKnotS_ann [] 0 (bodyOf Try.f26) = some (laws_eqKnotS_c, 1) := by kernel_rfl
def laws_eqKnotS_rv : List (Nat × Option (Nat × Bool)) := [(4, none)]
abbrev laws_eqKnotS_V0 := (Int) × LP × LP
def laws_eqKnotS_enc0 (v : laws_eqKnotS_V0) : Env × Heap := ([(5, SV.int .i64 v.1), (0, SV.es KP v.2.1), (1, SV.es KP v.2.2)], [])
def laws_eqKnotS_step0 (fuel : Nat) (g0 : laws_eqKnotS_V0 → Option ((Bool × Unit) × Unit)) (v : laws_eqKnotS_V0) : Option ((Bool × Unit) × Unit) :=
 cond (decide (v.1 < (zz (List.length v.2.1))))
 (tst (decide (0 ≤ v.1)) <|
  tst (decide (v.1 < (zz (List.length v.2.1)))) <|
  tst (decide (0 ≤ v.1)) <|
  tst (decide (v.1 < (zz (List.length v.2.2)))) <|
  Option.bind (laws_eqKnot_fn fuel (((List.getD v.2.1 (Int.toNat v.1) (0, (0, ()))).1, (List.getD v.2.1 (Int.toNat v.1) (0, (0, ()))).2.1, ()), ((List.getD v.2.2 (Int.toNat v.1) (0, (0, ()))).1, (List.getD v.2.2 (Int.toNat v.1) (0, (0, ()))).2.1, ()), ())) fun y_2 =>
  cond (!y_2.1.1)
   (some (((false, ()), ())))
   (g0 (w64 (v.1 + (1 : Int)), v.2.1, v.2.2)))
 (some (((true, ()), ())))
def laws_eqKnotS_st0 (fuel : Nat) (g0 : laws_eqKnotS_V0 → Option ((Bool × Unit) × Unit)) : laws_eqKnotS_V0 → Option ((Bool × Unit) × Unit) := laws_eqKnotS_step0 fuel g0
theorem laws_eqKnotS_lp0 (fuel : Nat) (G) : laws_eqKnotS_c.lp (laws_eqKnotS_T fuel) 0 fuel G (endF laws_eqKnotS_rv laws_eqKnotS_rs) 0 laws_eqKnotS_enc0 = iter (laws_eqKnotS_st0 fuel) fuel := C.lp_iter fun g v => by kernel_rfl
def laws_eqKnotS_pre (fuel : Nat) (X0 : laws_eqKnotS_V0 → Option ((Bool × Unit) × Unit)) (x0 : LP) (x1 : LP) : Option ((Bool × Unit) × Unit) :=
 cond ((zz (List.length x0)) != (zz (List.length x1)))
 (some (((false, ()), ())))
 (X0 ((0 : Int), x0, x1))
def laws_eqKnotS_fn (fuel : Nat) (x : ((LP × Unit) × ((LP × Unit) × Unit))) : Option ((Bool × Unit) × Unit) := laws_eqKnotS_pre fuel (iter (laws_eqKnotS_st0 fuel) fuel) x.1.1 x.2.1.1
theorem laws_eqKnotS_run (fuel : Nat) (x : PsT laws_eqKnotS_ps) : run (laws_eqKnotS_T fuel) 0 fuel laws_eqKnotS_c (env0 (svPs laws_eqKnotS_ps x) 0) [] (endF laws_eqKnotS_rv laws_eqKnotS_rs) = laws_eqKnotS_fn fuel x :=
  (show run (laws_eqKnotS_T fuel) 0 fuel laws_eqKnotS_c (env0 (svPs laws_eqKnotS_ps x) 0) [] (endF laws_eqKnotS_rv laws_eqKnotS_rs) = laws_eqKnotS_pre fuel (laws_eqKnotS_c.lp (laws_eqKnotS_T fuel) 0 fuel (fun _ _ _ => none) (endF laws_eqKnotS_rv laws_eqKnotS_rs) 0 laws_eqKnotS_enc0) x.1.1 x.2.1.1 by kernel_rfl).trans (by rw [laws_eqKnotS_lp0]; rfl)
def laws_eqKnotS_tf (fuel : Nat) : TF := ⟨laws_eqKnotS_ps, laws_eqKnotS_rs, true, laws_eqKnotS_fn fuel⟩
theorem laws_eqKnotS_spec (fuel : Nat) : FnSpec Try.prog 26 (laws_eqKnotS_tf fuel) :=
  fn_spec (T := laws_eqKnotS_T fuel) (c := bodyOf Try.f26) (fn := Try.f26) (TabOK.of (entCons (laws_eqKnot_ok fuel) entNil) (methNil)) mixed (by kernel_rfl) (by kernel_rfl) laws_eqKnotS_l (by kernel_rfl) (Nat.le_of_ble_eq_true (by kernel_rfl)) (rv := laws_eqKnotS_rv) (by kernel_rfl) (laws_eqKnotS_run fuel)
theorem laws_eqKnotS_ok (fuel : Nat) : EntryOK Try.prog 26 (laws_eqKnotS_tf fuel).te := EntryOK.tf rfl (laws_eqKnotS_spec fuel) (isFn (fn := Try.f26) (by kernel_rfl) (by kernel_rfl) (by kernel_rfl))
def laws_eqRank_T (fuel : Nat) : Tab := Tab.of [(26, (laws_eqKnotS_tf fuel).te)] []
abbrev laws_eqRank_ps : List Pm := [{ cs := [(Kd.list KP, false), (I6, false)], ag := true }, { cs := [(Kd.list KP, false), (I6, false)], ag := true }]
abbrev laws_eqRank_rs : List Pm := [{ cs := [(Kd.bool, false)], ag := false }]
def laws_eqRank_ann : List Norm := []
noncomputable def laws_eqRank_c : C := irOf Try.prog Try.f14 [] laws_eqRank_ann []
theorem laws_eqRank_l : lightC Try.prog [] Try.f14.ntmps laws_eqRank_ann [] 0 (bodyOf Try.f14) = some (laws_eqRank_c, 0) := by kernel_rfl
def laws_eqRank_rv : List (Nat × Option (Nat × Bool)) := [(4, none)]
def laws_eqRank_pre (fuel : Nat) (x0 : LP) (x1 : Int) (x2 : LP) (x3 : Int) : Option ((Bool × Unit) × Unit) :=
 Option.bind (laws_eqKnotS_fn fuel ((x0, ()), (x2, ()), ())) fun y_1 =>
 cond (!y_1.1.1)
  (some (((false, ()), ())))
  (cond (x1 != x3)
   (some (((false, ()), ())))
   (some (((true, ()), ()))))
def laws_eqRank_fn (fuel : Nat) (x : ((LP × (Int × Unit)) × ((LP × (Int × Unit)) × Unit))) : Option ((Bool × Unit) × Unit) := laws_eqRank_pre fuel x.1.1 x.1.2.1 x.2.1.1 x.2.1.2.1
theorem laws_eqRank_run (fuel : Nat) (x : PsT laws_eqRank_ps) : run (laws_eqRank_T fuel) 0 fuel laws_eqRank_c (env0 (svPs laws_eqRank_ps x) 0) [] (endF laws_eqRank_rv laws_eqRank_rs) = laws_eqRank_fn fuel x := by kernel_rfl
def laws_eqRank_tf (fuel : Nat) : TF := ⟨laws_eqRank_ps, laws_eqRank_rs, true, laws_eqRank_fn fuel⟩
theorem laws_eqRank_spec (fuel : Nat) : FnSpec Try.prog 14 (laws_eqRank_tf fuel) :=
  fn_spec (T := laws_eqRank_T fuel) (c := bodyOf Try.f14) (fn := Try.f14) (TabOK.of (entCons (laws_eqKnotS_ok fuel) entNil) (methNil)) mixed (by kernel_rfl) (by kernel_rfl) laws_eqRank_l (by kernel_rfl) (Nat.le_of_ble_eq_true (by kernel_rfl)) (rv := laws_eqRank_rv) (by kernel_rfl) (laws_eqRank_run fuel)
theorem laws_eqRank_ok (fuel : Nat) : EntryOK Try.prog 14 (laws_eqRank_tf fuel).te := EntryOK.tf rfl (laws_eqRank_spec fuel) (isFn (fn := Try.f14) (by kernel_rfl) (by kernel_rfl) (by kernel_rfl))
end Go.Proofs.Ytmnkhjdbdenacaa.Den
namespace Go.Proofs.Ytmnkhjdbdenacaa.Den
open Go Go.RowKit
set_option linter.unusedVariables false
set_option linter.unusedSimpArgs false
def laws_eqSum_T (fuel : Nat) : Tab := Tab.of [(11, (laws_eqRough_tf fuel).te), (12, (laws_eqFew_tf fuel).te), (13, (laws_eqTop_tf fuel).te), (14, (laws_eqRank_tf fuel).te)] []
abbrev laws_eqSum_ps : List Pm := [{ cs := [(Kd.list (Kd.list I6), false), (Kd.list I6, false), (Kd.list KP, false), (I6, false), (I6, false), (Kd.list KP, false), (I6, false)], ag := true }, { cs := [(Kd.list (Kd.list I6), false), (Kd.list I6, false), (Kd.list KP, false), (I6, false), (I6, false), (Kd.list KP, false), (I6, false)], ag := true }]
abbrev laws_eqSum_rs : List Pm := [{ cs := [(Kd.bool, false)], ag := false }]
def laws_eqSum_ann : List Norm := []
noncomputable def laws_eqSum_c : C := irOf Try.prog Try.f6 [] laws_eqSum_ann []
theorem laws_eqSum_l : lightC Try.prog [] Try.f6.ntmps laws_eqSum_ann [] 0 (bodyOf Try.f6) = some (laws_eqSum_c, 0) := by kernel_rfl
def laws_eqSum_rv : List (Nat × Option (Nat × Bool)) := [(4, none)]
def laws_eqSum_pre (fuel : Nat) (x0 : List (List Int)) (x1 : List Int) (x2 : LP) (x3 : Int) (x4 : Int) (x5 : LP) (x6 : Int) (x7 : List (List Int)) (x8 : List Int) (x9 : LP) (x10 : Int) (x11 : Int) (x12 : LP) (x13 : Int) : Option ((Bool × Unit) × Unit) :=
 Option.bind (laws_eqRough_fn fuel ((x0, ()), (x7, ()), ())) fun y_1 =>
 cond (!y_1.1.1)
  (some (((false, ()), ())))
  (Option.bind (laws_eqFew_fn fuel ((x1, ()), (x8, ()), ())) fun y_3 =>
   cond (!y_3.1.1)
    (some (((false, ()), ())))
    (Option.bind (laws_eqTop_fn fuel ((x2, x3, x4, ()), (x9, x10, x11, ()), ())) fun y_5 =>
     cond (!y_5.1.1)
      (some (((false, ()), ())))
      (Option.bind (laws_eqRank_fn fuel ((x5, x6, ()), (x12, x13, ()), ())) fun y_7 =>
       cond (!y_7.1.1)
        (some (((false, ()), ())))
        (some (((true, ()), ()))))))
def laws_eqSum_fn (fuel : Nat) (x : (SumY × (SumY × Unit))) : Option ((Bool × Unit) × Unit) := laws_eqSum_pre fuel x.1.1 x.1.2.1 x.1.2.2.1 x.1.2.2.2.1 x.1.2.2.2.2.1 x.1.2.2.2.2.2.1 x.1.2.2.2.2.2.2.1 x.2.1.1 x.2.1.2.1 x.2.1.2.2.1 x.2.1.2.2.2.1 x.2.1.2.2.2.2.1 x.2.1.2.2.2.2.2.1 x.2.1.2.2.2.2.2.2.1
theorem laws_eqSum_run (fuel : Nat) (x : PsT laws_eqSum_ps) : run (laws_eqSum_T fuel) 0 fuel laws_eqSum_c (env0 (svPs laws_eqSum_ps x) 0) [] (endF laws_eqSum_rv laws_eqSum_rs) = laws_eqSum_fn fuel x := by kernel_rfl
def laws_eqSum_tf (fuel : Nat) : TF := ⟨laws_eqSum_ps, laws_eqSum_rs, true, laws_eqSum_fn fuel⟩
theorem laws_eqSum_spec (fuel : Nat) : FnSpec Try.prog 6 (laws_eqSum_tf fuel) :=
  fn_spec (T := laws_eqSum_T fuel) (c := bodyOf Try.f6) (fn := Try.f6) (TabOK.of (entCons (laws_eqRough_ok fuel) (entCons (laws_eqFew_ok fuel) (entCons (laws_eqTop_ok fuel) (entCons (laws_eqRank_ok fuel) entNil)))) (methNil)) mixed (by kernel_rfl) (by kernel_rfl) laws_eqSum_l (by kernel_rfl) (Nat.le_of_ble_eq_true (by kernel_rfl)) (rv := laws_eqSum_rv) (by kernel_rfl) (laws_eqSum_run fuel)
theorem laws_eqSum_ok (fuel : Nat) : EntryOK Try.prog 6 (laws_eqSum_tf fuel).te := EntryOK.tf rfl (laws_eqSum_spec fuel) (isFn (fn := Try.f6) (by kernel_rfl) (by kernel_rfl) (by kernel_rfl))
abbrev laws_markIntS_v0_R := Option ((List Int) × ((Int × Unit) × Unit))
def laws_markIntS_v0_T (fuel : Nat) : Tab := Tab.of [] []
abbrev laws_markIntS_v0_ps : List Pm := [{ cs := [(I6, false)], ag := false }]
abbrev laws_markIntS_v0_rs : List Pm := [{ cs := [(I6, false)], ag := false }]
def laws_markIntS_v0_ann : List Norm := [{ live := [5, 0, 1], fix := [] }]
noncomputable def laws_markIntS_v0_c : C := irOf Try.prog Try.f28 [] laws_markIntS_v0_ann []
theorem laws_markIntS_v0_l : lightC Try.prog [] Try.f28.ntmps laws_markIntS_v0_ann [] 0 (bodyOf Try.f28) = some (laws_markIntS_v0_c, 1) := by kernel_rfl
def laws_markIntS_v0_rv : List (Nat × Option (Nat × Bool)) := [(4, none)]
abbrev laws_markIntS_v0_V0 := (Int) × (Int) × (List Int)
def laws_markIntS_v0_enc0 (v : laws_markIntS_v0_V0) : Env × Heap := ([(5, SV.int .i64 v.1), (0, SV.own 0), (1, SV.int .i64 v.2.1)], [Blk.arr I6 v.2.2 0])
def laws_markIntS_v0_step0 (fuel : Nat) (g0 : laws_markIntS_v0_V0 → laws_markIntS_v0_R) (v : laws_markIntS_v0_V0) : laws_markIntS_v0_R :=
 cond (decide (v.1 < (zz (List.length v.2.2))))
 (tst (decide (0 ≤ v.1)) <|
  tst (decide (v.1 < (zz (List.length v.2.2)))) <|
  tst (decide (Int.toNat v.1 < List.length v.2.2)) <|
  g0 (w64 (v.1 + (1 : Int)), w64 (v.2.1 + (1 : Int)), List.set v.2.2 (Int.toNat v.1) v.2.1))
 (some ((v.2.2, (v.2.1, ()), ())))
def laws_markIntS_v0_st0 (fuel : Nat) (g0 : laws_markIntS_v0_V0 → laws_markIntS_v0_R) : laws_markIntS_v0_V0 → laws_markIntS_v0_R := laws_markIntS_v0_step0 fuel g0
theorem laws_markIntS_v0_lp0 (fuel : Nat) (G) : laws_markIntS_v0_c.lp (laws_markIntS_v0_T fuel) 1 fuel G (endS laws_markIntS_v0_rv I6 false laws_markIntS_v0_rs) 0 laws_markIntS_v0_enc0 = iter (laws_markIntS_v0_st0 fuel) fuel := C.lp_iter fun g v => by kernel_rfl
def laws_markIntS_v0_pre (fuel : Nat) (X0 : laws_markIntS_v0_V0 → laws_markIntS_v0_R) (d0 : List Int) (x0 : Int) : laws_markIntS_v0_R :=
 X0 ((0 : Int), x0, d0)
def laws_markIntS_v0_fn (fuel : Nat) (z : (List Int) × Unit × ((Int × Unit) × Unit)) : laws_markIntS_v0_R := laws_markIntS_v0_pre fuel (iter (laws_markIntS_v0_st0 fuel) fuel) z.1 z.2.2.1.1
theorem laws_markIntS_v0_run (fuel : Nat) (c : List (Kd.T I6)) (d : CsT []) (x : PsT laws_markIntS_v0_ps) : run (laws_markIntS_v0_T fuel) 1 fuel laws_markIntS_v0_c ((0, firstV false 0 (svCs [] d)) :: env0 (svPs laws_markIntS_v0_ps x) 1) [.arr I6 c 0] (endS laws_markIntS_v0_rv I6 false laws_markIntS_v0_rs) = laws_markIntS_v0_fn fuel (c, d, x) :=
  (show run (laws_markIntS_v0_T fuel) 1 fuel laws_markIntS_v0_c ((0, firstV false 0 (svCs [] d)) :: env0 (svPs laws_markIntS_v0_ps x) 1) [.arr I6 c 0] (endS laws_markIntS_v0_rv I6 false laws_markIntS_v0_rs) = laws_markIntS_v0_pre fuel (laws_markIntS_v0_c.lp (laws_markIntS_v0_T fuel) 1 fuel (fun _ _ _ => none) (endS laws_markIntS_v0_rv I6 false laws_markIntS_v0_rs) 0 laws_markIntS_v0_enc0) c x.1.1 by kernel_rfl).trans (by rw [laws_markIntS_v0_lp0]; rfl)
def laws_markIntS_v0_tf (fuel : Nat) : TFS := ⟨I6, false, [], laws_markIntS_v0_ps, laws_markIntS_v0_rs, false, laws_markIntS_v0_fn fuel⟩
theorem laws_markIntS_v0_spec (fuel : Nat) : FnSpecS Try.prog 28 (laws_markIntS_v0_tf fuel) :=
  fn_specS (T := laws_markIntS_v0_T fuel) (c := bodyOf Try.f28) (fn := Try.f28) (TabOK.of (entNil) (methNil)) mixed (by kernel_rfl) (by kernel_rfl) laws_markIntS_v0_l (by kernel_rfl) (Nat.le_of_ble_eq_true (by kernel_rfl)) (rv := laws_markIntS_v0_rv) (by kernel_rfl) (laws_markIntS_v0_run fuel)
theorem laws_markIntS_v0_ok (fuel : Nat) : EntryOK Try.prog 28 (laws_markIntS_v0_tf fuel).te := EntryOK.tfs (laws_markIntS_v0_spec fuel) (isFn (fn := Try.f28) (by kernel_rfl) (by kernel_rfl) (by kernel_rfl))
def laws_markIntS_v1_T (fuel : Nat) : Tab := Tab.of [] []
abbrev laws_markIntS_v1_ps : Sh := (.nls (.cell I6 0 .nil))
abbrev laws_markIntS_v1_rs : Sh := (.cell I6 0 .nil)
def laws_markIntS_v1_ann : List Norm := [{ live := [5, 0, 1], fix := [] }]
noncomputable def laws_markIntS_v1_c : C := irOf Try.prog Try.f28 [] laws_markIntS_v1_ann []
theorem laws_markIntS_v1_l : lightC Try.prog [] Try.f28.ntmps laws_markIntS_v1_ann [] 0 (bodyOf Try.f28) = some (laws_markIntS_v1_c, 1) := by kernel_rfl
def laws_markIntS_v1_rv : List (Nat × Option (Nat × Bool)) := [(4, none)]
abbrev laws_markIntS_v1_V0 := (Int) × (Int)
def laws_markIntS_v1_enc0 (v : laws_markIntS_v1_V0) : Env × Heap := ([(5, SV.int .i64 v.1), (0, SV.nils), (1, SV.int .i64 v.2)], [])
def laws_markIntS_v1_step0 (fuel : Nat) (g0 : laws_markIntS_v1_V0 → Option (Int × Unit)) (v : laws_markIntS_v1_V0) : Option (Int × Unit) :=
 cond (decide (v.1 < (zz 0)))
 (none)
 (some ((v.2, ())))
def laws_markIntS_v1_st0 (fuel : Nat) (g0 : laws_markIntS_v1_V0 → Option (Int × Unit)) : laws_markIntS_v1_V0 → Option (Int × Unit) := laws_markIntS_v1_step0 fuel g0
theorem laws_markIntS_v1_lp0 (fuel : Nat) (G) : laws_markIntS_v1_c.lp (laws_markIntS_v1_T fuel) 0 fuel G (endG laws_markIntS_v1_rv laws_markIntS_v1_rs) 0 laws_markIntS_v1_enc0 = iter (laws_markIntS_v1_st0 fuel) fuel := C.lp_iter fun g v => by kernel_rfl
def laws_markIntS_v1_pre (fuel : Nat) (X0 : laws_markIntS_v1_V0 → Option (Int × Unit)) (x0 : Int) : Option (Int × Unit) :=
 X0 ((0 : Int), x0)
def laws_markIntS_v1_fn (fuel : Nat) (x : (Int × Unit)) : Option (Int × Unit) := laws_markIntS_v1_pre fuel (iter (laws_markIntS_v1_st0 fuel) fuel) x.1
theorem laws_markIntS_v1_run (fuel : Nat) (x : Sh.T laws_markIntS_v1_ps) : run (laws_markIntS_v1_T fuel) 0 fuel laws_markIntS_v1_c (env0 (svS laws_markIntS_v1_ps x) 0) [] (endG laws_markIntS_v1_rv laws_markIntS_v1_rs) = laws_markIntS_v1_fn fuel x :=
  (show run (laws_markIntS_v1_T fuel) 0 fuel laws_markIntS_v1_c (env0 (svS laws_markIntS_v1_ps x) 0) [] (endG laws_markIntS_v1_rv laws_markIntS_v1_rs) = laws_markIntS_v1_pre fuel (laws_markIntS_v1_c.lp (laws_markIntS_v1_T fuel) 0 fuel (fun _ _ _ => none) (endG laws_markIntS_v1_rv laws_markIntS_v1_rs) 0 laws_markIntS_v1_enc0) x.1 by kernel_rfl).trans (by rw [laws_markIntS_v1_lp0]; rfl)
def laws_markIntS_v1_tf (fuel : Nat) : TG := ⟨laws_markIntS_v1_ps, laws_markIntS_v1_rs, true, laws_markIntS_v1_fn fuel⟩
theorem laws_markIntS_v1_spec (fuel : Nat) : FnSpecG Try.prog 28 (laws_markIntS_v1_tf fuel) :=
  fn_specG (T := laws_markIntS_v1_T fuel) (c := bodyOf Try.f28) (fn := Try.f28) (TabOK.of (entNil) (methNil)) mixed (by kernel_rfl) (by kernel_rfl) laws_markIntS_v1_l (by kernel_rfl) (Nat.le_of_ble_eq_true (by kernel_rfl)) (rv := laws_markIntS_v1_rv) (by kernel_rfl) (fun x y h => (laws_markIntS_v1_run fuel x).trans h)
theorem laws_markIntS_v1_ok (fuel : Nat) : EntryOK Try.prog 28 (laws_markIntS_v1_tf fuel).te := EntryOK.tg rfl (laws_markIntS_v1_spec fuel) (isFn (fn := Try.f28) (by kernel_rfl) (by kernel_rfl) (by kernel_rfl))
def laws_markIntSS_T (fuel : Nat) : Tab := Tab.of [(28, (laws_markIntS_v0_tf fuel).te), (28, (laws_markIntS_v1_tf fuel).te)] []
def laws_markIntSS_ann : List Norm := [{ live := [5, 0, 1], fix := [] }]
noncomputable def laws_markIntSS_c : C := irOf Try.prog Try.f27 [] laws_markIntSS_ann []
theorem laws_markIntSS_l : lightC Try.prog [] Try.f27.ntmps laws_markIntSS_ann [] 0 (bodyOf Try.f27) = some (laws_markIntSS_c, 1) := by kernel_rfl
def laws_markIntSS_rv : List (Nat × Option (Nat × Bool)) := [(4, none)]
noncomputable def laws_markIntSS_ie (fuel : Nat) : IE := inlIE 2 (laws_markIntSS_T fuel) (fuel + 6) laws_markIntSS_c laws_markIntSS_rv
theorem laws_markIntSS_ok (fuel : Nat) : ISound Try.prog 27 (laws_markIntSS_ie fuel) :=
  inl_sound (T := laws_markIntSS_T fuel) (c := bodyOf Try.f27) (fn := Try.f27) (TabOK.of (entCons (laws_markIntS_v0_ok fuel) (entCons (laws_markIntS_v1_ok fuel) entNil)) (methNil)) mixed (by kernel_rfl) (by kernel_rfl) laws_markIntSS_l (by kernel_rfl) (Nat.le_of_ble_eq_true (by kernel_rfl)) (rv := laws_markIntSS_rv) (by kernel_rfl) (isFn (fn := Try.f27) (by kernel_rfl) (by kernel_rfl) (by kernel_rfl))
noncomputable def laws_markRough_T (fuel : Nat) : Tab := Tab.ofI [] [] [(27, laws_markIntSS_ie fuel)]
def laws_markRough_ann : List Norm := []
noncomputable def laws_markRough_c : C := irOf Try.prog Try.f15 [8] laws_markRough_ann []
theorem laws_markRough_l : lightC Try.prog [8] Try.f15.ntmps laws_markRough_ann [] 0 (bodyOf Try.f15) = some (laws_markRough_c, 0) := by kernel_rfl
def laws_markRough_rv : List (Nat × Option (Nat × Bool)) := [(4, none)]
noncomputable def laws_markRough_ie (fuel : Nat) : IE := inlIE 2 (laws_markRough_T fuel) fuel laws_markRough_c laws_markRough_rv
theorem laws_markRough_ok (fuel : Nat) : ISound Try.prog 15 (laws_markRough_ie fuel) :=
  inl_sound (T := laws_markRough_T fuel) (c := bodyOf Try.f15) (fn := Try.f15) (TabOK.ofI (entNil) (methNil) (inlCons (laws_markIntSS_ok fuel) (inlNil))) mixed (by kernel_rfl) (by kernel_rfl) laws_markRough_l (by kernel_rfl) (Nat.le_of_ble_eq_true (by kernel_rfl)) (rv := laws_markRough_rv) (by kernel_rfl) (isFn (fn := Try.f15) (by kernel_rfl) (by kernel_rfl) (by kernel_rfl))
def laws_markFew_T (fuel : Nat) : Tab := Tab.of [(28, (laws_markIntS_v0_tf fuel).te), (28, (laws_markIntS_v1_tf fuel).te)] []
def laws_markFew_ann : List Norm := []
noncomputable def laws_markFew_c : C := irOf Try.prog Try.f16 [] laws_markFew_ann []
theorem laws_markFew_l : lightC Try.prog [] Try.f16.ntmps laws_markFew_ann [] 0 (bodyOf Try.f16) = some (laws_markFew_c, 0) := by kernel_rfl
def laws_markFew_rv : List (Nat × Option (Nat × Bool)) := [(4, none)]
noncomputable def laws_markFew_ie (fuel : Nat) : IE := inlIE 2 (laws_markFew_T fuel) fuel laws_markFew_c laws_markFew_rv
theorem laws_markFew_ok (fuel : Nat) : ISound Try.prog 16 (laws_markFew_ie fuel) :=
  inl_sound (T := laws_markFew_T fuel) (c := bodyOf Try.f16) (fn := Try.f16) (TabOK.of (entCons (laws_markIntS_v0_ok fuel) (entCons (laws_markIntS_v1_ok fuel) entNil)) (methNil)) mixed (by kernel_rfl) (by kernel_rfl) laws_markFew_l (by kernel_rfl) (Nat.le_of_ble_eq_true (by kernel_rfl)) (rv := laws_markFew_rv) (by kernel_rfl) (isFn (fn := Try.f16) (by kernel_rfl) (by kernel_rfl) (by kernel_rfl))
abbrev laws_markPairS_v0_R := Option (LP × ((Int × Unit) × Unit))
def laws_markPairS_v0_T (fuel : Nat) : Tab := Tab.of [] []
abbrev laws_markPairS_v0_ps : List Pm := [{ cs := [(I6, false)], ag := false }]
abbrev laws_markPairS_v0_rs : List Pm := [{ cs := [(I6, false)], ag := false }]
def laws_markPairS_v0_ann : List Norm := [{ live := [5, 0, 1], fix := [] }]
noncomputable def laws_markPairS_v0_c : C := irOf Try.prog Try.f29 [] laws_markPairS_v0_ann []
theorem laws_markPairS_v0_l : lightC Try.prog [] Try.f29.ntmps laws_markPairS_v0_ann [] 0 (bodyOf Try.f29) = some (laws_markPairS_v0_c, 1) := by kernel_rfl
def laws_markPairS_v0_rv : List (Nat × Option (Nat × Bool)) := [(4, none)]
abbrev laws_markPairS_v0_V0 := (Int) × (Int) × LP
def laws_markPairS_v0_enc0 (v : laws_markPairS_v0_V0) : Env × Heap := ([(5, SV.int .i64 v.1), (0, SV.own 0), (1, SV.int .i64 v.2.1)], [Blk.arr KP v.2.2 0])
def laws_markPairS_v0_step0 (fuel : Nat) (g0 : laws_markPairS_v0_V0 → laws_markPairS_v0_R) (v : laws_markPairS_v0_V0) : laws_markPairS_v0_R :=
 cond (decide (v.1 < (zz (List.length v.2.2))))
 (tst (decide (0 ≤ v.1)) <|
  tst (decide (v.1 < (zz (List.length v.2.2)))) <|
  tst (decide (Int.toNat v.1 < List.length v.2.2)) <|
  tst (decide (0 ≤ v.1)) <|
  tst (decide (v.1 < (zz (List.length (List.set v.2.2 (Int.toNat v.1) (v.2.1, (List.getD v.2.2 (Int.toNat v.1) (0, (0, ()))).2.1, ())))))) <|
  tst (decide (Int.toNat v.1 < List.length (List.set v.2.2 (Int.toNat v.1) (v.2.1, (List.getD v.2.2 (Int.toNat v.1) (0, (0, ()))).2.1, ())))) <|
  g0 (w64 (v.1 + (1 : Int)), w64 (w64 (v.2.1 + (1 : Int)) + (1 : Int)), List.set (List.set v.2.2 (Int.toNat v.1) (v.2.1, (List.getD v.2.2 (Int.toNat v.1) (0, (0, ()))).2.1, ())) (Int.toNat v.1) ((List.getD (List.set v.2.2 (Int.toNat v.1) (v.2.1, (List.getD v.2.2 (Int.toNat v.1) (0, (0, ()))).2.1, ())) (Int.toNat v.1) (0, (0, ()))).1, w64 (v.2.1 + (1 : Int)), ())))
 (some ((v.2.2, (v.2.1, ()), ())))
def laws_markPairS_v0_st0 (fuel : Nat) (g0 : laws_markPairS_v0_V0 → laws_markPairS_v0_R) : laws_markPairS_v0_V0 → laws_markPairS_v0_R := laws_markPairS_v0_step0 fuel g0
theorem laws_markPairS_v0_lp0 (fuel : Nat) (G) : laws_markPairS_v0_c.lp (laws_markPairS_v0_T fuel) 1 fuel G (endS laws_markPairS_v0_rv KP false laws_markPairS_v0_rs) 0 laws_markPairS_v0_enc0 = iter (laws_markPairS_v0_st0 fuel) fuel := C.lp_iter fun g v => by kernel_rfl
def laws_markPairS_v0_pre (fuel : Nat) (X0 : laws_markPairS_v0_V0 → laws_markPairS_v0_R) (d0 : LP) (x0 : Int) : laws_markPairS_v0_R :=
 X0 ((0 : Int), x0, d0)
def laws_markPairS_v0_fn (fuel : Nat) (z : LP × Unit × ((Int × Unit) × Unit)) : laws_markPairS_v0_R := laws_markPairS_v0_pre fuel (iter (laws_markPairS_v0_st0 fuel) fuel) z.1 z.2.2.1.1
theorem laws_markPairS_v0_run (fuel : Nat) (c : List (Kd.T KP)) (d : CsT []) (x : PsT laws_markPairS_v0_ps) : run (laws_markPairS_v0_T fuel) 1 fuel laws_markPairS_v0_c ((0, firstV false 0 (svCs [] d)) :: env0 (svPs laws_markPairS_v0_ps x) 1) [.arr KP c 0] (endS laws_markPairS_v0_rv KP false laws_markPairS_v0_rs) = laws_markPairS_v0_fn fuel (c, d, x) :=
  (show run (laws_markPairS_v0_T fuel) 1 fuel laws_markPairS_v0_c ((0, firstV false 0 (svCs [] d)) :: env0 (svPs laws_markPairS_v0_ps x) 1) [.arr KP c 0] (endS laws_markPairS_v0_rv KP false laws_markPairS_v0_rs) = laws_markPairS_v0_pre fuel (laws_markPairS_v0_c.lp (laws_markPairS_v0_T fuel) 1 fuel (fun _ _ _ => none) (endS laws_markPairS_v0_rv KP false laws_markPairS_v0_rs) 0 laws_markPairS_v0_enc0) c x.1.1 by kernel_rfl).trans (by rw [laws_markPairS_v0_lp0]; rfl)
def laws_markPairS_v0_tf (fuel : Nat) : TFS := ⟨KP, false, [], laws_markPairS_v0_ps, laws_markPairS_v0_rs, false, laws_markPairS_v0_fn fuel⟩
theorem laws_markPairS_v0_spec (fuel : Nat) : FnSpecS Try.prog 29 (laws_markPairS_v0_tf fuel) :=
  fn_specS (T := laws_markPairS_v0_T fuel) (c := bodyOf Try.f29) (fn := Try.f29) (TabOK.of (entNil) (methNil)) mixed (by kernel_rfl) (by kernel_rfl) laws_markPairS_v0_l (by kernel_rfl) (Nat.le_of_ble_eq_true (by kernel_rfl)) (rv := laws_markPairS_v0_rv) (by kernel_rfl) (laws_markPairS_v0_run fuel)
theorem laws_markPairS_v0_ok (fuel : Nat) : EntryOK Try.prog 29 (laws_markPairS_v0_tf fuel).te := EntryOK.tfs (laws_markPairS_v0_spec fuel) (isFn (fn := Try.f29) (by kernel_rfl) (by kernel_rfl) (by kernel_rfl))
def laws_markPairS_v1_T (fuel : Nat) : Tab := Tab.of [] []
abbrev laws_markPairS_v1_ps : Sh := (.nls (.cell I6 0 .nil))
abbrev laws_markPairS_v1_rs : Sh := (.cell I6 0 .nil)
def laws_markPairS_v1_ann : List Norm := [{ live := [5, 0, 1], fix := [] }]
noncomputable def laws_markPairS_v1_c : C := irOf Try.prog Try.f29 [] laws_markPairS_v1_ann []
theorem laws_markPairS_v1_l : lightC Try.prog [] Try.f29.ntmps laws_markPairS_v1_ann [] 0 (bodyOf Try.f29) = some (laws_markPairS_v1_c, 1) := by kernel_rfl
def laws_markPairS_v1_rv : List (Nat × Option (Nat × Bool)) := [(4, none)]
abbrev laws_markPairS_v1_V0 := (Int) × (Int)
def laws_markPairS_v1_enc0 (v : laws_markPairS_v1_V0) : Env × Heap := ([(5, SV.int .i64 v.1), (0, SV.nils), (1, SV.int .i64 v.2)], [])
def laws_markPairS_v1_step0 (fuel : Nat) (g0 : laws_markPairS_v1_V0 → Option (Int × Unit)) (v : laws_markPairS_v1_V0) : Option (Int × Unit) :=
 cond (decide (v.1 < (zz 0)))
 (none)
 (some ((v.2, ())))
def laws_markPairS_v1_st0 (fuel : Nat) (g0 : laws_markPairS_v1_V0 → Option (Int × Unit)) : laws_markPairS_v1_V0 → Option (Int × Unit) := laws_markPairS_v1_step0 fuel g0
theorem laws_markPairS_v1_lp0 (fuel : Nat) (G) : laws_markPairS_v1_c.lp (laws_markPairS_v1_T fuel) 0 fuel G (endG laws_markPairS_v1_rv laws_markPairS_v1_rs) 0 laws_markPairS_v1_enc0 = iter (laws_markPairS_v1_st0 fuel) fuel := C.lp_iter fun g v => by kernel_rfl
def laws_markPairS_v1_pre (fuel : Nat) (X0 : laws_markPairS_v1_V0 → Option (Int × Unit)) (x0 : Int) : Option (Int × Unit) :=
 X0 ((0 : Int), x0)
def laws_markPairS_v1_fn (fuel : Nat) (x : (Int × Unit)) : Option (Int × Unit) := laws_markPairS_v1_pre fuel (iter (laws_markPairS_v1_st0 fuel) fuel) x.1
theorem laws_markPairS_v1_run (fuel : Nat) (x : Sh.T laws_markPairS_v1_ps) : run (laws_markPairS_v1_T fuel) 0 fuel laws_markPairS_v1_c (env0 (svS laws_markPairS_v1_ps x) 0) [] (endG laws_markPairS_v1_rv laws_markPairS_v1_rs) = laws_markPairS_v1_fn fuel x :=
  (show run (laws_markPairS_v1_T fuel) 0 fuel laws_markPairS_v1_c (env0 (svS laws_markPairS_v1_ps x) 0) [] (endG laws_markPairS_v1_rv laws_markPairS_v1_rs) = laws_markPairS_v1_pre fuel (laws_markPairS_v1_c.lp (laws_markPairS_v1_T fuel) 0 fuel (fun _ _ _ => none) (endG laws_markPairS_v1_rv laws_markPairS_v1_rs) 0 laws_markPairS_v1_enc0) x.1 by kernel_rfl).trans (by rw [laws_markPairS_v1_lp0]; rfl)
def laws_markPairS_v1_tf (fuel : Nat) : TG := ⟨laws_markPairS_v1_ps, laws_markPairS_v1_rs, true, laws_markPairS_v1_fn fuel⟩
theorem laws_markPairS_v1_spec (fuel : Nat) : FnSpecG Try.prog 29 (laws_markPairS_v1_tf fuel) :=
  fn_specG (T := laws_markPairS_v1_T fuel) (c := bodyOf Try.f29) (fn := Try.f29) (TabOK.of (entNil) (methNil)) mixed (by kernel_rfl) (by kernel_rfl) laws_markPairS_v1_l (by kernel_rfl) (Nat.le_of_ble_eq_true (by kernel_rfl)) (rv := laws_markPairS_v1_rv) (by kernel_rfl) (fun x y h => (laws_markPairS_v1_run fuel x).trans h)
theorem laws_markPairS_v1_ok (fuel : Nat) : EntryOK Try.prog 29 (laws_markPairS_v1_tf fuel).te := EntryOK.tg rfl (laws_markPairS_v1_spec fuel) (isFn (fn := Try.f29) (by kernel_rfl) (by kernel_rfl) (by kernel_rfl))
def laws_markTop_T (fuel : Nat) : Tab := Tab.of [(29, (laws_markPairS_v0_tf fuel).te), (29, (laws_markPairS_v1_tf fuel).te)] []
def laws_markTop_ann : List Norm := []
noncomputable def laws_markTop_c : C := irOf Try.prog Try.f17 [] laws_markTop_ann []
theorem laws_markTop_l : lightC Try.prog [] Try.f17.ntmps laws_markTop_ann [] 0 (bodyOf Try.f17) = some (laws_markTop_c, 0) := by kernel_rfl
def laws_markTop_rv : List (Nat × Option (Nat × Bool)) := [(4, none)]
noncomputable def laws_markTop_ie (fuel : Nat) : IE := inlIE 2 (laws_markTop_T fuel) fuel laws_markTop_c laws_markTop_rv
theorem laws_markTop_ok (fuel : Nat) : ISound Try.prog 17 (laws_markTop_ie fuel) :=
  inl_sound (T := laws_markTop_T fuel) (c := bodyOf Try.f17) (fn := Try.f17) (TabOK.of (entCons (laws_markPairS_v0_ok fuel) (entCons (laws_markPairS_v1_ok fuel) entNil)) (methNil)) mixed (by kernel_rfl) (by kernel_rfl) laws_markTop_l (by kernel_rfl) (Nat.le_of_ble_eq_true (by kernel_rfl)) (rv := laws_markTop_rv) (by kernel_rfl) (isFn (fn := Try.f17) (by kernel_rfl) (by kernel_rfl) (by kernel_rfl))
abbrev laws_markKnotS_v0_R := Option (LP × ((Int × Unit) × Unit))
def laws_markKnotS_v0_T (fuel : Nat) : Tab := Tab.of [] []
abbrev laws_markKnotS_v0_ps : List Pm := [{ cs := [(I6, false)], ag := false }]
abbrev laws_markKnotS_v0_rs : List Pm := [{ cs := [(I6, false)], ag := false }]
def laws_markKnotS_v0_ann : List Norm := [{ live := [5, 0, 1], fix := [] }]
noncomputable def laws_markKnotS_v0_c : C := irOf Try.prog Try.f30 [] laws_markKnotS_v0_ann []
theorem laws_markKnotS_v0_l : lightC Try.prog [] Try.f30.ntmps laws_markKnotS_v0_ann [] 0 (bodyOf Try.f30) = some (laws_markKnotS_v0_c, 1) := by kernel_rfl
def laws_markKnotS_v0_rv : List (Nat × Option (Nat × Bool)) := [(4, none)]
abbrev laws_markKnotS_v0_V0 := (Int) × (Int) × LP
def laws_markKnotS_v0_enc0 (v : laws_markKnotS_v0_V0) : Env × Heap := ([(5, SV.int .i64 v.1), (0, SV.own 0), (1, SV.int .i64 v.2.1)], [Blk.arr KP v.2.2 0])
def laws_markKnotS_v0_step0 (fuel : Nat) (g0 : laws_markKnotS_v0_V0 → laws_markKnotS_v0_R) (v : laws_markKnotS_v0_V0) : laws_markKnotS_v0_R :=
 cond (decide (v.1 < (zz (List.length v.2.2))))
 (tst (decide (0 ≤ v.1)) <|
  tst (decide (v.1 < (zz (List.length v.2.2)))) <|
  tst (decide (Int.toNat v.1 < List.length v.2.2)) <|
  tst (decide (0 ≤ v.1)) <|
  tst (decide (v.1 < (zz (List.length (List.set v.2.2 (Int.toNat v.1) (v.2.1, (List.getD v.2.2 (Int.toNat v.1) (0, (0, ()))).2.1, ())))))) <|
  tst (decide (Int.toNat v.1 < List.length (List.set v.2.2 (Int.toNat v.1) (v.2.1, (List.getD v.2.2 (Int.toNat v.1) (0, (0, ()))).2.1, ())))) <|
  g0 (w64 (v.1 + (1 : Int)), w64 (w64 (v.2.1 + (1 : Int)) + (1 : Int)), List.set (List.set v.2.2 (Int.toNat v.1) (v.2.1, (List.getD v.2.2 (Int.toNat v.1) (0, (0, ()))).2.1, ())) (Int.toNat v.1) ((List.getD (List.set v.2.2 (Int.toNat v.1) (v.2.1, (List.getD v.2.2 (Int.toNat v.1) (0, (0, ()))).2.1, ())) (Int.toNat v.1) (0, (0, ()))).1, w64 (v.2.1 + (1 : Int)), ())))
 (some ((v.2.2, (v.2.1, ()), ())))
def laws_markKnotS_v0_st0 (fuel : Nat) (g0 : laws_markKnotS_v0_V0 → laws_markKnotS_v0_R) : laws_markKnotS_v0_V0 → laws_markKnotS_v0_R := laws_markKnotS_v0_step0 fuel g0
theorem laws_markKnotS_v0_lp0 (fuel : Nat) (G) : laws_markKnotS_v0_c.lp (laws_markKnotS_v0_T fuel) 1 fuel G (endS laws_markKnotS_v0_rv KP false laws_markKnotS_v0_rs) 0 laws_markKnotS_v0_enc0 = iter (laws_markKnotS_v0_st0 fuel) fuel := C.lp_iter fun g v => by kernel_rfl
def laws_markKnotS_v0_pre (fuel : Nat) (X0 : laws_markKnotS_v0_V0 → laws_markKnotS_v0_R) (d0 : LP) (x0 : Int) : laws_markKnotS_v0_R :=
 X0 ((0 : Int), x0, d0)
def laws_markKnotS_v0_fn (fuel : Nat) (z : LP × Unit × ((Int × Unit) × Unit)) : laws_markKnotS_v0_R := laws_markKnotS_v0_pre fuel (iter (laws_markKnotS_v0_st0 fuel) fuel) z.1 z.2.2.1.1
theorem laws_markKnotS_v0_run (fuel : Nat) (c : List (Kd.T KP)) (d : CsT []) (x : PsT laws_markKnotS_v0_ps) : run (laws_markKnotS_v0_T fuel) 1 fuel laws_markKnotS_v0_c ((0, firstV false 0 (svCs [] d)) :: env0 (svPs laws_markKnotS_v0_ps x) 1) [.arr KP c 0] (endS laws_markKnotS_v0_rv KP false laws_markKnotS_v0_rs) = laws_markKnotS_v0_fn fuel (c, d, x) :=
  (show run (laws_markKnotS_v0_T fuel) 1 fuel laws_markKnotS_v0_c ((0, firstV false 0 (svCs [] d)) :: env0 (svPs laws_markKnotS_v0_ps x) 1) [.arr KP c 0] (endS laws_markKnotS_v0_rv KP false laws_markKnotS_v0_rs) = laws_markKnotS_v0_pre fuel (laws_markKnotS_v0_c.lp (laws_markKnotS_v0_T fuel) 1 fuel (fun _ _ _ => none) (endS laws_markKnotS_v0_rv KP false laws_markKnotS_v0_rs) 0 laws_markKnotS_v0_enc0) c x.1.1 by kernel_rfl).trans (by rw [laws_markKnotS_v0_lp0]; rfl)
def laws_markKnotS_v0_tf (fuel : Nat) : TFS := ⟨KP, false, [], laws_markKnotS_v0_ps, laws_markKnotS_v0_rs, false, laws_markKnotS_v0_fn fuel⟩
theorem laws_markKnotS_v0_spec (fuel : Nat) : FnSpecS Try.prog 30 (laws_markKnotS_v0_tf fuel) :=
  fn_specS (T := laws_markKnotS_v0_T fuel) (c := bodyOf Try.f30) (fn := Try.f30) (TabOK.of (entNil) (methNil)) mixed (by kernel_rfl) (by kernel_rfl) laws_markKnotS_v0_l (by kernel_rfl) (Nat.le_of_ble_eq_true (by kernel_rfl)) (rv := laws_markKnotS_v0_rv) (by kernel_rfl) (laws_markKnotS_v0_run fuel)
theorem laws_markKnotS_v0_ok (fuel : Nat) : EntryOK Try.prog 30 (laws_markKnotS_v0_tf fuel).te := EntryOK.tfs (laws_markKnotS_v0_spec fuel) (isFn (fn := Try.f30) (by kernel_rfl) (by kernel_rfl) (by kernel_rfl))
def laws_markKnotS_v1_T (fuel : Nat) : Tab := Tab.of [] []
abbrev laws_markKnotS_v1_ps : Sh := (.nls (.cell I6 0 .nil))
abbrev laws_markKnotS_v1_rs : Sh := (.cell I6 0 .nil)
def laws_markKnotS_v1_ann : List Norm := [{ live := [5, 0, 1], fix := [] }]
noncomputable def laws_markKnotS_v1_c : C := irOf Try.prog Try.f30 [] laws_markKnotS_v1_ann []
theorem laws_markKnotS_v1_l : lightC Try.prog [] Try.f30.ntmps laws_markKnotS_v1_ann [] 0 (bodyOf Try.f30) = some (laws_markKnotS_v1_c, 1) := by kernel_rfl
def laws_markKnotS_v1_rv : List (Nat × Option (Nat × Bool)) := [(4, none)]
abbrev laws_markKnotS_v1_V0 := (Int) × (Int)
def laws_markKnotS_v1_enc0 (v : laws_markKnotS_v1_V0) : Env × Heap := ([(5, SV.int .i64 v.1), (0, SV.nils), (1, SV.int .i64 v.2)], [])
def laws_markKnotS_v1_step0 (fuel : Nat) (g0 : laws_markKnotS_v1_V0 → Option (Int × Unit)) (v : laws_markKnotS_v1_V0) : Option (Int × Unit) :=
 cond (decide (v.1 < (zz 0)))
 (none)
 (some ((v.2, ())))
def laws_markKnotS_v1_st0 (fuel : Nat) (g0 : laws_markKnotS_v1_V0 → Option (Int × Unit)) : laws_markKnotS_v1_V0 → Option (Int × Unit) := laws_markKnotS_v1_step0 fuel g0
theorem laws_markKnotS_v1_lp0 (fuel : Nat) (G) : laws_markKnotS_v1_c.lp (laws_markKnotS_v1_T fuel) 0 fuel G (endG laws_markKnotS_v1_rv laws_markKnotS_v1_rs) 0 laws_markKnotS_v1_enc0 = iter (laws_markKnotS_v1_st0 fuel) fuel := C.lp_iter fun g v => by kernel_rfl
def laws_markKnotS_v1_pre (fuel : Nat) (X0 : laws_markKnotS_v1_V0 → Option (Int × Unit)) (x0 : Int) : Option (Int × Unit) :=
 X0 ((0 : Int), x0)
def laws_markKnotS_v1_fn (fuel : Nat) (x : (Int × Unit)) : Option (Int × Unit) := laws_markKnotS_v1_pre fuel (iter (laws_markKnotS_v1_st0 fuel) fuel) x.1
theorem laws_markKnotS_v1_run (fuel : Nat) (x : Sh.T laws_markKnotS_v1_ps) : run (laws_markKnotS_v1_T fuel) 0 fuel laws_markKnotS_v1_c (env0 (svS laws_markKnotS_v1_ps x) 0) [] (endG laws_markKnotS_v1_rv laws_markKnotS_v1_rs) = laws_markKnotS_v1_fn fuel x :=
  (show run (laws_markKnotS_v1_T fuel) 0 fuel laws_markKnotS_v1_c (env0 (svS laws_markKnotS_v1_ps x) 0) [] (endG laws_markKnotS_v1_rv laws_markKnotS_v1_rs) = laws_markKnotS_v1_pre fuel (laws_markKnotS_v1_c.lp (laws_markKnotS_v1_T fuel) 0 fuel (fun _ _ _ => none) (endG laws_markKnotS_v1_rv laws_markKnotS_v1_rs) 0 laws_markKnotS_v1_enc0) x.1 by kernel_rfl).trans (by rw [laws_markKnotS_v1_lp0]; rfl)
def laws_markKnotS_v1_tf (fuel : Nat) : TG := ⟨laws_markKnotS_v1_ps, laws_markKnotS_v1_rs, true, laws_markKnotS_v1_fn fuel⟩
theorem laws_markKnotS_v1_spec (fuel : Nat) : FnSpecG Try.prog 30 (laws_markKnotS_v1_tf fuel) :=
  fn_specG (T := laws_markKnotS_v1_T fuel) (c := bodyOf Try.f30) (fn := Try.f30) (TabOK.of (entNil) (methNil)) mixed (by kernel_rfl) (by kernel_rfl) laws_markKnotS_v1_l (by kernel_rfl) (Nat.le_of_ble_eq_true (by kernel_rfl)) (rv := laws_markKnotS_v1_rv) (by kernel_rfl) (fun x y h => (laws_markKnotS_v1_run fuel x).trans h)
theorem laws_markKnotS_v1_ok (fuel : Nat) : EntryOK Try.prog 30 (laws_markKnotS_v1_tf fuel).te := EntryOK.tg rfl (laws_markKnotS_v1_spec fuel) (isFn (fn := Try.f30) (by kernel_rfl) (by kernel_rfl) (by kernel_rfl))
def laws_markRank_T (fuel : Nat) : Tab := Tab.of [(30, (laws_markKnotS_v0_tf fuel).te), (30, (laws_markKnotS_v1_tf fuel).te)] []
def laws_markRank_ann : List Norm := []
noncomputable def laws_markRank_c : C := irOf Try.prog Try.f18 [] laws_markRank_ann []
theorem laws_markRank_l : lightC Try.prog [] Try.f18.ntmps laws_markRank_ann [] 0 (bodyOf Try.f18) = some (laws_markRank_c, 0) := by kernel_rfl
def laws_markRank_rv : List (Nat × Option (Nat × Bool)) := [(4, none)]
noncomputable def laws_markRank_ie (fuel : Nat) : IE := inlIE 2 (laws_markRank_T fuel) fuel laws_markRank_c laws_markRank_rv
theorem laws_markRank_ok (fuel : Nat) : ISound Try.prog 18 (laws_markRank_ie fuel) :=
  inl_sound (T := laws_markRank_T fuel) (c := bodyOf Try.f18) (fn := Try.f18) (TabOK.of (entCons (laws_markKnotS_v0_ok fuel) (entCons (laws_markKnotS_v1_ok fuel) entNil)) (methNil)) mixed (by kernel_rfl) (by kernel_rfl) laws_markRank_l (by kernel_rfl) (Nat.le_of_ble_eq_true (by kernel_rfl)) (rv := laws_markRank_rv) (by kernel_rfl) (isFn (fn := Try.f18) (by kernel_rfl) (by kernel_rfl) (by kernel_rfl))
noncomputable def laws_markSum_T (fuel : Nat) : Tab := Tab.ofI [] [] [(15, laws_markRough_ie fuel), (16, laws_markFew_ie fuel), (17, laws_markTop_ie fuel), (18, laws_markRank_ie fuel)]
def laws_markSum_ann : List Norm := []
noncomputable def laws_markSum_c : C := irOf Try.prog Try.f7 [8, 12, 16, 20] laws_markSum_ann []
theorem laws_markSum_l : lightC Try.prog [8, 12, 16, 20] Try.f7.ntmps laws_markSum_ann [] 0 (bodyOf Try.f7) = some (laws_markSum_c, 0) := by kernel_rfl
def laws_markSum_rv : List (Nat × Option (Nat × Bool)) := [(4, none)]
noncomputable def laws_markSum_ie (fuel : Nat) : IE := inlIE 2 (laws_markSum_T fuel) fuel laws_markSum_c laws_markSum_rv
theorem laws_markSum_ok (fuel : Nat) : ISound Try.prog 7 (laws_markSum_ie fuel) :=
  inl_sound (T := laws_markSum_T fuel) (c := bodyOf Try.f7) (fn := Try.f7) (TabOK.ofI (entNil) (methNil) (inlCons (laws_markRough_ok fuel) (inlCons (laws_markFew_ok fuel) (inlCons (laws_markTop_ok fuel) (inlCons (laws_markRank_ok fuel) (inlNil)))))) mixed (by kernel_rfl) (by kernel_rfl) laws_markSum_l (by kernel_rfl) (Nat.le_of_ble_eq_true (by kernel_rfl)) (rv := laws_markSum_rv) (by kernel_rfl) (isFn (fn := Try.f7) (by kernel_rfl) (by kernel_rfl) (by kernel_rfl))
def laws_heldIntS_T (fuel : Nat) : Tab := Tab.of [] []
abbrev laws_heldIntS_ps : List Pm := [{ cs := [(Kd.list I6, false)], ag := false }, { cs := [(I6, false)], ag := false }]
abbrev laws_heldIntS_rs : List Pm := [{ cs := [(I6, false)], ag := false }]
def laws_heldIntS_ann : List Norm := [{ live := [5, 0, 1], fix := [] }]
noncomputable def laws_heldIntS_c : C := irOf Try.prog Try.f32 [] laws_heldIntS_ann []
theorem laws_heldIntS_l : lightC Try.prog [] Try.f32.ntmps laws_heldIntS_ann [] 0 (bodyOf Try.f32) = some (laws_heldIntS_c, 1) := by kernel_rfl
def laws_heldIntS_rv : List (Nat × Option (Nat × Bool)) := [(4, none)]
abbrev laws_heldIntS_V0 := (Int) × (List Int) × (Int)
def laws_heldIntS_enc0 (v : laws_heldIntS_V0) : Env × Heap := ([(5, SV.int .i64 v.1), (0, SV.es I6 v.2.1), (1, SV.int .i64 v.2.2)], [])
def laws_heldIntS_step0 (fuel : Nat) (g0 : laws_heldIntS_V0 → Option ((Int × Unit) × Unit)) (v : laws_heldIntS_V0) : Option ((Int × Unit) × Unit) :=
 cond (decide (v.1 < (zz (List.length v.2.1))))
 (tst (decide (0 ≤ v.1)) <|
  tst (decide (v.1 < (zz (List.length v.2.1)))) <|
  cond (List.getD v.2.1 (Int.toNat v.1) 0 != v.2.2)
  (some ((((-1 : Int), ()), ())))
  (g0 (w64 (v.1 + (1 : Int)), v.2.1, w64 (v.2.2 + (1 : Int)))))
 (some (((v.2.2, ()), ())))
def laws_heldIntS_st0 (fuel : Nat) (g0 : laws_heldIntS_V0 → Option ((Int × Unit) × Unit)) : laws_heldIntS_V0 → Option ((Int × Unit) × Unit) := laws_heldIntS_step0 fuel g0
theorem laws_heldIntS_lp0 (fuel : Nat) (G) : laws_heldIntS_c.lp (laws_heldIntS_T fuel) 0 fuel G (endF laws_heldIntS_rv laws_heldIntS_rs) 0 laws_heldIntS_enc0 = iter (laws_heldIntS_st0 fuel) fuel := C.lp_iter fun g v => by kernel_rfl
def laws_heldIntS_pre (fuel : Nat) (X0 : laws_heldIntS_V0 → Option ((Int × Unit) × Unit)) (x0 : List Int) (x1 : Int) : Option ((Int × Unit) × Unit) :=
 X0 ((0 : Int), x0, x1)
def laws_heldIntS_fn (fuel : Nat) (x : (((List Int) × Unit) × ((Int × Unit) × Unit))) : Option ((Int × Unit) × Unit) := laws_heldIntS_pre fuel (iter (laws_heldIntS_st0 fuel) fuel) x.1.1 x.2.1.1
theorem laws_heldIntS_run (fuel : Nat) (x : PsT laws_heldIntS_ps) : run (laws_heldIntS_T fuel) 0 fuel laws_heldIntS_c (env0 (svPs laws_heldIntS_ps x) 0) [] (endF laws_heldIntS_rv laws_heldIntS_rs) = laws_heldIntS_fn fuel x :=
  (show run (laws_heldIntS_T fuel) 0 fuel laws_heldIntS_c (env0 (svPs laws_heldIntS_ps x) 0) [] (endF laws_heldIntS_rv laws_heldIntS_rs) = laws_heldIntS_pre fuel (laws_heldIntS_c.lp (laws_heldIntS_T fuel) 0 fuel (fun _ _ _ => none) (endF laws_heldIntS_rv laws_heldIntS_rs) 0 laws_heldIntS_enc0) x.1.1 x.2.1.1 by kernel_rfl).trans (by rw [laws_heldIntS_lp0]; rfl)
def laws_heldIntS_tf (fuel : Nat) : TF := ⟨laws_heldIntS_ps, laws_heldIntS_rs, true, laws_heldIntS_fn fuel⟩
theorem laws_heldIntS_spec (fuel : Nat) : FnSpec Try.prog 32 (laws_heldIntS_tf fuel) :=
  fn_spec (T := laws_heldIntS_T fuel) (c := bodyOf Try.f32) (fn := Try.f32) (TabOK.of (entNil) (methNil)) mixed (by kernel_rfl) (by kernel_rfl) laws_heldIntS_l (by kernel_rfl) (Nat.le_of_ble_eq_true (by kernel_rfl)) (rv := laws_heldIntS_rv) (by kernel_rfl) (laws_heldIntS_run fuel)
theorem laws_heldIntS_ok (fuel : Nat) : EntryOK Try.prog 32 (laws_heldIntS_tf fuel).te := EntryOK.tf rfl (laws_heldIntS_spec fuel) (isFn (fn := Try.f32) (by kernel_rfl) (by kernel_rfl) (by kernel_rfl))
end Go.Proofs.Ytmnkhjdbdenacaa.Den
namespace Go.Proofs.Ytmnkhjdbdenacaa.Den
open Go Go.RowKit
set_option linter.unusedVariables false
set_option linter.unusedSimpArgs false
def laws_heldIntSS_T (fuel : Nat) : Tab := Tab.of [(32, (laws_heldIntS_tf fuel).te)] []
abbrev laws_heldIntSS_ps : List Pm := [{ cs := [(Kd.list (Kd.list I6), false)], ag := false }, { cs := [(I6, false)], ag := false }]
abbrev laws_heldIntSS_rs : List Pm := [{ cs := [(I6, false)], ag := false }]
def laws_heldIntSS_ann : List Norm := [{ live := [5, 0, 1], fix := [] }]
noncomputable def laws_heldIntSS_c : C := irOf Try.prog Try.f31 [] laws_heldIntSS_ann []
theorem laws_heldIntSS_l : lightC Try.prog [] Try.f31.ntmps laws_heldIntSS_ann [] 0 (bodyOf Try.f31) = some (laws_heldIntSS_c, 1) := by kernel_rfl
def laws_heldIntSS_rv : List (Nat × Option (Nat × Bool)) := [(4, none)]
abbrev laws_heldIntSS_V0 := (Int) × (List (List Int)) × (Int)
def laws_heldIntSS_enc0 (v : laws_heldIntSS_V0) : Env × Heap := ([(5, SV.int .i64 v.1), (0, SV.es (Kd.list I6) v.2.1), (1, SV.int .i64 v.2.2)], [])
def laws_heldIntSS_step0 (fuel : Nat) (g0 : laws_heldIntSS_V0 → Option ((Int × Unit) × Unit)) (v : laws_heldIntSS_V0) : Option ((Int × Unit) × Unit) :=
 cond (decide (v.1 < (zz (List.length v.2.1))))
 (tst (decide (0 ≤ v.1)) <|
  tst (decide (v.1 < (zz (List.length v.2.1)))) <|
  Option.bind (laws_heldIntS_fn fuel ((List.getD v.2.1 (Int.toNat v.1) [], ()), (v.2.2, ()), ())) fun y_2 =>
  cond (decide (y_2.1.1 < (0 : Int)))
   (some ((((-1 : Int), ()), ())))
   (g0 (w64 (v.1 + (1 : Int)), v.2.1, y_2.1.1)))
 (some (((v.2.2, ()), ())))
def laws_heldIntSS_st0 (fuel : Nat) (g0 : laws_heldIntSS_V0 → Option ((Int × Unit) × Unit)) : laws_heldIntSS_V0 → Option ((Int × Unit) × Unit) := laws_heldIntSS_step0 fuel g0
theorem laws_heldIntSS_lp0 (fuel : Nat) (G) : laws_heldIntSS_c.lp (laws_heldIntSS_T fuel) 0 fuel G (endF laws_heldIntSS_rv laws_heldIntSS_rs) 0 laws_heldIntSS_enc0 = iter (laws_heldIntSS_st0 fuel) fuel := C.lp_iter fun g v => by kernel_rfl
def laws_heldIntSS_pre (fuel : Nat) (X0 : laws_heldIntSS_V0 → Option ((Int × Unit) × Unit)) (x0 : List (List Int)) (x1 : Int) : Option ((Int × Unit) × Unit) :=
 X0 ((0 : Int), x0, x1)
def laws_heldIntSS_fn (fuel : Nat) (x : (((List (List Int)) × Unit) × ((Int × Unit) × Unit))) : Option ((Int × Unit) × Unit) := laws_heldIntSS_pre fuel (iter (laws_heldIntSS_st0 fuel) fuel) x.1.1 x.2.1.1
theorem laws_heldIntSS_run (fuel : Nat) (x : PsT laws_heldIntSS_ps) : run (laws_heldIntSS_T fuel) 0 fuel laws_heldIntSS_c (env0 (svPs laws_heldIntSS_ps x) 0) [] (endF laws_heldIntSS_rv laws_heldIntSS_rs) = laws_heldIntSS_fn fuel x :=
  (show run (laws_heldIntSS_T fuel) 0 fuel laws_heldIntSS_c (env0 (svPs laws_heldIntSS_ps x) 0) [] (endF laws_heldIntSS_rv laws_heldIntSS_rs) = laws_heldIntSS_pre fuel (laws_heldIntSS_c.lp (laws_heldIntSS_T fuel) 0 fuel (fun _ _ _ => none) (endF laws_heldIntSS_rv laws_heldIntSS_rs) 0 laws_heldIntSS_enc0) x.1.1 x.2.1.1 by kernel_rfl).trans (by rw [laws_heldIntSS_lp0]; rfl)
def laws_heldIntSS_tf (fuel : Nat) : TF := ⟨laws_heldIntSS_ps, laws_heldIntSS_rs, true, laws_heldIntSS_fn fuel⟩
theorem laws_heldIntSS_spec (fuel : Nat) : FnSpec Try.prog 31 (laws_heldIntSS_tf fuel) :=
  fn_spec (T := laws_heldIntSS_T fuel) (c := bodyOf Try.f31) (fn := Try.f31) (TabOK.of (entCons (laws_heldIntS_ok fuel) entNil) (methNil)) mixed (by kernel_rfl) (by kernel_rfl) laws_heldIntSS_l (by kernel_rfl) (Nat.le_of_ble_eq_true (by kernel_rfl)) (rv := laws_heldIntSS_rv) (by kernel_rfl) (laws_heldIntSS_run fuel)
theorem laws_heldIntSS_ok (fuel : Nat) : EntryOK Try.prog 31 (laws_heldIntSS_tf fuel).te := EntryOK.tf rfl (laws_heldIntSS_spec fuel) (isFn (fn := Try.f31) (by kernel_rfl) (by kernel_rfl) (by kernel_rfl))
def laws_heldRough_T (fuel : Nat) : Tab := Tab.of [(31, (laws_heldIntSS_tf fuel).te)] []
abbrev laws_heldRough_ps : List Pm := [{ cs := [(Kd.list (Kd.list I6), false)], ag := true }, { cs := [(I6, false)], ag := false }]
abbrev laws_heldRough_rs : List Pm := [{ cs := [(I6, false)], ag := false }]
def laws_heldRough_ann : List Norm := []
noncomputable def laws_heldRough_c : C := irOf Try.prog Try.f19 [] laws_heldRough_ann []
theorem laws_heldRough_l : lightC Try.prog [] Try.f19.ntmps laws_heldRough_ann [] 0 (bodyOf Try.f19) = some (laws_heldRough_c, 0) := by kernel_rfl
def laws_heldRough_rv : List (Nat × Option (Nat × Bool)) := [(4, none)]
def laws_heldRough_pre (fuel : Nat) (x0 : List (List Int)) (x1 : Int) : Option ((Int × Unit) × Unit) :=
 Option.bind (laws_heldIntSS_fn fuel ((x0, ()), (x1, ()), ())) fun y_1 =>
 cond (decide (y_1.1.1 < (0 : Int)))
  (some ((((-1 : Int), ()), ())))
  (some (((y_1.1.1, ()), ())))
def laws_heldRough_fn (fuel : Nat) (x : (((List (List Int)) × Unit) × ((Int × Unit) × Unit))) : Option ((Int × Unit) × Unit) := laws_heldRough_pre fuel x.1.1 x.2.1.1
theorem laws_heldRough_run (fuel : Nat) (x : PsT laws_heldRough_ps) : run (laws_heldRough_T fuel) 0 fuel laws_heldRough_c (env0 (svPs laws_heldRough_ps x) 0) [] (endF laws_heldRough_rv laws_heldRough_rs) = laws_heldRough_fn fuel x := by kernel_rfl
def laws_heldRough_tf (fuel : Nat) : TF := ⟨laws_heldRough_ps, laws_heldRough_rs, true, laws_heldRough_fn fuel⟩
theorem laws_heldRough_spec (fuel : Nat) : FnSpec Try.prog 19 (laws_heldRough_tf fuel) :=
  fn_spec (T := laws_heldRough_T fuel) (c := bodyOf Try.f19) (fn := Try.f19) (TabOK.of (entCons (laws_heldIntSS_ok fuel) entNil) (methNil)) mixed (by kernel_rfl) (by kernel_rfl) laws_heldRough_l (by kernel_rfl) (Nat.le_of_ble_eq_true (by kernel_rfl)) (rv := laws_heldRough_rv) (by kernel_rfl) (laws_heldRough_run fuel)
theorem laws_heldRough_ok (fuel : Nat) : EntryOK Try.prog 19 (laws_heldRough_tf fuel).te := EntryOK.tf rfl (laws_heldRough_spec fuel) (isFn (fn := Try.f19) (by kernel_rfl) (by kernel_rfl) (by kernel_rfl))
def laws_heldFew_T (fuel : Nat) : Tab := Tab.of [(32, (laws_heldIntS_tf fuel).te)] []
abbrev laws_heldFew_ps : List Pm := [{ cs := [(Kd.list I6, false)], ag := true }, { cs := [(I6, false)], ag := false }]
abbrev laws_heldFew_rs : List Pm := [{ cs := [(I6, false)], ag := false }]
def laws_heldFew_ann : List Norm := []
noncomputable def laws_heldFew_c : C := irOf Try.prog Try.f20 [] laws_heldFew_ann []
theorem laws_heldFew_l : lightC Try.prog [] Try.f20.ntmps laws_heldFew_ann [] 0 (bodyOf Try.f20) = some (laws_heldFew_c, 0) := by kernel_rfl
def laws_heldFew_rv : List (Nat × Option (Nat × Bool)) := [(4, none)]
def laws_heldFew_pre (fuel : Nat) (x0 : List Int) (x1 : Int) : Option ((Int × Unit) × Unit) :=
 Option.bind (laws_heldIntS_fn fuel ((x0, ()), (x1, ()), ())) fun y_1 =>
 cond (decide (y_1.1.1 < (0 : Int)))
  (some ((((-1 : Int), ()), ())))
  (some (((y_1.1.1, ()), ())))
def laws_heldFew_fn (fuel : Nat) (x : (((List Int) × Unit) × ((Int × Unit) × Unit))) : Option ((Int × Unit) × Unit) := laws_heldFew_pre fuel x.1.1 x.2.1.1
theorem laws_heldFew_run (fuel : Nat) (x : PsT laws_heldFew_ps) : run (laws_heldFew_T fuel) 0 fuel laws_heldFew_c (env0 (svPs laws_heldFew_ps x) 0) [] (endF laws_heldFew_rv laws_heldFew_rs) = laws_heldFew_fn fuel x := by kernel_rfl
def laws_heldFew_tf (fuel : Nat) : TF := ⟨laws_heldFew_ps, laws_heldFew_rs, true, laws_heldFew_fn fuel⟩
theorem laws_heldFew_spec (fuel : Nat) : FnSpec Try.prog 20 (laws_heldFew_tf fuel) :=
  fn_spec (T := laws_heldFew_T fuel) (c := bodyOf Try.f20) (fn := Try.f20) (TabOK.of (entCons (laws_heldIntS_ok fuel) entNil) (methNil)) mixed (by kernel_rfl) (by kernel_rfl) laws_heldFew_l (by kernel_rfl) (Nat.le_of_ble_eq_true (by kernel_rfl)) (rv := laws_heldFew_rv) (by kernel_rfl) (laws_heldFew_run fuel)
theorem laws_heldFew_ok (fuel : Nat) : EntryOK Try.prog 20 (laws_heldFew_tf fuel).te := EntryOK.tf rfl (laws_heldFew_spec fuel) (isFn (fn := Try.f20) (by kernel_rfl) (by kernel_rfl) (by kernel_rfl))
def laws_heldPairS_T (fuel : Nat) : Tab := Tab.of [] []
abbrev laws_heldPairS_ps : List Pm := [{ cs := [(Kd.list KP, false)], ag := false }, { cs := [(I6, false)], ag := false }]
abbrev laws_heldPairS_rs : List Pm := [{ cs := [(I6, false)], ag := false }]
def laws_heldPairS_ann : List Norm := [{ live := [5, 0, 1], fix := [] }]
noncomputable def laws_heldPairS_c : C := irOf Try.prog Try.f33 [] laws_heldPairS_ann []
theorem laws_heldPairS_l : lightC Try.prog [] Try.f33.ntmps laws_heldPairS_ann [] 0 (bodyOf Try.f33) = some (laws_heldPairS_c, 1) := by kernel_rfl
def laws_heldPairS_rv : List (Nat × Option (Nat × Bool)) := [(4, none)]
abbrev laws_heldPairS_V0 := (Int) × LP × (Int)
def laws_heldPairS_enc0 (v : laws_heldPairS_V0) : Env × Heap := ([(5, SV.int .i64 v.1), (0, SV.es KP v.2.1), (1, SV.int .i64 v.2.2)], [])
def laws_heldPairS_step0 (fuel : Nat) (g0 : laws_heldPairS_V0 → Option ((Int × Unit) × Unit)) (v : laws_heldPairS_V0) : Option ((Int × Unit) × Unit) :=
 cond (decide (v.1 < (zz (List.length v.2.1))))
 (tst (decide (0 ≤ v.1)) <|
  tst (decide (v.1 < (zz (List.length v.2.1)))) <|
  cond ((List.getD v.2.1 (Int.toNat v.1) (0, (0, ()))).1 != v.2.2)
  (some ((((-1 : Int), ()), ())))
  (tst (decide (0 ≤ v.1)) <|
   tst (decide (v.1 < (zz (List.length v.2.1)))) <|
   cond ((List.getD v.2.1 (Int.toNat v.1) (0, (0, ()))).2.1 != w64 (v.2.2 + (1 : Int)))
   (some ((((-1 : Int), ()), ())))
   (g0 (w64 (v.1 + (1 : Int)), v.2.1, w64 (w64 (v.2.2 + (1 : Int)) + (1 : Int))))))
 (some (((v.2.2, ()), ())))
def laws_heldPairS_st0 (fuel : Nat) (g0 : laws_heldPairS_V0 → Option ((Int × Unit) × Unit)) : laws_heldPairS_V0 → Option ((Int × Unit) × Unit) := laws_heldPairS_step0 fuel g0
theorem laws_heldPairS_lp0 (fuel : Nat) (G) : laws_heldPairS_c.lp (laws_heldPairS_T fuel) 0 fuel G (endF laws_heldPairS_rv laws_heldPairS_rs) 0 laws_heldPairS_enc0 = iter (laws_heldPairS_st0 fuel) fuel := C.lp_iter fun g v => by kernel_rfl
def laws_heldPairS_pre (fuel : Nat) (X0 : laws_heldPairS_V0 → Option ((Int × Unit) × Unit)) (x0 : LP) (x1 : Int) : Option ((Int × Unit) × Unit) :=
 X0 ((0 : Int), x0, x1)
def laws_heldPairS_fn (fuel : Nat) (x : ((LP × Unit) × ((Int × Unit) × Unit))) : Option ((Int × Unit) × Unit) := laws_heldPairS_pre fuel (iter (laws_heldPairS_st0 fuel) fuel) x.1.1 x.2.1.1
theorem laws_heldPairS_run (fuel : Nat) (x : PsT laws_heldPairS_ps) : run (laws_heldPairS_T fuel) 0 fuel laws_heldPairS_c (env0 (svPs laws_heldPairS_ps x) 0) [] (endF laws_heldPairS_rv laws_heldPairS_rs) = laws_heldPairS_fn fuel x :=
  (show run (laws_heldPairS_T fuel) 0 fuel laws_heldPairS_c (env0 (svPs laws_heldPairS_ps x) 0) [] (endF laws_heldPairS_rv laws_heldPairS_rs) = laws_heldPairS_pre fuel (laws_heldPairS_c.lp (laws_heldPairS_T fuel) 0 fuel (fun _ _ _ => none) (endF laws_heldPairS_rv laws_heldPairS_rs) 0 laws_heldPairS_enc0) x.1.1 x.2.1.1 by kernel_rfl).trans (by rw [laws_heldPairS_lp0]; rfl)
def laws_heldPairS_tf (fuel : Nat) : TF := ⟨laws_heldPairS_ps, laws_heldPairS_rs, true, laws_heldPairS_fn fuel⟩
theorem laws_heldPairS_spec (fuel : Nat) : FnSpec Try.prog 33 (laws_heldPairS_tf fuel) :=
  fn_spec (T := laws_heldPairS_T fuel) (c := bodyOf Try.f33) (fn := Try.f33) (TabOK.of (entNil) (methNil)) mixed (by kernel_rfl) (by kernel_rfl) laws_heldPairS_l (by kernel_rfl) (Nat.le_of_ble_eq_true (by kernel_rfl)) (rv := laws_heldPairS_rv) (by kernel_rfl) (laws_heldPairS_run fuel)
theorem laws_heldPairS_ok (fuel : Nat) : EntryOK Try.prog 33 (laws_heldPairS_tf fuel).te := EntryOK.tf rfl (laws_heldPairS_spec fuel) (isFn (fn := Try.f33) (by kernel_rfl) (by kernel_rfl) (by kernel_rfl))
def laws_heldTop_T (fuel : Nat) : Tab := Tab.of [(33, (laws_heldPairS_tf fuel).te)] []
abbrev laws_heldTop_ps : List Pm := [{ cs := [(Kd.list KP, false), (I6, false), (I6, false)], ag := true }, { cs := [(I6, false)], ag := false }]
abbrev laws_heldTop_rs : List Pm := [{ cs := [(I6, false)], ag := false }]
def laws_heldTop_ann : List Norm := []
noncomputable def laws_heldTop_c : C := irOf Try.prog Try.f21 [] laws_heldTop_ann []
theorem laws_heldTop_l : lightC Try.prog [] Try.f21.ntmps laws_heldTop_ann [] 0 (bodyOf Try.f21) = some (laws_heldTop_c, 0) := by kernel_rfl
def laws_heldTop_rv : List (Nat × Option (Nat × Bool)) := [(4, none)]
def laws_heldTop_pre (fuel : Nat) (x0 : LP) (x1 : Int) (x2 : Int) (x3 : Int) : Option ((Int × Unit) × Unit) :=
 Option.bind (laws_heldPairS_fn fuel ((x0, ()), (x3, ()), ())) fun y_1 =>
 cond (decide (y_1.1.1 < (0 : Int)))
  (some ((((-1 : Int), ()), ())))
  (some (((y_1.1.1, ()), ())))
def laws_heldTop_fn (fuel : Nat) (x : ((LP × (Int × (Int × Unit))) × ((Int × Unit) × Unit))) : Option ((Int × Unit) × Unit) := laws_heldTop_pre fuel x.1.1 x.1.2.1 x.1.2.2.1 x.2.1.1
theorem laws_heldTop_run (fuel : Nat) (x : PsT laws_heldTop_ps) : run (laws_heldTop_T fuel) 0 fuel laws_heldTop_c (env0 (svPs laws_heldTop_ps x) 0) [] (endF laws_heldTop_rv laws_heldTop_rs) = laws_heldTop_fn fuel x := by kernel_rfl
def laws_heldTop_tf (fuel : Nat) : TF := ⟨laws_heldTop_ps, laws_heldTop_rs, true, laws_heldTop_fn fuel⟩
theorem laws_heldTop_spec (fuel : Nat) : FnSpec Try.prog 21 (laws_heldTop_tf fuel) :=
  fn_spec (T := laws_heldTop_T fuel) (c := bodyOf Try.f21) (fn := Try.f21) (TabOK.of (entCons (laws_heldPairS_ok fuel) entNil) (methNil)) mixed (by kernel_rfl) (by kernel_rfl) laws_heldTop_l (by kernel_rfl) (Nat.le_of_ble_eq_true (by kernel_rfl)) (rv := laws_heldTop_rv) (by kernel_rfl) (laws_heldTop_run fuel)
theorem laws_heldTop_ok (fuel : Nat) : EntryOK Try.prog 21 (laws_heldTop_tf fuel).te := EntryOK.tf rfl (laws_heldTop_spec fuel) (isFn (fn := Try.f21) (by kernel_rfl) (by kernel_rfl) (by kernel_rfl))
def laws_heldKnotS_T (fuel : Nat) : Tab := Tab.of [] []
abbrev laws_heldKnotS_ps : List Pm := [{ cs := [(Kd.list KP, false)], ag := false }, { cs := [(I6, false)], ag := false }]
abbrev laws_heldKnotS_rs : List Pm := [{ cs := [(I6, false)], ag := false }]
def laws_heldKnotS_ann : List Norm := [{ live := [5, 0, 1], fix := [] }]
noncomputable def laws_heldKnotS_c : C := irOf Try.prog Try.f34 [] laws_heldKnotS_ann []
theorem laws_heldKnotS_l : lightC Try.prog [] Try.f34.ntmps laws_heldKnotS_ann [] 0 (bodyOf Try.f34) = some (laws_heldKnotS_c, 1) := by kernel_rfl
def laws_heldKnotS_rv : List (Nat × Option (Nat × Bool)) := [(4, none)]
abbrev laws_heldKnotS_V0 := (Int) × LP × (Int)
def laws_heldKnotS_enc0 (v : laws_heldKnotS_V0) : Env × Heap := ([(5, SV.int .i64 v.1), (0, SV.es KP v.2.1), (1, SV.int .i64 v.2.2)], [])
def laws_heldKnotS_step0 (fuel : Nat) (g0 : laws_heldKnotS_V0 → Option ((Int × Unit) × Unit)) (v : laws_heldKnotS_V0) : Option ((Int × Unit) × Unit) :=
 cond (decide (v.1 < (zz (List.length v.2.1))))
 (tst (decide (0 ≤ v.1)) <|
  tst (decide (v.1 < (zz (List.length v.2.1)))) <|
  cond ((List.getD v.2.1 (Int.toNat v.1) (0, (0, ()))).1 != v.2.2)
  (some ((((-1 : Int), ()), ())))
  (tst (decide (0 ≤ v.1)) <|
   tst (decide (v.1 < (zz (List.length v.2.1)))) <|
   cond ((List.getD v.2.1 (Int.toNat v.1) (0, (0, ()))).2.1 != w64 (v.2.2 + (1 : Int)))
   (some ((((-1 : Int), ()), ())))
   (g0 (w64 (v.1 + (1 : Int)), v.2.1, w64 (w64 (v.2.2 + (1 : Int)) + (1 : Int))))))
 (some (((v.2.2, ()), ())))
def laws_heldKnotS_st0 (fuel : Nat) (g0 : laws_heldKnotS_V0 → Option ((Int × Unit) × Unit)) : laws_heldKnotS_V0 → Option ((Int × Unit) × Unit) := laws_heldKnotS_step0 fuel g0
theorem laws_heldKnotS_lp0 (fuel : Nat) (G) : laws_heldKnotS_c.lp (laws_heldKnotS_T fuel) 0 fuel G (endF laws_heldKnotS_rv laws_heldKnotS_rs) 0 laws_heldKnotS_enc0 = iter (laws_heldKnotS_st0 fuel) fuel := C.lp_iter fun g v => by kernel_rfl
def laws_heldKnotS_pre (fuel : Nat) (X0 : laws_heldKnotS_V0 → Option ((Int × Unit) × Unit)) (x0 : LP) (x1 : Int) : Option ((Int × Unit) × Unit) :=
 X0 ((0 : Int), x0, x1)
def laws_heldKnotS_fn (fuel : Nat) (x : ((LP × Unit) × ((Int × Unit) × Unit))) : Option ((Int × Unit) × Unit) := laws_heldKnotS_pre fuel (iter (laws_heldKnotS_st0 fuel) fuel) x.1.1 x.2.1.1
theorem laws_heldKnotS_run (fuel : Nat) (x : PsT laws_heldKnotS_ps) : run (laws_heldKnotS_T fuel) 0 fuel laws_heldKnotS_c (env0 (svPs laws_heldKnotS_ps x) 0) [] (endF laws_heldKnotS_rv laws_heldKnotS_rs) = laws_heldKnotS_fn fuel x :=
  (show run (laws_heldKnotS_T fuel) 0 fuel laws_heldKnotS_c (env0 (svPs laws_heldKnotS_ps x) 0) [] (endF laws_heldKnotS_rv laws_heldKnotS_rs) = laws_heldKnotS_pre fuel (laws_heldKnotS_c.lp (laws_heldKnotS_T fuel) 0 fuel (fun _ _ _ => none) (endF laws_heldKnotS_rv laws_heldKnotS_rs) 0 laws_heldKnotS_enc0) x.1.1 x.2.1.1 by kernel_rfl).trans (by rw [laws_heldKnotS_lp0]; rfl)
def laws_heldKnotS_tf (fuel : Nat) : TF := ⟨laws_heldKnotS_ps, laws_heldKnotS_rs, true, laws_heldKnotS_fn fuel⟩
theorem laws_heldKnotS_spec (fuel : Nat) : FnSpec Try.prog 34 (laws_heldKnotS_tf fuel) :=
  fn_spec (T := laws_heldKnotS_T fuel) (c := bodyOf Try.f34) (fn := Try.f34) (TabOK.of (entNil) (methNil)) mixed (by kernel_rfl) (by kernel_rfl) laws_heldKnotS_l (by kernel_rfl) (Nat.le_of_ble_eq_true (by kernel_rfl)) (rv := laws_heldKnotS_rv) (by kernel_rfl) (laws_heldKnotS_run fuel)
theorem laws_heldKnotS_ok (fuel : Nat) : EntryOK Try.prog 34 (laws_heldKnotS_tf fuel).te := EntryOK.tf rfl (laws_heldKnotS_spec fuel) (isFn (fn := Try.f34) (by kernel_rfl) (by kernel_rfl) (by kernel_rfl))
def laws_heldRank_T (fuel : Nat) : Tab := Tab.of [(34, (laws_heldKnotS_tf fuel).te)] []
abbrev laws_heldRank_ps : List Pm := [{ cs := [(Kd.list KP, false), (I6, false)], ag := true }, { cs := [(I6, false)], ag := false }]
abbrev laws_heldRank_rs : List Pm := [{ cs := [(I6, false)], ag := false }]
def laws_heldRank_ann : List Norm := []
noncomputable def laws_heldRank_c : C := irOf Try.prog Try.f22 [] laws_heldRank_ann []
theorem laws_heldRank_l : lightC Try.prog [] Try.f22.ntmps laws_heldRank_ann [] 0 (bodyOf Try.f22) = some (laws_heldRank_c, 0) := by kernel_rfl
def laws_heldRank_rv : List (Nat × Option (Nat × Bool)) := [(4, none)]
def laws_heldRank_pre (fuel : Nat) (x0 : LP) (x1 : Int) (x2 : Int) : Option ((Int × Unit) × Unit) :=
 Option.bind (laws_heldKnotS_fn fuel ((x0, ()), (x2, ()), ())) fun y_1 =>
 cond (decide (y_1.1.1 < (0 : Int)))
  (some ((((-1 : Int), ()), ())))
  (some (((y_1.1.1, ()), ())))
def laws_heldRank_fn (fuel : Nat) (x : ((LP × (Int × Unit)) × ((Int × Unit) × Unit))) : Option ((Int × Unit) × Unit) := laws_heldRank_pre fuel x.1.1 x.1.2.1 x.2.1.1
theorem laws_heldRank_run (fuel : Nat) (x : PsT laws_heldRank_ps) : run (laws_heldRank_T fuel) 0 fuel laws_heldRank_c (env0 (svPs laws_heldRank_ps x) 0) [] (endF laws_heldRank_rv laws_heldRank_rs) = laws_heldRank_fn fuel x := by kernel_rfl
def laws_heldRank_tf (fuel : Nat) : TF := ⟨laws_heldRank_ps, laws_heldRank_rs, true, laws_heldRank_fn fuel⟩
theorem laws_heldRank_spec (fuel : Nat) : FnSpec Try.prog 22 (laws_heldRank_tf fuel) :=
  fn_spec (T := laws_heldRank_T fuel) (c := bodyOf Try.f22) (fn := Try.f22) (TabOK.of (entCons (laws_heldKnotS_ok fuel) entNil) (methNil)) mixed (by kernel_rfl) (by kernel_rfl) laws_heldRank_l (by kernel_rfl) (Nat.le_of_ble_eq_true (by kernel_rfl)) (rv := laws_heldRank_rv) (by kernel_rfl) (laws_heldRank_run fuel)
theorem laws_heldRank_ok (fuel : Nat) : EntryOK Try.prog 22 (laws_heldRank_tf fuel).te := EntryOK.tf rfl (laws_heldRank_spec fuel) (isFn (fn := Try.f22) (by kernel_rfl) (by kernel_rfl) (by kernel_rfl))
def laws_heldSum_T (fuel : Nat) : Tab := Tab.of [(19, (laws_heldRough_tf fuel).te), (20, (laws_heldFew_tf fuel).te), (21, (laws_heldTop_tf fuel).te), (22, (laws_heldRank_tf fuel).te)] []
abbrev laws_heldSum_ps : List Pm := [{ cs := [(Kd.list (Kd.list I6), false), (Kd.list I6, false), (Kd.list KP, false), (I6, false), (I6, false), (Kd.list KP, false), (I6, false)], ag := true }, { cs := [(I6, false)], ag := false }]
abbrev laws_heldSum_rs : List Pm := [{ cs := [(I6, false)], ag := false }]
def laws_heldSum_ann : List Norm := []
noncomputable def laws_heldSum_c : C := irOf Try.prog Try.f8 [] laws_heldSum_ann []
theorem laws_heldSum_l : lightC Try.prog [] Try.f8.ntmps laws_heldSum_ann [] 0 (bodyOf Try.f8) = some (laws_heldSum_c, 0) := by kernel_rfl
def laws_heldSum_rv : List (Nat × Option (Nat × Bool)) := [(4, none)]
def laws_heldSum_pre (fuel : Nat) (x0 : List (List Int)) (x1 : List Int) (x2 : LP) (x3 : Int) (x4 : Int) (x5 : LP) (x6 : Int) (x7 : Int) : Option ((Int × Unit) × Unit) :=
 Option.bind (laws_heldRough_fn fuel ((x0, ()), (x7, ()), ())) fun y_1 =>
 cond (decide (y_1.1.1 < (0 : Int)))
  (some ((((-1 : Int), ()), ())))
  (Option.bind (laws_heldFew_fn fuel ((x1, ()), (y_1.1.1, ()), ())) fun y_3 =>
   cond (decide (y_3.1.1 < (0 : Int)))
    (some ((((-1 : Int), ()), ())))
    (Option.bind (laws_heldTop_fn fuel ((x2, x3, x4, ()), (y_3.1.1, ()), ())) fun y_5 =>
     cond (decide (y_5.1.1 < (0 : Int)))
      (some ((((-1 : Int), ()), ())))
      (Option.bind (laws_heldRank_fn fuel ((x5, x6, ()), (y_5.1.1, ()), ())) fun y_7 =>
       cond (decide (y_7.1.1 < (0 : Int)))
        (some ((((-1 : Int), ()), ())))
        (some (((y_7.1.1, ()), ()))))))
def laws_heldSum_fn (fuel : Nat) (x : (SumY × ((Int × Unit) × Unit))) : Option ((Int × Unit) × Unit) := laws_heldSum_pre fuel x.1.1 x.1.2.1 x.1.2.2.1 x.1.2.2.2.1 x.1.2.2.2.2.1 x.1.2.2.2.2.2.1 x.1.2.2.2.2.2.2.1 x.2.1.1
theorem laws_heldSum_run (fuel : Nat) (x : PsT laws_heldSum_ps) : run (laws_heldSum_T fuel) 0 fuel laws_heldSum_c (env0 (svPs laws_heldSum_ps x) 0) [] (endF laws_heldSum_rv laws_heldSum_rs) = laws_heldSum_fn fuel x := by kernel_rfl
def laws_heldSum_tf (fuel : Nat) : TF := ⟨laws_heldSum_ps, laws_heldSum_rs, true, laws_heldSum_fn fuel⟩
theorem laws_heldSum_spec (fuel : Nat) : FnSpec Try.prog 8 (laws_heldSum_tf fuel) :=
  fn_spec (T := laws_heldSum_T fuel) (c := bodyOf Try.f8) (fn := Try.f8) (TabOK.of (entCons (laws_heldRough_ok fuel) (entCons (laws_heldFew_ok fuel) (entCons (laws_heldTop_ok fuel) (entCons (laws_heldRank_ok fuel) entNil)))) (methNil)) mixed (by kernel_rfl) (by kernel_rfl) laws_heldSum_l (by kernel_rfl) (Nat.le_of_ble_eq_true (by kernel_rfl)) (rv := laws_heldSum_rv) (by kernel_rfl) (laws_heldSum_run fuel)
theorem laws_heldSum_ok (fuel : Nat) : EntryOK Try.prog 8 (laws_heldSum_tf fuel).te := EntryOK.tf rfl (laws_heldSum_spec fuel) (isFn (fn := Try.f8) (by kernel_rfl) (by kernel_rfl) (by kernel_rfl))
noncomputable def laws_FnExactSumNew_T (fuel : Nat) : Tab := Tab.ofI [(4, (spec_SumNew_tf fuel).te), (6, (laws_eqSum_tf fuel).te), (8, (laws_heldSum_tf fuel).te)] [] [(5, impl_SumNew_x0_ie fuel), (7, laws_markSum_ie fuel)]
abbrev laws_FnExactSumNew_ps : List Pm := []
abbrev laws_FnExactSumNew_rs : List Pm := [{ cs := [(Kd.bool, false)], ag := false }]
def laws_FnExactSumNew_ann : List Norm := []
noncomputable def laws_FnExactSumNew_c : C := irOf Try.prog Try.f3 [7, 14, 23] laws_FnExactSumNew_ann []
theorem laws_FnExactSumNew_l : lightC Try.prog [7, 14, 23] Try.f3.ntmps laws_FnExactSumNew_ann [] 0 (bodyOf Try.f3) = some (laws_FnExactSumNew_c, 0) := by kernel_rfl
def laws_FnExactSumNew_rv : List (Nat × Option (Nat × Bool)) := [(0, none)]
def laws_FnExactSumNew_pre (fuel : Nat)  : Option ((Bool × Unit) × Unit) :=
 Option.bind (spec_SumNew_fn fuel ()) fun y_1 =>
 Option.bind (laws_eqSum_fn fuel (([List.replicate (Int.toNat (8 : Int)) 0, List.replicate (Int.toNat (8 : Int)) 0, List.replicate (Int.toNat (8 : Int)) 0], [], [], (0 : Int), (0 : Int), [], (0 : Int), ()), (y_1.1.1, y_1.1.2.1, y_1.1.2.2.1, y_1.1.2.2.2.1, y_1.1.2.2.2.2.1, y_1.1.2.2.2.2.2.1, y_1.1.2.2.2.2.2.2.1, ()), ())) fun y_2 =>
  cond (!y_2.1.1)
   (some (((false, ()), ())))
   (Option.bind (laws_markIntS_v0_fn fuel (List.replicate (Int.toNat (8 : Int)) 0, (), ((1 : Int), ()), ())) fun y_4 =>
    Option.bind (laws_markIntS_v0_fn fuel (List.replicate (Int.toNat (8 : Int)) 0, (), (y_4.2.1.1, ()), ())) fun y_5 =>
     Option.bind (laws_markIntS_v0_fn fuel (List.replicate (Int.toNat (8 : Int)) 0, (), (y_5.2.1.1, ()), ())) fun y_6 =>
      Option.bind (laws_markIntS_v1_fn fuel (y_6.2.1.1, ())) fun y_7 =>
       Option.bind (laws_markPairS_v1_fn fuel (y_7.1, ())) fun y_8 =>
        Option.bind (laws_markKnotS_v1_fn fuel (y_8.1, ())) fun y_9 =>
         Option.bind (laws_heldSum_fn fuel (([y_4.1, y_5.1, y_6.1], [], [], (0 : Int), (0 : Int), [], (0 : Int), ()), ((1 : Int), ()), ())) fun y_10 =>
          cond (decide (y_10.1.1 < (0 : Int)))
           (some (((false, ()), ())))
           (cond (y_10.1.1 != y_9.1)
            (some (((false, ()), ())))
            (Option.bind (laws_eqSum_fn fuel (([List.replicate (Int.toNat (8 : Int)) 0, List.replicate (Int.toNat (8 : Int)) 0, List.replicate (Int.toNat (8 : Int)) 0], [], [], (0 : Int), (0 : Int), [], (0 : Int), ()), (y_1.1.1, y_1.1.2.1, y_1.1.2.2.1, y_1.1.2.2.2.1, y_1.1.2.2.2.2.1, y_1.1.2.2.2.2.2.1, y_1.1.2.2.2.2.2.2.1, ()), ())) fun y_13 =>
             cond (!y_13.1.1)
              (some (((false, ()), ())))
              (Option.bind (laws_heldSum_fn fuel (([y_4.1, y_5.1, y_6.1], [], [], (0 : Int), (0 : Int), [], (0 : Int), ()), ((1 : Int), ()), ())) fun y_15 =>
               cond (decide (y_15.1.1 < (0 : Int)))
                (some (((false, ()), ())))
                (cond (y_15.1.1 != y_9.1)
                 (some (((false, ()), ())))
                 (some (((true, ()), ()))))))))
def laws_FnExactSumNew_fn (fuel : Nat) (x : Unit) : Option ((Bool × Unit) × Unit) := laws_FnExactSumNew_pre fuel
theorem laws_FnExactSumNew_run (fuel : Nat) (x : PsT laws_FnExactSumNew_ps) : run (laws_FnExactSumNew_T fuel) 0 fuel laws_FnExactSumNew_c (env0 (svPs laws_FnExactSumNew_ps x) 0) [] (endF laws_FnExactSumNew_rv laws_FnExactSumNew_rs) = laws_FnExactSumNew_fn fuel x := by kernel_rfl
def laws_FnExactSumNew_tf (fuel : Nat) : TF := ⟨laws_FnExactSumNew_ps, laws_FnExactSumNew_rs, true, laws_FnExactSumNew_fn fuel⟩
theorem laws_FnExactSumNew_spec (fuel : Nat) : FnSpec Try.prog 3 (laws_FnExactSumNew_tf fuel) :=
  fn_spec (T := laws_FnExactSumNew_T fuel) (c := bodyOf Try.f3) (fn := Try.f3) (TabOK.ofI (entCons (spec_SumNew_ok fuel) (entCons (laws_eqSum_ok fuel) (entCons (laws_heldSum_ok fuel) entNil))) (methNil) (inlCons (impl_SumNew_x0_ok fuel) (inlCons (laws_markSum_ok fuel) (inlNil)))) mixed (by kernel_rfl) (by kernel_rfl) laws_FnExactSumNew_l (by kernel_rfl) (Nat.le_of_ble_eq_true (by kernel_rfl)) (rv := laws_FnExactSumNew_rv) (by kernel_rfl) (laws_FnExactSumNew_run fuel)
end Go.Proofs.Ytmnkhjdbdenacaa.Den
