/- Part 12 of the texts behind the row. -/
import Derived.Test.YtdgdoeknpakmlaaGreatB1c1764b2b9
set_option linter.unusedVariables false
set_option linter.unusedSimpArgs false
namespace Go.Proofs.YtdgdoeknpakmlaaGreat.Den
open Go Go.RowKit
set_option linter.unusedVariables false
set_option linter.unusedSimpArgs false
def cmp_isNaN_int_T (fuel : Nat) : Tab := Tab.of [] []
abbrev cmp_isNaN_int_ps : List Pm := [{ cs := [(I6, false)], ag := false }]
abbrev cmp_isNaN_int_rs : List Pm := [{ cs := [(Kd.bool, false)], ag := false }]
def cmp_isNaN_int_ann : List Norm := []
noncomputable def cmp_isNaN_int_c : C := irOf Tryz.prog Tryz.f200 [] cmp_isNaN_int_ann []
theorem cmp_isNaN_int_l : lightC Tryz.prog [] Tryz.f200.ntmps cmp_isNaN_int_ann [] 0 (bodyOf Tryz.f200) = some (cmp_isNaN_int_c, 0) := by kernel_rfl
def cmp_isNaN_int_rv : List (Nat × Option (Nat × Bool)) := [(2, none)]
def cmp_isNaN_int_pre (fuel : Nat) (x0 : Int) : Option ((Bool × Unit) × Unit) :=
 some (((x0 != x0, ()), ()))
def cmp_isNaN_int_fn (fuel : Nat) (x : ((Int × Unit) × Unit)) : Option ((Bool × Unit) × Unit) := cmp_isNaN_int_pre fuel x.1.1
theorem cmp_isNaN_int_run (fuel : Nat) (x : PsT cmp_isNaN_int_ps) : run (cmp_isNaN_int_T fuel) 0 fuel cmp_isNaN_int_c (env0 (svPs cmp_isNaN_int_ps x) 0) [] (endF cmp_isNaN_int_rv cmp_isNaN_int_rs) = cmp_isNaN_int_fn fuel x := by kernel_rfl
def cmp_isNaN_int_tf (fuel : Nat) : TF := ⟨cmp_isNaN_int_ps, cmp_isNaN_int_rs, true, cmp_isNaN_int_fn fuel⟩
theorem cmp_isNaN_int_spec (fuel : Nat) : FnSpec Tryz.prog 200 (cmp_isNaN_int_tf fuel) :=
  fn_spec (T := cmp_isNaN_int_T fuel) (c := bodyOf Tryz.f200) (fn := Tryz.f200) (TabOK.of (entNil) (methNil)) mixed (by kernel_rfl) (by kernel_rfl) cmp_isNaN_int_l (by kernel_rfl) (Nat.le_of_ble_eq_true (by kernel_rfl)) (rv := cmp_isNaN_int_rv) (by kernel_rfl) (cmp_isNaN_int_run fuel)
theorem cmp_isNaN_int_ok (fuel : Nat) : EntryOK Tryz.prog 200 (cmp_isNaN_int_tf fuel).te := EntryOK.tf rfl (cmp_isNaN_int_spec fuel) (isFn (fn := Tryz.f200) (by kernel_rfl) (by kernel_rfl) (by kernel_rfl))
def cmp_Compare_int_T (fuel : Nat) : Tab := Tab.of [(200, (cmp_isNaN_int_tf fuel).te)] []
abbrev cmp_Compare_int_ps : List Pm := [{ cs := [(I6, false)], ag := false }, { cs := [(I6, false)], ag := false }]
abbrev cmp_Compare_int_rs : List Pm := [{ cs := [(I6, false)], ag := false }]
def cmp_Compare_int_ann : List Norm := []
noncomputable def cmp_Compare_int_c : C := irOf Tryz.prog Tryz.f197 [] cmp_Compare_int_ann []
theorem cmp_Compare_int_l : lightC Tryz.prog [] Tryz.f197.ntmps cmp_Compare_int_ann [] 0 (bodyOf Tryz.f197) = some (cmp_Compare_int_c, 0) := by kernel_rfl
def cmp_Compare_int_rv : List (Nat × Option (Nat × Bool)) := [(4, none)]
def cmp_Compare_int_pre (fuel : Nat) (x0 : Int) (x1 : Int) : Option ((Int × Unit) × Unit) :=
 Option.bind (cmp_isNaN_int_fn fuel ((x0, ()), ())) fun y_1 =>
 Option.bind (cmp_isNaN_int_fn fuel ((x1, ()), ())) fun y_2 =>
  cond (y_1.1.1)
   (cond (y_2.1.1)
    (some ((((0 : Int), ()), ())))
    (some ((((-1 : Int), ()), ()))))
   (cond (y_2.1.1)
    (some ((((1 : Int), ()), ())))
    (cond (decide (x0 < x1))
     (some ((((-1 : Int), ()), ())))
     (cond (decide (x0 > x1))
      (some ((((1 : Int), ()), ())))
      (some ((((0 : Int), ()), ()))))))
def cmp_Compare_int_fn (fuel : Nat) (x : ((Int × Unit) × ((Int × Unit) × Unit))) : Option ((Int × Unit) × Unit) := cmp_Compare_int_pre fuel x.1.1 x.2.1.1
theorem cmp_Compare_int_run (fuel : Nat) (x : PsT cmp_Compare_int_ps) : run (cmp_Compare_int_T fuel) 0 fuel cmp_Compare_int_c (env0 (svPs cmp_Compare_int_ps x) 0) [] (endF cmp_Compare_int_rv cmp_Compare_int_rs) = cmp_Compare_int_fn fuel x := by kernel_rfl
def cmp_Compare_int_tf (fuel : Nat) : TF := ⟨cmp_Compare_int_ps, cmp_Compare_int_rs, true, cmp_Compare_int_fn fuel⟩
theorem cmp_Compare_int_spec (fuel : Nat) : FnSpec Tryz.prog 197 (cmp_Compare_int_tf fuel) :=
  fn_spec (T := cmp_Compare_int_T fuel) (c := bodyOf Tryz.f197) (fn := Tryz.f197) (TabOK.of (entCons (cmp_isNaN_int_ok fuel) entNil) (methNil)) mixed (by kernel_rfl) (by kernel_rfl) cmp_Compare_int_l (by kernel_rfl) (Nat.le_of_ble_eq_true (by kernel_rfl)) (rv := cmp_Compare_int_rv) (by kernel_rfl) (cmp_Compare_int_run fuel)
theorem cmp_Compare_int_ok (fuel : Nat) : EntryOK Tryz.prog 197 (cmp_Compare_int_tf fuel).te := EntryOK.tf rfl (cmp_Compare_int_spec fuel) (isFn (fn := Tryz.f197) (by kernel_rfl) (by kernel_rfl) (by kernel_rfl))
def impl_Pair_byThing_T (fuel : Nat) : Tab := Tab.of [(197, (cmp_Compare_int_tf fuel).te)] []
abbrev impl_Pair_byThing_ps : List Pm := [{ cs := [(I6, false), (I6, false)], ag := true }, { cs := [(I6, false), (I6, false)], ag := true }]
abbrev impl_Pair_byThing_rs : List Pm := [{ cs := [(I6, false)], ag := false }]
def impl_Pair_byThing_ann : List Norm := []
noncomputable def impl_Pair_byThing_c : C := irOf Tryz.prog Tryz.f193 [] impl_Pair_byThing_ann []
theorem impl_Pair_byThing_l : lightC Tryz.prog [] Tryz.f193.ntmps impl_Pair_byThing_ann [] 0 (bodyOf Tryz.f193) = some (impl_Pair_byThing_c, 0) := by kernel_rfl
def impl_Pair_byThing_rv : List (Nat × Option (Nat × Bool)) := [(4, none)]
def impl_Pair_byThing_pre (fuel : Nat) (x0 : Int) (x1 : Int) (x2 : Int) (x3 : Int) : Option ((Int × Unit) × Unit) :=
 Option.bind (cmp_Compare_int_fn fuel ((x0, ()), (x2, ()), ())) fun y_1 =>
 some (((y_1.1.1, ()), ()))
def impl_Pair_byThing_fn (fuel : Nat) (x : ((Int × (Int × Unit)) × ((Int × (Int × Unit)) × Unit))) : Option ((Int × Unit) × Unit) := impl_Pair_byThing_pre fuel x.1.1 x.1.2.1 x.2.1.1 x.2.1.2.1
theorem impl_Pair_byThing_run (fuel : Nat) (x : PsT impl_Pair_byThing_ps) : run (impl_Pair_byThing_T fuel) 0 fuel impl_Pair_byThing_c (env0 (svPs impl_Pair_byThing_ps x) 0) [] (endF impl_Pair_byThing_rv impl_Pair_byThing_rs) = impl_Pair_byThing_fn fuel x := by kernel_rfl
def impl_Pair_byThing_tf (fuel : Nat) : TF := ⟨impl_Pair_byThing_ps, impl_Pair_byThing_rs, true, impl_Pair_byThing_fn fuel⟩
theorem impl_Pair_byThing_spec (fuel : Nat) : FnSpec Tryz.prog 193 (impl_Pair_byThing_tf fuel) :=
  fn_spec (T := impl_Pair_byThing_T fuel) (c := bodyOf Tryz.f193) (fn := Tryz.f193) (TabOK.of (entCons (cmp_Compare_int_ok fuel) entNil) (methNil)) mixed (by kernel_rfl) (by kernel_rfl) impl_Pair_byThing_l (by kernel_rfl) (Nat.le_of_ble_eq_true (by kernel_rfl)) (rv := impl_Pair_byThing_rv) (by kernel_rfl) (impl_Pair_byThing_run fuel)
theorem impl_Pair_byThing_ok (fuel : Nat) : EntryOK Tryz.prog 193 (impl_Pair_byThing_tf fuel).te := EntryOK.tf rfl (impl_Pair_byThing_spec fuel) (isFn (fn := Tryz.f193) (by kernel_rfl) (by kernel_rfl) (by kernel_rfl))
def impl_Pair_byNum_T (fuel : Nat) : Tab := Tab.of [(197, (cmp_Compare_int_tf fuel).te)] []
abbrev impl_Pair_byNum_ps : List Pm := [{ cs := [(I6, false), (I6, false)], ag := true }, { cs := [(I6, false), (I6, false)], ag := true }]
abbrev impl_Pair_byNum_rs : List Pm := [{ cs := [(I6, false)], ag := false }]
def impl_Pair_byNum_ann : List Norm := []
noncomputable def impl_Pair_byNum_c : C := irOf Tryz.prog Tryz.f194 [] impl_Pair_byNum_ann []
theorem impl_Pair_byNum_l : lightC Tryz.prog [] Tryz.f194.ntmps impl_Pair_byNum_ann [] 0 (bodyOf Tryz.f194) = some (impl_Pair_byNum_c, 0) := by kernel_rfl
def impl_Pair_byNum_rv : List (Nat × Option (Nat × Bool)) := [(4, none)]
def impl_Pair_byNum_pre (fuel : Nat) (x0 : Int) (x1 : Int) (x2 : Int) (x3 : Int) : Option ((Int × Unit) × Unit) :=
 Option.bind (cmp_Compare_int_fn fuel ((x3, ()), (x1, ()), ())) fun y_1 =>
 some (((y_1.1.1, ()), ()))
def impl_Pair_byNum_fn (fuel : Nat) (x : ((Int × (Int × Unit)) × ((Int × (Int × Unit)) × Unit))) : Option ((Int × Unit) × Unit) := impl_Pair_byNum_pre fuel x.1.1 x.1.2.1 x.2.1.1 x.2.1.2.1
theorem impl_Pair_byNum_run (fuel : Nat) (x : PsT impl_Pair_byNum_ps) : run (impl_Pair_byNum_T fuel) 0 fuel impl_Pair_byNum_c (env0 (svPs impl_Pair_byNum_ps x) 0) [] (endF impl_Pair_byNum_rv impl_Pair_byNum_rs) = impl_Pair_byNum_fn fuel x := by kernel_rfl
def impl_Pair_byNum_tf (fuel : Nat) : TF := ⟨impl_Pair_byNum_ps, impl_Pair_byNum_rs, true, impl_Pair_byNum_fn fuel⟩
theorem impl_Pair_byNum_spec (fuel : Nat) : FnSpec Tryz.prog 194 (impl_Pair_byNum_tf fuel) :=
  fn_spec (T := impl_Pair_byNum_T fuel) (c := bodyOf Tryz.f194) (fn := Tryz.f194) (TabOK.of (entCons (cmp_Compare_int_ok fuel) entNil) (methNil)) mixed (by kernel_rfl) (by kernel_rfl) impl_Pair_byNum_l (by kernel_rfl) (Nat.le_of_ble_eq_true (by kernel_rfl)) (rv := impl_Pair_byNum_rv) (by kernel_rfl) (impl_Pair_byNum_run fuel)
theorem impl_Pair_byNum_ok (fuel : Nat) : EntryOK Tryz.prog 194 (impl_Pair_byNum_tf fuel).te := EntryOK.tf rfl (impl_Pair_byNum_spec fuel) (isFn (fn := Tryz.f194) (by kernel_rfl) (by kernel_rfl) (by kernel_rfl))
abbrev slices_insertionSortCmpFunc_impl_Pair_v0_R := Option (LP × Unit)
def slices_insertionSortCmpFunc_impl_Pair_v0_T (fuel : Nat) : Tab := Tab.of [(193, (impl_Pair_byThing_tf fuel).te), (194, (impl_Pair_byNum_tf fuel).te)] []
abbrev slices_insertionSortCmpFunc_impl_Pair_v0_ps : Sh := (.cell I6 0 (.cell I6 0 (.fnc 193 .nil)))
abbrev slices_insertionSortCmpFunc_impl_Pair_v0_rs : List Pm := []
def slices_insertionSortCmpFunc_impl_Pair_v0_ann : List Norm := [{ live := [8, 2, 1, 3, 0], fix := [] }, { live := [9, 1, 3, 0, 8, 2], fix := [] }]
noncomputable def slices_insertionSortCmpFunc_impl_Pair_v0_c : C := irOf Tryz.prog Tryz.f201 [] slices_insertionSortCmpFunc_impl_Pair_v0_ann []
theorem slices_insertionSortCmpFunc_impl_Pair_v0_l : lightC Tryz.prog [] Tryz.f201.ntmps slices_insertionSortCmpFunc_impl_Pair_v0_ann [] 0 (bodyOf Tryz.f201) = some (slices_insertionSortCmpFunc_impl_Pair_v0_c, 2) := by kernel_rfl
def slices_insertionSortCmpFunc_impl_Pair_v0_rv : List (Nat × Option (Nat × Bool)) := []
abbrev slices_insertionSortCmpFunc_impl_Pair_v0_V0 := (Int) × (Int) × (Int) × LP
abbrev slices_insertionSortCmpFunc_impl_Pair_v0_V1 := (Int) × (Int) × (Int) × (Int) × LP
def slices_insertionSortCmpFunc_impl_Pair_v0_enc0 (v : slices_insertionSortCmpFunc_impl_Pair_v0_V0) : Env × Heap := ([(8, SV.int .i64 v.1), (2, SV.int .i64 v.2.1), (1, SV.int .i64 v.2.2.1), (3, SV.fn (Fn.func 193) [] []), (0, SV.own 0)], [Blk.arr KP v.2.2.2 0])
def slices_insertionSortCmpFunc_impl_Pair_v0_enc1 (v : slices_insertionSortCmpFunc_impl_Pair_v0_V1) : Env × Heap := ([(9, SV.int .i64 v.1), (1, SV.int .i64 v.2.1), (3, SV.fn (Fn.func 193) [] []), (0, SV.own 0), (8, SV.int .i64 v.2.2.1), (2, SV.int .i64 v.2.2.2.1)], [Blk.arr KP v.2.2.2.2 0])
def slices_insertionSortCmpFunc_impl_Pair_v0_step1 (fuel : Nat) (g0 : slices_insertionSortCmpFunc_impl_Pair_v0_V0 → slices_insertionSortCmpFunc_impl_Pair_v0_R) (g1 : slices_insertionSortCmpFunc_impl_Pair_v0_V1 → slices_insertionSortCmpFunc_impl_Pair_v0_R) (v : slices_insertionSortCmpFunc_impl_Pair_v0_V1) : slices_insertionSortCmpFunc_impl_Pair_v0_R :=
 cond (decide (v.1 > v.2.1))
 (tst (decide (0 ≤ v.1)) <|
  tst (decide (v.1 < (zz (List.length v.2.2.2.2)))) <|
  tst (decide (Int.toNat v.1 < List.length v.2.2.2.2)) <|
  tst (decide (0 ≤ w64 (v.1 - (1 : Int)))) <|
  tst (decide (w64 (v.1 - (1 : Int)) < (zz (List.length v.2.2.2.2)))) <|
  tst (decide (Int.toNat (w64 (v.1 - (1 : Int))) < List.length v.2.2.2.2)) <|
  Option.bind (impl_Pair_byThing_fn fuel (((List.getD v.2.2.2.2 (Int.toNat v.1) (0, (0, ()))).1, (List.getD v.2.2.2.2 (Int.toNat v.1) (0, (0, ()))).2.1, ()), ((List.getD v.2.2.2.2 (Int.toNat (w64 (v.1 - (1 : Int)))) (0, (0, ()))).1, (List.getD v.2.2.2.2 (Int.toNat (w64 (v.1 - (1 : Int)))) (0, (0, ()))).2.1, ()), ())) fun y_2 =>
  cond (decide (y_2.1.1 < (0 : Int)))
   (tst (decide (0 ≤ w64 (v.1 - (1 : Int)))) <|
    tst (decide (w64 (v.1 - (1 : Int)) < (zz (List.length v.2.2.2.2)))) <|
    tst (decide (Int.toNat (w64 (v.1 - (1 : Int))) < List.length v.2.2.2.2)) <|
    tst (decide (0 ≤ v.1)) <|
    tst (decide (v.1 < (zz (List.length v.2.2.2.2)))) <|
    tst (decide (Int.toNat v.1 < List.length v.2.2.2.2)) <|
    tst (decide (0 ≤ v.1)) <|
    tst (decide (v.1 < (zz (List.length v.2.2.2.2)))) <|
    tst (decide (Int.toNat v.1 < List.length v.2.2.2.2)) <|
    tst (decide (0 ≤ w64 (v.1 - (1 : Int)))) <|
    tst (decide (w64 (v.1 - (1 : Int)) < (zz (List.length (List.set v.2.2.2.2 (Int.toNat v.1) ((List.getD v.2.2.2.2 (Int.toNat (w64 (v.1 - (1 : Int)))) (0, (0, ()))).1, (List.getD v.2.2.2.2 (Int.toNat (w64 (v.1 - (1 : Int)))) (0, (0, ()))).2.1, ())))))) <|
    tst (decide (Int.toNat (w64 (v.1 - (1 : Int))) < List.length (List.set v.2.2.2.2 (Int.toNat v.1) ((List.getD v.2.2.2.2 (Int.toNat (w64 (v.1 - (1 : Int)))) (0, (0, ()))).1, (List.getD v.2.2.2.2 (Int.toNat (w64 (v.1 - (1 : Int)))) (0, (0, ()))).2.1, ())))) <|
    g1 (w64 (v.1 - (1 : Int)), v.2.1, v.2.2.1, v.2.2.2.1, List.set (List.set v.2.2.2.2 (Int.toNat v.1) ((List.getD v.2.2.2.2 (Int.toNat (w64 (v.1 - (1 : Int)))) (0, (0, ()))).1, (List.getD v.2.2.2.2 (Int.toNat (w64 (v.1 - (1 : Int)))) (0, (0, ()))).2.1, ())) (Int.toNat (w64 (v.1 - (1 : Int)))) ((List.getD v.2.2.2.2 (Int.toNat v.1) (0, (0, ()))).1, (List.getD v.2.2.2.2 (Int.toNat v.1) (0, (0, ()))).2.1, ())))
   (g0 (w64 (v.2.2.1 + (1 : Int)), v.2.2.2.1, v.2.1, v.2.2.2.2)))
 (g0 (w64 (v.2.2.1 + (1 : Int)), v.2.2.2.1, v.2.1, v.2.2.2.2))
def slices_insertionSortCmpFunc_impl_Pair_v0_st1 (fuel : Nat) (g0 : slices_insertionSortCmpFunc_impl_Pair_v0_V0 → slices_insertionSortCmpFunc_impl_Pair_v0_R) (g1 : slices_insertionSortCmpFunc_impl_Pair_v0_V1 → slices_insertionSortCmpFunc_impl_Pair_v0_R) : slices_insertionSortCmpFunc_impl_Pair_v0_V1 → slices_insertionSortCmpFunc_impl_Pair_v0_R := slices_insertionSortCmpFunc_impl_Pair_v0_step1 fuel g0 g1
theorem slices_insertionSortCmpFunc_impl_Pair_v0_lp1 (fuel : Nat) (G) : slices_insertionSortCmpFunc_impl_Pair_v0_c.lp (slices_insertionSortCmpFunc_impl_Pair_v0_T fuel) 1 fuel G (endS slices_insertionSortCmpFunc_impl_Pair_v0_rv KP false slices_insertionSortCmpFunc_impl_Pair_v0_rs) 1 slices_insertionSortCmpFunc_impl_Pair_v0_enc1 = iter (slices_insertionSortCmpFunc_impl_Pair_v0_st1 fuel (fun v => G 0 (slices_insertionSortCmpFunc_impl_Pair_v0_enc0 v).1 (slices_insertionSortCmpFunc_impl_Pair_v0_enc0 v).2)) fuel := C.lp_iter fun g v =>
  (show run (slices_insertionSortCmpFunc_impl_Pair_v0_T fuel) 1 fuel (slices_insertionSortCmpFunc_impl_Pair_v0_c.bdAt 1) (slices_insertionSortCmpFunc_impl_Pair_v0_enc1 v).1 (slices_insertionSortCmpFunc_impl_Pair_v0_enc1 v).2 (loopK 1 (slices_insertionSortCmpFunc_impl_Pair_v0_c.nmAt 1) g (slices_insertionSortCmpFunc_impl_Pair_v0_c.contAt (slices_insertionSortCmpFunc_impl_Pair_v0_T fuel) 1 fuel G 0 1 (endS slices_insertionSortCmpFunc_impl_Pair_v0_rv KP false slices_insertionSortCmpFunc_impl_Pair_v0_rs))) = slices_insertionSortCmpFunc_impl_Pair_v0_step1 fuel (fun v => G 0 (slices_insertionSortCmpFunc_impl_Pair_v0_enc0 v).1 (slices_insertionSortCmpFunc_impl_Pair_v0_enc0 v).2) (fun v => g (slices_insertionSortCmpFunc_impl_Pair_v0_enc1 v).1 (slices_insertionSortCmpFunc_impl_Pair_v0_enc1 v).2) v by kernel_rfl)
def slices_insertionSortCmpFunc_impl_Pair_v0_step0 (fuel : Nat) (X1 : slices_insertionSortCmpFunc_impl_Pair_v0_V1 → slices_insertionSortCmpFunc_impl_Pair_v0_R) (g0 : slices_insertionSortCmpFunc_impl_Pair_v0_V0 → slices_insertionSortCmpFunc_impl_Pair_v0_R) (v : slices_insertionSortCmpFunc_impl_Pair_v0_V0) : slices_insertionSortCmpFunc_impl_Pair_v0_R :=
 cond (decide (v.1 < v.2.1))
 (X1 (v.1, v.2.2.1, v.1, v.2.1, v.2.2.2))
 (some ((v.2.2.2, ())))
def slices_insertionSortCmpFunc_impl_Pair_v0_st0 (fuel : Nat) (g0 : slices_insertionSortCmpFunc_impl_Pair_v0_V0 → slices_insertionSortCmpFunc_impl_Pair_v0_R) : slices_insertionSortCmpFunc_impl_Pair_v0_V0 → slices_insertionSortCmpFunc_impl_Pair_v0_R := slices_insertionSortCmpFunc_impl_Pair_v0_step0 fuel (iter (slices_insertionSortCmpFunc_impl_Pair_v0_st1 fuel g0) fuel) g0
theorem slices_insertionSortCmpFunc_impl_Pair_v0_lp0 (fuel : Nat) (G) : slices_insertionSortCmpFunc_impl_Pair_v0_c.lp (slices_insertionSortCmpFunc_impl_Pair_v0_T fuel) 1 fuel G (endS slices_insertionSortCmpFunc_impl_Pair_v0_rv KP false slices_insertionSortCmpFunc_impl_Pair_v0_rs) 0 slices_insertionSortCmpFunc_impl_Pair_v0_enc0 = iter (slices_insertionSortCmpFunc_impl_Pair_v0_st0 fuel) fuel := C.lp_iter fun g v =>
  (show run (slices_insertionSortCmpFunc_impl_Pair_v0_T fuel) 1 fuel (slices_insertionSortCmpFunc_impl_Pair_v0_c.bdAt 0) (slices_insertionSortCmpFunc_impl_Pair_v0_enc0 v).1 (slices_insertionSortCmpFunc_impl_Pair_v0_enc0 v).2 (loopK 1 (slices_insertionSortCmpFunc_impl_Pair_v0_c.nmAt 0) g (slices_insertionSortCmpFunc_impl_Pair_v0_c.contAt (slices_insertionSortCmpFunc_impl_Pair_v0_T fuel) 1 fuel G 0 0 (endS slices_insertionSortCmpFunc_impl_Pair_v0_rv KP false slices_insertionSortCmpFunc_impl_Pair_v0_rs))) = slices_insertionSortCmpFunc_impl_Pair_v0_step0 fuel (slices_insertionSortCmpFunc_impl_Pair_v0_c.lp (slices_insertionSortCmpFunc_impl_Pair_v0_T fuel) 1 fuel (fun m => bif Nat.beq m 0 then g else G m) (endS slices_insertionSortCmpFunc_impl_Pair_v0_rv KP false slices_insertionSortCmpFunc_impl_Pair_v0_rs) 1 slices_insertionSortCmpFunc_impl_Pair_v0_enc1) (fun v => g (slices_insertionSortCmpFunc_impl_Pair_v0_enc0 v).1 (slices_insertionSortCmpFunc_impl_Pair_v0_enc0 v).2) v by kernel_rfl).trans (by rw [slices_insertionSortCmpFunc_impl_Pair_v0_lp1]; rfl)
def slices_insertionSortCmpFunc_impl_Pair_v0_pre (fuel : Nat) (X0 : slices_insertionSortCmpFunc_impl_Pair_v0_V0 → slices_insertionSortCmpFunc_impl_Pair_v0_R) (d0 : LP) (x0 : Int) (x1 : Int) : slices_insertionSortCmpFunc_impl_Pair_v0_R :=
 X0 (w64 (x0 + (1 : Int)), x1, x0, d0)
def slices_insertionSortCmpFunc_impl_Pair_v0_fn (fuel : Nat) (z : LP × Unit × (Int × (Int × Unit))) : slices_insertionSortCmpFunc_impl_Pair_v0_R := slices_insertionSortCmpFunc_impl_Pair_v0_pre fuel (iter (slices_insertionSortCmpFunc_impl_Pair_v0_st0 fuel) fuel) z.1 z.2.2.1 z.2.2.2.1
theorem slices_insertionSortCmpFunc_impl_Pair_v0_run (fuel : Nat) (c : List (Kd.T KP)) (d : CsT []) (x : Sh.T slices_insertionSortCmpFunc_impl_Pair_v0_ps) : run (slices_insertionSortCmpFunc_impl_Pair_v0_T fuel) 1 fuel slices_insertionSortCmpFunc_impl_Pair_v0_c ((0, firstV false 0 (svCs [] d)) :: env0 (svS slices_insertionSortCmpFunc_impl_Pair_v0_ps x) 1) [.arr KP c 0] (endS slices_insertionSortCmpFunc_impl_Pair_v0_rv KP false slices_insertionSortCmpFunc_impl_Pair_v0_rs) = slices_insertionSortCmpFunc_impl_Pair_v0_fn fuel (c, d, x) :=
  (show run (slices_insertionSortCmpFunc_impl_Pair_v0_T fuel) 1 fuel slices_insertionSortCmpFunc_impl_Pair_v0_c ((0, firstV false 0 (svCs [] d)) :: env0 (svS slices_insertionSortCmpFunc_impl_Pair_v0_ps x) 1) [.arr KP c 0] (endS slices_insertionSortCmpFunc_impl_Pair_v0_rv KP false slices_insertionSortCmpFunc_impl_Pair_v0_rs) = slices_insertionSortCmpFunc_impl_Pair_v0_pre fuel (slices_insertionSortCmpFunc_impl_Pair_v0_c.lp (slices_insertionSortCmpFunc_impl_Pair_v0_T fuel) 1 fuel (fun _ _ _ => none) (endS slices_insertionSortCmpFunc_impl_Pair_v0_rv KP false slices_insertionSortCmpFunc_impl_Pair_v0_rs) 0 slices_insertionSortCmpFunc_impl_Pair_v0_enc0) c x.1 x.2.1 by kernel_rfl).trans (by rw [slices_insertionSortCmpFunc_impl_Pair_v0_lp0]; rfl)
def slices_insertionSortCmpFunc_impl_Pair_v0_tf (fuel : Nat) : TFT := ⟨KP, false, [], slices_insertionSortCmpFunc_impl_Pair_v0_ps, slices_insertionSortCmpFunc_impl_Pair_v0_rs, false, slices_insertionSortCmpFunc_impl_Pair_v0_fn fuel⟩
theorem slices_insertionSortCmpFunc_impl_Pair_v0_spec (fuel : Nat) : FnSpecT Tryz.prog 201 (slices_insertionSortCmpFunc_impl_Pair_v0_tf fuel) :=
  fn_specT (T := slices_insertionSortCmpFunc_impl_Pair_v0_T fuel) (c := bodyOf Tryz.f201) (fn := Tryz.f201) (TabOK.of (entCons (impl_Pair_byThing_ok fuel) (entCons (impl_Pair_byNum_ok fuel) entNil)) (methNil)) mixed (by kernel_rfl) (by kernel_rfl) slices_insertionSortCmpFunc_impl_Pair_v0_l (by kernel_rfl) (Nat.le_of_ble_eq_true (by kernel_rfl)) (rv := slices_insertionSortCmpFunc_impl_Pair_v0_rv) (by kernel_rfl) (slices_insertionSortCmpFunc_impl_Pair_v0_run fuel)
theorem slices_insertionSortCmpFunc_impl_Pair_v0_ok (fuel : Nat) : EntryOK Tryz.prog 201 (slices_insertionSortCmpFunc_impl_Pair_v0_tf fuel).te := EntryOK.tft (slices_insertionSortCmpFunc_impl_Pair_v0_spec fuel) (isFn (fn := Tryz.f201) (by kernel_rfl) (by kernel_rfl) (by kernel_rfl))
abbrev slices_insertionSortCmpFunc_impl_Pair_v1_R := Option (LP × Unit)
def slices_insertionSortCmpFunc_impl_Pair_v1_T (fuel : Nat) : Tab := Tab.of [(193, (impl_Pair_byThing_tf fuel).te), (194, (impl_Pair_byNum_tf fuel).te)] []
abbrev slices_insertionSortCmpFunc_impl_Pair_v1_ps : Sh := (.cell I6 0 (.cell I6 0 (.fnc 194 .nil)))
abbrev slices_insertionSortCmpFunc_impl_Pair_v1_rs : List Pm := []
def slices_insertionSortCmpFunc_impl_Pair_v1_ann : List Norm := [{ live := [8, 2, 1, 3, 0], fix := [] }, { live := [9, 1, 3, 0, 8, 2], fix := [] }]
noncomputable def slices_insertionSortCmpFunc_impl_Pair_v1_c : C := irOf Tryz.prog Tryz.f201 [] slices_insertionSortCmpFunc_impl_Pair_v1_ann []
theorem slices_insertionSortCmpFunc_impl_Pair_v1_l : lightC Tryz.prog [] Tryz.f201.ntmps slices_insertionSortCmpFunc_impl_Pair_v1_ann [] 0 (bodyOf Tryz.f201) = some (slices_insertionSortCmpFunc_impl_Pair_v1_c, 2) := by kernel_rfl
def slices_insertionSortCmpFunc_impl_Pair_v1_rv : List (Nat × Option (Nat × Bool)) := []
abbrev slices_insertionSortCmpFunc_impl_Pair_v1_V0 := (Int) × (Int) × (Int) × LP
abbrev slices_insertionSortCmpFunc_impl_Pair_v1_V1 := (Int) × (Int) × (Int) × (Int) × LP
def slices_insertionSortCmpFunc_impl_Pair_v1_enc0 (v : slices_insertionSortCmpFunc_impl_Pair_v1_V0) : Env × Heap := ([(8, SV.int .i64 v.1), (2, SV.int .i64 v.2.1), (1, SV.int .i64 v.2.2.1), (3, SV.fn (Fn.func 194) [] []), (0, SV.own 0)], [Blk.arr KP v.2.2.2 0])
def slices_insertionSortCmpFunc_impl_Pair_v1_enc1 (v : slices_insertionSortCmpFunc_impl_Pair_v1_V1) : Env × Heap := ([(9, SV.int .i64 v.1), (1, SV.int .i64 v.2.1), (3, SV.fn (Fn.func 194) [] []), (0, SV.own 0), (8, SV.int .i64 v.2.2.1), (2, SV.int .i64 v.2.2.2.1)], [Blk.arr KP v.2.2.2.2 0])
def slices_insertionSortCmpFunc_impl_Pair_v1_step1 (fuel : Nat) (g0 : slices_insertionSortCmpFunc_impl_Pair_v1_V0 → slices_insertionSortCmpFunc_impl_Pair_v1_R) (g1 : slices_insertionSortCmpFunc_impl_Pair_v1_V1 → slices_insertionSortCmpFunc_impl_Pair_v1_R) (v : slices_insertionSortCmpFunc_impl_Pair_v1_V1) : slices_insertionSortCmpFunc_impl_Pair_v1_R :=
 cond (decide (v.1 > v.2.1))
 (tst (decide (0 ≤ v.1)) <|
  tst (decide (v.1 < (zz (List.length v.2.2.2.2)))) <|
  tst (decide (Int.toNat v.1 < List.length v.2.2.2.2)) <|
  tst (decide (0 ≤ w64 (v.1 - (1 : Int)))) <|
  tst (decide (w64 (v.1 - (1 : Int)) < (zz (List.length v.2.2.2.2)))) <|
  tst (decide (Int.toNat (w64 (v.1 - (1 : Int))) < List.length v.2.2.2.2)) <|
  Option.bind (impl_Pair_byNum_fn fuel (((List.getD v.2.2.2.2 (Int.toNat v.1) (0, (0, ()))).1, (List.getD v.2.2.2.2 (Int.toNat v.1) (0, (0, ()))).2.1, ()), ((List.getD v.2.2.2.2 (Int.toNat (w64 (v.1 - (1 : Int)))) (0, (0, ()))).1, (List.getD v.2.2.2.2 (Int.toNat (w64 (v.1 - (1 : Int)))) (0, (0, ()))).2.1, ()), ())) fun y_2 =>
  cond (decide (y_2.1.1 < (0 : Int)))
   (tst (decide (0 ≤ w64 (v.1 - (1 : Int)))) <|
    tst (decide (w64 (v.1 - (1 : Int)) < (zz (List.length v.2.2.2.2)))) <|
    tst (decide (Int.toNat (w64 (v.1 - (1 : Int))) < List.length v.2.2.2.2)) <|
    tst (decide (0 ≤ v.1)) <|
    tst (decide (v.1 < (zz (List.length v.2.2.2.2)))) <|
    tst (decide (Int.toNat v.1 < List.length v.2.2.2.2)) <|
    tst (decide (0 ≤ v.1)) <|
    tst (decide (v.1 < (zz (List.length v.2.2.2.2)))) <|
    tst (decide (Int.toNat v.1 < List.length v.2.2.2.2)) <|
    tst (decide (0 ≤ w64 (v.1 - (1 : Int)))) <|
    tst (decide (w64 (v.1 - (1 : Int)) < (zz (List.length (List.set v.2.2.2.2 (Int.toNat v.1) ((List.getD v.2.2.2.2 (Int.toNat (w64 (v.1 - (1 : Int)))) (0, (0, ()))).1, (List.getD v.2.2.2.2 (Int.toNat (w64 (v.1 - (1 : Int)))) (0, (0, ()))).2.1, ())))))) <|
    tst (decide (Int.toNat (w64 (v.1 - (1 : Int))) < List.length (List.set v.2.2.2.2 (Int.toNat v.1) ((List.getD v.2.2.2.2 (Int.toNat (w64 (v.1 - (1 : Int)))) (0, (0, ()))).1, (List.getD v.2.2.2.2 (Int.toNat (w64 (v.1 - (1 : Int)))) (0, (0, ()))).2.1, ())))) <|
    g1 (w64 (v.1 - (1 : Int)), v.2.1, v.2.2.1, v.2.2.2.1, List.set (List.set v.2.2.2.2 (Int.toNat v.1) ((List.getD v.2.2.2.2 (Int.toNat (w64 (v.1 - (1 : Int)))) (0, (0, ()))).1, (List.getD v.2.2.2.2 (Int.toNat (w64 (v.1 - (1 : Int)))) (0, (0, ()))).2.1, ())) (Int.toNat (w64 (v.1 - (1 : Int)))) ((List.getD v.2.2.2.2 (Int.toNat v.1) (0, (0, ()))).1, (List.getD v.2.2.2.2 (Int.toNat v.1) (0, (0, ()))).2.1, ())))
   (g0 (w64 (v.2.2.1 + (1 : Int)), v.2.2.2.1, v.2.1, v.2.2.2.2)))
 (g0 (w64 (v.2.2.1 + (1 : Int)), v.2.2.2.1, v.2.1, v.2.2.2.2))
def slices_insertionSortCmpFunc_impl_Pair_v1_st1 (fuel : Nat) (g0 : slices_insertionSortCmpFunc_impl_Pair_v1_V0 → slices_insertionSortCmpFunc_impl_Pair_v1_R) (g1 : slices_insertionSortCmpFunc_impl_Pair_v1_V1 → slices_insertionSortCmpFunc_impl_Pair_v1_R) : slices_insertionSortCmpFunc_impl_Pair_v1_V1 → slices_insertionSortCmpFunc_impl_Pair_v1_R := slices_insertionSortCmpFunc_impl_Pair_v1_step1 fuel g0 g1
theorem slices_insertionSortCmpFunc_impl_Pair_v1_lp1 (fuel : Nat) (G) : slices_insertionSortCmpFunc_impl_Pair_v1_c.lp (slices_insertionSortCmpFunc_impl_Pair_v1_T fuel) 1 fuel G (endS slices_insertionSortCmpFunc_impl_Pair_v1_rv KP false slices_insertionSortCmpFunc_impl_Pair_v1_rs) 1 slices_insertionSortCmpFunc_impl_Pair_v1_enc1 = iter (slices_insertionSortCmpFunc_impl_Pair_v1_st1 fuel (fun v => G 0 (slices_insertionSortCmpFunc_impl_Pair_v1_enc0 v).1 (slices_insertionSortCmpFunc_impl_Pair_v1_enc0 v).2)) fuel := C.lp_iter fun g v =>
  (show run (slices_insertionSortCmpFunc_impl_Pair_v1_T fuel) 1 fuel (slices_insertionSortCmpFunc_impl_Pair_v1_c.bdAt 1) (slices_insertionSortCmpFunc_impl_Pair_v1_enc1 v).1 (slices_insertionSortCmpFunc_impl_Pair_v1_enc1 v).2 (loopK 1 (slices_insertionSortCmpFunc_impl_Pair_v1_c.nmAt 1) g (slices_insertionSortCmpFunc_impl_Pair_v1_c.contAt (slices_insertionSortCmpFunc_impl_Pair_v1_T fuel) 1 fuel G 0 1 (endS slices_insertionSortCmpFunc_impl_Pair_v1_rv KP false slices_insertionSortCmpFunc_impl_Pair_v1_rs))) = slices_insertionSortCmpFunc_impl_Pair_v1_step1 fuel (fun v => G 0 (slices_insertionSortCmpFunc_impl_Pair_v1_enc0 v).1 (slices_insertionSortCmpFunc_impl_Pair_v1_enc0 v).2) (fun v => g (slices_insertionSortCmpFunc_impl_Pair_v1_enc1 v).1 (slices_insertionSortCmpFunc_impl_Pair_v1_enc1 v).2) v by kernel_rfl)
def slices_insertionSortCmpFunc_impl_Pair_v1_step0 (fuel : Nat) (X1 : slices_insertionSortCmpFunc_impl_Pair_v1_V1 → slices_insertionSortCmpFunc_impl_Pair_v1_R) (g0 : slices_insertionSortCmpFunc_impl_Pair_v1_V0 → slices_insertionSortCmpFunc_impl_Pair_v1_R) (v : slices_insertionSortCmpFunc_impl_Pair_v1_V0) : slices_insertionSortCmpFunc_impl_Pair_v1_R :=
 cond (decide (v.1 < v.2.1))
 (X1 (v.1, v.2.2.1, v.1, v.2.1, v.2.2.2))
 (some ((v.2.2.2, ())))
def slices_insertionSortCmpFunc_impl_Pair_v1_st0 (fuel : Nat) (g0 : slices_insertionSortCmpFunc_impl_Pair_v1_V0 → slices_insertionSortCmpFunc_impl_Pair_v1_R) : slices_insertionSortCmpFunc_impl_Pair_v1_V0 → slices_insertionSortCmpFunc_impl_Pair_v1_R := slices_insertionSortCmpFunc_impl_Pair_v1_step0 fuel (iter (slices_insertionSortCmpFunc_impl_Pair_v1_st1 fuel g0) fuel) g0
theorem slices_insertionSortCmpFunc_impl_Pair_v1_lp0 (fuel : Nat) (G) : slices_insertionSortCmpFunc_impl_Pair_v1_c.lp (slices_insertionSortCmpFunc_impl_Pair_v1_T fuel) 1 fuel G (endS slices_insertionSortCmpFunc_impl_Pair_v1_rv KP false slices_insertionSortCmpFunc_impl_Pair_v1_rs) 0 slices_insertionSortCmpFunc_impl_Pair_v1_enc0 = iter (slices_insertionSortCmpFunc_impl_Pair_v1_st0 fuel) fuel := C.lp_iter fun g v =>
  (show run (slices_insertionSortCmpFunc_impl_Pair_v1_T fuel) 1 fuel (slices_insertionSortCmpFunc_impl_Pair_v1_c.bdAt 0) (slices_insertionSortCmpFunc_impl_Pair_v1_enc0 v).1 (slices_insertionSortCmpFunc_impl_Pair_v1_enc0 v).2 (loopK 1 (slices_insertionSortCmpFunc_impl_Pair_v1_c.nmAt 0) g (slices_insertionSortCmpFunc_impl_Pair_v1_c.contAt (slices_insertionSortCmpFunc_impl_Pair_v1_T fuel) 1 fuel G 0 0 (endS slices_insertionSortCmpFunc_impl_Pair_v1_rv KP false slices_insertionSortCmpFunc_impl_Pair_v1_rs))) = slices_insertionSortCmpFunc_impl_Pair_v1_step0 fuel (slices_insertionSortCmpFunc_impl_Pair_v1_c.lp (slices_insertionSortCmpFunc_impl_Pair_v1_T fuel) 1 fuel (fun m => bif Nat.beq m 0 then g else G m) (endS slices_insertionSortCmpFunc_impl_Pair_v1_rv KP false slices_insertionSortCmpFunc_impl_Pair_v1_rs) 1 slices_insertionSortCmpFunc_impl_Pair_v1_enc1) (fun v => g (slices_insertionSortCmpFunc_impl_Pair_v1_enc0 v).1 (slices_insertionSortCmpFunc_impl_Pair_v1_enc0 v).2) v by kernel_rfl).trans (by rw [slices_insertionSortCmpFunc_impl_Pair_v1_lp1]; rfl)
def slices_insertionSortCmpFunc_impl_Pair_v1_pre (fuel : Nat) (X0 : slices_insertionSortCmpFunc_impl_Pair_v1_V0 → slices_insertionSortCmpFunc_impl_Pair_v1_R) (d0 : LP) (x0 : Int) (x1 : Int) : slices_insertionSortCmpFunc_impl_Pair_v1_R :=
 X0 (w64 (x0 + (1 : Int)), x1, x0, d0)
def slices_insertionSortCmpFunc_impl_Pair_v1_fn (fuel : Nat) (z : LP × Unit × (Int × (Int × Unit))) : slices_insertionSortCmpFunc_impl_Pair_v1_R := slices_insertionSortCmpFunc_impl_Pair_v1_pre fuel (iter (slices_insertionSortCmpFunc_impl_Pair_v1_st0 fuel) fuel) z.1 z.2.2.1 z.2.2.2.1
theorem slices_insertionSortCmpFunc_impl_Pair_v1_run (fuel : Nat) (c : List (Kd.T KP)) (d : CsT []) (x : Sh.T slices_insertionSortCmpFunc_impl_Pair_v1_ps) : run (slices_insertionSortCmpFunc_impl_Pair_v1_T fuel) 1 fuel slices_insertionSortCmpFunc_impl_Pair_v1_c ((0, firstV false 0 (svCs [] d)) :: env0 (svS slices_insertionSortCmpFunc_impl_Pair_v1_ps x) 1) [.arr KP c 0] (endS slices_insertionSortCmpFunc_impl_Pair_v1_rv KP false slices_insertionSortCmpFunc_impl_Pair_v1_rs) = slices_insertionSortCmpFunc_impl_Pair_v1_fn fuel (c, d, x) :=
  (show run (slices_insertionSortCmpFunc_impl_Pair_v1_T fuel) 1 fuel slices_insertionSortCmpFunc_impl_Pair_v1_c ((0, firstV false 0 (svCs [] d)) :: env0 (svS slices_insertionSortCmpFunc_impl_Pair_v1_ps x) 1) [.arr KP c 0] (endS slices_insertionSortCmpFunc_impl_Pair_v1_rv KP false slices_insertionSortCmpFunc_impl_Pair_v1_rs) = slices_insertionSortCmpFunc_impl_Pair_v1_pre fuel (slices_insertionSortCmpFunc_impl_Pair_v1_c.lp (slices_insertionSortCmpFunc_impl_Pair_v1_T fuel) 1 fuel (fun _ _ _ => none) (endS slices_insertionSortCmpFunc_impl_Pair_v1_rv KP false slices_insertionSortCmpFunc_impl_Pair_v1_rs) 0 slices_insertionSortCmpFunc_impl_Pair_v1_enc0) c x.1 x.2.1 by kernel_rfl).trans (by rw [slices_insertionSortCmpFunc_impl_Pair_v1_lp0]; rfl)
def slices_insertionSortCmpFunc_impl_Pair_v1_tf (fuel : Nat) : TFT := ⟨KP, false, [], slices_insertionSortCmpFunc_impl_Pair_v1_ps, slices_insertionSortCmpFunc_impl_Pair_v1_rs, false, slices_insertionSortCmpFunc_impl_Pair_v1_fn fuel⟩
theorem slices_insertionSortCmpFunc_impl_Pair_v1_spec (fuel : Nat) : FnSpecT Tryz.prog 201 (slices_insertionSortCmpFunc_impl_Pair_v1_tf fuel) :=
  fn_specT (T := slices_insertionSortCmpFunc_impl_Pair_v1_T fuel) (c := bodyOf Tryz.f201) (fn := Tryz.f201) (TabOK.of (entCons (impl_Pair_byThing_ok fuel) (entCons (impl_Pair_byNum_ok fuel) entNil)) (methNil)) mixed (by kernel_rfl) (by kernel_rfl) slices_insertionSortCmpFunc_impl_Pair_v1_l (by kernel_rfl) (Nat.le_of_ble_eq_true (by kernel_rfl)) (rv := slices_insertionSortCmpFunc_impl_Pair_v1_rv) (by kernel_rfl) (slices_insertionSortCmpFunc_impl_Pair_v1_run fuel)
theorem slices_insertionSortCmpFunc_impl_Pair_v1_ok (fuel : Nat) : EntryOK Tryz.prog 201 (slices_insertionSortCmpFunc_impl_Pair_v1_tf fuel).te := EntryOK.tft (slices_insertionSortCmpFunc_impl_Pair_v1_spec fuel) (isFn (fn := Tryz.f201) (by kernel_rfl) (by kernel_rfl) (by kernel_rfl))
abbrev slices_pdqsortCmpFunc_impl_Pair_v0_R := Option (LP × Unit)
def slices_pdqsortCmpFunc_impl_Pair_v0_T (fuel : Nat) : Tab := Tab.of [(201, (slices_insertionSortCmpFunc_impl_Pair_v0_tf fuel).te), (201, (slices_insertionSortCmpFunc_impl_Pair_v1_tf fuel).te)] []
abbrev slices_pdqsortCmpFunc_impl_Pair_v0_ps : Sh := (.cell I6 0 (.cell I6 0 (.cell I6 0 (.fnc 193 .nil))))
abbrev slices_pdqsortCmpFunc_impl_Pair_v0_rs : List Pm := []
def slices_pdqsortCmpFunc_impl_Pair_v0_ann : List Norm := [{ live := [2, 1, 0, 4, 3, 10, 11], fix := [] }]
noncomputable def slices_pdqsortCmpFunc_impl_Pair_v0_c : C := irOf Tryz.prog Tryz.f198 [] slices_pdqsortCmpFunc_impl_Pair_v0_ann []
theorem slices_pdqsortCmpFunc_impl_Pair_v0_l : lightC Tryz.prog [] Tryz.f198.ntmps slices_pdqsortCmpFunc_impl_Pair_v0_ann [] 0 (bodyOf Tryz.f198) = some (slices_pdqsortCmpFunc_impl_Pair_v0_c, 1) := by kernel_rfl
def slices_pdqsortCmpFunc_impl_Pair_v0_rv : List (Nat × Option (Nat × Bool)) := []
abbrev slices_pdqsortCmpFunc_impl_Pair_v0_V0 := (Int) × (Int) × (Int) × (Bool) × (Bool) × LP
def slices_pdqsortCmpFunc_impl_Pair_v0_enc0 (v : slices_pdqsortCmpFunc_impl_Pair_v0_V0) : Env × Heap := ([(2, SV.int .i64 v.1), (1, SV.int .i64 v.2.1), (0, SV.own 0), (4, SV.fn (Fn.func 193) [] []), (3, SV.int .i64 v.2.2.1), (10, SV.bool v.2.2.2.1), (11, SV.bool v.2.2.2.2.1)], [Blk.arr KP v.2.2.2.2.2 0])
def slices_pdqsortCmpFunc_impl_Pair_v0_step0 (fuel : Nat) (g0 : slices_pdqsortCmpFunc_impl_Pair_v0_V0 → slices_pdqsortCmpFunc_impl_Pair_v0_R) (v : slices_pdqsortCmpFunc_impl_Pair_v0_V0) : slices_pdqsortCmpFunc_impl_Pair_v0_R :=
 cond (decide (w64 (v.1 - v.2.1) ≤ (12 : Int)))
 (Option.bind (slices_insertionSortCmpFunc_impl_Pair_v0_fn fuel (v.2.2.2.2.2, (), v.2.1, v.1, ())) fun y_2 =>
  some ((y_2.1, ())))
 (cond (v.2.2.1 == (0 : Int))
  (none)
  (cond (!v.2.2.2.1)
   (none)
   (none)))
def slices_pdqsortCmpFunc_impl_Pair_v0_st0 (fuel : Nat) (g0 : slices_pdqsortCmpFunc_impl_Pair_v0_V0 → slices_pdqsortCmpFunc_impl_Pair_v0_R) : slices_pdqsortCmpFunc_impl_Pair_v0_V0 → slices_pdqsortCmpFunc_impl_Pair_v0_R := slices_pdqsortCmpFunc_impl_Pair_v0_step0 fuel g0
theorem slices_pdqsortCmpFunc_impl_Pair_v0_lp0 (fuel : Nat) (G) : slices_pdqsortCmpFunc_impl_Pair_v0_c.lp (slices_pdqsortCmpFunc_impl_Pair_v0_T fuel) 1 fuel G (endS slices_pdqsortCmpFunc_impl_Pair_v0_rv KP false slices_pdqsortCmpFunc_impl_Pair_v0_rs) 0 slices_pdqsortCmpFunc_impl_Pair_v0_enc0 = iter (slices_pdqsortCmpFunc_impl_Pair_v0_st0 fuel) fuel := C.lp_iter fun g v => by kernel_rfl
def slices_pdqsortCmpFunc_impl_Pair_v0_pre (fuel : Nat) (X0 : slices_pdqsortCmpFunc_impl_Pair_v0_V0 → slices_pdqsortCmpFunc_impl_Pair_v0_R) (d0 : LP) (x0 : Int) (x1 : Int) (x2 : Int) : slices_pdqsortCmpFunc_impl_Pair_v0_R :=
 X0 (x1, x0, x2, true, true, d0)
def slices_pdqsortCmpFunc_impl_Pair_v0_fn (fuel : Nat) (z : LP × Unit × (Int × (Int × (Int × Unit)))) : slices_pdqsortCmpFunc_impl_Pair_v0_R := slices_pdqsortCmpFunc_impl_Pair_v0_pre fuel (iter (slices_pdqsortCmpFunc_impl_Pair_v0_st0 fuel) fuel) z.1 z.2.2.1 z.2.2.2.1 z.2.2.2.2.1
theorem slices_pdqsortCmpFunc_impl_Pair_v0_run (fuel : Nat) (c : List (Kd.T KP)) (d : CsT []) (x : Sh.T slices_pdqsortCmpFunc_impl_Pair_v0_ps) : run (slices_pdqsortCmpFunc_impl_Pair_v0_T fuel) 1 fuel slices_pdqsortCmpFunc_impl_Pair_v0_c ((0, firstV false 0 (svCs [] d)) :: env0 (svS slices_pdqsortCmpFunc_impl_Pair_v0_ps x) 1) [.arr KP c 0] (endS slices_pdqsortCmpFunc_impl_Pair_v0_rv KP false slices_pdqsortCmpFunc_impl_Pair_v0_rs) = slices_pdqsortCmpFunc_impl_Pair_v0_fn fuel (c, d, x) :=
  (show run (slices_pdqsortCmpFunc_impl_Pair_v0_T fuel) 1 fuel slices_pdqsortCmpFunc_impl_Pair_v0_c ((0, firstV false 0 (svCs [] d)) :: env0 (svS slices_pdqsortCmpFunc_impl_Pair_v0_ps x) 1) [.arr KP c 0] (endS slices_pdqsortCmpFunc_impl_Pair_v0_rv KP false slices_pdqsortCmpFunc_impl_Pair_v0_rs) = slices_pdqsortCmpFunc_impl_Pair_v0_pre fuel (slices_pdqsortCmpFunc_impl_Pair_v0_c.lp (slices_pdqsortCmpFunc_impl_Pair_v0_T fuel) 1 fuel (fun _ _ _ => none) (endS slices_pdqsortCmpFunc_impl_Pair_v0_rv KP false slices_pdqsortCmpFunc_impl_Pair_v0_rs) 0 slices_pdqsortCmpFunc_impl_Pair_v0_enc0) c x.1 x.2.1 x.2.2.1 by kernel_rfl).trans (by rw [slices_pdqsortCmpFunc_impl_Pair_v0_lp0]; rfl)
def slices_pdqsortCmpFunc_impl_Pair_v0_tf (fuel : Nat) : TFT := ⟨KP, false, [], slices_pdqsortCmpFunc_impl_Pair_v0_ps, slices_pdqsortCmpFunc_impl_Pair_v0_rs, false, slices_pdqsortCmpFunc_impl_Pair_v0_fn fuel⟩
theorem slices_pdqsortCmpFunc_impl_Pair_v0_spec (fuel : Nat) : FnSpecT Tryz.prog 198 (slices_pdqsortCmpFunc_impl_Pair_v0_tf fuel) :=
  fn_specT (T := slices_pdqsortCmpFunc_impl_Pair_v0_T fuel) (c := bodyOf Tryz.f198) (fn := Tryz.f198) (TabOK.of (entCons (slices_insertionSortCmpFunc_impl_Pair_v0_ok fuel) (entCons (slices_insertionSortCmpFunc_impl_Pair_v1_ok fuel) entNil)) (methNil)) mixed (by kernel_rfl) (by kernel_rfl) slices_pdqsortCmpFunc_impl_Pair_v0_l (by kernel_rfl) (Nat.le_of_ble_eq_true (by kernel_rfl)) (rv := slices_pdqsortCmpFunc_impl_Pair_v0_rv) (by kernel_rfl) (slices_pdqsortCmpFunc_impl_Pair_v0_run fuel)
theorem slices_pdqsortCmpFunc_impl_Pair_v0_ok (fuel : Nat) : EntryOK Tryz.prog 198 (slices_pdqsortCmpFunc_impl_Pair_v0_tf fuel).te := EntryOK.tft (slices_pdqsortCmpFunc_impl_Pair_v0_spec fuel) (isFn (fn := Tryz.f198) (by kernel_rfl) (by kernel_rfl) (by kernel_rfl))
abbrev slices_pdqsortCmpFunc_impl_Pair_v1_R := Option (LP × Unit)
def slices_pdqsortCmpFunc_impl_Pair_v1_T (fuel : Nat) : Tab := Tab.of [(201, (slices_insertionSortCmpFunc_impl_Pair_v0_tf fuel).te), (201, (slices_insertionSortCmpFunc_impl_Pair_v1_tf fuel).te)] []
abbrev slices_pdqsortCmpFunc_impl_Pair_v1_ps : Sh := (.cell I6 0 (.cell I6 0 (.cell I6 0 (.fnc 194 .nil))))
abbrev slices_pdqsortCmpFunc_impl_Pair_v1_rs : List Pm := []
def slices_pdqsortCmpFunc_impl_Pair_v1_ann : List Norm := [{ live := [2, 1, 0, 4, 3, 10, 11], fix := [] }]
noncomputable def slices_pdqsortCmpFunc_impl_Pair_v1_c : C := irOf Tryz.prog Tryz.f198 [] slices_pdqsortCmpFunc_impl_Pair_v1_ann []
theorem slices_pdqsortCmpFunc_impl_Pair_v1_l : lightC Tryz.prog [] Tryz.f198.ntmps slices_pdqsortCmpFunc_impl_Pair_v1_ann [] 0 (bodyOf Tryz.f198) = some (slices_pdqsortCmpFunc_impl_Pair_v1_c, 1) := by kernel_rfl
def slices_pdqsortCmpFunc_impl_Pair_v1_rv : List (Nat × Option (Nat × Bool)) := []
abbrev slices_pdqsortCmpFunc_impl_Pair_v1_V0 := (Int) × (Int) × (Int) × (Bool) × (Bool) × LP
def slices_pdqsortCmpFunc_impl_Pair_v1_enc0 (v : slices_pdqsortCmpFunc_impl_Pair_v1_V0) : Env × Heap := ([(2, SV.int .i64 v.1), (1, SV.int .i64 v.2.1), (0, SV.own 0), (4, SV.fn (Fn.func 194) [] []), (3, SV.int .i64 v.2.2.1), (10, SV.bool v.2.2.2.1), (11, SV.bool v.2.2.2.2.1)], [Blk.arr KP v.2.2.2.2.2 0])
def slices_pdqsortCmpFunc_impl_Pair_v1_step0 (fuel : Nat) (g0 : slices_pdqsortCmpFunc_impl_Pair_v1_V0 → slices_pdqsortCmpFunc_impl_Pair_v1_R) (v : slices_pdqsortCmpFunc_impl_Pair_v1_V0) : slices_pdqsortCmpFunc_impl_Pair_v1_R :=
 cond (decide (w64 (v.1 - v.2.1) ≤ (12 : Int)))
 (Option.bind (slices_insertionSortCmpFunc_impl_Pair_v1_fn fuel (v.2.2.2.2.2, (), v.2.1, v.1, ())) fun y_2 =>
  some ((y_2.1, ())))
 (cond (v.2.2.1 == (0 : Int))
  (none)
  (cond (!v.2.2.2.1)
   (none)
   (none)))
def slices_pdqsortCmpFunc_impl_Pair_v1_st0 (fuel : Nat) (g0 : slices_pdqsortCmpFunc_impl_Pair_v1_V0 → slices_pdqsortCmpFunc_impl_Pair_v1_R) : slices_pdqsortCmpFunc_impl_Pair_v1_V0 → slices_pdqsortCmpFunc_impl_Pair_v1_R := slices_pdqsortCmpFunc_impl_Pair_v1_step0 fuel g0
theorem slices_pdqsortCmpFunc_impl_Pair_v1_lp0 (fuel : Nat) (G) : slices_pdqsortCmpFunc_impl_Pair_v1_c.lp (slices_pdqsortCmpFunc_impl_Pair_v1_T fuel) 1 fuel G (endS slices_pdqsortCmpFunc_impl_Pair_v1_rv KP false slices_pdqsortCmpFunc_impl_Pair_v1_rs) 0 slices_pdqsortCmpFunc_impl_Pair_v1_enc0 = iter (slices_pdqsortCmpFunc_impl_Pair_v1_st0 fuel) fuel := C.lp_iter fun g v => by kernel_rfl
def slices_pdqsortCmpFunc_impl_Pair_v1_pre (fuel : Nat) (X0 : slices_pdqsortCmpFunc_impl_Pair_v1_V0 → slices_pdqsortCmpFunc_impl_Pair_v1_R) (d0 : LP) (x0 : Int) (x1 : Int) (x2 : Int) : slices_pdqsortCmpFunc_impl_Pair_v1_R :=
 X0 (x1, x0, x2, true, true, d0)
def slices_pdqsortCmpFunc_impl_Pair_v1_fn (fuel : Nat) (z : LP × Unit × (Int × (Int × (Int × Unit)))) : slices_pdqsortCmpFunc_impl_Pair_v1_R := slices_pdqsortCmpFunc_impl_Pair_v1_pre fuel (iter (slices_pdqsortCmpFunc_impl_Pair_v1_st0 fuel) fuel) z.1 z.2.2.1 z.2.2.2.1 z.2.2.2.2.1
theorem slices_pdqsortCmpFunc_impl_Pair_v1_run (fuel : Nat) (c : List (Kd.T KP)) (d : CsT []) (x : Sh.T slices_pdqsortCmpFunc_impl_Pair_v1_ps) : run (slices_pdqsortCmpFunc_impl_Pair_v1_T fuel) 1 fuel slices_pdqsortCmpFunc_impl_Pair_v1_c ((0, firstV false 0 (svCs [] d)) :: env0 (svS slices_pdqsortCmpFunc_impl_Pair_v1_ps x) 1) [.arr KP c 0] (endS slices_pdqsortCmpFunc_impl_Pair_v1_rv KP false slices_pdqsortCmpFunc_impl_Pair_v1_rs) = slices_pdqsortCmpFunc_impl_Pair_v1_fn fuel (c, d, x) :=
  (show run (slices_pdqsortCmpFunc_impl_Pair_v1_T fuel) 1 fuel slices_pdqsortCmpFunc_impl_Pair_v1_c ((0, firstV false 0 (svCs [] d)) :: env0 (svS slices_pdqsortCmpFunc_impl_Pair_v1_ps x) 1) [.arr KP c 0] (endS slices_pdqsortCmpFunc_impl_Pair_v1_rv KP false slices_pdqsortCmpFunc_impl_Pair_v1_rs) = slices_pdqsortCmpFunc_impl_Pair_v1_pre fuel (slices_pdqsortCmpFunc_impl_Pair_v1_c.lp (slices_pdqsortCmpFunc_impl_Pair_v1_T fuel) 1 fuel (fun _ _ _ => none) (endS slices_pdqsortCmpFunc_impl_Pair_v1_rv KP false slices_pdqsortCmpFunc_impl_Pair_v1_rs) 0 slices_pdqsortCmpFunc_impl_Pair_v1_enc0) c x.1 x.2.1 x.2.2.1 by kernel_rfl).trans (by rw [slices_pdqsortCmpFunc_impl_Pair_v1_lp0]; rfl)
def slices_pdqsortCmpFunc_impl_Pair_v1_tf (fuel : Nat) : TFT := ⟨KP, false, [], slices_pdqsortCmpFunc_impl_Pair_v1_ps, slices_pdqsortCmpFunc_impl_Pair_v1_rs, false, slices_pdqsortCmpFunc_impl_Pair_v1_fn fuel⟩
theorem slices_pdqsortCmpFunc_impl_Pair_v1_spec (fuel : Nat) : FnSpecT Tryz.prog 198 (slices_pdqsortCmpFunc_impl_Pair_v1_tf fuel) :=
  fn_specT (T := slices_pdqsortCmpFunc_impl_Pair_v1_T fuel) (c := bodyOf Tryz.f198) (fn := Tryz.f198) (TabOK.of (entCons (slices_insertionSortCmpFunc_impl_Pair_v0_ok fuel) (entCons (slices_insertionSortCmpFunc_impl_Pair_v1_ok fuel) entNil)) (methNil)) mixed (by kernel_rfl) (by kernel_rfl) slices_pdqsortCmpFunc_impl_Pair_v1_l (by kernel_rfl) (Nat.le_of_ble_eq_true (by kernel_rfl)) (rv := slices_pdqsortCmpFunc_impl_Pair_v1_rv) (by kernel_rfl) (slices_pdqsortCmpFunc_impl_Pair_v1_run fuel)
theorem slices_pdqsortCmpFunc_impl_Pair_v1_ok (fuel : Nat) : EntryOK Tryz.prog 198 (slices_pdqsortCmpFunc_impl_Pair_v1_tf fuel).te := EntryOK.tft (slices_pdqsortCmpFunc_impl_Pair_v1_spec fuel) (isFn (fn := Tryz.f198) (by kernel_rfl) (by kernel_rfl) (by kernel_rfl))
def math_bits_Len64_T (fuel : Nat) : Tab := Tab.of [] []
abbrev math_bits_Len64_ps : List Pm := [{ cs := [(Kd.int IntKind.u64, false)], ag := false }]
abbrev math_bits_Len64_rs : List Pm := [{ cs := [(I6, false)], ag := false }]
def math_bits_Len64_ann : List Norm := []
noncomputable def math_bits_Len64_c : C := irOf Tryz.prog Tryz.f210 [] math_bits_Len64_ann []
theorem math_bits_Len64_l : lightC Tryz.prog [] Tryz.f210.ntmps math_bits_Len64_ann [] 0 (bodyOf Tryz.f210) = some (math_bits_Len64_c, 0) := by kernel_rfl
def math_bits_Len64_rv : List (Nat × Option (Nat × Bool)) := [(2, none)]
def math_bits_Len64_pre (fuel : Nat) (x0 : Int) : Option ((Int × Unit) × Unit) :=
 cond (decide (x0 ≥ (4294967296 : Int)))
 (cond (decide (Int.fdiv x0 (2 ^ min (Int.toNat (32 : Int)) (IntKind.bits IntKind.u64)) ≥ (65536 : Int)))
  (cond (decide (Int.fdiv (Int.fdiv x0 (2 ^ min (Int.toNat (32 : Int)) (IntKind.bits IntKind.u64))) (2 ^ min (Int.toNat (16 : Int)) (IntKind.bits IntKind.u64)) ≥ (256 : Int)))
   (tst (decide (0 ≤ IntKind.wrap IntKind.u8 (Int.fdiv (Int.fdiv (Int.fdiv x0 (2 ^ min (Int.toNat (32 : Int)) (IntKind.bits IntKind.u64))) (2 ^ min (Int.toNat (16 : Int)) (IntKind.bits IntKind.u64))) (2 ^ min (Int.toNat (8 : Int)) (IntKind.bits IntKind.u64))))) <|
    tst (decide (IntKind.wrap IntKind.u8 (Int.fdiv (Int.fdiv (Int.fdiv x0 (2 ^ min (Int.toNat (32 : Int)) (IntKind.bits IntKind.u64))) (2 ^ min (Int.toNat (16 : Int)) (IntKind.bits IntKind.u64))) (2 ^ min (Int.toNat (8 : Int)) (IntKind.bits IntKind.u64))) < (zz 256))) <|
    some (((w64 (w64 (w64 ((32 : Int) + (16 : Int)) + (8 : Int)) + w64 (zz (List.getD [0, 1, 2, 2, 3, 3, 3, 3, 4, 4, 4, 4, 4, 4, 4, 4, 5, 5, 5, 5, 5, 5, 5, 5, 5, 5, 5, 5, 5, 5, 5, 5, 6, 6, 6, 6, 6, 6, 6, 6, 6, 6, 6, 6, 6, 6, 6, 6, 6, 6, 6, 6, 6, 6, 6, 6, 6, 6, 6, 6, 6, 6, 6, 6, 7, 7, 7, 7, 7, 7, 7, 7, 7, 7, 7, 7, 7, 7, 7, 7, 7, 7, 7, 7, 7, 7, 7, 7, 7, 7, 7, 7, 7, 7, 7, 7, 7, 7, 7, 7, 7, 7, 7, 7, 7, 7, 7, 7, 7, 7, 7, 7, 7, 7, 7, 7, 7, 7, 7, 7, 7, 7, 7, 7, 7, 7, 7, 7, 8, 8, 8, 8, 8, 8, 8, 8, 8, 8, 8, 8, 8, 8, 8, 8, 8, 8, 8, 8, 8, 8, 8, 8, 8, 8, 8, 8, 8, 8, 8, 8, 8, 8, 8, 8, 8, 8, 8, 8, 8, 8, 8, 8, 8, 8, 8, 8, 8, 8, 8, 8, 8, 8, 8, 8, 8, 8, 8, 8, 8, 8, 8, 8, 8, 8, 8, 8, 8, 8, 8, 8, 8, 8, 8, 8, 8, 8, 8, 8, 8, 8, 8, 8, 8, 8, 8, 8, 8, 8, 8, 8, 8, 8, 8, 8, 8, 8, 8, 8, 8, 8, 8, 8, 8, 8, 8, 8, 8, 8, 8, 8, 8, 8, 8, 8, 8, 8, 8, 8, 8, 8, 8, 8, 8, 8, 8, 8] (Int.toNat (IntKind.wrap IntKind.u8 (Int.fdiv (Int.fdiv (Int.fdiv x0 (2 ^ min (Int.toNat (32 : Int)) (IntKind.bits IntKind.u64))) (2 ^ min (Int.toNat (16 : Int)) (IntKind.bits IntKind.u64))) (2 ^ min (Int.toNat (8 : Int)) (IntKind.bits IntKind.u64))))) 0))), ()), ())))
   (tst (decide (0 ≤ IntKind.wrap IntKind.u8 (Int.fdiv (Int.fdiv x0 (2 ^ min (Int.toNat (32 : Int)) (IntKind.bits IntKind.u64))) (2 ^ min (Int.toNat (16 : Int)) (IntKind.bits IntKind.u64))))) <|
    tst (decide (IntKind.wrap IntKind.u8 (Int.fdiv (Int.fdiv x0 (2 ^ min (Int.toNat (32 : Int)) (IntKind.bits IntKind.u64))) (2 ^ min (Int.toNat (16 : Int)) (IntKind.bits IntKind.u64))) < (zz 256))) <|
    some (((w64 (w64 ((32 : Int) + (16 : Int)) + w64 (zz (List.getD [0, 1, 2, 2, 3, 3, 3, 3, 4, 4, 4, 4, 4, 4, 4, 4, 5, 5, 5, 5, 5, 5, 5, 5, 5, 5, 5, 5, 5, 5, 5, 5, 6, 6, 6, 6, 6, 6, 6, 6, 6, 6, 6, 6, 6, 6, 6, 6, 6, 6, 6, 6, 6, 6, 6, 6, 6, 6, 6, 6, 6, 6, 6, 6, 7, 7, 7, 7, 7, 7, 7, 7, 7, 7, 7, 7, 7, 7, 7, 7, 7, 7, 7, 7, 7, 7, 7, 7, 7, 7, 7, 7, 7, 7, 7, 7, 7, 7, 7, 7, 7, 7, 7, 7, 7, 7, 7, 7, 7, 7, 7, 7, 7, 7, 7, 7, 7, 7, 7, 7, 7, 7, 7, 7, 7, 7, 7, 7, 8, 8, 8, 8, 8, 8, 8, 8, 8, 8, 8, 8, 8, 8, 8, 8, 8, 8, 8, 8, 8, 8, 8, 8, 8, 8, 8, 8, 8, 8, 8, 8, 8, 8, 8, 8, 8, 8, 8, 8, 8, 8, 8, 8, 8, 8, 8, 8, 8, 8, 8, 8, 8, 8, 8, 8, 8, 8, 8, 8, 8, 8, 8, 8, 8, 8, 8, 8, 8, 8, 8, 8, 8, 8, 8, 8, 8, 8, 8, 8, 8, 8, 8, 8, 8, 8, 8, 8, 8, 8, 8, 8, 8, 8, 8, 8, 8, 8, 8, 8, 8, 8, 8, 8, 8, 8, 8, 8, 8, 8, 8, 8, 8, 8, 8, 8, 8, 8, 8, 8, 8, 8, 8, 8, 8, 8, 8, 8] (Int.toNat (IntKind.wrap IntKind.u8 (Int.fdiv (Int.fdiv x0 (2 ^ min (Int.toNat (32 : Int)) (IntKind.bits IntKind.u64))) (2 ^ min (Int.toNat (16 : Int)) (IntKind.bits IntKind.u64))))) 0))), ()), ()))))
  (cond (decide (Int.fdiv x0 (2 ^ min (Int.toNat (32 : Int)) (IntKind.bits IntKind.u64)) ≥ (256 : Int)))
   (tst (decide (0 ≤ IntKind.wrap IntKind.u8 (Int.fdiv (Int.fdiv x0 (2 ^ min (Int.toNat (32 : Int)) (IntKind.bits IntKind.u64))) (2 ^ min (Int.toNat (8 : Int)) (IntKind.bits IntKind.u64))))) <|
    tst (decide (IntKind.wrap IntKind.u8 (Int.fdiv (Int.fdiv x0 (2 ^ min (Int.toNat (32 : Int)) (IntKind.bits IntKind.u64))) (2 ^ min (Int.toNat (8 : Int)) (IntKind.bits IntKind.u64))) < (zz 256))) <|
    some (((w64 (w64 ((32 : Int) + (8 : Int)) + w64 (zz (List.getD [0, 1, 2, 2, 3, 3, 3, 3, 4, 4, 4, 4, 4, 4, 4, 4, 5, 5, 5, 5, 5, 5, 5, 5, 5, 5, 5, 5, 5, 5, 5, 5, 6, 6, 6, 6, 6, 6, 6, 6, 6, 6, 6, 6, 6, 6, 6, 6, 6, 6, 6, 6, 6, 6, 6, 6, 6, 6, 6, 6, 6, 6, 6, 6, 7, 7, 7, 7, 7, 7, 7, 7, 7, 7, 7, 7, 7, 7, 7, 7, 7, 7, 7, 7, 7, 7, 7, 7, 7, 7, 7, 7, 7, 7, 7, 7, 7, 7, 7, 7, 7, 7, 7, 7, 7, 7, 7, 7, 7, 7, 7, 7, 7, 7, 7, 7, 7, 7, 7, 7, 7, 7, 7, 7, 7, 7, 7, 7, 8, 8, 8, 8, 8, 8, 8, 8, 8, 8, 8, 8, 8, 8, 8, 8, 8, 8, 8, 8, 8, 8, 8, 8, 8, 8, 8, 8, 8, 8, 8, 8, 8, 8, 8, 8, 8, 8, 8, 8, 8, 8, 8, 8, 8, 8, 8, 8, 8, 8, 8, 8, 8, 8, 8, 8, 8, 8, 8, 8, 8, 8, 8, 8, 8, 8, 8, 8, 8, 8, 8, 8, 8, 8, 8, 8, 8, 8, 8, 8, 8, 8, 8, 8, 8, 8, 8, 8, 8, 8, 8, 8, 8, 8, 8, 8, 8, 8, 8, 8, 8, 8, 8, 8, 8, 8, 8, 8, 8, 8, 8, 8, 8, 8, 8, 8, 8, 8, 8, 8, 8, 8, 8, 8, 8, 8, 8, 8] (Int.toNat (IntKind.wrap IntKind.u8 (Int.fdiv (Int.fdiv x0 (2 ^ min (Int.toNat (32 : Int)) (IntKind.bits IntKind.u64))) (2 ^ min (Int.toNat (8 : Int)) (IntKind.bits IntKind.u64))))) 0))), ()), ())))
   (tst (decide (0 ≤ IntKind.wrap IntKind.u8 (Int.fdiv x0 (2 ^ min (Int.toNat (32 : Int)) (IntKind.bits IntKind.u64))))) <|
    tst (decide (IntKind.wrap IntKind.u8 (Int.fdiv x0 (2 ^ min (Int.toNat (32 : Int)) (IntKind.bits IntKind.u64))) < (zz 256))) <|
    some (((w64 ((32 : Int) + w64 (zz (List.getD [0, 1, 2, 2, 3, 3, 3, 3, 4, 4, 4, 4, 4, 4, 4, 4, 5, 5, 5, 5, 5, 5, 5, 5, 5, 5, 5, 5, 5, 5, 5, 5, 6, 6, 6, 6, 6, 6, 6, 6, 6, 6, 6, 6, 6, 6, 6, 6, 6, 6, 6, 6, 6, 6, 6, 6, 6, 6, 6, 6, 6, 6, 6, 6, 7, 7, 7, 7, 7, 7, 7, 7, 7, 7, 7, 7, 7, 7, 7, 7, 7, 7, 7, 7, 7, 7, 7, 7, 7, 7, 7, 7, 7, 7, 7, 7, 7, 7, 7, 7, 7, 7, 7, 7, 7, 7, 7, 7, 7, 7, 7, 7, 7, 7, 7, 7, 7, 7, 7, 7, 7, 7, 7, 7, 7, 7, 7, 7, 8, 8, 8, 8, 8, 8, 8, 8, 8, 8, 8, 8, 8, 8, 8, 8, 8, 8, 8, 8, 8, 8, 8, 8, 8, 8, 8, 8, 8, 8, 8, 8, 8, 8, 8, 8, 8, 8, 8, 8, 8, 8, 8, 8, 8, 8, 8, 8, 8, 8, 8, 8, 8, 8, 8, 8, 8, 8, 8, 8, 8, 8, 8, 8, 8, 8, 8, 8, 8, 8, 8, 8, 8, 8, 8, 8, 8, 8, 8, 8, 8, 8, 8, 8, 8, 8, 8, 8, 8, 8, 8, 8, 8, 8, 8, 8, 8, 8, 8, 8, 8, 8, 8, 8, 8, 8, 8, 8, 8, 8, 8, 8, 8, 8, 8, 8, 8, 8, 8, 8, 8, 8, 8, 8, 8, 8, 8, 8] (Int.toNat (IntKind.wrap IntKind.u8 (Int.fdiv x0 (2 ^ min (Int.toNat (32 : Int)) (IntKind.bits IntKind.u64))))) 0))), ()), ())))))
 (cond (decide (x0 ≥ (65536 : Int)))
  (cond (decide (Int.fdiv x0 (2 ^ min (Int.toNat (16 : Int)) (IntKind.bits IntKind.u64)) ≥ (256 : Int)))
   (tst (decide (0 ≤ IntKind.wrap IntKind.u8 (Int.fdiv (Int.fdiv x0 (2 ^ min (Int.toNat (16 : Int)) (IntKind.bits IntKind.u64))) (2 ^ min (Int.toNat (8 : Int)) (IntKind.bits IntKind.u64))))) <|
    tst (decide (IntKind.wrap IntKind.u8 (Int.fdiv (Int.fdiv x0 (2 ^ min (Int.toNat (16 : Int)) (IntKind.bits IntKind.u64))) (2 ^ min (Int.toNat (8 : Int)) (IntKind.bits IntKind.u64))) < (zz 256))) <|
    some (((w64 (w64 (w64 ((0 : Int) + (16 : Int)) + (8 : Int)) + w64 (zz (List.getD [0, 1, 2, 2, 3, 3, 3, 3, 4, 4, 4, 4, 4, 4, 4, 4, 5, 5, 5, 5, 5, 5, 5, 5, 5, 5, 5, 5, 5, 5, 5, 5, 6, 6, 6, 6, 6, 6, 6, 6, 6, 6, 6, 6, 6, 6, 6, 6, 6, 6, 6, 6, 6, 6, 6, 6, 6, 6, 6, 6, 6, 6, 6, 6, 7, 7, 7, 7, 7, 7, 7, 7, 7, 7, 7, 7, 7, 7, 7, 7, 7, 7, 7, 7, 7, 7, 7, 7, 7, 7, 7, 7, 7, 7, 7, 7, 7, 7, 7, 7, 7, 7, 7, 7, 7, 7, 7, 7, 7, 7, 7, 7, 7, 7, 7, 7, 7, 7, 7, 7, 7, 7, 7, 7, 7, 7, 7, 7, 8, 8, 8, 8, 8, 8, 8, 8, 8, 8, 8, 8, 8, 8, 8, 8, 8, 8, 8, 8, 8, 8, 8, 8, 8, 8, 8, 8, 8, 8, 8, 8, 8, 8, 8, 8, 8, 8, 8, 8, 8, 8, 8, 8, 8, 8, 8, 8, 8, 8, 8, 8, 8, 8, 8, 8, 8, 8, 8, 8, 8, 8, 8, 8, 8, 8, 8, 8, 8, 8, 8, 8, 8, 8, 8, 8, 8, 8, 8, 8, 8, 8, 8, 8, 8, 8, 8, 8, 8, 8, 8, 8, 8, 8, 8, 8, 8, 8, 8, 8, 8, 8, 8, 8, 8, 8, 8, 8, 8, 8, 8, 8, 8, 8, 8, 8, 8, 8, 8, 8, 8, 8, 8, 8, 8, 8, 8, 8] (Int.toNat (IntKind.wrap IntKind.u8 (Int.fdiv (Int.fdiv x0 (2 ^ min (Int.toNat (16 : Int)) (IntKind.bits IntKind.u64))) (2 ^ min (Int.toNat (8 : Int)) (IntKind.bits IntKind.u64))))) 0))), ()), ())))
   (tst (decide (0 ≤ IntKind.wrap IntKind.u8 (Int.fdiv x0 (2 ^ min (Int.toNat (16 : Int)) (IntKind.bits IntKind.u64))))) <|
    tst (decide (IntKind.wrap IntKind.u8 (Int.fdiv x0 (2 ^ min (Int.toNat (16 : Int)) (IntKind.bits IntKind.u64))) < (zz 256))) <|
    some (((w64 (w64 ((0 : Int) + (16 : Int)) + w64 (zz (List.getD [0, 1, 2, 2, 3, 3, 3, 3, 4, 4, 4, 4, 4, 4, 4, 4, 5, 5, 5, 5, 5, 5, 5, 5, 5, 5, 5, 5, 5, 5, 5, 5, 6, 6, 6, 6, 6, 6, 6, 6, 6, 6, 6, 6, 6, 6, 6, 6, 6, 6, 6, 6, 6, 6, 6, 6, 6, 6, 6, 6, 6, 6, 6, 6, 7, 7, 7, 7, 7, 7, 7, 7, 7, 7, 7, 7, 7, 7, 7, 7, 7, 7, 7, 7, 7, 7, 7, 7, 7, 7, 7, 7, 7, 7, 7, 7, 7, 7, 7, 7, 7, 7, 7, 7, 7, 7, 7, 7, 7, 7, 7, 7, 7, 7, 7, 7, 7, 7, 7, 7, 7, 7, 7, 7, 7, 7, 7, 7, 8, 8, 8, 8, 8, 8, 8, 8, 8, 8, 8, 8, 8, 8, 8, 8, 8, 8, 8, 8, 8, 8, 8, 8, 8, 8, 8, 8, 8, 8, 8, 8, 8, 8, 8, 8, 8, 8, 8, 8, 8, 8, 8, 8, 8, 8, 8, 8, 8, 8, 8, 8, 8, 8, 8, 8, 8, 8, 8, 8, 8, 8, 8, 8, 8, 8, 8, 8, 8, 8, 8, 8, 8, 8, 8, 8, 8, 8, 8, 8, 8, 8, 8, 8, 8, 8, 8, 8, 8, 8, 8, 8, 8, 8, 8, 8, 8, 8, 8, 8, 8, 8, 8, 8, 8, 8, 8, 8, 8, 8, 8, 8, 8, 8, 8, 8, 8, 8, 8, 8, 8, 8, 8, 8, 8, 8, 8, 8] (Int.toNat (IntKind.wrap IntKind.u8 (Int.fdiv x0 (2 ^ min (Int.toNat (16 : Int)) (IntKind.bits IntKind.u64))))) 0))), ()), ()))))
  (cond (decide (x0 ≥ (256 : Int)))
   (tst (decide (0 ≤ IntKind.wrap IntKind.u8 (Int.fdiv x0 (2 ^ min (Int.toNat (8 : Int)) (IntKind.bits IntKind.u64))))) <|
    tst (decide (IntKind.wrap IntKind.u8 (Int.fdiv x0 (2 ^ min (Int.toNat (8 : Int)) (IntKind.bits IntKind.u64))) < (zz 256))) <|
    some (((w64 (w64 ((0 : Int) + (8 : Int)) + w64 (zz (List.getD [0, 1, 2, 2, 3, 3, 3, 3, 4, 4, 4, 4, 4, 4, 4, 4, 5, 5, 5, 5, 5, 5, 5, 5, 5, 5, 5, 5, 5, 5, 5, 5, 6, 6, 6, 6, 6, 6, 6, 6, 6, 6, 6, 6, 6, 6, 6, 6, 6, 6, 6, 6, 6, 6, 6, 6, 6, 6, 6, 6, 6, 6, 6, 6, 7, 7, 7, 7, 7, 7, 7, 7, 7, 7, 7, 7, 7, 7, 7, 7, 7, 7, 7, 7, 7, 7, 7, 7, 7, 7, 7, 7, 7, 7, 7, 7, 7, 7, 7, 7, 7, 7, 7, 7, 7, 7, 7, 7, 7, 7, 7, 7, 7, 7, 7, 7, 7, 7, 7, 7, 7, 7, 7, 7, 7, 7, 7, 7, 8, 8, 8, 8, 8, 8, 8, 8, 8, 8, 8, 8, 8, 8, 8, 8, 8, 8, 8, 8, 8, 8, 8, 8, 8, 8, 8, 8, 8, 8, 8, 8, 8, 8, 8, 8, 8, 8, 8, 8, 8, 8, 8, 8, 8, 8, 8, 8, 8, 8, 8, 8, 8, 8, 8, 8, 8, 8, 8, 8, 8, 8, 8, 8, 8, 8, 8, 8, 8, 8, 8, 8, 8, 8, 8, 8, 8, 8, 8, 8, 8, 8, 8, 8, 8, 8, 8, 8, 8, 8, 8, 8, 8, 8, 8, 8, 8, 8, 8, 8, 8, 8, 8, 8, 8, 8, 8, 8, 8, 8, 8, 8, 8, 8, 8, 8, 8, 8, 8, 8, 8, 8, 8, 8, 8, 8, 8, 8] (Int.toNat (IntKind.wrap IntKind.u8 (Int.fdiv x0 (2 ^ min (Int.toNat (8 : Int)) (IntKind.bits IntKind.u64))))) 0))), ()), ())))
   (tst (decide (0 ≤ IntKind.wrap IntKind.u8 x0)) <|
    tst (decide (IntKind.wrap IntKind.u8 x0 < (zz 256))) <|
    some (((w64 ((0 : Int) + w64 (zz (List.getD [0, 1, 2, 2, 3, 3, 3, 3, 4, 4, 4, 4, 4, 4, 4, 4, 5, 5, 5, 5, 5, 5, 5, 5, 5, 5, 5, 5, 5, 5, 5, 5, 6, 6, 6, 6, 6, 6, 6, 6, 6, 6, 6, 6, 6, 6, 6, 6, 6, 6, 6, 6, 6, 6, 6, 6, 6, 6, 6, 6, 6, 6, 6, 6, 7, 7, 7, 7, 7, 7, 7, 7, 7, 7, 7, 7, 7, 7, 7, 7, 7, 7, 7, 7, 7, 7, 7, 7, 7, 7, 7, 7, 7, 7, 7, 7, 7, 7, 7, 7, 7, 7, 7, 7, 7, 7, 7, 7, 7, 7, 7, 7, 7, 7, 7, 7, 7, 7, 7, 7, 7, 7, 7, 7, 7, 7, 7, 7, 8, 8, 8, 8, 8, 8, 8, 8, 8, 8, 8, 8, 8, 8, 8, 8, 8, 8, 8, 8, 8, 8, 8, 8, 8, 8, 8, 8, 8, 8, 8, 8, 8, 8, 8, 8, 8, 8, 8, 8, 8, 8, 8, 8, 8, 8, 8, 8, 8, 8, 8, 8, 8, 8, 8, 8, 8, 8, 8, 8, 8, 8, 8, 8, 8, 8, 8, 8, 8, 8, 8, 8, 8, 8, 8, 8, 8, 8, 8, 8, 8, 8, 8, 8, 8, 8, 8, 8, 8, 8, 8, 8, 8, 8, 8, 8, 8, 8, 8, 8, 8, 8, 8, 8, 8, 8, 8, 8, 8, 8, 8, 8, 8, 8, 8, 8, 8, 8, 8, 8, 8, 8, 8, 8, 8, 8, 8, 8] (Int.toNat (IntKind.wrap IntKind.u8 x0)) 0))), ()), ())))))
def math_bits_Len64_fn (fuel : Nat) (x : ((Int × Unit) × Unit)) : Option ((Int × Unit) × Unit) := math_bits_Len64_pre fuel x.1.1
theorem math_bits_Len64_run (fuel : Nat) (x : PsT math_bits_Len64_ps) : run (math_bits_Len64_T fuel) 0 fuel math_bits_Len64_c (env0 (svPs math_bits_Len64_ps x) 0) [] (endF math_bits_Len64_rv math_bits_Len64_rs) = math_bits_Len64_fn fuel x := by kernel_rfl
def math_bits_Len64_tf (fuel : Nat) : TF := ⟨math_bits_Len64_ps, math_bits_Len64_rs, true, math_bits_Len64_fn fuel⟩
theorem math_bits_Len64_spec (fuel : Nat) : FnSpec Tryz.prog 210 (math_bits_Len64_tf fuel) :=
  fn_spec (T := math_bits_Len64_T fuel) (c := bodyOf Tryz.f210) (fn := Tryz.f210) (TabOK.of (entNil) (methNil)) mixed (by kernel_rfl) (by kernel_rfl) math_bits_Len64_l (by kernel_rfl) (Nat.le_of_ble_eq_true (by kernel_rfl)) (rv := math_bits_Len64_rv) (by kernel_rfl) (math_bits_Len64_run fuel)
theorem math_bits_Len64_ok (fuel : Nat) : EntryOK Tryz.prog 210 (math_bits_Len64_tf fuel).te := EntryOK.tf rfl (math_bits_Len64_spec fuel) (isFn (fn := Tryz.f210) (by kernel_rfl) (by kernel_rfl) (by kernel_rfl))
def math_bits_Len_T (fuel : Nat) : Tab := Tab.of [(210, (math_bits_Len64_tf fuel).te)] []
abbrev math_bits_Len_ps : List Pm := [{ cs := [(Kd.int IntKind.u64, false)], ag := false }]
abbrev math_bits_Len_rs : List Pm := [{ cs := [(I6, false)], ag := false }]
def math_bits_Len_ann : List Norm := []
noncomputable def math_bits_Len_c : C := irOf Tryz.prog Tryz.f199 [] math_bits_Len_ann []
theorem math_bits_Len_l : lightC Tryz.prog [] Tryz.f199.ntmps math_bits_Len_ann [] 0 (bodyOf Tryz.f199) = some (math_bits_Len_c, 0) := by kernel_rfl
def math_bits_Len_rv : List (Nat × Option (Nat × Bool)) := [(2, none)]
def math_bits_Len_pre (fuel : Nat) (x0 : Int) : Option ((Int × Unit) × Unit) :=
 Option.bind (math_bits_Len64_fn fuel ((x0, ()), ())) fun y_1 =>
 some (((y_1.1.1, ()), ()))
def math_bits_Len_fn (fuel : Nat) (x : ((Int × Unit) × Unit)) : Option ((Int × Unit) × Unit) := math_bits_Len_pre fuel x.1.1
theorem math_bits_Len_run (fuel : Nat) (x : PsT math_bits_Len_ps) : run (math_bits_Len_T fuel) 0 fuel math_bits_Len_c (env0 (svPs math_bits_Len_ps x) 0) [] (endF math_bits_Len_rv math_bits_Len_rs) = math_bits_Len_fn fuel x := by kernel_rfl
def math_bits_Len_tf (fuel : Nat) : TF := ⟨math_bits_Len_ps, math_bits_Len_rs, true, math_bits_Len_fn fuel⟩
theorem math_bits_Len_spec (fuel : Nat) : FnSpec Tryz.prog 199 (math_bits_Len_tf fuel) :=
  fn_spec (T := math_bits_Len_T fuel) (c := bodyOf Tryz.f199) (fn := Tryz.f199) (TabOK.of (entCons (math_bits_Len64_ok fuel) entNil) (methNil)) mixed (by kernel_rfl) (by kernel_rfl) math_bits_Len_l (by kernel_rfl) (Nat.le_of_ble_eq_true (by kernel_rfl)) (rv := math_bits_Len_rv) (by kernel_rfl) (math_bits_Len_run fuel)
theorem math_bits_Len_ok (fuel : Nat) : EntryOK Tryz.prog 199 (math_bits_Len_tf fuel).te := EntryOK.tf rfl (math_bits_Len_spec fuel) (isFn (fn := Tryz.f199) (by kernel_rfl) (by kernel_rfl) (by kernel_rfl))
def slices_SortFunc_impl_Pair_impl_Pair_v0_T (fuel : Nat) : Tab := Tab.of [(198, (slices_pdqsortCmpFunc_impl_Pair_v0_tf fuel).te), (198, (slices_pdqsortCmpFunc_impl_Pair_v1_tf fuel).te), (199, (math_bits_Len_tf fuel).te)] []
abbrev slices_SortFunc_impl_Pair_impl_Pair_v0_ps : Sh := (.fnc 193 .nil)
abbrev slices_SortFunc_impl_Pair_impl_Pair_v0_rs : List Pm := []
def slices_SortFunc_impl_Pair_impl_Pair_v0_ann : List Norm := []
noncomputable def slices_SortFunc_impl_Pair_impl_Pair_v0_c : C := irOf Tryz.prog Tryz.f195 [] slices_SortFunc_impl_Pair_impl_Pair_v0_ann []
theorem slices_SortFunc_impl_Pair_impl_Pair_v0_l : lightC Tryz.prog [] Tryz.f195.ntmps slices_SortFunc_impl_Pair_impl_Pair_v0_ann [] 0 (bodyOf Tryz.f195) = some (slices_SortFunc_impl_Pair_impl_Pair_v0_c, 0) := by kernel_rfl
def slices_SortFunc_impl_Pair_impl_Pair_v0_rv : List (Nat × Option (Nat × Bool)) := []
def slices_SortFunc_impl_Pair_impl_Pair_v0_pre (fuel : Nat) (d0 : LP) : Option (LP × Unit) :=
 Option.bind (math_bits_Len_fn fuel ((IntKind.wrap IntKind.u64 (zz (List.length d0)), ()), ())) fun y_1 =>
 Option.bind (slices_pdqsortCmpFunc_impl_Pair_v0_fn fuel (d0, (), (0 : Int), (zz (List.length d0)), y_1.1.1, ())) fun y_2 =>
  some ((y_2.1, ()))
def slices_SortFunc_impl_Pair_impl_Pair_v0_fn (fuel : Nat) (z : LP × Unit × Unit) : Option (LP × Unit) := slices_SortFunc_impl_Pair_impl_Pair_v0_pre fuel z.1
theorem slices_SortFunc_impl_Pair_impl_Pair_v0_run (fuel : Nat) (c : List (Kd.T KP)) (d : CsT []) (x : Sh.T slices_SortFunc_impl_Pair_impl_Pair_v0_ps) : run (slices_SortFunc_impl_Pair_impl_Pair_v0_T fuel) 1 fuel slices_SortFunc_impl_Pair_impl_Pair_v0_c ((0, firstV false 0 (svCs [] d)) :: env0 (svS slices_SortFunc_impl_Pair_impl_Pair_v0_ps x) 1) [.arr KP c 0] (endS slices_SortFunc_impl_Pair_impl_Pair_v0_rv KP false slices_SortFunc_impl_Pair_impl_Pair_v0_rs) = slices_SortFunc_impl_Pair_impl_Pair_v0_fn fuel (c, d, x) := by kernel_rfl
def slices_SortFunc_impl_Pair_impl_Pair_v0_tf (fuel : Nat) : TFT := ⟨KP, false, [], slices_SortFunc_impl_Pair_impl_Pair_v0_ps, slices_SortFunc_impl_Pair_impl_Pair_v0_rs, false, slices_SortFunc_impl_Pair_impl_Pair_v0_fn fuel⟩
theorem slices_SortFunc_impl_Pair_impl_Pair_v0_spec (fuel : Nat) : FnSpecT Tryz.prog 195 (slices_SortFunc_impl_Pair_impl_Pair_v0_tf fuel) :=
  fn_specT (T := slices_SortFunc_impl_Pair_impl_Pair_v0_T fuel) (c := bodyOf Tryz.f195) (fn := Tryz.f195) (TabOK.of (entCons (slices_pdqsortCmpFunc_impl_Pair_v0_ok fuel) (entCons (slices_pdqsortCmpFunc_impl_Pair_v1_ok fuel) (entCons (math_bits_Len_ok fuel) entNil))) (methNil)) mixed (by kernel_rfl) (by kernel_rfl) slices_SortFunc_impl_Pair_impl_Pair_v0_l (by kernel_rfl) (Nat.le_of_ble_eq_true (by kernel_rfl)) (rv := slices_SortFunc_impl_Pair_impl_Pair_v0_rv) (by kernel_rfl) (slices_SortFunc_impl_Pair_impl_Pair_v0_run fuel)
theorem slices_SortFunc_impl_Pair_impl_Pair_v0_ok (fuel : Nat) : EntryOK Tryz.prog 195 (slices_SortFunc_impl_Pair_impl_Pair_v0_tf fuel).te := EntryOK.tft (slices_SortFunc_impl_Pair_impl_Pair_v0_spec fuel) (isFn (fn := Tryz.f195) (by kernel_rfl) (by kernel_rfl) (by kernel_rfl))
def slices_SortFunc_impl_Pair_impl_Pair_v1_T (fuel : Nat) : Tab := Tab.of [(198, (slices_pdqsortCmpFunc_impl_Pair_v0_tf fuel).te), (198, (slices_pdqsortCmpFunc_impl_Pair_v1_tf fuel).te), (199, (math_bits_Len_tf fuel).te)] []
abbrev slices_SortFunc_impl_Pair_impl_Pair_v1_ps : Sh := (.fnc 194 .nil)
abbrev slices_SortFunc_impl_Pair_impl_Pair_v1_rs : List Pm := []
def slices_SortFunc_impl_Pair_impl_Pair_v1_ann : List Norm := []
noncomputable def slices_SortFunc_impl_Pair_impl_Pair_v1_c : C := irOf Tryz.prog Tryz.f195 [] slices_SortFunc_impl_Pair_impl_Pair_v1_ann []
theorem slices_SortFunc_impl_Pair_impl_Pair_v1_l : lightC Tryz.prog [] Tryz.f195.ntmps slices_SortFunc_impl_Pair_impl_Pair_v1_ann [] 0 (bodyOf Tryz.f195) = some (slices_SortFunc_impl_Pair_impl_Pair_v1_c, 0) := by kernel_rfl
def slices_SortFunc_impl_Pair_impl_Pair_v1_rv : List (Nat × Option (Nat × Bool)) := []
def slices_SortFunc_impl_Pair_impl_Pair_v1_pre (fuel : Nat) (d0 : LP) : Option (LP × Unit) :=
 Option.bind (math_bits_Len_fn fuel ((IntKind.wrap IntKind.u64 (zz (List.length d0)), ()), ())) fun y_1 =>
 Option.bind (slices_pdqsortCmpFunc_impl_Pair_v1_fn fuel (d0, (), (0 : Int), (zz (List.length d0)), y_1.1.1, ())) fun y_2 =>
  some ((y_2.1, ()))
def slices_SortFunc_impl_Pair_impl_Pair_v1_fn (fuel : Nat) (z : LP × Unit × Unit) : Option (LP × Unit) := slices_SortFunc_impl_Pair_impl_Pair_v1_pre fuel z.1
theorem slices_SortFunc_impl_Pair_impl_Pair_v1_run (fuel : Nat) (c : List (Kd.T KP)) (d : CsT []) (x : Sh.T slices_SortFunc_impl_Pair_impl_Pair_v1_ps) : run (slices_SortFunc_impl_Pair_impl_Pair_v1_T fuel) 1 fuel slices_SortFunc_impl_Pair_impl_Pair_v1_c ((0, firstV false 0 (svCs [] d)) :: env0 (svS slices_SortFunc_impl_Pair_impl_Pair_v1_ps x) 1) [.arr KP c 0] (endS slices_SortFunc_impl_Pair_impl_Pair_v1_rv KP false slices_SortFunc_impl_Pair_impl_Pair_v1_rs) = slices_SortFunc_impl_Pair_impl_Pair_v1_fn fuel (c, d, x) := by kernel_rfl
def slices_SortFunc_impl_Pair_impl_Pair_v1_tf (fuel : Nat) : TFT := ⟨KP, false, [], slices_SortFunc_impl_Pair_impl_Pair_v1_ps, slices_SortFunc_impl_Pair_impl_Pair_v1_rs, false, slices_SortFunc_impl_Pair_impl_Pair_v1_fn fuel⟩
theorem slices_SortFunc_impl_Pair_impl_Pair_v1_spec (fuel : Nat) : FnSpecT Tryz.prog 195 (slices_SortFunc_impl_Pair_impl_Pair_v1_tf fuel) :=
  fn_specT (T := slices_SortFunc_impl_Pair_impl_Pair_v1_T fuel) (c := bodyOf Tryz.f195) (fn := Tryz.f195) (TabOK.of (entCons (slices_pdqsortCmpFunc_impl_Pair_v0_ok fuel) (entCons (slices_pdqsortCmpFunc_impl_Pair_v1_ok fuel) (entCons (math_bits_Len_ok fuel) entNil))) (methNil)) mixed (by kernel_rfl) (by kernel_rfl) slices_SortFunc_impl_Pair_impl_Pair_v1_l (by kernel_rfl) (Nat.le_of_ble_eq_true (by kernel_rfl)) (rv := slices_SortFunc_impl_Pair_impl_Pair_v1_rv) (by kernel_rfl) (slices_SortFunc_impl_Pair_impl_Pair_v1_run fuel)
theorem slices_SortFunc_impl_Pair_impl_Pair_v1_ok (fuel : Nat) : EntryOK Tryz.prog 195 (slices_SortFunc_impl_Pair_impl_Pair_v1_tf fuel).te := EntryOK.tft (slices_SortFunc_impl_Pair_impl_Pair_v1_spec fuel) (isFn (fn := Tryz.f195) (by kernel_rfl) (by kernel_rfl) (by kernel_rfl))
def impl_sortPairs_v0_T (fuel : Nat) : Tab := Tab.of [(195, (slices_SortFunc_impl_Pair_impl_Pair_v0_tf fuel).te), (195, (slices_SortFunc_impl_Pair_impl_Pair_v1_tf fuel).te)] []
abbrev impl_sortPairs_v0_ps : Sh := (.num .i64 (0) .nil)
abbrev impl_sortPairs_v0_rs : List Pm := []
def impl_sortPairs_v0_ann : List Norm := []
noncomputable def impl_sortPairs_v0_c : C := irOf Tryz.prog Tryz.f183 [] impl_sortPairs_v0_ann []
theorem impl_sortPairs_v0_l : lightC Tryz.prog [] Tryz.f183.ntmps impl_sortPairs_v0_ann [] 0 (bodyOf Tryz.f183) = some (impl_sortPairs_v0_c, 0) := by kernel_rfl
def impl_sortPairs_v0_rv : List (Nat × Option (Nat × Bool)) := []
def impl_sortPairs_v0_pre (fuel : Nat) (d0 : LP) : Option (LP × Unit) :=
 Option.bind (slices_SortFunc_impl_Pair_impl_Pair_v0_fn fuel (d0, (), ())) fun y_1 =>
 some ((y_1.1, ()))
def impl_sortPairs_v0_fn (fuel : Nat) (z : LP × Unit × Unit) : Option (LP × Unit) := impl_sortPairs_v0_pre fuel z.1
theorem impl_sortPairs_v0_run (fuel : Nat) (c : List (Kd.T KP)) (d : CsT []) (x : Sh.T impl_sortPairs_v0_ps) : run (impl_sortPairs_v0_T fuel) 1 fuel impl_sortPairs_v0_c ((0, firstV false 0 (svCs [] d)) :: env0 (svS impl_sortPairs_v0_ps x) 1) [.arr KP c 0] (endS impl_sortPairs_v0_rv KP false impl_sortPairs_v0_rs) = impl_sortPairs_v0_fn fuel (c, d, x) := by kernel_rfl
def impl_sortPairs_v0_tf (fuel : Nat) : TFT := ⟨KP, false, [], impl_sortPairs_v0_ps, impl_sortPairs_v0_rs, false, impl_sortPairs_v0_fn fuel⟩
theorem impl_sortPairs_v0_spec (fuel : Nat) : FnSpecT Tryz.prog 183 (impl_sortPairs_v0_tf fuel) :=
  fn_specT (T := impl_sortPairs_v0_T fuel) (c := bodyOf Tryz.f183) (fn := Tryz.f183) (TabOK.of (entCons (slices_SortFunc_impl_Pair_impl_Pair_v0_ok fuel) (entCons (slices_SortFunc_impl_Pair_impl_Pair_v1_ok fuel) entNil)) (methNil)) mixed (by kernel_rfl) (by kernel_rfl) impl_sortPairs_v0_l (by kernel_rfl) (Nat.le_of_ble_eq_true (by kernel_rfl)) (rv := impl_sortPairs_v0_rv) (by kernel_rfl) (impl_sortPairs_v0_run fuel)
theorem impl_sortPairs_v0_ok (fuel : Nat) : EntryOK Tryz.prog 183 (impl_sortPairs_v0_tf fuel).te := EntryOK.tft (impl_sortPairs_v0_spec fuel) (isFn (fn := Tryz.f183) (by kernel_rfl) (by kernel_rfl) (by kernel_rfl))
def impl_sortPairs_v1_T (fuel : Nat) : Tab := Tab.of [(195, (slices_SortFunc_impl_Pair_impl_Pair_v0_tf fuel).te), (195, (slices_SortFunc_impl_Pair_impl_Pair_v1_tf fuel).te)] []
abbrev impl_sortPairs_v1_ps : Sh := (.num .i64 (1) .nil)
abbrev impl_sortPairs_v1_rs : List Pm := []
def impl_sortPairs_v1_ann : List Norm := []
noncomputable def impl_sortPairs_v1_c : C := irOf Tryz.prog Tryz.f183 [] impl_sortPairs_v1_ann []
theorem impl_sortPairs_v1_l : lightC Tryz.prog [] Tryz.f183.ntmps impl_sortPairs_v1_ann [] 0 (bodyOf Tryz.f183) = some (impl_sortPairs_v1_c, 0) := by kernel_rfl
def impl_sortPairs_v1_rv : List (Nat × Option (Nat × Bool)) := []
def impl_sortPairs_v1_pre (fuel : Nat) (d0 : LP) : Option (LP × Unit) :=
 Option.bind (slices_SortFunc_impl_Pair_impl_Pair_v1_fn fuel (d0, (), ())) fun y_1 =>
 some ((y_1.1, ()))
def impl_sortPairs_v1_fn (fuel : Nat) (z : LP × Unit × Unit) : Option (LP × Unit) := impl_sortPairs_v1_pre fuel z.1
theorem impl_sortPairs_v1_run (fuel : Nat) (c : List (Kd.T KP)) (d : CsT []) (x : Sh.T impl_sortPairs_v1_ps) : run (impl_sortPairs_v1_T fuel) 1 fuel impl_sortPairs_v1_c ((0, firstV false 0 (svCs [] d)) :: env0 (svS impl_sortPairs_v1_ps x) 1) [.arr KP c 0] (endS impl_sortPairs_v1_rv KP false impl_sortPairs_v1_rs) = impl_sortPairs_v1_fn fuel (c, d, x) := by kernel_rfl
def impl_sortPairs_v1_tf (fuel : Nat) : TFT := ⟨KP, false, [], impl_sortPairs_v1_ps, impl_sortPairs_v1_rs, false, impl_sortPairs_v1_fn fuel⟩
theorem impl_sortPairs_v1_spec (fuel : Nat) : FnSpecT Tryz.prog 183 (impl_sortPairs_v1_tf fuel) :=
  fn_specT (T := impl_sortPairs_v1_T fuel) (c := bodyOf Tryz.f183) (fn := Tryz.f183) (TabOK.of (entCons (slices_SortFunc_impl_Pair_impl_Pair_v0_ok fuel) (entCons (slices_SortFunc_impl_Pair_impl_Pair_v1_ok fuel) entNil)) (methNil)) mixed (by kernel_rfl) (by kernel_rfl) impl_sortPairs_v1_l (by kernel_rfl) (Nat.le_of_ble_eq_true (by kernel_rfl)) (rv := impl_sortPairs_v1_rv) (by kernel_rfl) (impl_sortPairs_v1_run fuel)
theorem impl_sortPairs_v1_ok (fuel : Nat) : EntryOK Tryz.prog 183 (impl_sortPairs_v1_tf fuel).te := EntryOK.tft (impl_sortPairs_v1_spec fuel) (isFn (fn := Tryz.f183) (by kernel_rfl) (by kernel_rfl) (by kernel_rfl))
end Go.Proofs.YtdgdoeknpakmlaaGreat.Den
namespace Go.Proofs.YtdgdoeknpakmlaaGreat.Den
open Go Go.RowKit
set_option linter.unusedVariables false
set_option linter.unusedSimpArgs false
abbrev impl_cutTop_R := Option ((LP × (Int × (Int × Unit))) × Unit)
def impl_cutTop_T (fuel : Nat) : Tab := Tab.of [(182, (slices_Clone_impl_Pair_impl_Pair_tf fuel).te), (183, (impl_sortPairs_v0_tf fuel).te), (183, (impl_sortPairs_v1_tf fuel).te)] []
abbrev impl_cutTop_ps : List Pm := [{ cs := [(Kd.list KP, false), (I6, false), (I6, false)], ag := true }]
abbrev impl_cutTop_rs : List Pm := [{ cs := [(Kd.list KP, false), (I6, false), (I6, false)], ag := true }]
def impl_cutTop_ann : List Norm := [{ live := [26, 25, 24, 4, 5, 1, 2], fix := [] }]
noncomputable def impl_cutTop_c : C := irOf Tryz.prog Tryz.f136 [] impl_cutTop_ann []
theorem impl_cutTop_l : lightC Tryz.prog [] Tryz.f136.ntmps impl_cutTop_ann [] 0 (bodyOf Tryz.f136) = some (impl_cutTop_c, 1) := by kernel_rfl
def impl_cutTop_rv : List (Nat × Option (Nat × Bool)) := [(2, some (3, true))]
abbrev impl_cutTop_V0 := (Int) × (Int) × LP × (Int) × LP × LP × (Int) × (Int) × (Int) × (Int)
def impl_cutTop_enc0 (v : impl_cutTop_V0) : Env × Heap := ([(26, SV.int .i64 v.1), (25, SV.int .i64 v.2.1), (24, SV.es KP v.2.2.1), (4, SV.int .i64 v.2.2.2.1), (5, SV.own 0), (1, SV.ptr 1 0), (2, SV.ptr 2 0)], [Blk.arr KP v.2.2.2.2.1 0, Blk.cells [SV.es KP v.2.2.2.2.2.1, SV.int .i64 v.2.2.2.2.2.2.1, SV.int .i64 v.2.2.2.2.2.2.2.1] 0 3, Blk.cells [SV.nils, SV.int .i64 v.2.2.2.2.2.2.2.2.1, SV.int .i64 v.2.2.2.2.2.2.2.2.2] 0 3])
def impl_cutTop_step0 (fuel : Nat) (g0 : impl_cutTop_V0 → impl_cutTop_R) (v : impl_cutTop_V0) : impl_cutTop_R :=
 cond (decide (v.1 < v.2.1))
 (tst (decide (0 ≤ v.1)) <|
  tst (decide (v.1 < (zz (List.length v.2.2.1)))) <|
  cond (decide ((List.getD v.2.2.1 (Int.toNat v.1) (0, (0, ()))).2.1 > v.2.2.2.1))
  (tst (decide (List.length v.2.2.2.2.1 + 1 < LIM)) <|
   g0 (w64 (v.1 + (1 : Int)), v.2.1, v.2.2.1, v.2.2.2.1, v.2.2.2.2.1 ++ [((List.getD v.2.2.1 (Int.toNat v.1) (0, (0, ()))).1, w64 ((List.getD v.2.2.1 (Int.toNat v.1) (0, (0, ()))).2.1 - v.2.2.2.1), ())], v.2.2.2.2.2.1, v.2.2.2.2.2.2.1, v.2.2.2.2.2.2.2.1, v.2.2.2.2.2.2.2.2.1, v.2.2.2.2.2.2.2.2.2))
  (g0 (w64 (v.1 + (1 : Int)), v.2.1, v.2.2.1, v.2.2.2.1, v.2.2.2.2.1, v.2.2.2.2.2.1, v.2.2.2.2.2.2.1, v.2.2.2.2.2.2.2.1, v.2.2.2.2.2.2.2.2.1, v.2.2.2.2.2.2.2.2.2)))
 (some (((v.2.2.2.2.1, w64 (v.2.2.2.2.2.2.1 + v.2.2.2.1), v.2.2.2.2.2.2.2.1, ()), ())))
def impl_cutTop_st0 (fuel : Nat) (g0 : impl_cutTop_V0 → impl_cutTop_R) : impl_cutTop_V0 → impl_cutTop_R := impl_cutTop_step0 fuel g0
theorem impl_cutTop_lp0 (fuel : Nat) (G) : impl_cutTop_c.lp (impl_cutTop_T fuel) 0 fuel G (endF impl_cutTop_rv impl_cutTop_rs) 0 impl_cutTop_enc0 = iter (impl_cutTop_st0 fuel) fuel := C.lp_iter fun g v => by kernel_rfl
def impl_cutTop_pre (fuel : Nat) (X0 : impl_cutTop_V0 → impl_cutTop_R) (x0 : LP) (x1 : Int) (x2 : Int) : impl_cutTop_R :=
 cond (decide ((zz (List.length x0)) ≤ (4 : Int)))
 (some (((x0, x1, x2, ()), ())))
 (Option.bind (slices_Clone_impl_Pair_impl_Pair_fn fuel ((x0, ()), ())) fun y_2 =>
  Option.bind (impl_sortPairs_v1_fn fuel (y_2.1.1, (), ())) fun y_3 =>
   tst (decide ((4 : Int) < (zz (List.length y_3.1)))) <|
    tst (decide (Int.toNat (4 : Int) < List.length y_3.1)) <|
    X0 ((0 : Int), (zz (List.length x0)), x0, (List.getD y_3.1 (Int.toNat (4 : Int)) (0, (0, ()))).2.1, List.replicate (Int.toNat (0 : Int)) (0, (0, ())), x0, x1, x2, (0 : Int), (0 : Int)))
def impl_cutTop_fn (fuel : Nat) (x : ((LP × (Int × (Int × Unit))) × Unit)) : impl_cutTop_R := impl_cutTop_pre fuel (iter (impl_cutTop_st0 fuel) fuel) x.1.1 x.1.2.1 x.1.2.2.1
theorem impl_cutTop_run (fuel : Nat) (x : PsT impl_cutTop_ps) : run (impl_cutTop_T fuel) 0 fuel impl_cutTop_c (env0 (svPs impl_cutTop_ps x) 0) [] (endF impl_cutTop_rv impl_cutTop_rs) = impl_cutTop_fn fuel x :=
  (show run (impl_cutTop_T fuel) 0 fuel impl_cutTop_c (env0 (svPs impl_cutTop_ps x) 0) [] (endF impl_cutTop_rv impl_cutTop_rs) = impl_cutTop_pre fuel (impl_cutTop_c.lp (impl_cutTop_T fuel) 0 fuel (fun _ _ _ => none) (endF impl_cutTop_rv impl_cutTop_rs) 0 impl_cutTop_enc0) x.1.1 x.1.2.1 x.1.2.2.1 by kernel_rfl).trans (by rw [impl_cutTop_lp0]; rfl)
def impl_cutTop_tf (fuel : Nat) : TF := ⟨impl_cutTop_ps, impl_cutTop_rs, false, impl_cutTop_fn fuel⟩
theorem impl_cutTop_spec (fuel : Nat) : FnSpec Tryz.prog 136 (impl_cutTop_tf fuel) :=
  fn_spec (T := impl_cutTop_T fuel) (c := bodyOf Tryz.f136) (fn := Tryz.f136) (TabOK.of (entCons (slices_Clone_impl_Pair_impl_Pair_ok fuel) (entCons (impl_sortPairs_v0_ok fuel) (entCons (impl_sortPairs_v1_ok fuel) entNil))) (methNil)) mixed (by kernel_rfl) (by kernel_rfl) impl_cutTop_l (by kernel_rfl) (Nat.le_of_ble_eq_true (by kernel_rfl)) (rv := impl_cutTop_rv) (by kernel_rfl) (impl_cutTop_run fuel)
theorem impl_cutTop_ok (fuel : Nat) : EntryOK Tryz.prog 136 (impl_cutTop_tf fuel).te := EntryOK.tf rfl (impl_cutTop_spec fuel) (isFn (fn := Tryz.f136) (by kernel_rfl) (by kernel_rfl) (by kernel_rfl))
def slices_Grow_impl_Pair_impl_Pair_T (fuel : Nat) : Tab := Tab.of [] []
abbrev slices_Grow_impl_Pair_impl_Pair_ps : Sh := (.nls (.cell I6 0 .nil))
abbrev slices_Grow_impl_Pair_impl_Pair_rs : Sh := (.cell (Kd.list KP) 1 .nil)
def slices_Grow_impl_Pair_impl_Pair_ann : List Norm := []
noncomputable def slices_Grow_impl_Pair_impl_Pair_c : C := irOf Tryz.prog Tryz.f196 [] slices_Grow_impl_Pair_impl_Pair_ann []
theorem slices_Grow_impl_Pair_impl_Pair_l : lightC Tryz.prog [] Tryz.f196.ntmps slices_Grow_impl_Pair_impl_Pair_ann [] 0 (bodyOf Tryz.f196) = some (slices_Grow_impl_Pair_impl_Pair_c, 0) := by kernel_rfl
def slices_Grow_impl_Pair_impl_Pair_rv : List (Nat × Option (Nat × Bool)) := [(4, none)]
def slices_Grow_impl_Pair_impl_Pair_pre (fuel : Nat) (x0 : Int) : Option (LP × Unit) :=
 cond (decide (x0 < (0 : Int)))
 (none)
 (cond (decide (w64 (x0 - w64 (0 - (zz 0))) > (0 : Int)))
  (tst (decide (0 ≤ w64 (x0 - w64 (0 - (zz 0))))) <|
   tst (decide (Int.toNat (w64 (x0 - w64 (0 - (zz 0)))) < LIM)) <|
   tst (decide ((zz 0) ≤ (zz (List.length (List.replicate (Int.toNat (w64 (x0 - w64 (0 - (zz 0))))) (Kd.dflt KP)))))) <|
   some ((List.take (Int.toNat (zz 0) - 0) (List.drop 0 (List.replicate (Int.toNat (w64 (x0 - w64 (0 - (zz 0))))) (0, (0, ())))), ())))
  (some (([], ()))))
def slices_Grow_impl_Pair_impl_Pair_fn (fuel : Nat) (x : (Int × Unit)) : Option (LP × Unit) := slices_Grow_impl_Pair_impl_Pair_pre fuel x.1
theorem slices_Grow_impl_Pair_impl_Pair_run (fuel : Nat) (x : Sh.T slices_Grow_impl_Pair_impl_Pair_ps) : run (slices_Grow_impl_Pair_impl_Pair_T fuel) 0 fuel slices_Grow_impl_Pair_impl_Pair_c (env0 (svS slices_Grow_impl_Pair_impl_Pair_ps x) 0) [] (endG slices_Grow_impl_Pair_impl_Pair_rv slices_Grow_impl_Pair_impl_Pair_rs) = slices_Grow_impl_Pair_impl_Pair_fn fuel x := by kernel_rfl
def slices_Grow_impl_Pair_impl_Pair_tf (fuel : Nat) : TG := ⟨slices_Grow_impl_Pair_impl_Pair_ps, slices_Grow_impl_Pair_impl_Pair_rs, true, slices_Grow_impl_Pair_impl_Pair_fn fuel⟩
theorem slices_Grow_impl_Pair_impl_Pair_spec (fuel : Nat) : FnSpecG Tryz.prog 196 (slices_Grow_impl_Pair_impl_Pair_tf fuel) :=
  fn_specG (T := slices_Grow_impl_Pair_impl_Pair_T fuel) (c := bodyOf Tryz.f196) (fn := Tryz.f196) (TabOK.of (entNil) (methNil)) mixed (by kernel_rfl) (by kernel_rfl) slices_Grow_impl_Pair_impl_Pair_l (by kernel_rfl) (Nat.le_of_ble_eq_true (by kernel_rfl)) (rv := slices_Grow_impl_Pair_impl_Pair_rv) (by kernel_rfl) (fun x y h => (slices_Grow_impl_Pair_impl_Pair_run fuel x).trans h)
theorem slices_Grow_impl_Pair_impl_Pair_ok (fuel : Nat) : EntryOK Tryz.prog 196 (slices_Grow_impl_Pair_impl_Pair_tf fuel).te := EntryOK.tg rfl (slices_Grow_impl_Pair_impl_Pair_spec fuel) (isFn (fn := Tryz.f196) (by kernel_rfl) (by kernel_rfl) (by kernel_rfl))
abbrev slices_Concat_impl_Pair_impl_Pair_R := Option ((LP × Unit) × Unit)
def slices_Concat_impl_Pair_impl_Pair_T (fuel : Nat) : Tab := Tab.of [(196, (slices_Grow_impl_Pair_impl_Pair_tf fuel).te)] []
abbrev slices_Concat_impl_Pair_impl_Pair_ps : List Pm := [{ cs := [(Kd.list (Kd.list KP), false)], ag := false }]
abbrev slices_Concat_impl_Pair_impl_Pair_rs : List Pm := [{ cs := [(Kd.list KP, true)], ag := false }]
def slices_Concat_impl_Pair_impl_Pair_ann : List Norm := [{ live := [11, 10, 9, 3, 0], fix := [] }, { live := [27, 26, 25, 6], fix := [] }]
noncomputable def slices_Concat_impl_Pair_impl_Pair_c : C := irOf Tryz.prog Tryz.f184 [] slices_Concat_impl_Pair_impl_Pair_ann []
theorem slices_Concat_impl_Pair_impl_Pair_l : lightC Tryz.prog [] Tryz.f184.ntmps slices_Concat_impl_Pair_impl_Pair_ann [] 0 (bodyOf Tryz.f184) = some (slices_Concat_impl_Pair_impl_Pair_c, 2) := by kernel_rfl
def slices_Concat_impl_Pair_impl_Pair_rv : List (Nat × Option (Nat × Bool)) := [(2, none)]
abbrev slices_Concat_impl_Pair_impl_Pair_V0 := (Int) × (Int) × (List LP) × (Int) × (List LP)
abbrev slices_Concat_impl_Pair_impl_Pair_V1 := (Int) × (Int) × (List LP) × LP
def slices_Concat_impl_Pair_impl_Pair_enc0 (v : slices_Concat_impl_Pair_impl_Pair_V0) : Env × Heap := ([(11, SV.int .i64 v.1), (10, SV.int .i64 v.2.1), (9, SV.es (Kd.list KP) v.2.2.1), (3, SV.int .i64 v.2.2.2.1), (0, SV.es (Kd.list KP) v.2.2.2.2)], [])
def slices_Concat_impl_Pair_impl_Pair_enc1 (v : slices_Concat_impl_Pair_impl_Pair_V1) : Env × Heap := ([(27, SV.int .i64 v.1), (26, SV.int .i64 v.2.1), (25, SV.es (Kd.list KP) v.2.2.1), (6, SV.own 0)], [Blk.arr KP v.2.2.2 0])
def slices_Concat_impl_Pair_impl_Pair_step1 (fuel : Nat) (g1 : slices_Concat_impl_Pair_impl_Pair_V1 → slices_Concat_impl_Pair_impl_Pair_R) (v : slices_Concat_impl_Pair_impl_Pair_V1) : slices_Concat_impl_Pair_impl_Pair_R :=
 cond (decide (v.1 < v.2.1))
 (tst (decide (0 ≤ v.1)) <|
  tst (decide (v.1 < (zz (List.length v.2.2.1)))) <|
  tst (decide (List.length v.2.2.2 + List.length (List.getD v.2.2.1 (Int.toNat v.1) []) < LIM)) <|
  g1 (w64 (v.1 + (1 : Int)), v.2.1, v.2.2.1, v.2.2.2 ++ List.getD v.2.2.1 (Int.toNat v.1) []))
 (some (((v.2.2.2, ()), ())))
def slices_Concat_impl_Pair_impl_Pair_st1 (fuel : Nat) (g1 : slices_Concat_impl_Pair_impl_Pair_V1 → slices_Concat_impl_Pair_impl_Pair_R) : slices_Concat_impl_Pair_impl_Pair_V1 → slices_Concat_impl_Pair_impl_Pair_R := slices_Concat_impl_Pair_impl_Pair_step1 fuel g1
theorem slices_Concat_impl_Pair_impl_Pair_lp1 (fuel : Nat) (G) : slices_Concat_impl_Pair_impl_Pair_c.lp (slices_Concat_impl_Pair_impl_Pair_T fuel) 0 fuel G (endF slices_Concat_impl_Pair_impl_Pair_rv slices_Concat_impl_Pair_impl_Pair_rs) 1 slices_Concat_impl_Pair_impl_Pair_enc1 = iter (slices_Concat_impl_Pair_impl_Pair_st1 fuel) fuel := C.lp_iter fun g v => by kernel_rfl
def slices_Concat_impl_Pair_impl_Pair_step0 (fuel : Nat) (X1 : slices_Concat_impl_Pair_impl_Pair_V1 → slices_Concat_impl_Pair_impl_Pair_R) (g0 : slices_Concat_impl_Pair_impl_Pair_V0 → slices_Concat_impl_Pair_impl_Pair_R) (v : slices_Concat_impl_Pair_impl_Pair_V0) : slices_Concat_impl_Pair_impl_Pair_R :=
 cond (decide (v.1 < v.2.1))
 (tst (decide (0 ≤ v.1)) <|
  tst (decide (v.1 < (zz (List.length v.2.2.1)))) <|
  cond (decide (w64 (v.2.2.2.1 + (zz (List.length (List.getD v.2.2.1 (Int.toNat v.1) [])))) < (0 : Int)))
  (none)
  (g0 (w64 (v.1 + (1 : Int)), v.2.1, v.2.2.1, w64 (v.2.2.2.1 + (zz (List.length (List.getD v.2.2.1 (Int.toNat v.1) [])))), v.2.2.2.2)))
 (Option.bind (slices_Grow_impl_Pair_impl_Pair_fn fuel (v.2.2.2.1, ())) fun y_2 =>
  X1 ((0 : Int), (zz (List.length v.2.2.2.2)), v.2.2.2.2, y_2.1))
def slices_Concat_impl_Pair_impl_Pair_st0 (fuel : Nat) (g0 : slices_Concat_impl_Pair_impl_Pair_V0 → slices_Concat_impl_Pair_impl_Pair_R) : slices_Concat_impl_Pair_impl_Pair_V0 → slices_Concat_impl_Pair_impl_Pair_R := slices_Concat_impl_Pair_impl_Pair_step0 fuel (iter (slices_Concat_impl_Pair_impl_Pair_st1 fuel) fuel) g0
theorem slices_Concat_impl_Pair_impl_Pair_lp0 (fuel : Nat) (G) : slices_Concat_impl_Pair_impl_Pair_c.lp (slices_Concat_impl_Pair_impl_Pair_T fuel) 0 fuel G (endF slices_Concat_impl_Pair_impl_Pair_rv slices_Concat_impl_Pair_impl_Pair_rs) 0 slices_Concat_impl_Pair_impl_Pair_enc0 = iter (slices_Concat_impl_Pair_impl_Pair_st0 fuel) fuel := C.lp_iter fun g v =>
  (show run (slices_Concat_impl_Pair_impl_Pair_T fuel) 0 fuel (slices_Concat_impl_Pair_impl_Pair_c.bdAt 0) (slices_Concat_impl_Pair_impl_Pair_enc0 v).1 (slices_Concat_impl_Pair_impl_Pair_enc0 v).2 (loopK 0 (slices_Concat_impl_Pair_impl_Pair_c.nmAt 0) g (slices_Concat_impl_Pair_impl_Pair_c.contAt (slices_Concat_impl_Pair_impl_Pair_T fuel) 0 fuel G 0 0 (endF slices_Concat_impl_Pair_impl_Pair_rv slices_Concat_impl_Pair_impl_Pair_rs))) = slices_Concat_impl_Pair_impl_Pair_step0 fuel (slices_Concat_impl_Pair_impl_Pair_c.lp (slices_Concat_impl_Pair_impl_Pair_T fuel) 0 fuel (fun m => bif Nat.beq m 0 then g else G m) (endF slices_Concat_impl_Pair_impl_Pair_rv slices_Concat_impl_Pair_impl_Pair_rs) 1 slices_Concat_impl_Pair_impl_Pair_enc1) (fun v => g (slices_Concat_impl_Pair_impl_Pair_enc0 v).1 (slices_Concat_impl_Pair_impl_Pair_enc0 v).2) v by kernel_rfl).trans (by rw [slices_Concat_impl_Pair_impl_Pair_lp1]; rfl)
def slices_Concat_impl_Pair_impl_Pair_pre (fuel : Nat) (X0 : slices_Concat_impl_Pair_impl_Pair_V0 → slices_Concat_impl_Pair_impl_Pair_R) (x0 : List LP) : slices_Concat_impl_Pair_impl_Pair_R :=
 X0 ((0 : Int), (zz (List.length x0)), x0, (0 : Int), x0)
def slices_Concat_impl_Pair_impl_Pair_fn (fuel : Nat) (x : (((List LP) × Unit) × Unit)) : slices_Concat_impl_Pair_impl_Pair_R := slices_Concat_impl_Pair_impl_Pair_pre fuel (iter (slices_Concat_impl_Pair_impl_Pair_st0 fuel) fuel) x.1.1
theorem slices_Concat_impl_Pair_impl_Pair_run (fuel : Nat) (x : PsT slices_Concat_impl_Pair_impl_Pair_ps) : run (slices_Concat_impl_Pair_impl_Pair_T fuel) 0 fuel slices_Concat_impl_Pair_impl_Pair_c (env0 (svPs slices_Concat_impl_Pair_impl_Pair_ps x) 0) [] (endF slices_Concat_impl_Pair_impl_Pair_rv slices_Concat_impl_Pair_impl_Pair_rs) = slices_Concat_impl_Pair_impl_Pair_fn fuel x :=
  (show run (slices_Concat_impl_Pair_impl_Pair_T fuel) 0 fuel slices_Concat_impl_Pair_impl_Pair_c (env0 (svPs slices_Concat_impl_Pair_impl_Pair_ps x) 0) [] (endF slices_Concat_impl_Pair_impl_Pair_rv slices_Concat_impl_Pair_impl_Pair_rs) = slices_Concat_impl_Pair_impl_Pair_pre fuel (slices_Concat_impl_Pair_impl_Pair_c.lp (slices_Concat_impl_Pair_impl_Pair_T fuel) 0 fuel (fun _ _ _ => none) (endF slices_Concat_impl_Pair_impl_Pair_rv slices_Concat_impl_Pair_impl_Pair_rs) 0 slices_Concat_impl_Pair_impl_Pair_enc0) x.1.1 by kernel_rfl).trans (by rw [slices_Concat_impl_Pair_impl_Pair_lp0]; rfl)
def slices_Concat_impl_Pair_impl_Pair_tf (fuel : Nat) : TF := ⟨slices_Concat_impl_Pair_impl_Pair_ps, slices_Concat_impl_Pair_impl_Pair_rs, true, slices_Concat_impl_Pair_impl_Pair_fn fuel⟩
theorem slices_Concat_impl_Pair_impl_Pair_spec (fuel : Nat) : FnSpec Tryz.prog 184 (slices_Concat_impl_Pair_impl_Pair_tf fuel) :=
  fn_spec (T := slices_Concat_impl_Pair_impl_Pair_T fuel) (c := bodyOf Tryz.f184) (fn := Tryz.f184) (TabOK.of (entCons (slices_Grow_impl_Pair_impl_Pair_ok fuel) entNil) (methNil)) mixed (by kernel_rfl) (by kernel_rfl) slices_Concat_impl_Pair_impl_Pair_l (by kernel_rfl) (Nat.le_of_ble_eq_true (by kernel_rfl)) (rv := slices_Concat_impl_Pair_impl_Pair_rv) (by kernel_rfl) (slices_Concat_impl_Pair_impl_Pair_run fuel)
theorem slices_Concat_impl_Pair_impl_Pair_ok (fuel : Nat) : EntryOK Tryz.prog 184 (slices_Concat_impl_Pair_impl_Pair_tf fuel).te := EntryOK.tf rfl (slices_Concat_impl_Pair_impl_Pair_spec fuel) (isFn (fn := Tryz.f184) (by kernel_rfl) (by kernel_rfl) (by kernel_rfl))
abbrev impl_bothPairs_R := Option ((LP × Unit) × Unit)
def impl_bothPairs_T (fuel : Nat) : Tab := Tab.of [(183, (impl_sortPairs_v0_tf fuel).te), (183, (impl_sortPairs_v1_tf fuel).te), (184, (slices_Concat_impl_Pair_impl_Pair_tf fuel).te)] []
abbrev impl_bothPairs_ps : List Pm := [{ cs := [(Kd.list KP, false)], ag := false }, { cs := [(Kd.list KP, false)], ag := false }]
abbrev impl_bothPairs_rs : List Pm := [{ cs := [(Kd.list KP, true)], ag := false }]
def impl_bothPairs_ann : List Norm := [{ live := [21, 20, 19, 6], fix := [] }]
noncomputable def impl_bothPairs_c : C := irOf Tryz.prog Tryz.f137 [] impl_bothPairs_ann []
theorem impl_bothPairs_l : lightC Tryz.prog [] Tryz.f137.ntmps impl_bothPairs_ann [] 0 (bodyOf Tryz.f137) = some (impl_bothPairs_c, 1) := by kernel_rfl
def impl_bothPairs_rv : List (Nat × Option (Nat × Bool)) := [(4, none)]
abbrev impl_bothPairs_V0 := (Int) × (Int) × LP × LP
def impl_bothPairs_enc0 (v : impl_bothPairs_V0) : Env × Heap := ([(21, SV.int .i64 v.1), (20, SV.int .i64 v.2.1), (19, SV.own 0), (6, SV.own 1)], [Blk.arr KP v.2.2.1 0, Blk.arr KP v.2.2.2 0])
def impl_bothPairs_step0 (fuel : Nat) (g0 : impl_bothPairs_V0 → impl_bothPairs_R) (v : impl_bothPairs_V0) : impl_bothPairs_R :=
 cond (decide (v.1 < v.2.1))
 (tst (decide (0 ≤ v.1)) <|
  tst (decide (v.1 < (zz (List.length v.2.2.1)))) <|
  tst (decide (Int.toNat v.1 < List.length v.2.2.1)) <|
  cond (decide (w64 ((zz (List.length v.2.2.2)) - (1 : Int)) ≥ (0 : Int)))
  (tst (decide (0 ≤ w64 ((zz (List.length v.2.2.2)) - (1 : Int)))) <|
   tst (decide (w64 ((zz (List.length v.2.2.2)) - (1 : Int)) < (zz (List.length v.2.2.2)))) <|
   tst (decide (Int.toNat (w64 ((zz (List.length v.2.2.2)) - (1 : Int))) < List.length v.2.2.2)) <|
   cond ((List.getD v.2.2.2 (Int.toNat (w64 ((zz (List.length v.2.2.2)) - (1 : Int)))) (0, (0, ()))).1 == (List.getD v.2.2.1 (Int.toNat v.1) (0, (0, ()))).1)
   (tst (decide (0 ≤ w64 ((zz (List.length v.2.2.2)) - (1 : Int)))) <|
    tst (decide (w64 ((zz (List.length v.2.2.2)) - (1 : Int)) < (zz (List.length v.2.2.2)))) <|
    tst (decide (Int.toNat (w64 ((zz (List.length v.2.2.2)) - (1 : Int))) < List.length v.2.2.2)) <|
    tst (decide (0 ≤ w64 ((zz (List.length v.2.2.2)) - (1 : Int)))) <|
    tst (decide (w64 ((zz (List.length v.2.2.2)) - (1 : Int)) < (zz (List.length v.2.2.2)))) <|
    tst (decide (Int.toNat (w64 ((zz (List.length v.2.2.2)) - (1 : Int))) < List.length v.2.2.2)) <|
    g0 (w64 (v.1 + (1 : Int)), v.2.1, v.2.2.1, List.set v.2.2.2 (Int.toNat (w64 ((zz (List.length v.2.2.2)) - (1 : Int)))) ((List.getD v.2.2.2 (Int.toNat (w64 ((zz (List.length v.2.2.2)) - (1 : Int)))) (0, (0, ()))).1, w64 ((List.getD v.2.2.2 (Int.toNat (w64 ((zz (List.length v.2.2.2)) - (1 : Int)))) (0, (0, ()))).2.1 + (List.getD v.2.2.1 (Int.toNat v.1) (0, (0, ()))).2.1), ())))
   (tst (decide (List.length v.2.2.2 + 1 < LIM)) <|
    g0 (w64 (v.1 + (1 : Int)), v.2.1, v.2.2.1, v.2.2.2 ++ [((List.getD v.2.2.1 (Int.toNat v.1) (0, (0, ()))).1, (List.getD v.2.2.1 (Int.toNat v.1) (0, (0, ()))).2.1, ())])))
  (tst (decide (List.length v.2.2.2 + 1 < LIM)) <|
   g0 (w64 (v.1 + (1 : Int)), v.2.1, v.2.2.1, v.2.2.2 ++ [((List.getD v.2.2.1 (Int.toNat v.1) (0, (0, ()))).1, (List.getD v.2.2.1 (Int.toNat v.1) (0, (0, ()))).2.1, ())])))
 (some (((v.2.2.2, ()), ())))
def impl_bothPairs_st0 (fuel : Nat) (g0 : impl_bothPairs_V0 → impl_bothPairs_R) : impl_bothPairs_V0 → impl_bothPairs_R := impl_bothPairs_step0 fuel g0
theorem impl_bothPairs_lp0 (fuel : Nat) (G) : impl_bothPairs_c.lp (impl_bothPairs_T fuel) 0 fuel G (endF impl_bothPairs_rv impl_bothPairs_rs) 0 impl_bothPairs_enc0 = iter (impl_bothPairs_st0 fuel) fuel := C.lp_iter fun g v => by kernel_rfl
def impl_bothPairs_pre (fuel : Nat) (X0 : impl_bothPairs_V0 → impl_bothPairs_R) (x0 : LP) (x1 : LP) : impl_bothPairs_R :=
 Option.bind (slices_Concat_impl_Pair_impl_Pair_fn fuel (([x0, x1], ()), ())) fun y_1 =>
 Option.bind (impl_sortPairs_v0_fn fuel (y_1.1.1, (), ())) fun y_2 =>
  tst (decide ((0 : Int) ≤ (zz (List.length y_2.1)))) <|
   tst (decide (Int.toNat (zz (List.length y_2.1)) < LIM)) <|
   X0 ((0 : Int), (zz (List.length y_2.1)), y_2.1, List.replicate (Int.toNat (0 : Int)) (0, (0, ())))
def impl_bothPairs_fn (fuel : Nat) (x : ((LP × Unit) × ((LP × Unit) × Unit))) : impl_bothPairs_R := impl_bothPairs_pre fuel (iter (impl_bothPairs_st0 fuel) fuel) x.1.1 x.2.1.1
theorem impl_bothPairs_run (fuel : Nat) (x : PsT impl_bothPairs_ps) : run (impl_bothPairs_T fuel) 0 fuel impl_bothPairs_c (env0 (svPs impl_bothPairs_ps x) 0) [] (endF impl_bothPairs_rv impl_bothPairs_rs) = impl_bothPairs_fn fuel x :=
  (show run (impl_bothPairs_T fuel) 0 fuel impl_bothPairs_c (env0 (svPs impl_bothPairs_ps x) 0) [] (endF impl_bothPairs_rv impl_bothPairs_rs) = impl_bothPairs_pre fuel (impl_bothPairs_c.lp (impl_bothPairs_T fuel) 0 fuel (fun _ _ _ => none) (endF impl_bothPairs_rv impl_bothPairs_rs) 0 impl_bothPairs_enc0) x.1.1 x.2.1.1 by kernel_rfl).trans (by rw [impl_bothPairs_lp0]; rfl)
def impl_bothPairs_tf (fuel : Nat) : TF := ⟨impl_bothPairs_ps, impl_bothPairs_rs, true, impl_bothPairs_fn fuel⟩
theorem impl_bothPairs_spec (fuel : Nat) : FnSpec Tryz.prog 137 (impl_bothPairs_tf fuel) :=
  fn_spec (T := impl_bothPairs_T fuel) (c := bodyOf Tryz.f137) (fn := Tryz.f137) (TabOK.of (entCons (impl_sortPairs_v0_ok fuel) (entCons (impl_sortPairs_v1_ok fuel) (entCons (slices_Concat_impl_Pair_impl_Pair_ok fuel) entNil))) (methNil)) mixed (by kernel_rfl) (by kernel_rfl) impl_bothPairs_l (by kernel_rfl) (Nat.le_of_ble_eq_true (by kernel_rfl)) (rv := impl_bothPairs_rv) (by kernel_rfl) (impl_bothPairs_run fuel)
theorem impl_bothPairs_ok (fuel : Nat) : EntryOK Tryz.prog 137 (impl_bothPairs_tf fuel).te := EntryOK.tf rfl (impl_bothPairs_spec fuel) (isFn (fn := Tryz.f137) (by kernel_rfl) (by kernel_rfl) (by kernel_rfl))
def impl_topSum_T (fuel : Nat) : Tab := Tab.of [(136, (impl_cutTop_tf fuel).te), (137, (impl_bothPairs_tf fuel).te)] []
abbrev impl_topSum_ps : List Pm := [{ cs := [(Kd.list KP, false), (I6, false), (I6, false)], ag := true }, { cs := [(Kd.list KP, false), (I6, false), (I6, false)], ag := true }]
abbrev impl_topSum_rs : List Pm := [{ cs := [(Kd.list KP, false), (I6, false), (I6, false)], ag := true }]
def impl_topSum_ann : List Norm := []
noncomputable def impl_topSum_c : C := irOf Tryz.prog Tryz.f90 [21] impl_topSum_ann []
theorem impl_topSum_l : lightC Tryz.prog [21] Tryz.f90.ntmps impl_topSum_ann [] 0 (bodyOf Tryz.f90) = some (impl_topSum_c, 0) := by kernel_rfl
def impl_topSum_rv : List (Nat × Option (Nat × Bool)) := [(4, some (3, true))]
def impl_topSum_pre (fuel : Nat) (x0 : LP) (x1 : Int) (x2 : Int) (x3 : LP) (x4 : Int) (x5 : Int) : Option ((LP × (Int × (Int × Unit))) × Unit) :=
 Option.bind (impl_bothPairs_fn fuel ((x0, ()), (x3, ()), ())) fun y_1 =>
 Option.bind (impl_cutTop_fn fuel ((y_1.1.1, w64 (x1 + x4), w64 (x2 + x5), ()), ())) fun y_2 =>
  some (((y_2.1.1, y_2.1.2.1, y_2.1.2.2.1, ()), ()))
def impl_topSum_fn (fuel : Nat) (x : ((LP × (Int × (Int × Unit))) × ((LP × (Int × (Int × Unit))) × Unit))) : Option ((LP × (Int × (Int × Unit))) × Unit) := impl_topSum_pre fuel x.1.1 x.1.2.1 x.1.2.2.1 x.2.1.1 x.2.1.2.1 x.2.1.2.2.1
theorem impl_topSum_run (fuel : Nat) (x : PsT impl_topSum_ps) : run (impl_topSum_T fuel) 0 fuel impl_topSum_c (env0 (svPs impl_topSum_ps x) 0) [] (endF impl_topSum_rv impl_topSum_rs) = impl_topSum_fn fuel x := by kernel_rfl
def impl_topSum_tf (fuel : Nat) : TF := ⟨impl_topSum_ps, impl_topSum_rs, false, impl_topSum_fn fuel⟩
theorem impl_topSum_spec (fuel : Nat) : FnSpec Tryz.prog 90 (impl_topSum_tf fuel) :=
  fn_spec (T := impl_topSum_T fuel) (c := bodyOf Tryz.f90) (fn := Tryz.f90) (TabOK.of (entCons (impl_cutTop_ok fuel) (entCons (impl_bothPairs_ok fuel) entNil)) (methNil)) mixed (by kernel_rfl) (by kernel_rfl) impl_topSum_l (by kernel_rfl) (Nat.le_of_ble_eq_true (by kernel_rfl)) (rv := impl_topSum_rv) (by kernel_rfl) (impl_topSum_run fuel)
theorem impl_topSum_ok (fuel : Nat) : EntryOK Tryz.prog 90 (impl_topSum_tf fuel).te := EntryOK.tf rfl (impl_topSum_spec fuel) (isFn (fn := Tryz.f90) (by kernel_rfl) (by kernel_rfl) (by kernel_rfl))
def impl_TopAdd_T (fuel : Nat) : Tab := Tab.of [(85, (impl_TopOk_tf fuel).te), (86, (impl_isThing_tf fuel).te), (90, (impl_topSum_tf fuel).te)] []
abbrev impl_TopAdd_ps : List Pm := [{ cs := [(Kd.list KP, false), (I6, false), (I6, false)], ag := true }, { cs := [(I6, false)], ag := false }]
abbrev impl_TopAdd_rs : List Pm := [{ cs := [(Kd.list KP, false), (I6, false), (I6, false)], ag := true }, { cs := [(Kd.bool, false)], ag := false }]
def impl_TopAdd_ann : List Norm := []
noncomputable def impl_TopAdd_c : C := irOf Tryz.prog Tryz.f64 [25] impl_TopAdd_ann []
theorem impl_TopAdd_l : lightC Tryz.prog [25] Tryz.f64.ntmps impl_TopAdd_ann [] 0 (bodyOf Tryz.f64) = some (impl_TopAdd_c, 0) := by kernel_rfl
def impl_TopAdd_rv : List (Nat × Option (Nat × Bool)) := [(4, some (3, true)), (5, none)]
def impl_TopAdd_pre (fuel : Nat) (x0 : LP) (x1 : Int) (x2 : Int) (x3 : Int) : Option ((LP × (Int × (Int × Unit))) × ((Bool × Unit) × Unit)) :=
 Option.bind (impl_TopOk_fn fuel ((x0, x1, x2, ()), ())) fun y_1 =>
 cond (!y_1.1.1)
  (some ((([], (0 : Int), (0 : Int), ()), (false, ()), ())))
  (Option.bind (impl_isThing_fn fuel ((x3, ()), ())) fun y_3 =>
   cond (!y_3.1.1)
    (some ((([], (0 : Int), (0 : Int), ()), (false, ()), ())))
    (cond (x2 == (2000 : Int))
     (some ((([], (0 : Int), (0 : Int), ()), (false, ()), ())))
     (Option.bind (impl_topSum_fn fuel ((x0, x1, x2, ()), ([(x3, (1 : Int), ())], (0 : Int), (1 : Int), ()), ())) fun y_6 =>
      some (((y_6.1.1, y_6.1.2.1, y_6.1.2.2.1, ()), (true, ()), ())))))
def impl_TopAdd_fn (fuel : Nat) (x : ((LP × (Int × (Int × Unit))) × ((Int × Unit) × Unit))) : Option ((LP × (Int × (Int × Unit))) × ((Bool × Unit) × Unit)) := impl_TopAdd_pre fuel x.1.1 x.1.2.1 x.1.2.2.1 x.2.1.1
theorem impl_TopAdd_run (fuel : Nat) (x : PsT impl_TopAdd_ps) : run (impl_TopAdd_T fuel) 0 fuel impl_TopAdd_c (env0 (svPs impl_TopAdd_ps x) 0) [] (endF impl_TopAdd_rv impl_TopAdd_rs) = impl_TopAdd_fn fuel x := by kernel_rfl
def impl_TopAdd_tf (fuel : Nat) : TF := ⟨impl_TopAdd_ps, impl_TopAdd_rs, false, impl_TopAdd_fn fuel⟩
theorem impl_TopAdd_spec (fuel : Nat) : FnSpec Tryz.prog 64 (impl_TopAdd_tf fuel) :=
  fn_spec (T := impl_TopAdd_T fuel) (c := bodyOf Tryz.f64) (fn := Tryz.f64) (TabOK.of (entCons (impl_TopOk_ok fuel) (entCons (impl_isThing_ok fuel) (entCons (impl_topSum_ok fuel) entNil))) (methNil)) mixed (by kernel_rfl) (by kernel_rfl) impl_TopAdd_l (by kernel_rfl) (Nat.le_of_ble_eq_true (by kernel_rfl)) (rv := impl_TopAdd_rv) (by kernel_rfl) (impl_TopAdd_run fuel)
theorem impl_TopAdd_ok (fuel : Nat) : EntryOK Tryz.prog 64 (impl_TopAdd_tf fuel).te := EntryOK.tf rfl (impl_TopAdd_spec fuel) (isFn (fn := Tryz.f64) (by kernel_rfl) (by kernel_rfl) (by kernel_rfl))
def impl_Top_with_T (fuel : Nat) : Tab := Tab.of [(64, (impl_TopAdd_tf fuel).te)] []
abbrev impl_Top_with_ps : Sh := (.agg (.cell (Kd.list KP) 0 (.cell I6 0 (.cell I6 0 .nil))) (.cell I6 0 .nil))
abbrev impl_Top_with_rs : Sh := (.ifc 32 (.agg (.cell (Kd.list KP) 0 (.cell I6 0 (.cell I6 0 .nil))) .nil) (.cell Kd.bool 0 .nil))
def impl_Top_with_ann : List Norm := []
noncomputable def impl_Top_with_c : C := irOf Tryz.prog Tryz.f237 [] impl_Top_with_ann []
theorem impl_Top_with_l : lightC Tryz.prog [] Tryz.f237.ntmps impl_Top_with_ann [] 0 (bodyOf Tryz.f237) = some (impl_Top_with_c, 0) := by kernel_rfl
def impl_Top_with_rv : List (Nat × Option (Nat × Bool)) := [(4, none), (5, none)]
def impl_Top_with_pre (fuel : Nat) (x0 : LP) (x1 : Int) (x2 : Int) (x3 : Int) : Option (((LP × (Int × (Int × Unit))) × Unit) × (Bool × Unit)) :=
 Option.bind (impl_TopAdd_fn fuel ((x0, x1, x2, ()), (x3, ()), ())) fun y_1 =>
 some ((((y_1.1.1, y_1.1.2.1, y_1.1.2.2.1, ()), ()), y_1.2.1.1, ()))
def impl_Top_with_fn (fuel : Nat) (x : ((LP × (Int × (Int × Unit))) × (Int × Unit))) : Option (((LP × (Int × (Int × Unit))) × Unit) × (Bool × Unit)) := impl_Top_with_pre fuel x.1.1 x.1.2.1 x.1.2.2.1 x.2.1
theorem impl_Top_with_run (fuel : Nat) (x : Sh.T impl_Top_with_ps) : run (impl_Top_with_T fuel) 0 fuel impl_Top_with_c (env0 (svS impl_Top_with_ps x) 0) [] (endG impl_Top_with_rv impl_Top_with_rs) = impl_Top_with_fn fuel x := by kernel_rfl
def impl_Top_with_tf (fuel : Nat) : TG := ⟨impl_Top_with_ps, impl_Top_with_rs, false, impl_Top_with_fn fuel⟩
theorem impl_Top_with_spec (fuel : Nat) : FnSpecG Tryz.prog 237 (impl_Top_with_tf fuel) :=
  fn_specG (T := impl_Top_with_T fuel) (c := bodyOf Tryz.f237) (fn := Tryz.f237) (TabOK.of (entCons (impl_TopAdd_ok fuel) entNil) (methNil)) mixed (by kernel_rfl) (by kernel_rfl) impl_Top_with_l (by kernel_rfl) (Nat.le_of_ble_eq_true (by kernel_rfl)) (rv := impl_Top_with_rv) (by kernel_rfl) (fun x y h => (impl_Top_with_run fuel x).trans h)
theorem impl_Top_with_ok (fuel : Nat) : EntryOK Tryz.prog 237 (impl_Top_with_tf fuel).te := EntryOK.tg rfl (impl_Top_with_spec fuel) (isFn (fn := Tryz.f237) (by kernel_rfl) (by kernel_rfl) (by kernel_rfl))
def impl_knotNums_addKnots_T (fuel : Nat) : Tab := Tab.of [] []
abbrev impl_knotNums_addKnots_ps : List Pm := [{ cs := [(Kd.list KP, false)], ag := false }]
abbrev impl_knotNums_addKnots_rs : List Pm := []
abbrev impl_knotNums_addKnots_rf : Rf := Rf.arr I6 165
def impl_knotNums_addKnots_ann : List Norm := [{ live := [8, 7, 6, 0], fix := [] }]
noncomputable def impl_knotNums_addKnots_c : C := irOf Tryz.prog Tryz.f155 [] impl_knotNums_addKnots_ann []
theorem impl_knotNums_addKnots_l : lightC Tryz.prog [] Tryz.f155.ntmps impl_knotNums_addKnots_ann [] 0 (bodyOf Tryz.f155) = some (impl_knotNums_addKnots_c, 1) := by kernel_rfl
def impl_knotNums_addKnots_rv : List (Nat × Option (Nat × Bool)) := []
abbrev impl_knotNums_addKnots_V0 := (Int) × (Int) × LP × (List Int)
def impl_knotNums_addKnots_enc0 (v : impl_knotNums_addKnots_V0) : Env × Heap := ([(8, SV.int .i64 v.1), (7, SV.int .i64 v.2.1), (6, SV.es KP v.2.2.1), (0, SV.ptr 0 0)], [Blk.arr I6 v.2.2.2 0])
def impl_knotNums_addKnots_step0 (fuel : Nat) (g0 : impl_knotNums_addKnots_V0 → Option ((List Int) × Unit)) (v : impl_knotNums_addKnots_V0) : Option ((List Int) × Unit) :=
 cond (decide (v.1 < v.2.1))
 (tst (decide (0 ≤ v.1)) <|
  tst (decide (v.1 < (zz (List.length v.2.2.1)))) <|
  tst (decide (0 ≤ (List.getD v.2.2.1 (Int.toNat v.1) (0, (0, ()))).1)) <|
  tst (decide ((List.getD v.2.2.1 (Int.toNat v.1) (0, (0, ()))).1 < (zz 128))) <|
  tst (decide (Int.toNat (List.getD v.2.2.1 (Int.toNat v.1) (0, (0, ()))).1 < List.length v.2.2.2)) <|
  tst (decide (0 ≤ (List.getD v.2.2.1 (Int.toNat v.1) (0, (0, ()))).1)) <|
  tst (decide ((List.getD v.2.2.1 (Int.toNat v.1) (0, (0, ()))).1 < (zz 128))) <|
  tst (decide (Int.toNat (List.getD v.2.2.1 (Int.toNat v.1) (0, (0, ()))).1 < List.length v.2.2.2)) <|
  g0 (w64 (v.1 + (1 : Int)), v.2.1, v.2.2.1, List.set v.2.2.2 (Int.toNat (List.getD v.2.2.1 (Int.toNat v.1) (0, (0, ()))).1) (w64 (List.getD v.2.2.2 (Int.toNat (List.getD v.2.2.1 (Int.toNat v.1) (0, (0, ()))).1) 0 + (List.getD v.2.2.1 (Int.toNat v.1) (0, (0, ()))).2.1))))
 (some ((v.2.2.2, ())))
def impl_knotNums_addKnots_st0 (fuel : Nat) (g0 : impl_knotNums_addKnots_V0 → Option ((List Int) × Unit)) : impl_knotNums_addKnots_V0 → Option ((List Int) × Unit) := impl_knotNums_addKnots_step0 fuel g0
theorem impl_knotNums_addKnots_lp0 (fuel : Nat) (G) : impl_knotNums_addKnots_c.lp (impl_knotNums_addKnots_T fuel) 1 fuel G (endU impl_knotNums_addKnots_rv impl_knotNums_addKnots_rf impl_knotNums_addKnots_rs) 0 impl_knotNums_addKnots_enc0 = iter (impl_knotNums_addKnots_st0 fuel) fuel := C.lp_iter fun g v => by kernel_rfl
def impl_knotNums_addKnots_pre (fuel : Nat) (X0 : impl_knotNums_addKnots_V0 → Option ((List Int) × Unit)) (d0 : List Int) (x0 : LP) : Option ((List Int) × Unit) :=
 X0 ((0 : Int), (zz (List.length x0)), x0, d0)
def impl_knotNums_addKnots_fn (fuel : Nat) (z : (List Int) × ((LP × Unit) × Unit)) : Option ((List Int) × Unit) := impl_knotNums_addKnots_pre fuel (iter (impl_knotNums_addKnots_st0 fuel) fuel) z.1 z.2.1.1
theorem impl_knotNums_addKnots_run (fuel : Nat) (c : Rf.T impl_knotNums_addKnots_rf) (x : PsT impl_knotNums_addKnots_ps) : run (impl_knotNums_addKnots_T fuel) 1 fuel impl_knotNums_addKnots_c ((0, .ptr 0 0) :: env0 (svPs impl_knotNums_addKnots_ps x) 1) [impl_knotNums_addKnots_rf.blk c] (endU impl_knotNums_addKnots_rv impl_knotNums_addKnots_rf impl_knotNums_addKnots_rs) = impl_knotNums_addKnots_fn fuel (c, x) :=
  (show run (impl_knotNums_addKnots_T fuel) 1 fuel impl_knotNums_addKnots_c ((0, .ptr 0 0) :: env0 (svPs impl_knotNums_addKnots_ps x) 1) [impl_knotNums_addKnots_rf.blk c] (endU impl_knotNums_addKnots_rv impl_knotNums_addKnots_rf impl_knotNums_addKnots_rs) = impl_knotNums_addKnots_pre fuel (impl_knotNums_addKnots_c.lp (impl_knotNums_addKnots_T fuel) 1 fuel (fun _ _ _ => none) (endU impl_knotNums_addKnots_rv impl_knotNums_addKnots_rf impl_knotNums_addKnots_rs) 0 impl_knotNums_addKnots_enc0) c x.1.1 by kernel_rfl).trans (by rw [impl_knotNums_addKnots_lp0]; rfl)
def impl_knotNums_addKnots_tf (fuel : Nat) : TFU := ⟨impl_knotNums_addKnots_rf, impl_knotNums_addKnots_ps, impl_knotNums_addKnots_rs, impl_knotNums_addKnots_fn fuel⟩
theorem impl_knotNums_addKnots_spec (fuel : Nat) : FnSpecU Tryz.prog 155 (impl_knotNums_addKnots_tf fuel) :=
  fn_specU (T := impl_knotNums_addKnots_T fuel) (c := bodyOf Tryz.f155) (fn := Tryz.f155) (TabOK.of (entNil) (methNil)) mixed (by kernel_rfl) (by kernel_rfl) impl_knotNums_addKnots_l (by kernel_rfl) (Nat.le_of_ble_eq_true (by kernel_rfl)) (rv := impl_knotNums_addKnots_rv) (by kernel_rfl) (impl_knotNums_addKnots_run fuel)
theorem impl_knotNums_addKnots_ok (fuel : Nat) : EntryOK Tryz.prog 155 (impl_knotNums_addKnots_tf fuel).te := EntryOK.tfu (impl_knotNums_addKnots_spec fuel) (isFn (fn := Tryz.f155) (by kernel_rfl) (by kernel_rfl) (by kernel_rfl))
def impl_knotNums_squeeze_T (fuel : Nat) : Tab := Tab.of [] []
abbrev impl_knotNums_squeeze_ps : List Pm := [{ cs := [(I6, false)], ag := false }]
abbrev impl_knotNums_squeeze_rs : List Pm := []
abbrev impl_knotNums_squeeze_rf : Rf := Rf.arr I6 165
def impl_knotNums_squeeze_ann : List Norm := [{ live := [5, 4, 0, 1], fix := [] }, { live := [4, 0, 1], fix := [(4, none, I6, true)] }]
noncomputable def impl_knotNums_squeeze_c : C := irOf Tryz.prog Tryz.f156 [] impl_knotNums_squeeze_ann []
theorem impl_knotNums_squeeze_l : lightC Tryz.prog [] Tryz.f156.ntmps impl_knotNums_squeeze_ann [] 0 (bodyOf Tryz.f156) = some (impl_knotNums_squeeze_c, 2) := by kernel_rfl
def impl_knotNums_squeeze_rv : List (Nat × Option (Nat × Bool)) := []
abbrev impl_knotNums_squeeze_V0 := (Int) × (Int) × (List Int) × (List Int)
abbrev impl_knotNums_squeeze_V1 := (Int) × (List Int) × (List Int)
def impl_knotNums_squeeze_enc0 (v : impl_knotNums_squeeze_V0) : Env × Heap := ([(5, SV.int .i64 v.1), (4, SV.own 1), (0, SV.ptr 0 0), (1, SV.int .i64 v.2.1)], [Blk.arr I6 v.2.2.1 0, Blk.arr I6 v.2.2.2 0])
def impl_knotNums_squeeze_enc1 (v : impl_knotNums_squeeze_V1) : Env × Heap := ([(4, SV.own 1), (0, SV.ptr 0 0), (1, SV.int .i64 v.1)], [Blk.arr I6 v.2.1 0, Blk.arr I6 v.2.2 0])
def impl_knotNums_squeeze_step1 (fuel : Nat) (g1 : impl_knotNums_squeeze_V1 → Option ((List Int) × Unit)) (v : impl_knotNums_squeeze_V1) : Option ((List Int) × Unit) :=
 cond (decide ((zz (List.length v.2.2)) > (0 : Int)))
 (tst (decide ((0 : Int) < (zz (List.length v.2.2)))) <|
  tst (decide (Int.toNat (0 : Int) < List.length v.2.2)) <|
  tst (decide ((1 : Int) ≤ (zz (List.length v.2.2)))) <|
  tst (decide (0 ≤ w64 (List.getD v.2.2 (Int.toNat (0 : Int)) 0 * 2 ^ min (Int.toNat (1 : Int)) (IntKind.bits IntKind.i64)))) <|
  tst (decide (w64 (List.getD v.2.2 (Int.toNat (0 : Int)) 0 * 2 ^ min (Int.toNat (1 : Int)) (IntKind.bits IntKind.i64)) < (zz 128))) <|
  tst (decide (Int.toNat (w64 (List.getD v.2.2 (Int.toNat (0 : Int)) 0 * 2 ^ min (Int.toNat (1 : Int)) (IntKind.bits IntKind.i64))) < List.length v.2.1)) <|
  tst (decide (0 ≤ w64 (zz (BitVec.toNat (BitVec.ofInt (IntKind.bits IntKind.i64) (w64 (List.getD v.2.2 (Int.toNat (0 : Int)) 0 * 2 ^ min (Int.toNat (1 : Int)) (IntKind.bits IntKind.i64))) ||| BitVec.ofInt (IntKind.bits IntKind.i64) (1 : Int)))))) <|
  tst (decide (w64 (zz (BitVec.toNat (BitVec.ofInt (IntKind.bits IntKind.i64) (w64 (List.getD v.2.2 (Int.toNat (0 : Int)) 0 * 2 ^ min (Int.toNat (1 : Int)) (IntKind.bits IntKind.i64))) ||| BitVec.ofInt (IntKind.bits IntKind.i64) (1 : Int)))) < (zz 128))) <|
  tst (decide (Int.toNat (w64 (zz (BitVec.toNat (BitVec.ofInt (IntKind.bits IntKind.i64) (w64 (List.getD v.2.2 (Int.toNat (0 : Int)) 0 * 2 ^ min (Int.toNat (1 : Int)) (IntKind.bits IntKind.i64))) ||| BitVec.ofInt (IntKind.bits IntKind.i64) (1 : Int))))) < List.length v.2.1)) <|
  cond (decide (w64 (List.getD v.2.1 (Int.toNat (w64 (List.getD v.2.2 (Int.toNat (0 : Int)) 0 * 2 ^ min (Int.toNat (1 : Int)) (IntKind.bits IntKind.i64)))) 0 + List.getD v.2.1 (Int.toNat (w64 (zz (BitVec.toNat (BitVec.ofInt (IntKind.bits IntKind.i64) (w64 (List.getD v.2.2 (Int.toNat (0 : Int)) 0 * 2 ^ min (Int.toNat (1 : Int)) (IntKind.bits IntKind.i64))) ||| BitVec.ofInt (IntKind.bits IntKind.i64) (1 : Int)))))) 0) > (0 : Int)))
  (tst (decide (0 ≤ List.getD v.2.2 (Int.toNat (0 : Int)) 0)) <|
   tst (decide (List.getD v.2.2 (Int.toNat (0 : Int)) 0 < (zz 128))) <|
   tst (decide (Int.toNat (List.getD v.2.2 (Int.toNat (0 : Int)) 0) < List.length v.2.1)) <|
   cond (decide (w64 (w64 (List.getD v.2.1 (Int.toNat (w64 (List.getD v.2.2 (Int.toNat (0 : Int)) 0 * 2 ^ min (Int.toNat (1 : Int)) (IntKind.bits IntKind.i64)))) 0 + List.getD v.2.1 (Int.toNat (w64 (zz (BitVec.toNat (BitVec.ofInt (IntKind.bits IntKind.i64) (w64 (List.getD v.2.2 (Int.toNat (0 : Int)) 0 * 2 ^ min (Int.toNat (1 : Int)) (IntKind.bits IntKind.i64))) ||| BitVec.ofInt (IntKind.bits IntKind.i64) (1 : Int)))))) 0) + List.getD v.2.1 (Int.toNat (List.getD v.2.2 (Int.toNat (0 : Int)) 0)) 0) ≤ w64 (Int.tdiv v.1 (8 : Int))))
   (tst (decide (0 ≤ List.getD v.2.2 (Int.toNat (0 : Int)) 0)) <|
    tst (decide (List.getD v.2.2 (Int.toNat (0 : Int)) 0 < (zz 128))) <|
    tst (decide (Int.toNat (List.getD v.2.2 (Int.toNat (0 : Int)) 0) < List.length v.2.1)) <|
    tst (decide (0 ≤ List.getD v.2.2 (Int.toNat (0 : Int)) 0)) <|
    tst (decide (List.getD v.2.2 (Int.toNat (0 : Int)) 0 < (zz 128))) <|
    tst (decide (Int.toNat (List.getD v.2.2 (Int.toNat (0 : Int)) 0) < List.length v.2.1)) <|
    tst (decide (0 ≤ w64 (List.getD v.2.2 (Int.toNat (0 : Int)) 0 * 2 ^ min (Int.toNat (1 : Int)) (IntKind.bits IntKind.i64)))) <|
    tst (decide (w64 (List.getD v.2.2 (Int.toNat (0 : Int)) 0 * 2 ^ min (Int.toNat (1 : Int)) (IntKind.bits IntKind.i64)) < (zz 128))) <|
    tst (decide (Int.toNat (w64 (List.getD v.2.2 (Int.toNat (0 : Int)) 0 * 2 ^ min (Int.toNat (1 : Int)) (IntKind.bits IntKind.i64))) < List.length (List.set v.2.1 (Int.toNat (List.getD v.2.2 (Int.toNat (0 : Int)) 0)) (w64 (List.getD v.2.1 (Int.toNat (List.getD v.2.2 (Int.toNat (0 : Int)) 0)) 0 + w64 (List.getD v.2.1 (Int.toNat (w64 (List.getD v.2.2 (Int.toNat (0 : Int)) 0 * 2 ^ min (Int.toNat (1 : Int)) (IntKind.bits IntKind.i64)))) 0 + List.getD v.2.1 (Int.toNat (w64 (zz (BitVec.toNat (BitVec.ofInt (IntKind.bits IntKind.i64) (w64 (List.getD v.2.2 (Int.toNat (0 : Int)) 0 * 2 ^ min (Int.toNat (1 : Int)) (IntKind.bits IntKind.i64))) ||| BitVec.ofInt (IntKind.bits IntKind.i64) (1 : Int)))))) 0)))))) <|
    tst (decide (0 ≤ w64 (zz (BitVec.toNat (BitVec.ofInt (IntKind.bits IntKind.i64) (w64 (List.getD v.2.2 (Int.toNat (0 : Int)) 0 * 2 ^ min (Int.toNat (1 : Int)) (IntKind.bits IntKind.i64))) ||| BitVec.ofInt (IntKind.bits IntKind.i64) (1 : Int)))))) <|
    tst (decide (w64 (zz (BitVec.toNat (BitVec.ofInt (IntKind.bits IntKind.i64) (w64 (List.getD v.2.2 (Int.toNat (0 : Int)) 0 * 2 ^ min (Int.toNat (1 : Int)) (IntKind.bits IntKind.i64))) ||| BitVec.ofInt (IntKind.bits IntKind.i64) (1 : Int)))) < (zz 128))) <|
    tst (decide (Int.toNat (w64 (zz (BitVec.toNat (BitVec.ofInt (IntKind.bits IntKind.i64) (w64 (List.getD v.2.2 (Int.toNat (0 : Int)) 0 * 2 ^ min (Int.toNat (1 : Int)) (IntKind.bits IntKind.i64))) ||| BitVec.ofInt (IntKind.bits IntKind.i64) (1 : Int))))) < List.length (List.set (List.set v.2.1 (Int.toNat (List.getD v.2.2 (Int.toNat (0 : Int)) 0)) (w64 (List.getD v.2.1 (Int.toNat (List.getD v.2.2 (Int.toNat (0 : Int)) 0)) 0 + w64 (List.getD v.2.1 (Int.toNat (w64 (List.getD v.2.2 (Int.toNat (0 : Int)) 0 * 2 ^ min (Int.toNat (1 : Int)) (IntKind.bits IntKind.i64)))) 0 + List.getD v.2.1 (Int.toNat (w64 (zz (BitVec.toNat (BitVec.ofInt (IntKind.bits IntKind.i64) (w64 (List.getD v.2.2 (Int.toNat (0 : Int)) 0 * 2 ^ min (Int.toNat (1 : Int)) (IntKind.bits IntKind.i64))) ||| BitVec.ofInt (IntKind.bits IntKind.i64) (1 : Int)))))) 0)))) (Int.toNat (w64 (List.getD v.2.2 (Int.toNat (0 : Int)) 0 * 2 ^ min (Int.toNat (1 : Int)) (IntKind.bits IntKind.i64)))) (0 : Int)))) <|
    cond (w64 (zz (BitVec.toNat (BitVec.ofInt (IntKind.bits IntKind.i64) (List.getD v.2.2 (Int.toNat (0 : Int)) 0) &&& BitVec.ofInt (IntKind.bits IntKind.i64) (1 : Int)))) == (0 : Int))
    (tst (decide (List.length (List.take (List.length v.2.2 - Int.toNat (1 : Int)) (List.drop (Int.toNat (1 : Int)) v.2.2)) + 1 < LIM)) <|
     g1 (v.1, List.set (List.set (List.set v.2.1 (Int.toNat (List.getD v.2.2 (Int.toNat (0 : Int)) 0)) (w64 (List.getD v.2.1 (Int.toNat (List.getD v.2.2 (Int.toNat (0 : Int)) 0)) 0 + w64 (List.getD v.2.1 (Int.toNat (w64 (List.getD v.2.2 (Int.toNat (0 : Int)) 0 * 2 ^ min (Int.toNat (1 : Int)) (IntKind.bits IntKind.i64)))) 0 + List.getD v.2.1 (Int.toNat (w64 (zz (BitVec.toNat (BitVec.ofInt (IntKind.bits IntKind.i64) (w64 (List.getD v.2.2 (Int.toNat (0 : Int)) 0 * 2 ^ min (Int.toNat (1 : Int)) (IntKind.bits IntKind.i64))) ||| BitVec.ofInt (IntKind.bits IntKind.i64) (1 : Int)))))) 0)))) (Int.toNat (w64 (List.getD v.2.2 (Int.toNat (0 : Int)) 0 * 2 ^ min (Int.toNat (1 : Int)) (IntKind.bits IntKind.i64)))) (0 : Int)) (Int.toNat (w64 (zz (BitVec.toNat (BitVec.ofInt (IntKind.bits IntKind.i64) (w64 (List.getD v.2.2 (Int.toNat (0 : Int)) 0 * 2 ^ min (Int.toNat (1 : Int)) (IntKind.bits IntKind.i64))) ||| BitVec.ofInt (IntKind.bits IntKind.i64) (1 : Int)))))) (0 : Int), List.take (List.length v.2.2 - Int.toNat (1 : Int)) (List.drop (Int.toNat (1 : Int)) v.2.2) ++ [Int.fdiv (List.getD v.2.2 (Int.toNat (0 : Int)) 0) (2 ^ min (Int.toNat (1 : Int)) (IntKind.bits IntKind.i64))]))
    (g1 (v.1, List.set (List.set (List.set v.2.1 (Int.toNat (List.getD v.2.2 (Int.toNat (0 : Int)) 0)) (w64 (List.getD v.2.1 (Int.toNat (List.getD v.2.2 (Int.toNat (0 : Int)) 0)) 0 + w64 (List.getD v.2.1 (Int.toNat (w64 (List.getD v.2.2 (Int.toNat (0 : Int)) 0 * 2 ^ min (Int.toNat (1 : Int)) (IntKind.bits IntKind.i64)))) 0 + List.getD v.2.1 (Int.toNat (w64 (zz (BitVec.toNat (BitVec.ofInt (IntKind.bits IntKind.i64) (w64 (List.getD v.2.2 (Int.toNat (0 : Int)) 0 * 2 ^ min (Int.toNat (1 : Int)) (IntKind.bits IntKind.i64))) ||| BitVec.ofInt (IntKind.bits IntKind.i64) (1 : Int)))))) 0)))) (Int.toNat (w64 (List.getD v.2.2 (Int.toNat (0 : Int)) 0 * 2 ^ min (Int.toNat (1 : Int)) (IntKind.bits IntKind.i64)))) (0 : Int)) (Int.toNat (w64 (zz (BitVec.toNat (BitVec.ofInt (IntKind.bits IntKind.i64) (w64 (List.getD v.2.2 (Int.toNat (0 : Int)) 0 * 2 ^ min (Int.toNat (1 : Int)) (IntKind.bits IntKind.i64))) ||| BitVec.ofInt (IntKind.bits IntKind.i64) (1 : Int)))))) (0 : Int), List.take (List.length v.2.2 - Int.toNat (1 : Int)) (List.drop (Int.toNat (1 : Int)) v.2.2))))
   (cond (w64 (zz (BitVec.toNat (BitVec.ofInt (IntKind.bits IntKind.i64) (List.getD v.2.2 (Int.toNat (0 : Int)) 0) &&& BitVec.ofInt (IntKind.bits IntKind.i64) (1 : Int)))) == (0 : Int))
    (tst (decide (List.length (List.take (List.length v.2.2 - Int.toNat (1 : Int)) (List.drop (Int.toNat (1 : Int)) v.2.2)) + 1 < LIM)) <|
     g1 (v.1, v.2.1, List.take (List.length v.2.2 - Int.toNat (1 : Int)) (List.drop (Int.toNat (1 : Int)) v.2.2) ++ [Int.fdiv (List.getD v.2.2 (Int.toNat (0 : Int)) 0) (2 ^ min (Int.toNat (1 : Int)) (IntKind.bits IntKind.i64))]))
    (g1 (v.1, v.2.1, List.take (List.length v.2.2 - Int.toNat (1 : Int)) (List.drop (Int.toNat (1 : Int)) v.2.2)))))
  (cond (w64 (zz (BitVec.toNat (BitVec.ofInt (IntKind.bits IntKind.i64) (List.getD v.2.2 (Int.toNat (0 : Int)) 0) &&& BitVec.ofInt (IntKind.bits IntKind.i64) (1 : Int)))) == (0 : Int))
   (tst (decide (List.length (List.take (List.length v.2.2 - Int.toNat (1 : Int)) (List.drop (Int.toNat (1 : Int)) v.2.2)) + 1 < LIM)) <|
    g1 (v.1, v.2.1, List.take (List.length v.2.2 - Int.toNat (1 : Int)) (List.drop (Int.toNat (1 : Int)) v.2.2) ++ [Int.fdiv (List.getD v.2.2 (Int.toNat (0 : Int)) 0) (2 ^ min (Int.toNat (1 : Int)) (IntKind.bits IntKind.i64))]))
   (g1 (v.1, v.2.1, List.take (List.length v.2.2 - Int.toNat (1 : Int)) (List.drop (Int.toNat (1 : Int)) v.2.2)))))
 (some ((v.2.1, ())))
def impl_knotNums_squeeze_st1 (fuel : Nat) (g1 : impl_knotNums_squeeze_V1 → Option ((List Int) × Unit)) : impl_knotNums_squeeze_V1 → Option ((List Int) × Unit) := impl_knotNums_squeeze_step1 fuel g1
theorem impl_knotNums_squeeze_lp1 (fuel : Nat) (G) : impl_knotNums_squeeze_c.lp (impl_knotNums_squeeze_T fuel) 1 fuel G (endU impl_knotNums_squeeze_rv impl_knotNums_squeeze_rf impl_knotNums_squeeze_rs) 1 impl_knotNums_squeeze_enc1 = iter (impl_knotNums_squeeze_st1 fuel) fuel := C.lp_iter fun g v => by kernel_rfl
def impl_knotNums_squeeze_step0 (fuel : Nat) (X1 : impl_knotNums_squeeze_V1 → Option ((List Int) × Unit)) (g0 : impl_knotNums_squeeze_V0 → Option ((List Int) × Unit)) (v : impl_knotNums_squeeze_V0) : Option ((List Int) × Unit) :=
 cond (decide (v.1 ≥ (32 : Int)))
 (tst (decide (List.length v.2.2.2 + 1 < LIM)) <|
  g0 (w64 (v.1 - (1 : Int)), v.2.1, v.2.2.1, v.2.2.2 ++ [v.1]))
 (X1 (v.2.1, v.2.2.1, v.2.2.2))
def impl_knotNums_squeeze_st0 (fuel : Nat) (g0 : impl_knotNums_squeeze_V0 → Option ((List Int) × Unit)) : impl_knotNums_squeeze_V0 → Option ((List Int) × Unit) := impl_knotNums_squeeze_step0 fuel (iter (impl_knotNums_squeeze_st1 fuel) fuel) g0
theorem impl_knotNums_squeeze_lp0 (fuel : Nat) (G) : impl_knotNums_squeeze_c.lp (impl_knotNums_squeeze_T fuel) 1 fuel G (endU impl_knotNums_squeeze_rv impl_knotNums_squeeze_rf impl_knotNums_squeeze_rs) 0 impl_knotNums_squeeze_enc0 = iter (impl_knotNums_squeeze_st0 fuel) fuel := C.lp_iter fun g v =>
  (show run (impl_knotNums_squeeze_T fuel) 1 fuel (impl_knotNums_squeeze_c.bdAt 0) (impl_knotNums_squeeze_enc0 v).1 (impl_knotNums_squeeze_enc0 v).2 (loopK 1 (impl_knotNums_squeeze_c.nmAt 0) g (impl_knotNums_squeeze_c.contAt (impl_knotNums_squeeze_T fuel) 1 fuel G 0 0 (endU impl_knotNums_squeeze_rv impl_knotNums_squeeze_rf impl_knotNums_squeeze_rs))) = impl_knotNums_squeeze_step0 fuel (impl_knotNums_squeeze_c.lp (impl_knotNums_squeeze_T fuel) 1 fuel (fun m => bif Nat.beq m 0 then g else G m) (endU impl_knotNums_squeeze_rv impl_knotNums_squeeze_rf impl_knotNums_squeeze_rs) 1 impl_knotNums_squeeze_enc1) (fun v => g (impl_knotNums_squeeze_enc0 v).1 (impl_knotNums_squeeze_enc0 v).2) v by kernel_rfl).trans (by rw [impl_knotNums_squeeze_lp1]; rfl)
def impl_knotNums_squeeze_pre (fuel : Nat) (X0 : impl_knotNums_squeeze_V0 → Option ((List Int) × Unit)) (d0 : List Int) (x0 : Int) : Option ((List Int) × Unit) :=
 X0 ((63 : Int), x0, d0, List.replicate (Int.toNat (0 : Int)) 0)
def impl_knotNums_squeeze_fn (fuel : Nat) (z : (List Int) × ((Int × Unit) × Unit)) : Option ((List Int) × Unit) := impl_knotNums_squeeze_pre fuel (iter (impl_knotNums_squeeze_st0 fuel) fuel) z.1 z.2.1.1
theorem impl_knotNums_squeeze_run (fuel : Nat) (c : Rf.T impl_knotNums_squeeze_rf) (x : PsT impl_knotNums_squeeze_ps) : run (impl_knotNums_squeeze_T fuel) 1 fuel impl_knotNums_squeeze_c ((0, .ptr 0 0) :: env0 (svPs impl_knotNums_squeeze_ps x) 1) [impl_knotNums_squeeze_rf.blk c] (endU impl_knotNums_squeeze_rv impl_knotNums_squeeze_rf impl_knotNums_squeeze_rs) = impl_knotNums_squeeze_fn fuel (c, x) :=
  (show run (impl_knotNums_squeeze_T fuel) 1 fuel impl_knotNums_squeeze_c ((0, .ptr 0 0) :: env0 (svPs impl_knotNums_squeeze_ps x) 1) [impl_knotNums_squeeze_rf.blk c] (endU impl_knotNums_squeeze_rv impl_knotNums_squeeze_rf impl_knotNums_squeeze_rs) = impl_knotNums_squeeze_pre fuel (impl_knotNums_squeeze_c.lp (impl_knotNums_squeeze_T fuel) 1 fuel (fun _ _ _ => none) (endU impl_knotNums_squeeze_rv impl_knotNums_squeeze_rf impl_knotNums_squeeze_rs) 0 impl_knotNums_squeeze_enc0) c x.1.1 by kernel_rfl).trans (by rw [impl_knotNums_squeeze_lp0]; rfl)
def impl_knotNums_squeeze_tf (fuel : Nat) : TFU := ⟨impl_knotNums_squeeze_rf, impl_knotNums_squeeze_ps, impl_knotNums_squeeze_rs, impl_knotNums_squeeze_fn fuel⟩
theorem impl_knotNums_squeeze_spec (fuel : Nat) : FnSpecU Tryz.prog 156 (impl_knotNums_squeeze_tf fuel) :=
  fn_specU (T := impl_knotNums_squeeze_T fuel) (c := bodyOf Tryz.f156) (fn := Tryz.f156) (TabOK.of (entNil) (methNil)) mixed (by kernel_rfl) (by kernel_rfl) impl_knotNums_squeeze_l (by kernel_rfl) (Nat.le_of_ble_eq_true (by kernel_rfl)) (rv := impl_knotNums_squeeze_rv) (by kernel_rfl) (impl_knotNums_squeeze_run fuel)
theorem impl_knotNums_squeeze_ok (fuel : Nat) : EntryOK Tryz.prog 156 (impl_knotNums_squeeze_tf fuel).te := EntryOK.tfu (impl_knotNums_squeeze_spec fuel) (isFn (fn := Tryz.f156) (by kernel_rfl) (by kernel_rfl) (by kernel_rfl))
abbrev impl_rankSum_R := Option ((LP × (Int × Unit)) × Unit)
def impl_rankSum_T (fuel : Nat) : Tab := Tab.of [(155, (impl_knotNums_addKnots_tf fuel).te), (156, (impl_knotNums_squeeze_tf fuel).te)] []
abbrev impl_rankSum_ps : List Pm := [{ cs := [(Kd.list KP, false), (I6, false)], ag := true }, { cs := [(Kd.list KP, false), (I6, false)], ag := true }]
abbrev impl_rankSum_rs : List Pm := [{ cs := [(Kd.list KP, true), (I6, false)], ag := true }]
def impl_rankSum_ann : List Norm := [{ live := [24, 23, 7, 6, 4], fix := [(7, none, KP, true)] }]
noncomputable def impl_rankSum_c : C := irOf Tryz.prog Tryz.f105 [] impl_rankSum_ann []
theorem impl_rankSum_l : lightC Tryz.prog [] Tryz.f105.ntmps impl_rankSum_ann [] 0 (bodyOf Tryz.f105) = some (impl_rankSum_c, 1) := by kernel_rfl
def impl_rankSum_rv : List (Nat × Option (Nat × Bool)) := [(4, some (2, true))]
abbrev impl_rankSum_V0 := (Int) × (List Int) × (Int) × LP × (Int)
def impl_rankSum_enc0 (v : impl_rankSum_V0) : Env × Heap := ([(24, SV.int .i64 v.1), (23, SV.arrv I6 v.2.1), (7, SV.own 0), (6, SV.int .i64 v.2.2.1), (4, SV.ptr 1 0)], [Blk.arr KP v.2.2.2.1 0, Blk.cells [SV.nils, SV.int .i64 v.2.2.2.2] 0 2])
def impl_rankSum_step0 (fuel : Nat) (g0 : impl_rankSum_V0 → impl_rankSum_R) (v : impl_rankSum_V0) : impl_rankSum_R :=
 cond (decide (v.1 < (128 : Int)))
 (tst (decide (0 ≤ v.1)) <|
  tst (decide (v.1 < (zz 128))) <|
  tst (decide (v.1 < (zz (List.length v.2.1)))) <|
  cond (decide (List.getD v.2.1 (Int.toNat v.1) 0 > (0 : Int)))
  (tst (decide (List.length v.2.2.2.1 + 1 < LIM)) <|
   g0 (w64 (v.1 + (1 : Int)), v.2.1, v.2.2.1, v.2.2.2.1 ++ [(v.1, List.getD v.2.1 (Int.toNat v.1) 0, ())], v.2.2.2.2))
  (g0 (w64 (v.1 + (1 : Int)), v.2.1, v.2.2.1, v.2.2.2.1, v.2.2.2.2)))
 (some (((v.2.2.2.1, v.2.2.1, ()), ())))
def impl_rankSum_st0 (fuel : Nat) (g0 : impl_rankSum_V0 → impl_rankSum_R) : impl_rankSum_V0 → impl_rankSum_R := impl_rankSum_step0 fuel g0
theorem impl_rankSum_lp0 (fuel : Nat) (G) : impl_rankSum_c.lp (impl_rankSum_T fuel) 0 fuel G (endF impl_rankSum_rv impl_rankSum_rs) 0 impl_rankSum_enc0 = iter (impl_rankSum_st0 fuel) fuel := C.lp_iter fun g v => by kernel_rfl
def impl_rankSum_pre (fuel : Nat) (X0 : impl_rankSum_V0 → impl_rankSum_R) (x0 : LP) (x1 : Int) (x2 : LP) (x3 : Int) : impl_rankSum_R :=
 Option.bind (impl_knotNums_addKnots_fn fuel (List.replicate 128 0, (x0, ()), ())) fun y_1 =>
 Option.bind (impl_knotNums_addKnots_fn fuel (y_1.1, (x2, ()), ())) fun y_2 =>
  Option.bind (impl_knotNums_squeeze_fn fuel (y_2.1, (w64 (x1 + x3), ()), ())) fun y_3 =>
   tst (Nat.beq (List.length y_3.1 * Kd.sz I6) 128) <|
    X0 ((0 : Int), y_3.1, w64 (x1 + x3), [], (0 : Int))
def impl_rankSum_fn (fuel : Nat) (x : ((LP × (Int × Unit)) × ((LP × (Int × Unit)) × Unit))) : impl_rankSum_R := impl_rankSum_pre fuel (iter (impl_rankSum_st0 fuel) fuel) x.1.1 x.1.2.1 x.2.1.1 x.2.1.2.1
theorem impl_rankSum_run (fuel : Nat) (x : PsT impl_rankSum_ps) : run (impl_rankSum_T fuel) 0 fuel impl_rankSum_c (env0 (svPs impl_rankSum_ps x) 0) [] (endF impl_rankSum_rv impl_rankSum_rs) = impl_rankSum_fn fuel x :=
  (show run (impl_rankSum_T fuel) 0 fuel impl_rankSum_c (env0 (svPs impl_rankSum_ps x) 0) [] (endF impl_rankSum_rv impl_rankSum_rs) = impl_rankSum_pre fuel (impl_rankSum_c.lp (impl_rankSum_T fuel) 0 fuel (fun _ _ _ => none) (endF impl_rankSum_rv impl_rankSum_rs) 0 impl_rankSum_enc0) x.1.1 x.1.2.1 x.2.1.1 x.2.1.2.1 by kernel_rfl).trans (by rw [impl_rankSum_lp0]; rfl)
def impl_rankSum_tf (fuel : Nat) : TF := ⟨impl_rankSum_ps, impl_rankSum_rs, true, impl_rankSum_fn fuel⟩
theorem impl_rankSum_spec (fuel : Nat) : FnSpec Tryz.prog 105 (impl_rankSum_tf fuel) :=
  fn_spec (T := impl_rankSum_T fuel) (c := bodyOf Tryz.f105) (fn := Tryz.f105) (TabOK.of (entCons (impl_knotNums_addKnots_ok fuel) (entCons (impl_knotNums_squeeze_ok fuel) entNil)) (methNil)) mixed (by kernel_rfl) (by kernel_rfl) impl_rankSum_l (by kernel_rfl) (Nat.le_of_ble_eq_true (by kernel_rfl)) (rv := impl_rankSum_rv) (by kernel_rfl) (impl_rankSum_run fuel)
theorem impl_rankSum_ok (fuel : Nat) : EntryOK Tryz.prog 105 (impl_rankSum_tf fuel).te := EntryOK.tf rfl (impl_rankSum_spec fuel) (isFn (fn := Tryz.f105) (by kernel_rfl) (by kernel_rfl) (by kernel_rfl))
def impl_RankAdd_T (fuel : Nat) : Tab := Tab.of [(86, (impl_isThing_tf fuel).te), (94, (impl_RankOk_tf fuel).te), (105, (impl_rankSum_tf fuel).te)] []
abbrev impl_RankAdd_ps : List Pm := [{ cs := [(Kd.list KP, false), (I6, false)], ag := true }, { cs := [(I6, false)], ag := false }]
abbrev impl_RankAdd_rs : List Pm := [{ cs := [(Kd.list KP, true), (I6, false)], ag := true }, { cs := [(Kd.bool, false)], ag := false }]
def impl_RankAdd_ann : List Norm := []
noncomputable def impl_RankAdd_c : C := irOf Tryz.prog Tryz.f65 [] impl_RankAdd_ann []
theorem impl_RankAdd_l : lightC Tryz.prog [] Tryz.f65.ntmps impl_RankAdd_ann [] 0 (bodyOf Tryz.f65) = some (impl_RankAdd_c, 0) := by kernel_rfl
def impl_RankAdd_rv : List (Nat × Option (Nat × Bool)) := [(4, some (2, true)), (5, none)]
def impl_RankAdd_pre (fuel : Nat) (x0 : LP) (x1 : Int) (x2 : Int) : Option ((LP × (Int × Unit)) × ((Bool × Unit) × Unit)) :=
 Option.bind (impl_RankOk_fn fuel ((x0, x1, ()), ())) fun y_1 =>
 cond (!y_1.1.1)
  (some ((([], (0 : Int), ()), (false, ()), ())))
  (Option.bind (impl_isThing_fn fuel ((x2, ()), ())) fun y_3 =>
   cond (!y_3.1.1)
    (some ((([], (0 : Int), ()), (false, ()), ())))
    (cond (x1 == (2000 : Int))
     (some ((([], (0 : Int), ()), (false, ()), ())))
     (Option.bind (impl_rankSum_fn fuel ((x0, x1, ()), ([(w64 ((64 : Int) + x2), (1 : Int), ())], (1 : Int), ()), ())) fun y_6 =>
      some (((y_6.1.1, y_6.1.2.1, ()), (true, ()), ())))))
def impl_RankAdd_fn (fuel : Nat) (x : ((LP × (Int × Unit)) × ((Int × Unit) × Unit))) : Option ((LP × (Int × Unit)) × ((Bool × Unit) × Unit)) := impl_RankAdd_pre fuel x.1.1 x.1.2.1 x.2.1.1
theorem impl_RankAdd_run (fuel : Nat) (x : PsT impl_RankAdd_ps) : run (impl_RankAdd_T fuel) 0 fuel impl_RankAdd_c (env0 (svPs impl_RankAdd_ps x) 0) [] (endF impl_RankAdd_rv impl_RankAdd_rs) = impl_RankAdd_fn fuel x := by kernel_rfl
def impl_RankAdd_tf (fuel : Nat) : TF := ⟨impl_RankAdd_ps, impl_RankAdd_rs, true, impl_RankAdd_fn fuel⟩
theorem impl_RankAdd_spec (fuel : Nat) : FnSpec Tryz.prog 65 (impl_RankAdd_tf fuel) :=
  fn_spec (T := impl_RankAdd_T fuel) (c := bodyOf Tryz.f65) (fn := Tryz.f65) (TabOK.of (entCons (impl_isThing_ok fuel) (entCons (impl_RankOk_ok fuel) (entCons (impl_rankSum_ok fuel) entNil))) (methNil)) mixed (by kernel_rfl) (by kernel_rfl) impl_RankAdd_l (by kernel_rfl) (Nat.le_of_ble_eq_true (by kernel_rfl)) (rv := impl_RankAdd_rv) (by kernel_rfl) (impl_RankAdd_run fuel)
theorem impl_RankAdd_ok (fuel : Nat) : EntryOK Tryz.prog 65 (impl_RankAdd_tf fuel).te := EntryOK.tf rfl (impl_RankAdd_spec fuel) (isFn (fn := Tryz.f65) (by kernel_rfl) (by kernel_rfl) (by kernel_rfl))
def impl_Rank_with_T (fuel : Nat) : Tab := Tab.of [(65, (impl_RankAdd_tf fuel).te)] []
abbrev impl_Rank_with_ps : Sh := (.agg (.cell (Kd.list KP) 0 (.cell I6 0 .nil)) (.cell I6 0 .nil))
abbrev impl_Rank_with_rs : Sh := (.ifc 35 (.agg (.cell (Kd.list KP) 0 (.cell I6 0 .nil)) .nil) (.cell Kd.bool 0 .nil))
def impl_Rank_with_ann : List Norm := []
noncomputable def impl_Rank_with_c : C := irOf Tryz.prog Tryz.f239 [] impl_Rank_with_ann []
theorem impl_Rank_with_l : lightC Tryz.prog [] Tryz.f239.ntmps impl_Rank_with_ann [] 0 (bodyOf Tryz.f239) = some (impl_Rank_with_c, 0) := by kernel_rfl
def impl_Rank_with_rv : List (Nat × Option (Nat × Bool)) := [(4, none), (5, none)]
def impl_Rank_with_pre (fuel : Nat) (x0 : LP) (x1 : Int) (x2 : Int) : Option (((LP × (Int × Unit)) × Unit) × (Bool × Unit)) :=
 Option.bind (impl_RankAdd_fn fuel ((x0, x1, ()), (x2, ()), ())) fun y_1 =>
 some ((((y_1.1.1, y_1.1.2.1, ()), ()), y_1.2.1.1, ()))
def impl_Rank_with_fn (fuel : Nat) (x : ((LP × (Int × Unit)) × (Int × Unit))) : Option (((LP × (Int × Unit)) × Unit) × (Bool × Unit)) := impl_Rank_with_pre fuel x.1.1 x.1.2.1 x.2.1
theorem impl_Rank_with_run (fuel : Nat) (x : Sh.T impl_Rank_with_ps) : run (impl_Rank_with_T fuel) 0 fuel impl_Rank_with_c (env0 (svS impl_Rank_with_ps x) 0) [] (endG impl_Rank_with_rv impl_Rank_with_rs) = impl_Rank_with_fn fuel x := by kernel_rfl
def impl_Rank_with_tf (fuel : Nat) : TG := ⟨impl_Rank_with_ps, impl_Rank_with_rs, false, impl_Rank_with_fn fuel⟩
theorem impl_Rank_with_spec (fuel : Nat) : FnSpecG Tryz.prog 239 (impl_Rank_with_tf fuel) :=
  fn_specG (T := impl_Rank_with_T fuel) (c := bodyOf Tryz.f239) (fn := Tryz.f239) (TabOK.of (entCons (impl_RankAdd_ok fuel) entNil) (methNil)) mixed (by kernel_rfl) (by kernel_rfl) impl_Rank_with_l (by kernel_rfl) (Nat.le_of_ble_eq_true (by kernel_rfl)) (rv := impl_Rank_with_rv) (by kernel_rfl) (fun x y h => (impl_Rank_with_run fuel x).trans h)
theorem impl_Rank_with_ok (fuel : Nat) : EntryOK Tryz.prog 239 (impl_Rank_with_tf fuel).te := EntryOK.tg rfl (impl_Rank_with_spec fuel) (isFn (fn := Tryz.f239) (by kernel_rfl) (by kernel_rfl) (by kernel_rfl))
def impl_Sum_counted_T (fuel : Nat) : Tab := Tab.of [(82, (impl_Sum_ways_tf fuel).te), (104, (impl_sumFrom_tf fuel).te), (233, (impl_Rough_with_tf fuel).te), (235, (impl_Few_with_tf fuel).te), (237, (impl_Top_with_tf fuel).te), (239, (impl_Rank_with_tf fuel).te)] [(27, "loop.example/inkling/impl.with", 233), (29, "loop.example/inkling/impl.with", 235), (32, "loop.example/inkling/impl.with", 237), (35, "loop.example/inkling/impl.with", 239)]
abbrev impl_Sum_counted_ps : List Pm := [{ cs := [(Kd.list (Kd.list I6), false), (Kd.list I6, false), (Kd.list KP, false), (I6, false), (I6, false), (Kd.list KP, false), (I6, false)], ag := true }, { cs := [(I6, false)], ag := false }]
abbrev impl_Sum_counted_rs : List Pm := [{ cs := [(Kd.list (Kd.list I6), false), (Kd.list I6, false), (Kd.list KP, false), (I6, false), (I6, false), (Kd.list KP, false), (I6, false)], ag := true }, { cs := [(Kd.bool, false)], ag := false }]
def impl_Sum_counted_ann : List Norm := [{ live := [14, 13, 1, 4, 6], fix := [] }]
noncomputable def impl_Sum_counted_c : C := irOf Tryz.prog Tryz.f80 [] impl_Sum_counted_ann []
theorem impl_Sum_counted_l : lightC Tryz.prog [] Tryz.f80.ntmps impl_Sum_counted_ann [] 0 (bodyOf Tryz.f80) = some (impl_Sum_counted_c, 1) := by kernel_rfl
def impl_Sum_counted_rv : List (Nat × Option (Nat × Bool)) := [(4, some (7, true)), (5, none)]
def impl_Sum_counted_pre (fuel : Nat) (x0 : List (List Int)) (x1 : List Int) (x2 : LP) (x3 : Int) (x4 : Int) (x5 : LP) (x6 : Int) (x7 : Int) : Option (SumY × ((Bool × Unit) × Unit)) :=
 Option.bind (impl_Sum_ways_fn fuel ((x0, x1, x2, x3, x4, x5, x6, ()), ())) fun y_1 =>
 Option.bind (impl_Rough_with_fn fuel ((y_1.1.1.1.1, ()), x7, ())) fun y_2 =>
  cond (!y_2.2.1)
   (some ((([], [], [], (0 : Int), (0 : Int), [], (0 : Int), ()), (false, ()), ())))
   (Option.bind (impl_Few_with_fn fuel ((y_1.1.2.1.1.1, ()), x7, ())) fun y_4 =>
    cond (!y_4.2.1)
     (some ((([], [], [], (0 : Int), (0 : Int), [], (0 : Int), ()), (false, ()), ())))
     (Option.bind (impl_Top_with_fn fuel ((y_1.1.2.2.1.1.1, y_1.1.2.2.1.1.2.1, y_1.1.2.2.1.1.2.2.1, ()), x7, ())) fun y_6 =>
      cond (!y_6.2.1)
       (some ((([], [], [], (0 : Int), (0 : Int), [], (0 : Int), ()), (false, ()), ())))
       (Option.bind (impl_Rank_with_fn fuel ((y_1.1.2.2.2.1.1.1, y_1.1.2.2.2.1.1.2.1, ()), x7, ())) fun y_8 =>
        cond (!y_8.2.1)
         (some ((([], [], [], (0 : Int), (0 : Int), [], (0 : Int), ()), (false, ()), ())))
         (Option.bind (impl_sumFrom_fn fuel ((((y_2.1.1.1, ()), ()), ((y_4.1.1.1, ()), ()), ((y_6.1.1.1, y_6.1.1.2.1, y_6.1.1.2.2.1, ()), ()), ((y_8.1.1.1, y_8.1.1.2.1, ()), ()), ()), ())) fun y_10 =>
          some (((y_10.1.1, y_10.1.2.1, y_10.1.2.2.1, y_10.1.2.2.2.1, y_10.1.2.2.2.2.1, y_10.1.2.2.2.2.2.1, y_10.1.2.2.2.2.2.2.1, ()), (true, ()), ()))))))
def impl_Sum_counted_fn (fuel : Nat) (x : (SumY × ((Int × Unit) × Unit))) : Option (SumY × ((Bool × Unit) × Unit)) := impl_Sum_counted_pre fuel x.1.1 x.1.2.1 x.1.2.2.1 x.1.2.2.2.1 x.1.2.2.2.2.1 x.1.2.2.2.2.2.1 x.1.2.2.2.2.2.2.1 x.2.1.1
theorem impl_Sum_counted_run (fuel : Nat) (x : PsT impl_Sum_counted_ps) : run (impl_Sum_counted_T fuel) 0 (fuel + 6) impl_Sum_counted_c (env0 (svPs impl_Sum_counted_ps x) 0) [] (endF impl_Sum_counted_rv impl_Sum_counted_rs) = impl_Sum_counted_fn fuel x := by kernel_rfl
def impl_Sum_counted_tf (fuel : Nat) : TF := ⟨impl_Sum_counted_ps, impl_Sum_counted_rs, false, impl_Sum_counted_fn fuel⟩
theorem impl_Sum_counted_spec (fuel : Nat) : FnSpec Tryz.prog 80 (impl_Sum_counted_tf fuel) :=
  fn_spec (T := impl_Sum_counted_T fuel) (c := bodyOf Tryz.f80) (fn := Tryz.f80) (TabOK.of (entCons (impl_Sum_ways_ok fuel) (entCons (impl_sumFrom_ok fuel) (entCons (impl_Rough_with_ok fuel) (entCons (impl_Few_with_ok fuel) (entCons (impl_Top_with_ok fuel) (entCons (impl_Rank_with_ok fuel) entNil)))))) (methCons (fun v args w => by kernel_rfl) (methCons (fun v args w => by kernel_rfl) (methCons (fun v args w => by kernel_rfl) (methCons (fun v args w => by kernel_rfl) (methNil)))))) mixed (by kernel_rfl) (by kernel_rfl) impl_Sum_counted_l (by kernel_rfl) (Nat.le_of_ble_eq_true (by kernel_rfl)) (rv := impl_Sum_counted_rv) (by kernel_rfl) (impl_Sum_counted_run fuel)
theorem impl_Sum_counted_ok (fuel : Nat) : EntryOK Tryz.prog 80 (impl_Sum_counted_tf fuel).te := EntryOK.tf rfl (impl_Sum_counted_spec fuel) (isFn (fn := Tryz.f80) (by kernel_rfl) (by kernel_rfl) (by kernel_rfl))
abbrev impl_SumOf_R := Option (SumY × ((Bool × Unit) × Unit))
def impl_SumOf_T (fuel : Nat) : Tab := Tab.of [(36, (impl_SumNew_tf fuel).te), (80, (impl_Sum_counted_tf fuel).te)] []
abbrev impl_SumOf_ps : List Pm := [{ cs := [(Kd.list I6, false)], ag := false }]
abbrev impl_SumOf_rs : List Pm := [{ cs := [(Kd.list (Kd.list I6), false), (Kd.list I6, false), (Kd.list KP, false), (I6, false), (I6, false), (Kd.list KP, false), (I6, false)], ag := true }, { cs := [(Kd.bool, false)], ag := false }]
def impl_SumOf_ann : List Norm := [{ live := [12, 11, 10, 4, 2], fix := [] }]
noncomputable def impl_SumOf_c : C := irOf Tryz.prog Tryz.f30 [9, 19] impl_SumOf_ann []
theorem impl_SumOf_l : lightC Tryz.prog [9, 19] Tryz.f30.ntmps impl_SumOf_ann [] 0 (bodyOf Tryz.f30) = some (impl_SumOf_c, 1) := by kernel_rfl
def impl_SumOf_rv : List (Nat × Option (Nat × Bool)) := [(2, some (7, true)), (3, none)]
abbrev impl_SumOf_V0 := (Int) × (Int) × (List Int) × (List (List Int)) × (List Int) × LP × (Int) × (Int) × LP × (Int) × (Int) × (Int) × (Int)
def impl_SumOf_enc0 (v : impl_SumOf_V0) : Env × Heap := ([(12, SV.int .i64 v.1), (11, SV.int .i64 v.2.1), (10, SV.es I6 v.2.2.1), (4, SV.ptr 0 0), (2, SV.ptr 1 0)], [Blk.cells [SV.es (Kd.list I6) v.2.2.2.1, SV.es I6 v.2.2.2.2.1, SV.es KP v.2.2.2.2.2.1, SV.int .i64 v.2.2.2.2.2.2.1, SV.int .i64 v.2.2.2.2.2.2.2.1, SV.es KP v.2.2.2.2.2.2.2.2.1, SV.int .i64 v.2.2.2.2.2.2.2.2.2.1] 0 7, Blk.cells [SV.nils, SV.nils, SV.nils, SV.int .i64 v.2.2.2.2.2.2.2.2.2.2.1, SV.int .i64 v.2.2.2.2.2.2.2.2.2.2.2.1, SV.nils, SV.int .i64 v.2.2.2.2.2.2.2.2.2.2.2.2] 0 7])
def impl_SumOf_step0 (fuel : Nat) (g0 : impl_SumOf_V0 → impl_SumOf_R) (v : impl_SumOf_V0) : impl_SumOf_R :=
 cond (decide (v.1 < v.2.1))
 (tst (decide (0 ≤ v.1)) <|
  tst (decide (v.1 < (zz (List.length v.2.2.1)))) <|
  Option.bind (impl_Sum_counted_fn fuel ((v.2.2.2.1, v.2.2.2.2.1, v.2.2.2.2.2.1, v.2.2.2.2.2.2.1, v.2.2.2.2.2.2.2.1, v.2.2.2.2.2.2.2.2.1, v.2.2.2.2.2.2.2.2.2.1, ()), (List.getD v.2.2.1 (Int.toNat v.1) 0, ()), ())) fun y_2 =>
  cond (!y_2.2.1.1)
   (some ((([], [], [], (0 : Int), (0 : Int), [], (0 : Int), ()), (false, ()), ())))
   (g0 (w64 (v.1 + (1 : Int)), v.2.1, v.2.2.1, y_2.1.1, y_2.1.2.1, y_2.1.2.2.1, y_2.1.2.2.2.1, y_2.1.2.2.2.2.1, y_2.1.2.2.2.2.2.1, y_2.1.2.2.2.2.2.2.1, v.2.2.2.2.2.2.2.2.2.2.1, v.2.2.2.2.2.2.2.2.2.2.2.1, v.2.2.2.2.2.2.2.2.2.2.2.2)))
 (some (((v.2.2.2.1, v.2.2.2.2.1, v.2.2.2.2.2.1, v.2.2.2.2.2.2.1, v.2.2.2.2.2.2.2.1, v.2.2.2.2.2.2.2.2.1, v.2.2.2.2.2.2.2.2.2.1, ()), (true, ()), ())))
def impl_SumOf_st0 (fuel : Nat) (g0 : impl_SumOf_V0 → impl_SumOf_R) : impl_SumOf_V0 → impl_SumOf_R := impl_SumOf_step0 fuel g0
theorem impl_SumOf_lp0 (fuel : Nat) (G) : impl_SumOf_c.lp (impl_SumOf_T fuel) 0 fuel G (endF impl_SumOf_rv impl_SumOf_rs) 0 impl_SumOf_enc0 = iter (impl_SumOf_st0 fuel) fuel := C.lp_iter fun g v => by kernel_rfl
def impl_SumOf_pre (fuel : Nat) (X0 : impl_SumOf_V0 → impl_SumOf_R) (x0 : List Int) : impl_SumOf_R :=
 Option.bind (impl_SumNew_fn fuel ()) fun y_1 =>
 X0 ((0 : Int), (zz (List.length x0)), x0, y_1.1.1, y_1.1.2.1, y_1.1.2.2.1, y_1.1.2.2.2.1, y_1.1.2.2.2.2.1, y_1.1.2.2.2.2.2.1, y_1.1.2.2.2.2.2.2.1, (0 : Int), (0 : Int), (0 : Int))
def impl_SumOf_fn (fuel : Nat) (x : (((List Int) × Unit) × Unit)) : impl_SumOf_R := impl_SumOf_pre fuel (iter (impl_SumOf_st0 fuel) fuel) x.1.1
theorem impl_SumOf_run (fuel : Nat) (x : PsT impl_SumOf_ps) : run (impl_SumOf_T fuel) 0 fuel impl_SumOf_c (env0 (svPs impl_SumOf_ps x) 0) [] (endF impl_SumOf_rv impl_SumOf_rs) = impl_SumOf_fn fuel x :=
  (show run (impl_SumOf_T fuel) 0 fuel impl_SumOf_c (env0 (svPs impl_SumOf_ps x) 0) [] (endF impl_SumOf_rv impl_SumOf_rs) = impl_SumOf_pre fuel (impl_SumOf_c.lp (impl_SumOf_T fuel) 0 fuel (fun _ _ _ => none) (endF impl_SumOf_rv impl_SumOf_rs) 0 impl_SumOf_enc0) x.1.1 by kernel_rfl).trans (by rw [impl_SumOf_lp0]; rfl)
def impl_SumOf_tf (fuel : Nat) : TF := ⟨impl_SumOf_ps, impl_SumOf_rs, false, impl_SumOf_fn fuel⟩
theorem impl_SumOf_spec (fuel : Nat) : FnSpec Tryz.prog 30 (impl_SumOf_tf fuel) :=
  fn_spec (T := impl_SumOf_T fuel) (c := bodyOf Tryz.f30) (fn := Tryz.f30) (TabOK.of (entCons (impl_SumNew_ok fuel) (entCons (impl_Sum_counted_ok fuel) entNil)) (methNil)) mixed (by kernel_rfl) (by kernel_rfl) impl_SumOf_l (by kernel_rfl) (Nat.le_of_ble_eq_true (by kernel_rfl)) (rv := impl_SumOf_rv) (by kernel_rfl) (impl_SumOf_run fuel)
theorem impl_SumOf_ok (fuel : Nat) : EntryOK Tryz.prog 30 (impl_SumOf_tf fuel).te := EntryOK.tf rfl (impl_SumOf_spec fuel) (isFn (fn := Tryz.f30) (by kernel_rfl) (by kernel_rfl) (by kernel_rfl))
end Go.Proofs.YtdgdoeknpakmlaaGreat.Den
namespace Go.Proofs.YtdgdoeknpakmlaaGreat.Den
open Go Go.RowKit
set_option linter.unusedVariables false
set_option linter.unusedSimpArgs false
def laws_lkInts_T (fuel : Nat) : Tab := Tab.of [] []
abbrev laws_lkInts_ps : List Pm := [{ cs := [(Kd.list I6, false)], ag := false }, { cs := [(Kd.list I6, false)], ag := false }]
abbrev laws_lkInts_rs : List Pm := [{ cs := [(Kd.bool, false)], ag := false }]
def laws_lkInts_ann : List Norm := [{ live := [5, 0, 1], fix := [] }]
noncomputable def laws_lkInts_c : C := irOf Tryz.prog Tryz.f33 [] laws_lkInts_ann []
theorem laws_lkInts_l : lightC Tryz.prog [] Tryz.f33.ntmps laws_lkInts_ann [] 0 (bodyOf Tryz.f33) = some (laws_lkInts_c, 1) := by kernel_rfl
def laws_lkInts_rv : List (Nat × Option (Nat × Bool)) := [(4, none)]
abbrev laws_lkInts_V0 := (Int) × (List Int) × (List Int)
def laws_lkInts_enc0 (v : laws_lkInts_V0) : Env × Heap := ([(5, SV.int .i64 v.1), (0, SV.es I6 v.2.1), (1, SV.es I6 v.2.2)], [])
def laws_lkInts_step0 (fuel : Nat) (g0 : laws_lkInts_V0 → Option ((Bool × Unit) × Unit)) (v : laws_lkInts_V0) : Option ((Bool × Unit) × Unit) :=
 cond (decide (v.1 < (zz (List.length v.2.1))))
 (tst (decide (0 ≤ v.1)) <|
  tst (decide (v.1 < (zz (List.length v.2.1)))) <|
  tst (decide (0 ≤ v.1)) <|
  tst (decide (v.1 < (zz (List.length v.2.2)))) <|
  cond (List.getD v.2.1 (Int.toNat v.1) 0 != List.getD v.2.2 (Int.toNat v.1) 0)
  (some (((false, ()), ())))
  (g0 (w64 (v.1 + (1 : Int)), v.2.1, v.2.2)))
 (some (((true, ()), ())))
def laws_lkInts_st0 (fuel : Nat) (g0 : laws_lkInts_V0 → Option ((Bool × Unit) × Unit)) : laws_lkInts_V0 → Option ((Bool × Unit) × Unit) := laws_lkInts_step0 fuel g0
theorem laws_lkInts_lp0 (fuel : Nat) (G) : laws_lkInts_c.lp (laws_lkInts_T fuel) 0 fuel G (endF laws_lkInts_rv laws_lkInts_rs) 0 laws_lkInts_enc0 = iter (laws_lkInts_st0 fuel) fuel := C.lp_iter fun g v => by kernel_rfl
def laws_lkInts_pre (fuel : Nat) (X0 : laws_lkInts_V0 → Option ((Bool × Unit) × Unit)) (x0 : List Int) (x1 : List Int) : Option ((Bool × Unit) × Unit) :=
 cond ((zz (List.length x0)) != (zz (List.length x1)))
 (some (((false, ()), ())))
 (X0 ((0 : Int), x0, x1))
def laws_lkInts_fn (fuel : Nat) (x : (((List Int) × Unit) × (((List Int) × Unit) × Unit))) : Option ((Bool × Unit) × Unit) := laws_lkInts_pre fuel (iter (laws_lkInts_st0 fuel) fuel) x.1.1 x.2.1.1
theorem laws_lkInts_run (fuel : Nat) (x : PsT laws_lkInts_ps) : run (laws_lkInts_T fuel) 0 fuel laws_lkInts_c (env0 (svPs laws_lkInts_ps x) 0) [] (endF laws_lkInts_rv laws_lkInts_rs) = laws_lkInts_fn fuel x :=
  (show run (laws_lkInts_T fuel) 0 fuel laws_lkInts_c (env0 (svPs laws_lkInts_ps x) 0) [] (endF laws_lkInts_rv laws_lkInts_rs) = laws_lkInts_pre fuel (laws_lkInts_c.lp (laws_lkInts_T fuel) 0 fuel (fun _ _ _ => none) (endF laws_lkInts_rv laws_lkInts_rs) 0 laws_lkInts_enc0) x.1.1 x.2.1.1 by kernel_rfl).trans (by rw [laws_lkInts_lp0]; rfl)
def laws_lkInts_tf (fuel : Nat) : TF := ⟨laws_lkInts_ps, laws_lkInts_rs, true, laws_lkInts_fn fuel⟩
theorem laws_lkInts_spec (fuel : Nat) : FnSpec Tryz.prog 33 (laws_lkInts_tf fuel) :=
  fn_spec (T := laws_lkInts_T fuel) (c := bodyOf Tryz.f33) (fn := Tryz.f33) (TabOK.of (entNil) (methNil)) mixed (by kernel_rfl) (by kernel_rfl) laws_lkInts_l (by kernel_rfl) (Nat.le_of_ble_eq_true (by kernel_rfl)) (rv := laws_lkInts_rv) (by kernel_rfl) (laws_lkInts_run fuel)
theorem laws_lkInts_ok (fuel : Nat) : EntryOK Tryz.prog 33 (laws_lkInts_tf fuel).te := EntryOK.tf rfl (laws_lkInts_spec fuel) (isFn (fn := Tryz.f33) (by kernel_rfl) (by kernel_rfl) (by kernel_rfl))
def laws_lkRough_T (fuel : Nat) : Tab := Tab.of [(33, (laws_lkInts_tf fuel).te)] []
abbrev laws_lkRough_ps : List Pm := [{ cs := [(Kd.list (Kd.list I6), false)], ag := true }, { cs := [(Kd.list (Kd.list I6), false)], ag := true }]
abbrev laws_lkRough_rs : List Pm := [{ cs := [(Kd.bool, false)], ag := false }]
def laws_lkRough_ann : List Norm := [{ live := [5, 2, 3], fix := [] }]
noncomputable def laws_lkRough_c : C := irOf Tryz.prog Tryz.f32 [] laws_lkRough_ann []
theorem laws_lkRough_l : lightC Tryz.prog [] Tryz.f32.ntmps laws_lkRough_ann [] 0 (bodyOf Tryz.f32) = some (laws_lkRough_c, 1) := by kernel_rfl
def laws_lkRough_rv : List (Nat × Option (Nat × Bool)) := [(4, none)]
abbrev laws_lkRough_V0 := (Int) × (List (List Int)) × (List (List Int))
def laws_lkRough_enc0 (v : laws_lkRough_V0) : Env × Heap := ([(5, SV.int .i64 v.1), (2, SV.ptr 0 0), (3, SV.ptr 1 0)], [Blk.cells [SV.es (Kd.list I6) v.2.1] 0 1, Blk.cells [SV.es (Kd.list I6) v.2.2] 0 1])
def laws_lkRough_step0 (fuel : Nat) (g0 : laws_lkRough_V0 → Option ((Bool × Unit) × Unit)) (v : laws_lkRough_V0) : Option ((Bool × Unit) × Unit) :=
 cond (decide (v.1 < (zz (List.length v.2.1))))
 (tst (decide (0 ≤ v.1)) <|
  tst (decide (v.1 < (zz (List.length v.2.1)))) <|
  tst (decide (0 ≤ v.1)) <|
  tst (decide (v.1 < (zz (List.length v.2.2)))) <|
  Option.bind (laws_lkInts_fn fuel ((List.getD v.2.1 (Int.toNat v.1) [], ()), (List.getD v.2.2 (Int.toNat v.1) [], ()), ())) fun y_2 =>
  cond (!y_2.1.1)
   (some (((false, ()), ())))
   (g0 (w64 (v.1 + (1 : Int)), v.2.1, v.2.2)))
 (some (((true, ()), ())))
def laws_lkRough_st0 (fuel : Nat) (g0 : laws_lkRough_V0 → Option ((Bool × Unit) × Unit)) : laws_lkRough_V0 → Option ((Bool × Unit) × Unit) := laws_lkRough_step0 fuel g0
theorem laws_lkRough_lp0 (fuel : Nat) (G) : laws_lkRough_c.lp (laws_lkRough_T fuel) 0 fuel G (endF laws_lkRough_rv laws_lkRough_rs) 0 laws_lkRough_enc0 = iter (laws_lkRough_st0 fuel) fuel := C.lp_iter fun g v => by kernel_rfl
def laws_lkRough_pre (fuel : Nat) (X0 : laws_lkRough_V0 → Option ((Bool × Unit) × Unit)) (x0 : List (List Int)) (x1 : List (List Int)) : Option ((Bool × Unit) × Unit) :=
 cond ((zz (List.length x0)) != (zz (List.length x1)))
 (some (((false, ()), ())))
 (X0 ((0 : Int), x0, x1))
def laws_lkRough_fn (fuel : Nat) (x : (((List (List Int)) × Unit) × (((List (List Int)) × Unit) × Unit))) : Option ((Bool × Unit) × Unit) := laws_lkRough_pre fuel (iter (laws_lkRough_st0 fuel) fuel) x.1.1 x.2.1.1
theorem laws_lkRough_run (fuel : Nat) (x : PsT laws_lkRough_ps) : run (laws_lkRough_T fuel) 0 fuel laws_lkRough_c (env0 (svPs laws_lkRough_ps x) 0) [] (endF laws_lkRough_rv laws_lkRough_rs) = laws_lkRough_fn fuel x :=
  (show run (laws_lkRough_T fuel) 0 fuel laws_lkRough_c (env0 (svPs laws_lkRough_ps x) 0) [] (endF laws_lkRough_rv laws_lkRough_rs) = laws_lkRough_pre fuel (laws_lkRough_c.lp (laws_lkRough_T fuel) 0 fuel (fun _ _ _ => none) (endF laws_lkRough_rv laws_lkRough_rs) 0 laws_lkRough_enc0) x.1.1 x.2.1.1 by kernel_rfl).trans (by rw [laws_lkRough_lp0]; rfl)
def laws_lkRough_tf (fuel : Nat) : TF := ⟨laws_lkRough_ps, laws_lkRough_rs, true, laws_lkRough_fn fuel⟩
theorem laws_lkRough_spec (fuel : Nat) : FnSpec Tryz.prog 32 (laws_lkRough_tf fuel) :=
  fn_spec (T := laws_lkRough_T fuel) (c := bodyOf Tryz.f32) (fn := Tryz.f32) (TabOK.of (entCons (laws_lkInts_ok fuel) entNil) (methNil)) mixed (by kernel_rfl) (by kernel_rfl) laws_lkRough_l (by kernel_rfl) (Nat.le_of_ble_eq_true (by kernel_rfl)) (rv := laws_lkRough_rv) (by kernel_rfl) (laws_lkRough_run fuel)
theorem laws_lkRough_ok (fuel : Nat) : EntryOK Tryz.prog 32 (laws_lkRough_tf fuel).te := EntryOK.tf rfl (laws_lkRough_spec fuel) (isFn (fn := Tryz.f32) (by kernel_rfl) (by kernel_rfl) (by kernel_rfl))
def laws_lkTop_T (fuel : Nat) : Tab := Tab.of [] []
abbrev laws_lkTop_ps : List Pm := [{ cs := [(Kd.list KP, false), (I6, false), (I6, false)], ag := true }, { cs := [(Kd.list KP, false), (I6, false), (I6, false)], ag := true }]
abbrev laws_lkTop_rs : List Pm := [{ cs := [(Kd.bool, false)], ag := false }]
def laws_lkTop_ann : List Norm := [{ live := [5, 2, 3], fix := [] }]
noncomputable def laws_lkTop_c : C := irOf Tryz.prog Tryz.f58 [] laws_lkTop_ann []
theorem laws_lkTop_l : lightC Tryz.prog [] Tryz.f58.ntmps laws_lkTop_ann [] 0 (bodyOf Tryz.f58) = some (laws_lkTop_c, 1) := by kernel_rfl
def laws_lkTop_rv : List (Nat × Option (Nat × Bool)) := [(4, none)]
abbrev laws_lkTop_V0 := (Int) × LP × (Int) × (Int) × LP × (Int) × (Int)
def laws_lkTop_enc0 (v : laws_lkTop_V0) : Env × Heap := ([(5, SV.int .i64 v.1), (2, SV.ptr 0 0), (3, SV.ptr 1 0)], [Blk.cells [SV.es KP v.2.1, SV.int .i64 v.2.2.1, SV.int .i64 v.2.2.2.1] 0 3, Blk.cells [SV.es KP v.2.2.2.2.1, SV.int .i64 v.2.2.2.2.2.1, SV.int .i64 v.2.2.2.2.2.2] 0 3])
def laws_lkTop_step0 (fuel : Nat) (g0 : laws_lkTop_V0 → Option ((Bool × Unit) × Unit)) (v : laws_lkTop_V0) : Option ((Bool × Unit) × Unit) :=
 cond (decide (v.1 < (zz (List.length v.2.1))))
 (tst (decide (0 ≤ v.1)) <|
  tst (decide (v.1 < (zz (List.length v.2.1)))) <|
  tst (decide (0 ≤ v.1)) <|
  tst (decide (v.1 < (zz (List.length v.2.2.2.2.1)))) <|
  cond (!((List.getD v.2.1 (Int.toNat v.1) (0, (0, ()))).1 == (List.getD v.2.2.2.2.1 (Int.toNat v.1) (0, (0, ()))).1 && ((List.getD v.2.1 (Int.toNat v.1) (0, (0, ()))).2.1 == (List.getD v.2.2.2.2.1 (Int.toNat v.1) (0, (0, ()))).2.1 && true)))
  (some (((false, ()), ())))
  (g0 (w64 (v.1 + (1 : Int)), v.2.1, v.2.2.1, v.2.2.2.1, v.2.2.2.2.1, v.2.2.2.2.2.1, v.2.2.2.2.2.2)))
 (some (((true, ()), ())))
def laws_lkTop_st0 (fuel : Nat) (g0 : laws_lkTop_V0 → Option ((Bool × Unit) × Unit)) : laws_lkTop_V0 → Option ((Bool × Unit) × Unit) := laws_lkTop_step0 fuel g0
theorem laws_lkTop_lp0 (fuel : Nat) (G) : laws_lkTop_c.lp (laws_lkTop_T fuel) 0 fuel G (endF laws_lkTop_rv laws_lkTop_rs) 0 laws_lkTop_enc0 = iter (laws_lkTop_st0 fuel) fuel := C.lp_iter fun g v => by kernel_rfl
def laws_lkTop_pre (fuel : Nat) (X0 : laws_lkTop_V0 → Option ((Bool × Unit) × Unit)) (x0 : LP) (x1 : Int) (x2 : Int) (x3 : LP) (x4 : Int) (x5 : Int) : Option ((Bool × Unit) × Unit) :=
 cond (x1 != x4)
 (some (((false, ()), ())))
 (cond (x2 != x5)
  (some (((false, ()), ())))
  (cond ((zz (List.length x0)) != (zz (List.length x3)))
   (some (((false, ()), ())))
   (X0 ((0 : Int), x0, x1, x2, x3, x4, x5))))
def laws_lkTop_fn (fuel : Nat) (x : ((LP × (Int × (Int × Unit))) × ((LP × (Int × (Int × Unit))) × Unit))) : Option ((Bool × Unit) × Unit) := laws_lkTop_pre fuel (iter (laws_lkTop_st0 fuel) fuel) x.1.1 x.1.2.1 x.1.2.2.1 x.2.1.1 x.2.1.2.1 x.2.1.2.2.1
theorem laws_lkTop_run (fuel : Nat) (x : PsT laws_lkTop_ps) : run (laws_lkTop_T fuel) 0 fuel laws_lkTop_c (env0 (svPs laws_lkTop_ps x) 0) [] (endF laws_lkTop_rv laws_lkTop_rs) = laws_lkTop_fn fuel x :=
  (show run (laws_lkTop_T fuel) 0 fuel laws_lkTop_c (env0 (svPs laws_lkTop_ps x) 0) [] (endF laws_lkTop_rv laws_lkTop_rs) = laws_lkTop_pre fuel (laws_lkTop_c.lp (laws_lkTop_T fuel) 0 fuel (fun _ _ _ => none) (endF laws_lkTop_rv laws_lkTop_rs) 0 laws_lkTop_enc0) x.1.1 x.1.2.1 x.1.2.2.1 x.2.1.1 x.2.1.2.1 x.2.1.2.2.1 by kernel_rfl).trans (by rw [laws_lkTop_lp0]; rfl)
def laws_lkTop_tf (fuel : Nat) : TF := ⟨laws_lkTop_ps, laws_lkTop_rs, true, laws_lkTop_fn fuel⟩
theorem laws_lkTop_spec (fuel : Nat) : FnSpec Tryz.prog 58 (laws_lkTop_tf fuel) :=
  fn_spec (T := laws_lkTop_T fuel) (c := bodyOf Tryz.f58) (fn := Tryz.f58) (TabOK.of (entNil) (methNil)) mixed (by kernel_rfl) (by kernel_rfl) laws_lkTop_l (by kernel_rfl) (Nat.le_of_ble_eq_true (by kernel_rfl)) (rv := laws_lkTop_rv) (by kernel_rfl) (laws_lkTop_run fuel)
theorem laws_lkTop_ok (fuel : Nat) : EntryOK Tryz.prog 58 (laws_lkTop_tf fuel).te := EntryOK.tf rfl (laws_lkTop_spec fuel) (isFn (fn := Tryz.f58) (by kernel_rfl) (by kernel_rfl) (by kernel_rfl))
def laws_lkRank_T (fuel : Nat) : Tab := Tab.of [] []
abbrev laws_lkRank_ps : List Pm := [{ cs := [(Kd.list KP, false), (I6, false)], ag := true }, { cs := [(Kd.list KP, false), (I6, false)], ag := true }]
abbrev laws_lkRank_rs : List Pm := [{ cs := [(Kd.bool, false)], ag := false }]
def laws_lkRank_ann : List Norm := [{ live := [5, 2, 3], fix := [] }]
noncomputable def laws_lkRank_c : C := irOf Tryz.prog Tryz.f81 [] laws_lkRank_ann []
theorem laws_lkRank_l : lightC Tryz.prog [] Tryz.f81.ntmps laws_lkRank_ann [] 0 (bodyOf Tryz.f81) = some (laws_lkRank_c, 1) := by kernel_rfl
def laws_lkRank_rv : List (Nat × Option (Nat × Bool)) := [(4, none)]
abbrev laws_lkRank_V0 := (Int) × LP × (Int) × LP × (Int)
def laws_lkRank_enc0 (v : laws_lkRank_V0) : Env × Heap := ([(5, SV.int .i64 v.1), (2, SV.ptr 0 0), (3, SV.ptr 1 0)], [Blk.cells [SV.es KP v.2.1, SV.int .i64 v.2.2.1] 0 2, Blk.cells [SV.es KP v.2.2.2.1, SV.int .i64 v.2.2.2.2] 0 2])
def laws_lkRank_step0 (fuel : Nat) (g0 : laws_lkRank_V0 → Option ((Bool × Unit) × Unit)) (v : laws_lkRank_V0) : Option ((Bool × Unit) × Unit) :=
 cond (decide (v.1 < (zz (List.length v.2.1))))
 (tst (decide (0 ≤ v.1)) <|
  tst (decide (v.1 < (zz (List.length v.2.1)))) <|
  tst (decide (0 ≤ v.1)) <|
  tst (decide (v.1 < (zz (List.length v.2.2.2.1)))) <|
  cond (!((List.getD v.2.1 (Int.toNat v.1) (0, (0, ()))).1 == (List.getD v.2.2.2.1 (Int.toNat v.1) (0, (0, ()))).1 && ((List.getD v.2.1 (Int.toNat v.1) (0, (0, ()))).2.1 == (List.getD v.2.2.2.1 (Int.toNat v.1) (0, (0, ()))).2.1 && true)))
  (some (((false, ()), ())))
  (g0 (w64 (v.1 + (1 : Int)), v.2.1, v.2.2.1, v.2.2.2.1, v.2.2.2.2)))
 (some (((true, ()), ())))
def laws_lkRank_st0 (fuel : Nat) (g0 : laws_lkRank_V0 → Option ((Bool × Unit) × Unit)) : laws_lkRank_V0 → Option ((Bool × Unit) × Unit) := laws_lkRank_step0 fuel g0
theorem laws_lkRank_lp0 (fuel : Nat) (G) : laws_lkRank_c.lp (laws_lkRank_T fuel) 0 fuel G (endF laws_lkRank_rv laws_lkRank_rs) 0 laws_lkRank_enc0 = iter (laws_lkRank_st0 fuel) fuel := C.lp_iter fun g v => by kernel_rfl
def laws_lkRank_pre (fuel : Nat) (X0 : laws_lkRank_V0 → Option ((Bool × Unit) × Unit)) (x0 : LP) (x1 : Int) (x2 : LP) (x3 : Int) : Option ((Bool × Unit) × Unit) :=
 cond (x1 != x3)
 (some (((false, ()), ())))
 (cond ((zz (List.length x0)) != (zz (List.length x2)))
  (some (((false, ()), ())))
  (X0 ((0 : Int), x0, x1, x2, x3)))
def laws_lkRank_fn (fuel : Nat) (x : ((LP × (Int × Unit)) × ((LP × (Int × Unit)) × Unit))) : Option ((Bool × Unit) × Unit) := laws_lkRank_pre fuel (iter (laws_lkRank_st0 fuel) fuel) x.1.1 x.1.2.1 x.2.1.1 x.2.1.2.1
theorem laws_lkRank_run (fuel : Nat) (x : PsT laws_lkRank_ps) : run (laws_lkRank_T fuel) 0 fuel laws_lkRank_c (env0 (svPs laws_lkRank_ps x) 0) [] (endF laws_lkRank_rv laws_lkRank_rs) = laws_lkRank_fn fuel x :=
  (show run (laws_lkRank_T fuel) 0 fuel laws_lkRank_c (env0 (svPs laws_lkRank_ps x) 0) [] (endF laws_lkRank_rv laws_lkRank_rs) = laws_lkRank_pre fuel (laws_lkRank_c.lp (laws_lkRank_T fuel) 0 fuel (fun _ _ _ => none) (endF laws_lkRank_rv laws_lkRank_rs) 0 laws_lkRank_enc0) x.1.1 x.1.2.1 x.2.1.1 x.2.1.2.1 by kernel_rfl).trans (by rw [laws_lkRank_lp0]; rfl)
def laws_lkRank_tf (fuel : Nat) : TF := ⟨laws_lkRank_ps, laws_lkRank_rs, true, laws_lkRank_fn fuel⟩
theorem laws_lkRank_spec (fuel : Nat) : FnSpec Tryz.prog 81 (laws_lkRank_tf fuel) :=
  fn_spec (T := laws_lkRank_T fuel) (c := bodyOf Tryz.f81) (fn := Tryz.f81) (TabOK.of (entNil) (methNil)) mixed (by kernel_rfl) (by kernel_rfl) laws_lkRank_l (by kernel_rfl) (Nat.le_of_ble_eq_true (by kernel_rfl)) (rv := laws_lkRank_rv) (by kernel_rfl) (laws_lkRank_run fuel)
theorem laws_lkRank_ok (fuel : Nat) : EntryOK Tryz.prog 81 (laws_lkRank_tf fuel).te := EntryOK.tf rfl (laws_lkRank_spec fuel) (isFn (fn := Tryz.f81) (by kernel_rfl) (by kernel_rfl) (by kernel_rfl))
def laws_lkSum_T (fuel : Nat) : Tab := Tab.of [(32, (laws_lkRough_tf fuel).te), (33, (laws_lkInts_tf fuel).te), (58, (laws_lkTop_tf fuel).te), (81, (laws_lkRank_tf fuel).te)] []
abbrev laws_lkSum_ps : List Pm := [{ cs := [(Kd.list (Kd.list I6), false), (Kd.list I6, false), (Kd.list KP, false), (I6, false), (I6, false), (Kd.list KP, false), (I6, false)], ag := true }, { cs := [(Kd.list (Kd.list I6), false), (Kd.list I6, false), (Kd.list KP, false), (I6, false), (I6, false), (Kd.list KP, false), (I6, false)], ag := true }]
abbrev laws_lkSum_rs : List Pm := [{ cs := [(Kd.bool, false)], ag := false }]
def laws_lkSum_ann : List Norm := []
noncomputable def laws_lkSum_c : C := irOf Tryz.prog Tryz.f31 [] laws_lkSum_ann []
theorem laws_lkSum_l : lightC Tryz.prog [] Tryz.f31.ntmps laws_lkSum_ann [] 0 (bodyOf Tryz.f31) = some (laws_lkSum_c, 0) := by kernel_rfl
def laws_lkSum_rv : List (Nat × Option (Nat × Bool)) := [(4, none)]
def laws_lkSum_pre (fuel : Nat) (x0 : List (List Int)) (x1 : List Int) (x2 : LP) (x3 : Int) (x4 : Int) (x5 : LP) (x6 : Int) (x7 : List (List Int)) (x8 : List Int) (x9 : LP) (x10 : Int) (x11 : Int) (x12 : LP) (x13 : Int) : Option ((Bool × Unit) × Unit) :=
 Option.bind (laws_lkRough_fn fuel ((x0, ()), (x7, ()), ())) fun y_1 =>
 cond (y_1.1.1)
  (Option.bind (laws_lkInts_fn fuel ((x1, ()), (x8, ()), ())) fun y_3 =>
   cond (y_3.1.1)
    (Option.bind (laws_lkTop_fn fuel ((x2, x3, x4, ()), (x9, x10, x11, ()), ())) fun y_5 =>
     cond (y_5.1.1)
      (Option.bind (laws_lkRank_fn fuel ((x5, x6, ()), (x12, x13, ()), ())) fun y_7 =>
       some (((y_7.1.1, ()), ())))
      (some (((false, ()), ()))))
    (some (((false, ()), ()))))
  (some (((false, ()), ())))
def laws_lkSum_fn (fuel : Nat) (x : (SumY × (SumY × Unit))) : Option ((Bool × Unit) × Unit) := laws_lkSum_pre fuel x.1.1 x.1.2.1 x.1.2.2.1 x.1.2.2.2.1 x.1.2.2.2.2.1 x.1.2.2.2.2.2.1 x.1.2.2.2.2.2.2.1 x.2.1.1 x.2.1.2.1 x.2.1.2.2.1 x.2.1.2.2.2.1 x.2.1.2.2.2.2.1 x.2.1.2.2.2.2.2.1 x.2.1.2.2.2.2.2.2.1
theorem laws_lkSum_run (fuel : Nat) (x : PsT laws_lkSum_ps) : run (laws_lkSum_T fuel) 0 fuel laws_lkSum_c (env0 (svPs laws_lkSum_ps x) 0) [] (endF laws_lkSum_rv laws_lkSum_rs) = laws_lkSum_fn fuel x := by kernel_rfl
def laws_lkSum_tf (fuel : Nat) : TF := ⟨laws_lkSum_ps, laws_lkSum_rs, true, laws_lkSum_fn fuel⟩
theorem laws_lkSum_spec (fuel : Nat) : FnSpec Tryz.prog 31 (laws_lkSum_tf fuel) :=
  fn_spec (T := laws_lkSum_T fuel) (c := bodyOf Tryz.f31) (fn := Tryz.f31) (TabOK.of (entCons (laws_lkRough_ok fuel) (entCons (laws_lkInts_ok fuel) (entCons (laws_lkTop_ok fuel) (entCons (laws_lkRank_ok fuel) entNil)))) (methNil)) mixed (by kernel_rfl) (by kernel_rfl) laws_lkSum_l (by kernel_rfl) (Nat.le_of_ble_eq_true (by kernel_rfl)) (rv := laws_lkSum_rv) (by kernel_rfl) (laws_lkSum_run fuel)
theorem laws_lkSum_ok (fuel : Nat) : EntryOK Tryz.prog 31 (laws_lkSum_tf fuel).te := EntryOK.tf rfl (laws_lkSum_spec fuel) (isFn (fn := Tryz.f31) (by kernel_rfl) (by kernel_rfl) (by kernel_rfl))
end Go.Proofs.YtdgdoeknpakmlaaGreat.Den
namespace Go.Proofs.YtdgdoeknpakmlaaGreat.Den
open Go Go.RowKit
set_option linter.unusedVariables false
set_option linter.unusedSimpArgs false
abbrev laws_lkFine_R := Option (((List Int) × Unit) × Unit)
def laws_lkFine_T (fuel : Nat) : Tab := Tab.of [] []
abbrev laws_lkFine_ps : List Pm := [{ cs := [(Kd.list I6, false)], ag := false }]
abbrev laws_lkFine_rs : List Pm := [{ cs := [(Kd.list I6, true)], ag := false }]
def laws_lkFine_ann : List Norm := [{ live := [4, 0, 3], fix := [(3, none, I6, true)] }]
noncomputable def laws_lkFine_c : C := irOf Tryz.prog Tryz.f45 [] laws_lkFine_ann []
theorem laws_lkFine_l : lightC Tryz.prog [] Tryz.f45.ntmps laws_lkFine_ann [] 0 (bodyOf Tryz.f45) = some (laws_lkFine_c, 1) := by kernel_rfl
def laws_lkFine_rv : List (Nat × Option (Nat × Bool)) := [(2, none)]
abbrev laws_lkFine_V0 := (Int) × (List Int) × (List Int)
def laws_lkFine_enc0 (v : laws_lkFine_V0) : Env × Heap := ([(4, SV.int .i64 v.1), (0, SV.es I6 v.2.1), (3, SV.own 0)], [Blk.arr I6 v.2.2 0])
def laws_lkFine_step0 (fuel : Nat) (g0 : laws_lkFine_V0 → laws_lkFine_R) (v : laws_lkFine_V0) : laws_lkFine_R :=
 cond (decide (v.1 < (zz (List.length v.2.1))))
 (tst (decide (0 ≤ v.1)) <|
  tst (decide (v.1 < (zz (List.length v.2.1)))) <|
  cond (decide (List.getD v.2.1 (Int.toNat v.1) 0 ≥ (0 : Int)))
  (tst (decide (0 ≤ v.1)) <|
   tst (decide (v.1 < (zz (List.length v.2.1)))) <|
   cond (decide (List.getD v.2.1 (Int.toNat v.1) 0 < (64 : Int)))
   (tst (decide (0 ≤ v.1)) <|
    tst (decide (v.1 < (zz (List.length v.2.1)))) <|
    tst (decide (List.length v.2.2 + 1 < LIM)) <|
    g0 (w64 (v.1 + (1 : Int)), v.2.1, v.2.2 ++ [List.getD v.2.1 (Int.toNat v.1) 0]))
   (g0 (w64 (v.1 + (1 : Int)), v.2.1, v.2.2)))
  (g0 (w64 (v.1 + (1 : Int)), v.2.1, v.2.2)))
 (some (((v.2.2, ()), ())))
def laws_lkFine_st0 (fuel : Nat) (g0 : laws_lkFine_V0 → laws_lkFine_R) : laws_lkFine_V0 → laws_lkFine_R := laws_lkFine_step0 fuel g0
theorem laws_lkFine_lp0 (fuel : Nat) (G) : laws_lkFine_c.lp (laws_lkFine_T fuel) 0 fuel G (endF laws_lkFine_rv laws_lkFine_rs) 0 laws_lkFine_enc0 = iter (laws_lkFine_st0 fuel) fuel := C.lp_iter fun g v => by kernel_rfl
def laws_lkFine_pre (fuel : Nat) (X0 : laws_lkFine_V0 → laws_lkFine_R) (x0 : List Int) : laws_lkFine_R :=
 X0 ((0 : Int), x0, [])
def laws_lkFine_fn (fuel : Nat) (x : (((List Int) × Unit) × Unit)) : laws_lkFine_R := laws_lkFine_pre fuel (iter (laws_lkFine_st0 fuel) fuel) x.1.1
theorem laws_lkFine_run (fuel : Nat) (x : PsT laws_lkFine_ps) : run (laws_lkFine_T fuel) 0 fuel laws_lkFine_c (env0 (svPs laws_lkFine_ps x) 0) [] (endF laws_lkFine_rv laws_lkFine_rs) = laws_lkFine_fn fuel x :=
  (show run (laws_lkFine_T fuel) 0 fuel laws_lkFine_c (env0 (svPs laws_lkFine_ps x) 0) [] (endF laws_lkFine_rv laws_lkFine_rs) = laws_lkFine_pre fuel (laws_lkFine_c.lp (laws_lkFine_T fuel) 0 fuel (fun _ _ _ => none) (endF laws_lkFine_rv laws_lkFine_rs) 0 laws_lkFine_enc0) x.1.1 by kernel_rfl).trans (by rw [laws_lkFine_lp0]; rfl)
def laws_lkFine_tf (fuel : Nat) : TF := ⟨laws_lkFine_ps, laws_lkFine_rs, true, laws_lkFine_fn fuel⟩
theorem laws_lkFine_spec (fuel : Nat) : FnSpec Tryz.prog 45 (laws_lkFine_tf fuel) :=
  fn_spec (T := laws_lkFine_T fuel) (c := bodyOf Tryz.f45) (fn := Tryz.f45) (TabOK.of (entNil) (methNil)) mixed (by kernel_rfl) (by kernel_rfl) laws_lkFine_l (by kernel_rfl) (Nat.le_of_ble_eq_true (by kernel_rfl)) (rv := laws_lkFine_rv) (by kernel_rfl) (laws_lkFine_run fuel)
theorem laws_lkFine_ok (fuel : Nat) : EntryOK Tryz.prog 45 (laws_lkFine_tf fuel).te := EntryOK.tf rfl (laws_lkFine_spec fuel) (isFn (fn := Tryz.f45) (by kernel_rfl) (by kernel_rfl) (by kernel_rfl))
abbrev impl_RankSpan_R := Option ((Int × Unit) × ((Int × Unit) × Unit))
def impl_RankSpan_T (fuel : Nat) : Tab := Tab.of [] []
abbrev impl_RankSpan_ps : List Pm := [{ cs := [(I6, false)], ag := false }]
abbrev impl_RankSpan_rs : List Pm := [{ cs := [(I6, false)], ag := false }, { cs := [(I6, false)], ag := false }]
def impl_RankSpan_ann : List Norm := [{ live := [4, 5], fix := [] }]
noncomputable def impl_RankSpan_c : C := irOf Tryz.prog Tryz.f139 [] impl_RankSpan_ann []
theorem impl_RankSpan_l : lightC Tryz.prog [] Tryz.f139.ntmps impl_RankSpan_ann [] 0 (bodyOf Tryz.f139) = some (impl_RankSpan_c, 1) := by kernel_rfl
def impl_RankSpan_rv : List (Nat × Option (Nat × Bool)) := [(2, none), (3, none)]
abbrev impl_RankSpan_V0 := (Int) × (Int)
def impl_RankSpan_enc0 (v : impl_RankSpan_V0) : Env × Heap := ([(4, SV.int .i64 v.1), (5, SV.int .i64 v.2)], [])
def impl_RankSpan_step0 (fuel : Nat) (g0 : impl_RankSpan_V0 → impl_RankSpan_R) (v : impl_RankSpan_V0) : impl_RankSpan_R :=
 cond (decide (v.1 < (64 : Int)))
 (g0 (w64 (v.1 * 2 ^ min (Int.toNat (1 : Int)) (IntKind.bits IntKind.i64)), w64 (zz (BitVec.toNat (BitVec.ofInt (IntKind.bits IntKind.i64) (w64 (v.2 * 2 ^ min (Int.toNat (1 : Int)) (IntKind.bits IntKind.i64))) ||| BitVec.ofInt (IntKind.bits IntKind.i64) (1 : Int))))))
 (some (((w64 (v.1 - (64 : Int)), ()), (w64 (v.2 - (64 : Int)), ()), ())))
def impl_RankSpan_st0 (fuel : Nat) (g0 : impl_RankSpan_V0 → impl_RankSpan_R) : impl_RankSpan_V0 → impl_RankSpan_R := impl_RankSpan_step0 fuel g0
theorem impl_RankSpan_lp0 (fuel : Nat) (G) : impl_RankSpan_c.lp (impl_RankSpan_T fuel) 0 fuel G (endF impl_RankSpan_rv impl_RankSpan_rs) 0 impl_RankSpan_enc0 = iter (impl_RankSpan_st0 fuel) fuel := C.lp_iter fun g v => by kernel_rfl
def impl_RankSpan_pre (fuel : Nat) (X0 : impl_RankSpan_V0 → impl_RankSpan_R) (x0 : Int) : impl_RankSpan_R :=
 cond (decide (x0 < (1 : Int)))
 (some ((((1 : Int), ()), ((0 : Int), ()), ())))
 (cond (decide (x0 ≥ (128 : Int)))
  (some ((((1 : Int), ()), ((0 : Int), ()), ())))
  (X0 (x0, x0)))
def impl_RankSpan_fn (fuel : Nat) (x : ((Int × Unit) × Unit)) : impl_RankSpan_R := impl_RankSpan_pre fuel (iter (impl_RankSpan_st0 fuel) fuel) x.1.1
theorem impl_RankSpan_run (fuel : Nat) (x : PsT impl_RankSpan_ps) : run (impl_RankSpan_T fuel) 0 fuel impl_RankSpan_c (env0 (svPs impl_RankSpan_ps x) 0) [] (endF impl_RankSpan_rv impl_RankSpan_rs) = impl_RankSpan_fn fuel x :=
  (show run (impl_RankSpan_T fuel) 0 fuel impl_RankSpan_c (env0 (svPs impl_RankSpan_ps x) 0) [] (endF impl_RankSpan_rv impl_RankSpan_rs) = impl_RankSpan_pre fuel (impl_RankSpan_c.lp (impl_RankSpan_T fuel) 0 fuel (fun _ _ _ => none) (endF impl_RankSpan_rv impl_RankSpan_rs) 0 impl_RankSpan_enc0) x.1.1 by kernel_rfl).trans (by rw [impl_RankSpan_lp0]; rfl)
def impl_RankSpan_tf (fuel : Nat) : TF := ⟨impl_RankSpan_ps, impl_RankSpan_rs, true, impl_RankSpan_fn fuel⟩
theorem impl_RankSpan_spec (fuel : Nat) : FnSpec Tryz.prog 139 (impl_RankSpan_tf fuel) :=
  fn_spec (T := impl_RankSpan_T fuel) (c := bodyOf Tryz.f139) (fn := Tryz.f139) (TabOK.of (entNil) (methNil)) mixed (by kernel_rfl) (by kernel_rfl) impl_RankSpan_l (by kernel_rfl) (Nat.le_of_ble_eq_true (by kernel_rfl)) (rv := impl_RankSpan_rv) (by kernel_rfl) (impl_RankSpan_run fuel)
theorem impl_RankSpan_ok (fuel : Nat) : EntryOK Tryz.prog 139 (impl_RankSpan_tf fuel).te := EntryOK.tf rfl (impl_RankSpan_spec fuel) (isFn (fn := Tryz.f139) (by kernel_rfl) (by kernel_rfl) (by kernel_rfl))
end Go.Proofs.YtdgdoeknpakmlaaGreat.Den
namespace Go.Proofs.YtdgdoeknpakmlaaGreat.Den
open Go Go.RowKit
set_option linter.unusedVariables false
set_option linter.unusedSimpArgs false
abbrev impl_Rank_upTo_R := Option ((Int × Unit) × ((Int × Unit) × Unit))
def impl_Rank_upTo_T (fuel : Nat) : Tab := Tab.of [(139, (impl_RankSpan_tf fuel).te)] []
abbrev impl_Rank_upTo_ps : List Pm := [{ cs := [(Kd.list KP, false), (I6, false)], ag := true }, { cs := [(I6, false)], ag := false }]
abbrev impl_Rank_upTo_rs : List Pm := [{ cs := [(I6, false)], ag := false }, { cs := [(I6, false)], ag := false }]
def impl_Rank_upTo_ann : List Norm := [{ live := [15, 14, 13, 1, 6, 7], fix := [] }]
noncomputable def impl_Rank_upTo_c : C := irOf Tryz.prog Tryz.f95 [] impl_Rank_upTo_ann []
theorem impl_Rank_upTo_l : lightC Tryz.prog [] Tryz.f95.ntmps impl_Rank_upTo_ann [] 0 (bodyOf Tryz.f95) = some (impl_Rank_upTo_c, 1) := by kernel_rfl
def impl_Rank_upTo_rv : List (Nat × Option (Nat × Bool)) := [(4, none), (5, none)]
abbrev impl_Rank_upTo_V0 := (Int) × (Int) × LP × (Int) × (Int) × (Int)
def impl_Rank_upTo_enc0 (v : impl_Rank_upTo_V0) : Env × Heap := ([(15, SV.int .i64 v.1), (14, SV.int .i64 v.2.1), (13, SV.es KP v.2.2.1), (1, SV.int .i64 v.2.2.2.1), (6, SV.int .i64 v.2.2.2.2.1), (7, SV.int .i64 v.2.2.2.2.2)], [])
def impl_Rank_upTo_step0 (fuel : Nat) (g0 : impl_Rank_upTo_V0 → impl_Rank_upTo_R) (v : impl_Rank_upTo_V0) : impl_Rank_upTo_R :=
 cond (decide (v.1 < v.2.1))
 (tst (decide (0 ≤ v.1)) <|
  tst (decide (v.1 < (zz (List.length v.2.2.1)))) <|
  Option.bind (impl_RankSpan_fn fuel (((List.getD v.2.2.1 (Int.toNat v.1) (0, (0, ()))).1, ()), ())) fun y_2 =>
  cond (decide (y_2.2.1.1 ≤ v.2.2.2.1))
   (cond (decide (y_2.1.1 ≤ v.2.2.2.1))
    (g0 (w64 (v.1 + (1 : Int)), v.2.1, v.2.2.1, v.2.2.2.1, w64 (v.2.2.2.2.1 + (List.getD v.2.2.1 (Int.toNat v.1) (0, (0, ()))).2.1), w64 (v.2.2.2.2.2 + (List.getD v.2.2.1 (Int.toNat v.1) (0, (0, ()))).2.1)))
    (g0 (w64 (v.1 + (1 : Int)), v.2.1, v.2.2.1, v.2.2.2.1, w64 (v.2.2.2.2.1 + (List.getD v.2.2.1 (Int.toNat v.1) (0, (0, ()))).2.1), v.2.2.2.2.2)))
   (cond (decide (y_2.1.1 ≤ v.2.2.2.1))
    (g0 (w64 (v.1 + (1 : Int)), v.2.1, v.2.2.1, v.2.2.2.1, v.2.2.2.2.1, w64 (v.2.2.2.2.2 + (List.getD v.2.2.1 (Int.toNat v.1) (0, (0, ()))).2.1)))
    (g0 (w64 (v.1 + (1 : Int)), v.2.1, v.2.2.1, v.2.2.2.1, v.2.2.2.2.1, v.2.2.2.2.2))))
 (some (((v.2.2.2.2.1, ()), (v.2.2.2.2.2, ()), ())))
def impl_Rank_upTo_st0 (fuel : Nat) (g0 : impl_Rank_upTo_V0 → impl_Rank_upTo_R) : impl_Rank_upTo_V0 → impl_Rank_upTo_R := impl_Rank_upTo_step0 fuel g0
theorem impl_Rank_upTo_lp0 (fuel : Nat) (G) : impl_Rank_upTo_c.lp (impl_Rank_upTo_T fuel) 0 fuel G (endF impl_Rank_upTo_rv impl_Rank_upTo_rs) 0 impl_Rank_upTo_enc0 = iter (impl_Rank_upTo_st0 fuel) fuel := C.lp_iter fun g v => by kernel_rfl
def impl_Rank_upTo_pre (fuel : Nat) (X0 : impl_Rank_upTo_V0 → impl_Rank_upTo_R) (x0 : LP) (x1 : Int) (x2 : Int) : impl_Rank_upTo_R :=
 X0 ((0 : Int), (zz (List.length x0)), x0, x2, (0 : Int), (0 : Int))
def impl_Rank_upTo_fn (fuel : Nat) (x : ((LP × (Int × Unit)) × ((Int × Unit) × Unit))) : impl_Rank_upTo_R := impl_Rank_upTo_pre fuel (iter (impl_Rank_upTo_st0 fuel) fuel) x.1.1 x.1.2.1 x.2.1.1
theorem impl_Rank_upTo_run (fuel : Nat) (x : PsT impl_Rank_upTo_ps) : run (impl_Rank_upTo_T fuel) 0 fuel impl_Rank_upTo_c (env0 (svPs impl_Rank_upTo_ps x) 0) [] (endF impl_Rank_upTo_rv impl_Rank_upTo_rs) = impl_Rank_upTo_fn fuel x :=
  (show run (impl_Rank_upTo_T fuel) 0 fuel impl_Rank_upTo_c (env0 (svPs impl_Rank_upTo_ps x) 0) [] (endF impl_Rank_upTo_rv impl_Rank_upTo_rs) = impl_Rank_upTo_pre fuel (impl_Rank_upTo_c.lp (impl_Rank_upTo_T fuel) 0 fuel (fun _ _ _ => none) (endF impl_Rank_upTo_rv impl_Rank_upTo_rs) 0 impl_Rank_upTo_enc0) x.1.1 x.1.2.1 x.2.1.1 by kernel_rfl).trans (by rw [impl_Rank_upTo_lp0]; rfl)
def impl_Rank_upTo_tf (fuel : Nat) : TF := ⟨impl_Rank_upTo_ps, impl_Rank_upTo_rs, true, impl_Rank_upTo_fn fuel⟩
theorem impl_Rank_upTo_spec (fuel : Nat) : FnSpec Tryz.prog 95 (impl_Rank_upTo_tf fuel) :=
  fn_spec (T := impl_Rank_upTo_T fuel) (c := bodyOf Tryz.f95) (fn := Tryz.f95) (TabOK.of (entCons (impl_RankSpan_ok fuel) entNil) (methNil)) mixed (by kernel_rfl) (by kernel_rfl) impl_Rank_upTo_l (by kernel_rfl) (Nat.le_of_ble_eq_true (by kernel_rfl)) (rv := impl_Rank_upTo_rv) (by kernel_rfl) (impl_Rank_upTo_run fuel)
theorem impl_Rank_upTo_ok (fuel : Nat) : EntryOK Tryz.prog 95 (impl_Rank_upTo_tf fuel).te := EntryOK.tf rfl (impl_Rank_upTo_spec fuel) (isFn (fn := Tryz.f95) (by kernel_rfl) (by kernel_rfl) (by kernel_rfl))
def laws_lkUpTo_T (fuel : Nat) : Tab := Tab.of [] []
abbrev laws_lkUpTo_ps : List Pm := [{ cs := [(Kd.list I6, false)], ag := false }, { cs := [(I6, false)], ag := false }]
abbrev laws_lkUpTo_rs : List Pm := [{ cs := [(I6, false)], ag := false }]
def laws_lkUpTo_ann : List Norm := [{ live := [6, 0, 1, 5], fix := [] }]
noncomputable def laws_lkUpTo_c : C := irOf Tryz.prog Tryz.f51 [] laws_lkUpTo_ann []
theorem laws_lkUpTo_l : lightC Tryz.prog [] Tryz.f51.ntmps laws_lkUpTo_ann [] 0 (bodyOf Tryz.f51) = some (laws_lkUpTo_c, 1) := by kernel_rfl
def laws_lkUpTo_rv : List (Nat × Option (Nat × Bool)) := [(4, none)]
abbrev laws_lkUpTo_V0 := (Int) × (List Int) × (Int) × (Int)
def laws_lkUpTo_enc0 (v : laws_lkUpTo_V0) : Env × Heap := ([(6, SV.int .i64 v.1), (0, SV.es I6 v.2.1), (1, SV.int .i64 v.2.2.1), (5, SV.int .i64 v.2.2.2)], [])
def laws_lkUpTo_step0 (fuel : Nat) (g0 : laws_lkUpTo_V0 → Option ((Int × Unit) × Unit)) (v : laws_lkUpTo_V0) : Option ((Int × Unit) × Unit) :=
 cond (decide (v.1 < (zz (List.length v.2.1))))
 (tst (decide (0 ≤ v.1)) <|
  tst (decide (v.1 < (zz (List.length v.2.1)))) <|
  cond (decide (List.getD v.2.1 (Int.toNat v.1) 0 ≤ v.2.2.1))
  (g0 (w64 (v.1 + (1 : Int)), v.2.1, v.2.2.1, w64 (v.2.2.2 + (1 : Int))))
  (g0 (w64 (v.1 + (1 : Int)), v.2.1, v.2.2.1, v.2.2.2)))
 (some (((v.2.2.2, ()), ())))
def laws_lkUpTo_st0 (fuel : Nat) (g0 : laws_lkUpTo_V0 → Option ((Int × Unit) × Unit)) : laws_lkUpTo_V0 → Option ((Int × Unit) × Unit) := laws_lkUpTo_step0 fuel g0
theorem laws_lkUpTo_lp0 (fuel : Nat) (G) : laws_lkUpTo_c.lp (laws_lkUpTo_T fuel) 0 fuel G (endF laws_lkUpTo_rv laws_lkUpTo_rs) 0 laws_lkUpTo_enc0 = iter (laws_lkUpTo_st0 fuel) fuel := C.lp_iter fun g v => by kernel_rfl
def laws_lkUpTo_pre (fuel : Nat) (X0 : laws_lkUpTo_V0 → Option ((Int × Unit) × Unit)) (x0 : List Int) (x1 : Int) : Option ((Int × Unit) × Unit) :=
 X0 ((0 : Int), x0, x1, (0 : Int))
def laws_lkUpTo_fn (fuel : Nat) (x : (((List Int) × Unit) × ((Int × Unit) × Unit))) : Option ((Int × Unit) × Unit) := laws_lkUpTo_pre fuel (iter (laws_lkUpTo_st0 fuel) fuel) x.1.1 x.2.1.1
theorem laws_lkUpTo_run (fuel : Nat) (x : PsT laws_lkUpTo_ps) : run (laws_lkUpTo_T fuel) 0 fuel laws_lkUpTo_c (env0 (svPs laws_lkUpTo_ps x) 0) [] (endF laws_lkUpTo_rv laws_lkUpTo_rs) = laws_lkUpTo_fn fuel x :=
  (show run (laws_lkUpTo_T fuel) 0 fuel laws_lkUpTo_c (env0 (svPs laws_lkUpTo_ps x) 0) [] (endF laws_lkUpTo_rv laws_lkUpTo_rs) = laws_lkUpTo_pre fuel (laws_lkUpTo_c.lp (laws_lkUpTo_T fuel) 0 fuel (fun _ _ _ => none) (endF laws_lkUpTo_rv laws_lkUpTo_rs) 0 laws_lkUpTo_enc0) x.1.1 x.2.1.1 by kernel_rfl).trans (by rw [laws_lkUpTo_lp0]; rfl)
def laws_lkUpTo_tf (fuel : Nat) : TF := ⟨laws_lkUpTo_ps, laws_lkUpTo_rs, true, laws_lkUpTo_fn fuel⟩
theorem laws_lkUpTo_spec (fuel : Nat) : FnSpec Tryz.prog 51 (laws_lkUpTo_tf fuel) :=
  fn_spec (T := laws_lkUpTo_T fuel) (c := bodyOf Tryz.f51) (fn := Tryz.f51) (TabOK.of (entNil) (methNil)) mixed (by kernel_rfl) (by kernel_rfl) laws_lkUpTo_l (by kernel_rfl) (Nat.le_of_ble_eq_true (by kernel_rfl)) (rv := laws_lkUpTo_rv) (by kernel_rfl) (laws_lkUpTo_run fuel)
theorem laws_lkUpTo_ok (fuel : Nat) : EntryOK Tryz.prog 51 (laws_lkUpTo_tf fuel).te := EntryOK.tf rfl (laws_lkUpTo_spec fuel) (isFn (fn := Tryz.f51) (by kernel_rfl) (by kernel_rfl) (by kernel_rfl))
inductive spec_RoughJoin_V0 where
  | c0 (v : (List (List Int)) × (List Int) × (List Int) × (List Int))
  | c1 (v : (List (List Int)) × (List Int) × (List Int) × (List Int))
  | c2 (v : (List (List Int)) × (List Int) × (List Int) × (List Int))
  | c3 (v : (List (List Int)) × (List Int) × (List Int) × (List Int))
inductive spec_RoughJoin_V1 where
  | c0 (v : (Int) × (List (List Int)) × (List Int) × (List Int) × (List Int))
  | c1 (v : (Int) × (List (List Int)) × (List Int) × (List Int) × (List Int))
  | c2 (v : (Int) × (List (List Int)) × (List Int) × (List Int) × (List Int))
end Go.Proofs.YtdgdoeknpakmlaaGreat.Den
namespace Go.Proofs.YtdgdoeknpakmlaaGreat.Den
open Go Go.RowKit
set_option linter.unusedVariables false
set_option linter.unusedSimpArgs false
def impl_RankBelow_T (fuel : Nat) : Tab := Tab.of [(86, (impl_isThing_tf fuel).te), (94, (impl_RankOk_tf fuel).te), (95, (impl_Rank_upTo_tf fuel).te)] []
abbrev impl_RankBelow_ps : List Pm := [{ cs := [(Kd.list KP, false), (I6, false)], ag := true }, { cs := [(I6, false)], ag := false }]
abbrev impl_RankBelow_rs : List Pm := [{ cs := [(I6, false)], ag := false }, { cs := [(I6, false)], ag := false }]
def impl_RankBelow_ann : List Norm := []
noncomputable def impl_RankBelow_c : C := irOf Tryz.prog Tryz.f57 [] impl_RankBelow_ann []
theorem impl_RankBelow_l : lightC Tryz.prog [] Tryz.f57.ntmps impl_RankBelow_ann [] 0 (bodyOf Tryz.f57) = some (impl_RankBelow_c, 0) := by kernel_rfl
def impl_RankBelow_rv : List (Nat × Option (Nat × Bool)) := [(4, none), (5, none)]
def impl_RankBelow_pre (fuel : Nat) (x0 : LP) (x1 : Int) (x2 : Int) : Option ((Int × Unit) × ((Int × Unit) × Unit)) :=
 Option.bind (impl_RankOk_fn fuel ((x0, x1, ()), ())) fun y_1 =>
 cond (!y_1.1.1)
  (some ((((-1 : Int), ()), ((-1 : Int), ()), ())))
  (Option.bind (impl_isThing_fn fuel ((x2, ()), ())) fun y_3 =>
   cond (!y_3.1.1)
    (some ((((-1 : Int), ()), ((-1 : Int), ()), ())))
    (Option.bind (impl_Rank_upTo_fn fuel ((x0, x1, ()), (x2, ()), ())) fun y_5 =>
     some (((y_5.1.1, ()), (y_5.2.1.1, ()), ()))))
def impl_RankBelow_fn (fuel : Nat) (x : ((LP × (Int × Unit)) × ((Int × Unit) × Unit))) : Option ((Int × Unit) × ((Int × Unit) × Unit)) := impl_RankBelow_pre fuel x.1.1 x.1.2.1 x.2.1.1
theorem impl_RankBelow_run (fuel : Nat) (x : PsT impl_RankBelow_ps) : run (impl_RankBelow_T fuel) 0 fuel impl_RankBelow_c (env0 (svPs impl_RankBelow_ps x) 0) [] (endF impl_RankBelow_rv impl_RankBelow_rs) = impl_RankBelow_fn fuel x := by kernel_rfl
def impl_RankBelow_tf (fuel : Nat) : TF := ⟨impl_RankBelow_ps, impl_RankBelow_rs, true, impl_RankBelow_fn fuel⟩
theorem impl_RankBelow_spec (fuel : Nat) : FnSpec Tryz.prog 57 (impl_RankBelow_tf fuel) :=
  fn_spec (T := impl_RankBelow_T fuel) (c := bodyOf Tryz.f57) (fn := Tryz.f57) (TabOK.of (entCons (impl_isThing_ok fuel) (entCons (impl_RankOk_ok fuel) (entCons (impl_Rank_upTo_ok fuel) entNil))) (methNil)) mixed (by kernel_rfl) (by kernel_rfl) impl_RankBelow_l (by kernel_rfl) (Nat.le_of_ble_eq_true (by kernel_rfl)) (rv := impl_RankBelow_rv) (by kernel_rfl) (impl_RankBelow_run fuel)
theorem impl_RankBelow_ok (fuel : Nat) : EntryOK Tryz.prog 57 (impl_RankBelow_tf fuel).te := EntryOK.tf rfl (impl_RankBelow_spec fuel) (isFn (fn := Tryz.f57) (by kernel_rfl) (by kernel_rfl) (by kernel_rfl))
abbrev spec_l71Rank_R := Option (((List Int) × (Int × Unit)) × ((LP × (Int × Unit)) × Unit))
def spec_l71Rank_T (fuel : Nat) : Tab := Tab.of [(77, (spec_l71Things_tf fuel).te), (78, (spec_l6Rd_pick_tf fuel).te), (111, (spec_RankAdd_tf fuel).te)] []
abbrev spec_l71Rank_ps : List Pm := []
abbrev spec_l71Rank_rs : List Pm := [{ cs := [(Kd.list KP, true), (I6, false)], ag := true }]
abbrev spec_l71Rank_rf : Rf := Rf.cells [(Kd.list (Kd.int IntKind.u8), false), (I6, false)] 153
def spec_l71Rank_ann : List Norm := [{ live := [5, 4, 3, 0, 2], fix := [(3, some 0, KP, true)] }]
noncomputable def spec_l71Rank_c : C := irOf Tryz.prog Tryz.f157 [35, 36, 59] spec_l71Rank_ann []
theorem spec_l71Rank_l : lightC Tryz.prog [35, 36, 59] Tryz.f157.ntmps spec_l71Rank_ann [] 0 (bodyOf Tryz.f157) = some (spec_l71Rank_c, 1) := by kernel_rfl
def spec_l71Rank_rv : List (Nat × Option (Nat × Bool)) := [(2, some (2, true))]
abbrev spec_l71Rank_V0 := (Int) × (List Int) × (Int) × (List Int) × (Int) × (Int) × LP
def spec_l71Rank_enc0 (v : spec_l71Rank_V0) : Env × Heap := ([(5, SV.int .i64 v.1), (4, SV.own 1), (3, SV.ptr 2 0), (0, SV.ptr 0 0), (2, SV.ptr 3 0)], [Blk.cells [SV.es (Kd.int IntKind.u8) v.2.1, SV.int .i64 v.2.2.1] 0 2, Blk.arr I6 v.2.2.2.1 0, Blk.cells [SV.own 4, SV.int .i64 v.2.2.2.2.1] 0 2, Blk.cells [SV.nils, SV.int .i64 v.2.2.2.2.2.1] 0 2, Blk.arr KP v.2.2.2.2.2.2 0])
def spec_l71Rank_step0 (fuel : Nat) (g0 : spec_l71Rank_V0 → spec_l71Rank_R) (v : spec_l71Rank_V0) : spec_l71Rank_R :=
 cond (decide (v.1 < (zz (List.length v.2.2.2.1))))
 (tst (decide (0 ≤ v.1)) <|
  tst (decide (v.1 < (zz (List.length v.2.2.2.1)))) <|
  tst (decide (Int.toNat v.1 < List.length v.2.2.2.1)) <|
  Option.bind (spec_RankAdd_fn fuel ((v.2.2.2.2.2.2, v.2.2.2.2.1, ()), (List.getD v.2.2.2.1 (Int.toNat v.1) 0, ()), ())) fun y_2 =>
  g0 (w64 (v.1 + (1 : Int)), v.2.1, v.2.2.1, v.2.2.2.1, y_2.1.2.1, v.2.2.2.2.2.1, y_2.1.1))
 (Option.bind (spec_l6Rd_pick_fn fuel ((v.2.1, v.2.2.1, ()), ((24 : Int), ()), ())) fun y_2 =>
  cond (y_2.2.1.1 == (0 : Int))
   (some (((y_2.1.1, y_2.1.2.1, ()), (v.2.2.2.2.2.2, w64 (v.2.2.2.2.1 + (1 : Int)), ()), ())))
   (cond (y_2.2.1.1 == (1 : Int))
    (Option.bind (spec_l6Rd_pick_fn fuel ((y_2.1.1, y_2.1.2.1, ()), ((3 : Int), ()), ())) fun y_5 =>
     tst (decide (0 ≤ y_5.2.1.1)) <|
      tst (decide (y_5.2.1.1 < (zz 3))) <|
      tst (decide (List.length v.2.2.2.2.2.2 + 1 < LIM)) <|
      some (((y_5.1.1, y_5.1.2.1, ()), (v.2.2.2.2.2.2 ++ [(List.getD [(127 : Int), (128 : Int), (5 : Int)] (Int.toNat y_5.2.1.1) 0, (1 : Int), ())], w64 (v.2.2.2.2.1 + (1 : Int)), ()), ())))
    (cond (y_2.2.1.1 == (2 : Int))
     (Option.bind (spec_l6Rd_pick_fn fuel ((y_2.1.1, y_2.1.2.1, ()), ((3 : Int), ()), ())) fun y_6 =>
      Option.bind (spec_l6Rd_pick_fn fuel ((y_6.1.1, y_6.1.2.1, ()), ((9 : Int), ()), ())) fun y_7 =>
       tst (decide (1 + List.length v.2.2.2.2.2.2 < LIM)) <|
        some (((y_7.1.1, y_7.1.2.1, ()), ([(y_6.2.1.1, w64 ((1 : Int) + y_7.2.1.1), ())] ++ v.2.2.2.2.2.2, v.2.2.2.2.1, ()), ())))
     (some (((y_2.1.1, y_2.1.2.1, ()), (v.2.2.2.2.2.2, v.2.2.2.2.1, ()), ()))))))
def spec_l71Rank_st0 (fuel : Nat) (g0 : spec_l71Rank_V0 → spec_l71Rank_R) : spec_l71Rank_V0 → spec_l71Rank_R := spec_l71Rank_step0 fuel g0
theorem spec_l71Rank_lp0 (fuel : Nat) (G) : spec_l71Rank_c.lp (spec_l71Rank_T fuel) 1 fuel G (endU spec_l71Rank_rv spec_l71Rank_rf spec_l71Rank_rs) 0 spec_l71Rank_enc0 = iter (spec_l71Rank_st0 fuel) fuel := C.lp_iter fun g v => by kernel_rfl
def spec_l71Rank_pre (fuel : Nat) (X0 : spec_l71Rank_V0 → spec_l71Rank_R) (d0 : List Int) (d1 : Int) : spec_l71Rank_R :=
 Option.bind (spec_l71Things_fn fuel ((d0, d1, ()), ((40 : Int), ()), ())) fun y_1 =>
 X0 ((0 : Int), y_1.1.1, y_1.1.2.1, y_1.2.1.1, (0 : Int), (0 : Int), [])
def spec_l71Rank_fn (fuel : Nat) (z : ((List Int) × (Int × Unit)) × Unit) : spec_l71Rank_R := spec_l71Rank_pre fuel (iter (spec_l71Rank_st0 fuel) fuel) z.1.1 z.1.2.1
theorem spec_l71Rank_run (fuel : Nat) (c : Rf.T spec_l71Rank_rf) (x : PsT spec_l71Rank_ps) : run (spec_l71Rank_T fuel) 1 fuel spec_l71Rank_c ((0, .ptr 0 0) :: env0 (svPs spec_l71Rank_ps x) 1) [spec_l71Rank_rf.blk c] (endU spec_l71Rank_rv spec_l71Rank_rf spec_l71Rank_rs) = spec_l71Rank_fn fuel (c, x) :=
  (show run (spec_l71Rank_T fuel) 1 fuel spec_l71Rank_c ((0, .ptr 0 0) :: env0 (svPs spec_l71Rank_ps x) 1) [spec_l71Rank_rf.blk c] (endU spec_l71Rank_rv spec_l71Rank_rf spec_l71Rank_rs) = spec_l71Rank_pre fuel (spec_l71Rank_c.lp (spec_l71Rank_T fuel) 1 fuel (fun _ _ _ => none) (endU spec_l71Rank_rv spec_l71Rank_rf spec_l71Rank_rs) 0 spec_l71Rank_enc0) c.1 c.2.1 by kernel_rfl).trans (by rw [spec_l71Rank_lp0]; rfl)
def spec_l71Rank_tf (fuel : Nat) : TFU := ⟨spec_l71Rank_rf, spec_l71Rank_ps, spec_l71Rank_rs, spec_l71Rank_fn fuel⟩
theorem spec_l71Rank_spec (fuel : Nat) : FnSpecU Tryz.prog 157 (spec_l71Rank_tf fuel) :=
  fn_specU (T := spec_l71Rank_T fuel) (c := bodyOf Tryz.f157) (fn := Tryz.f157) (TabOK.of (entCons (spec_l71Things_ok fuel) (entCons (spec_l6Rd_pick_ok fuel) (entCons (spec_RankAdd_ok fuel) entNil))) (methNil)) mixed (by kernel_rfl) (by kernel_rfl) spec_l71Rank_l (by kernel_rfl) (Nat.le_of_ble_eq_true (by kernel_rfl)) (rv := spec_l71Rank_rv) (by kernel_rfl) (spec_l71Rank_run fuel)
theorem spec_l71Rank_ok (fuel : Nat) : EntryOK Tryz.prog 157 (spec_l71Rank_tf fuel).te := EntryOK.tfu (spec_l71Rank_spec fuel) (isFn (fn := Tryz.f157) (by kernel_rfl) (by kernel_rfl) (by kernel_rfl))
def spec_DrawRankAdd_T (fuel : Nat) : Tab := Tab.of [(76, (spec_l6Open_tf fuel).te), (88, (spec_l71Thing_tf fuel).te), (157, (spec_l71Rank_tf fuel).te)] []
abbrev spec_DrawRankAdd_ps : List Pm := [{ cs := [(Kd.list (Kd.int IntKind.u8), false)], ag := false }]
abbrev spec_DrawRankAdd_rs : List Pm := [{ cs := [(Kd.list KP, true), (I6, false)], ag := true }, { cs := [(I6, false)], ag := false }]
def spec_DrawRankAdd_ann : List Norm := []
noncomputable def spec_DrawRankAdd_c : C := irOf Tryz.prog Tryz.f106 [] spec_DrawRankAdd_ann []
theorem spec_DrawRankAdd_l : lightC Tryz.prog [] Tryz.f106.ntmps spec_DrawRankAdd_ann [] 0 (bodyOf Tryz.f106) = some (spec_DrawRankAdd_c, 0) := by kernel_rfl
def spec_DrawRankAdd_rv : List (Nat × Option (Nat × Bool)) := [(2, some (2, true)), (3, none)]
def spec_DrawRankAdd_pre (fuel : Nat) (x0 : List Int) : Option ((LP × (Int × Unit)) × ((Int × Unit) × Unit)) :=
 Option.bind (spec_l6Open_fn fuel ((x0, ()), ())) fun y_1 =>
 Option.bind (spec_l71Rank_fn fuel ((y_1.1, y_1.2.1, ()), ())) fun y_2 =>
  Option.bind (spec_l71Thing_fn fuel ((y_2.1.1, y_2.1.2.1, ()), ())) fun y_3 =>
   some (((y_2.2.1.1, y_2.2.1.2.1, ()), (y_3.2.1.1, ()), ()))
def spec_DrawRankAdd_fn (fuel : Nat) (x : (((List Int) × Unit) × Unit)) : Option ((LP × (Int × Unit)) × ((Int × Unit) × Unit)) := spec_DrawRankAdd_pre fuel x.1.1
theorem spec_DrawRankAdd_run (fuel : Nat) (x : PsT spec_DrawRankAdd_ps) : run (spec_DrawRankAdd_T fuel) 0 fuel spec_DrawRankAdd_c (env0 (svPs spec_DrawRankAdd_ps x) 0) [] (endF spec_DrawRankAdd_rv spec_DrawRankAdd_rs) = spec_DrawRankAdd_fn fuel x := by kernel_rfl
def spec_DrawRankAdd_tf (fuel : Nat) : TF := ⟨spec_DrawRankAdd_ps, spec_DrawRankAdd_rs, true, spec_DrawRankAdd_fn fuel⟩
theorem spec_DrawRankAdd_spec (fuel : Nat) : FnSpec Tryz.prog 106 (spec_DrawRankAdd_tf fuel) :=
  fn_spec (T := spec_DrawRankAdd_T fuel) (c := bodyOf Tryz.f106) (fn := Tryz.f106) (TabOK.of (entCons (spec_l6Open_ok fuel) (entCons (spec_l71Thing_ok fuel) (entCons (spec_l71Rank_ok fuel) entNil))) (methNil)) mixed (by kernel_rfl) (by kernel_rfl) spec_DrawRankAdd_l (by kernel_rfl) (Nat.le_of_ble_eq_true (by kernel_rfl)) (rv := spec_DrawRankAdd_rv) (by kernel_rfl) (spec_DrawRankAdd_run fuel)
theorem spec_DrawRankAdd_ok (fuel : Nat) : EntryOK Tryz.prog 106 (spec_DrawRankAdd_tf fuel).te := EntryOK.tf rfl (spec_DrawRankAdd_spec fuel) (isFn (fn := Tryz.f106) (by kernel_rfl) (by kernel_rfl) (by kernel_rfl))
def spec_DrawRankBelow_T (fuel : Nat) : Tab := Tab.of [(106, (spec_DrawRankAdd_tf fuel).te)] []
abbrev spec_DrawRankBelow_ps : List Pm := [{ cs := [(Kd.list (Kd.int IntKind.u8), false)], ag := false }]
abbrev spec_DrawRankBelow_rs : List Pm := [{ cs := [(Kd.list KP, true), (I6, false)], ag := true }, { cs := [(I6, false)], ag := false }]
def spec_DrawRankBelow_ann : List Norm := []
noncomputable def spec_DrawRankBelow_c : C := irOf Tryz.prog Tryz.f59 [] spec_DrawRankBelow_ann []
theorem spec_DrawRankBelow_l : lightC Tryz.prog [] Tryz.f59.ntmps spec_DrawRankBelow_ann [] 0 (bodyOf Tryz.f59) = some (spec_DrawRankBelow_c, 0) := by kernel_rfl
def spec_DrawRankBelow_rv : List (Nat × Option (Nat × Bool)) := [(2, some (2, true)), (3, none)]
def spec_DrawRankBelow_pre (fuel : Nat) (x0 : List Int) : Option ((LP × (Int × Unit)) × ((Int × Unit) × Unit)) :=
 Option.bind (spec_DrawRankAdd_fn fuel ((x0, ()), ())) fun y_1 =>
 some (((y_1.1.1, y_1.1.2.1, ()), (y_1.2.1.1, ()), ()))
def spec_DrawRankBelow_fn (fuel : Nat) (x : (((List Int) × Unit) × Unit)) : Option ((LP × (Int × Unit)) × ((Int × Unit) × Unit)) := spec_DrawRankBelow_pre fuel x.1.1
theorem spec_DrawRankBelow_run (fuel : Nat) (x : PsT spec_DrawRankBelow_ps) : run (spec_DrawRankBelow_T fuel) 0 fuel spec_DrawRankBelow_c (env0 (svPs spec_DrawRankBelow_ps x) 0) [] (endF spec_DrawRankBelow_rv spec_DrawRankBelow_rs) = spec_DrawRankBelow_fn fuel x := by kernel_rfl
def spec_DrawRankBelow_tf (fuel : Nat) : TF := ⟨spec_DrawRankBelow_ps, spec_DrawRankBelow_rs, true, spec_DrawRankBelow_fn fuel⟩
theorem spec_DrawRankBelow_spec (fuel : Nat) : FnSpec Tryz.prog 59 (spec_DrawRankBelow_tf fuel) :=
  fn_spec (T := spec_DrawRankBelow_T fuel) (c := bodyOf Tryz.f59) (fn := Tryz.f59) (TabOK.of (entCons (spec_DrawRankAdd_ok fuel) entNil) (methNil)) mixed (by kernel_rfl) (by kernel_rfl) spec_DrawRankBelow_l (by kernel_rfl) (Nat.le_of_ble_eq_true (by kernel_rfl)) (rv := spec_DrawRankBelow_rv) (by kernel_rfl) (spec_DrawRankBelow_run fuel)
theorem spec_DrawRankBelow_ok (fuel : Nat) : EntryOK Tryz.prog 59 (spec_DrawRankBelow_tf fuel).te := EntryOK.tf rfl (spec_DrawRankBelow_spec fuel) (isFn (fn := Tryz.f59) (by kernel_rfl) (by kernel_rfl) (by kernel_rfl))
end Go.Proofs.YtdgdoeknpakmlaaGreat.Den
namespace Go.Proofs.YtdgdoeknpakmlaaGreat.Den
open Go Go.RowKit
set_option linter.unusedVariables false
set_option linter.unusedSimpArgs false
def laws_FnRankFew_T (fuel : Nat) : Tab := Tab.of [(28, (spec_DrawSumOf_tf fuel).te), (29, (spec_SumOf_tf fuel).te), (30, (impl_SumOf_tf fuel).te), (31, (laws_lkSum_tf fuel).te), (45, (laws_lkFine_tf fuel).te), (51, (laws_lkUpTo_tf fuel).te), (57, (impl_RankBelow_tf fuel).te), (59, (spec_DrawRankBelow_tf fuel).te)] []
abbrev laws_FnRankFew_ps : List Pm := [{ cs := [(Kd.list (Kd.int IntKind.u8), false)], ag := false }, { cs := [(Kd.list (Kd.int IntKind.u8), false)], ag := false }]
abbrev laws_FnRankFew_rs : List Pm := [{ cs := [(Kd.bool, false)], ag := false }]
def laws_FnRankFew_ann : List Norm := []
noncomputable def laws_FnRankFew_c : C := irOf Tryz.prog Tryz.f20 [23, 24, 27, 37, 42, 51, 72, 78, 88] laws_FnRankFew_ann []
theorem laws_FnRankFew_l : lightC Tryz.prog [23, 24, 27, 37, 42, 51, 72, 78, 88] Tryz.f20.ntmps laws_FnRankFew_ann [] 0 (bodyOf Tryz.f20) = some (laws_FnRankFew_c, 0) := by kernel_rfl
def laws_FnRankFew_rv : List (Nat × Option (Nat × Bool)) := [(4, none)]
def laws_FnRankFew_pre (fuel : Nat) (x0 : List Int) (x1 : List Int) : Option ((Bool × Unit) × Unit) :=
 cond (decide ((zz (List.length x0)) > (1048576 : Int)))
 (some (((true, ()), ())))
 (cond (decide ((zz (List.length x1)) > (1048576 : Int)))
  (some (((true, ()), ())))
  (Option.bind (spec_DrawSumOf_fn fuel ((x0, ()), ())) fun y_3 =>
   Option.bind (laws_lkFine_fn fuel ((y_3.1.1, ()), ())) fun y_4 =>
    Option.bind (spec_DrawRankBelow_fn fuel ((x1, ()), ())) fun y_5 =>
     cond (decide ((zz (List.length y_4.1.1)) ≥ (8 : Int)))
      (tst (decide ((7 : Int) ≤ (zz (List.length y_4.1.1)))) <|
       Option.bind (impl_SumOf_fn fuel ((List.drop 0 (List.take (Int.toNat (7 : Int)) y_4.1.1), ()), ())) fun y_7 =>
       Option.bind (spec_SumOf_fn fuel ((List.drop 0 (List.take (Int.toNat (7 : Int)) y_4.1.1), ()), ())) fun y_8 =>
        cond (!y_7.2.1.1 == y_8.2.1.1)
         (cond (y_7.2.1.1 == y_8.2.1.1)
          (Option.bind (laws_lkSum_fn fuel ((y_7.1.1, y_7.1.2.1, y_7.1.2.2.1, y_7.1.2.2.2.1, y_7.1.2.2.2.2.1, y_7.1.2.2.2.2.2.1, y_7.1.2.2.2.2.2.2.1, ()), (y_8.1.1, y_8.1.2.1, y_8.1.2.2.1, y_8.1.2.2.2.1, y_8.1.2.2.2.2.1, y_8.1.2.2.2.2.2.1, y_8.1.2.2.2.2.2.2.1, ()), ())) fun y_11 =>
           some (((y_11.1.1, ()), ())))
          (some (((false, ()), ()))))
         (Option.bind (laws_lkSum_fn fuel ((y_7.1.1, y_7.1.2.1, y_7.1.2.2.1, y_7.1.2.2.2.1, y_7.1.2.2.2.2.1, y_7.1.2.2.2.2.2.1, y_7.1.2.2.2.2.2.2.1, ()), (y_8.1.1, y_8.1.2.1, y_8.1.2.2.1, y_8.1.2.2.2.1, y_8.1.2.2.2.2.1, y_8.1.2.2.2.2.2.1, y_8.1.2.2.2.2.2.2.1, ()), ())) fun y_10 =>
          cond (!y_10.1.1)
           (cond (y_7.2.1.1 == y_8.2.1.1)
            (Option.bind (laws_lkSum_fn fuel ((y_7.1.1, y_7.1.2.1, y_7.1.2.2.1, y_7.1.2.2.2.1, y_7.1.2.2.2.2.1, y_7.1.2.2.2.2.2.1, y_7.1.2.2.2.2.2.2.1, ()), (y_8.1.1, y_8.1.2.1, y_8.1.2.2.1, y_8.1.2.2.2.1, y_8.1.2.2.2.2.1, y_8.1.2.2.2.2.2.1, y_8.1.2.2.2.2.2.2.1, ()), ())) fun y_13 =>
             some (((y_13.1.1, ()), ())))
            (some (((false, ()), ()))))
           (cond (!y_7.2.1.1)
            (cond (y_7.2.1.1 == y_8.2.1.1)
             (Option.bind (laws_lkSum_fn fuel ((y_7.1.1, y_7.1.2.1, y_7.1.2.2.1, y_7.1.2.2.2.1, y_7.1.2.2.2.2.1, y_7.1.2.2.2.2.2.1, y_7.1.2.2.2.2.2.2.1, ()), (y_8.1.1, y_8.1.2.1, y_8.1.2.2.1, y_8.1.2.2.2.1, y_8.1.2.2.2.2.1, y_8.1.2.2.2.2.2.1, y_8.1.2.2.2.2.2.2.1, ()), ())) fun y_14 =>
              some (((y_14.1.1, ()), ())))
             (some (((false, ()), ()))))
            (cond (decide (y_5.2.1.1 < (0 : Int)))
             (cond (y_7.2.1.1 == y_8.2.1.1)
              (Option.bind (laws_lkSum_fn fuel ((y_7.1.1, y_7.1.2.1, y_7.1.2.2.1, y_7.1.2.2.2.1, y_7.1.2.2.2.2.1, y_7.1.2.2.2.2.2.1, y_7.1.2.2.2.2.2.2.1, ()), (y_8.1.1, y_8.1.2.1, y_8.1.2.2.1, y_8.1.2.2.2.1, y_8.1.2.2.2.2.1, y_8.1.2.2.2.2.2.1, y_8.1.2.2.2.2.2.2.1, ()), ())) fun y_15 =>
               some (((y_15.1.1, ()), ())))
              (some (((false, ()), ()))))
             (cond (decide (y_5.2.1.1 ≥ (64 : Int)))
              (cond (y_7.2.1.1 == y_8.2.1.1)
               (Option.bind (laws_lkSum_fn fuel ((y_7.1.1, y_7.1.2.1, y_7.1.2.2.1, y_7.1.2.2.2.1, y_7.1.2.2.2.2.1, y_7.1.2.2.2.2.2.1, y_7.1.2.2.2.2.2.2.1, ()), (y_8.1.1, y_8.1.2.1, y_8.1.2.2.1, y_8.1.2.2.2.1, y_8.1.2.2.2.2.1, y_8.1.2.2.2.2.2.1, y_8.1.2.2.2.2.2.2.1, ()), ())) fun y_16 =>
                some (((y_16.1.1, ()), ())))
               (some (((false, ()), ()))))
              (Option.bind (impl_RankBelow_fn fuel ((y_7.1.2.2.2.2.2.1, y_7.1.2.2.2.2.2.2.1, ()), (y_5.2.1.1, ()), ())) fun y_15 =>
               cond (y_15.1.1 == y_15.2.1.1)
                (Option.bind (laws_lkUpTo_fn fuel ((List.drop 0 (List.take (Int.toNat (7 : Int)) y_4.1.1), ()), (y_5.2.1.1, ()), ())) fun y_17 =>
                 some (((y_15.1.1 == y_17.1.1, ()), ())))
                (some (((false, ()), ())))))))))
      (Option.bind (impl_SumOf_fn fuel ((y_4.1.1, ()), ())) fun y_7 =>
       Option.bind (spec_SumOf_fn fuel ((y_4.1.1, ()), ())) fun y_8 =>
        cond (!y_7.2.1.1 == y_8.2.1.1)
         (cond (y_7.2.1.1 == y_8.2.1.1)
          (Option.bind (laws_lkSum_fn fuel ((y_7.1.1, y_7.1.2.1, y_7.1.2.2.1, y_7.1.2.2.2.1, y_7.1.2.2.2.2.1, y_7.1.2.2.2.2.2.1, y_7.1.2.2.2.2.2.2.1, ()), (y_8.1.1, y_8.1.2.1, y_8.1.2.2.1, y_8.1.2.2.2.1, y_8.1.2.2.2.2.1, y_8.1.2.2.2.2.2.1, y_8.1.2.2.2.2.2.2.1, ()), ())) fun y_11 =>
           some (((y_11.1.1, ()), ())))
          (some (((false, ()), ()))))
         (Option.bind (laws_lkSum_fn fuel ((y_7.1.1, y_7.1.2.1, y_7.1.2.2.1, y_7.1.2.2.2.1, y_7.1.2.2.2.2.1, y_7.1.2.2.2.2.2.1, y_7.1.2.2.2.2.2.2.1, ()), (y_8.1.1, y_8.1.2.1, y_8.1.2.2.1, y_8.1.2.2.2.1, y_8.1.2.2.2.2.1, y_8.1.2.2.2.2.2.1, y_8.1.2.2.2.2.2.2.1, ()), ())) fun y_10 =>
          cond (!y_10.1.1)
           (cond (y_7.2.1.1 == y_8.2.1.1)
            (Option.bind (laws_lkSum_fn fuel ((y_7.1.1, y_7.1.2.1, y_7.1.2.2.1, y_7.1.2.2.2.1, y_7.1.2.2.2.2.1, y_7.1.2.2.2.2.2.1, y_7.1.2.2.2.2.2.2.1, ()), (y_8.1.1, y_8.1.2.1, y_8.1.2.2.1, y_8.1.2.2.2.1, y_8.1.2.2.2.2.1, y_8.1.2.2.2.2.2.1, y_8.1.2.2.2.2.2.2.1, ()), ())) fun y_13 =>
             some (((y_13.1.1, ()), ())))
            (some (((false, ()), ()))))
           (cond (!y_7.2.1.1)
            (cond (y_7.2.1.1 == y_8.2.1.1)
             (Option.bind (laws_lkSum_fn fuel ((y_7.1.1, y_7.1.2.1, y_7.1.2.2.1, y_7.1.2.2.2.1, y_7.1.2.2.2.2.1, y_7.1.2.2.2.2.2.1, y_7.1.2.2.2.2.2.2.1, ()), (y_8.1.1, y_8.1.2.1, y_8.1.2.2.1, y_8.1.2.2.2.1, y_8.1.2.2.2.2.1, y_8.1.2.2.2.2.2.1, y_8.1.2.2.2.2.2.2.1, ()), ())) fun y_14 =>
              some (((y_14.1.1, ()), ())))
             (some (((false, ()), ()))))
            (cond (decide (y_5.2.1.1 < (0 : Int)))
             (cond (y_7.2.1.1 == y_8.2.1.1)
              (Option.bind (laws_lkSum_fn fuel ((y_7.1.1, y_7.1.2.1, y_7.1.2.2.1, y_7.1.2.2.2.1, y_7.1.2.2.2.2.1, y_7.1.2.2.2.2.2.1, y_7.1.2.2.2.2.2.2.1, ()), (y_8.1.1, y_8.1.2.1, y_8.1.2.2.1, y_8.1.2.2.2.1, y_8.1.2.2.2.2.1, y_8.1.2.2.2.2.2.1, y_8.1.2.2.2.2.2.2.1, ()), ())) fun y_15 =>
               some (((y_15.1.1, ()), ())))
              (some (((false, ()), ()))))
             (cond (decide (y_5.2.1.1 ≥ (64 : Int)))
              (cond (y_7.2.1.1 == y_8.2.1.1)
               (Option.bind (laws_lkSum_fn fuel ((y_7.1.1, y_7.1.2.1, y_7.1.2.2.1, y_7.1.2.2.2.1, y_7.1.2.2.2.2.1, y_7.1.2.2.2.2.2.1, y_7.1.2.2.2.2.2.2.1, ()), (y_8.1.1, y_8.1.2.1, y_8.1.2.2.1, y_8.1.2.2.2.1, y_8.1.2.2.2.2.1, y_8.1.2.2.2.2.2.1, y_8.1.2.2.2.2.2.2.1, ()), ())) fun y_16 =>
                some (((y_16.1.1, ()), ())))
               (some (((false, ()), ()))))
              (Option.bind (impl_RankBelow_fn fuel ((y_7.1.2.2.2.2.2.1, y_7.1.2.2.2.2.2.2.1, ()), (y_5.2.1.1, ()), ())) fun y_15 =>
               cond (y_15.1.1 == y_15.2.1.1)
                (Option.bind (laws_lkUpTo_fn fuel ((y_4.1.1, ()), (y_5.2.1.1, ()), ())) fun y_17 =>
                 some (((y_15.1.1 == y_17.1.1, ()), ())))
                (some (((false, ()), ())))))))))))
def laws_FnRankFew_fn (fuel : Nat) (x : (((List Int) × Unit) × (((List Int) × Unit) × Unit))) : Option ((Bool × Unit) × Unit) := laws_FnRankFew_pre fuel x.1.1 x.2.1.1
theorem laws_FnRankFew_run (fuel : Nat) (x : PsT laws_FnRankFew_ps) : run (laws_FnRankFew_T fuel) 0 fuel laws_FnRankFew_c (env0 (svPs laws_FnRankFew_ps x) 0) [] (endF laws_FnRankFew_rv laws_FnRankFew_rs) = laws_FnRankFew_fn fuel x := by kernel_rfl
def laws_FnRankFew_tf (fuel : Nat) : TF := ⟨laws_FnRankFew_ps, laws_FnRankFew_rs, true, laws_FnRankFew_fn fuel⟩
theorem laws_FnRankFew_spec (fuel : Nat) : FnSpec Tryz.prog 20 (laws_FnRankFew_tf fuel) :=
  fn_spec (T := laws_FnRankFew_T fuel) (c := bodyOf Tryz.f20) (fn := Tryz.f20) (TabOK.of (entCons (spec_DrawSumOf_ok fuel) (entCons (spec_SumOf_ok fuel) (entCons (impl_SumOf_ok fuel) (entCons (laws_lkSum_ok fuel) (entCons (laws_lkFine_ok fuel) (entCons (laws_lkUpTo_ok fuel) (entCons (impl_RankBelow_ok fuel) (entCons (spec_DrawRankBelow_ok fuel) entNil)))))))) (methNil)) mixed (by kernel_rfl) (by kernel_rfl) laws_FnRankFew_l (by kernel_rfl) (Nat.le_of_ble_eq_true (by kernel_rfl)) (rv := laws_FnRankFew_rv) (by kernel_rfl) (laws_FnRankFew_run fuel)
end Go.Proofs.YtdgdoeknpakmlaaGreat.Den


namespace Go.Proofs.YtdgdoeknpakmlaaGreat.Den
open Go
set_option linter.unusedVariables false
set_option linter.unusedSimpArgs false
abbrev Knot := Int × Int × Unit
theorem in_eq (f : Nat) (n lo hi : Int) : spec_l6In_fn f ((n, ()), (lo, ()), (hi, ()), ()) = some ((decide (lo ≤ n ∧ n ≤ hi), ()), ()) := by
  unfold spec_l6In_fn spec_l6In_pre
  by_cases h : lo ≤ n
  · simp [h]
  · simp [h]
theorem isThing_eq (f : Nat) (n : Int) : impl_isThing_fn f ((n, ()), ()) = some ((decide (0 ≤ n ∧ n ≤ 63), ()), ()) := by
  unfold impl_isThing_fn impl_isThing_pre
  by_cases h : 0 ≤ n
  · have e : (n < 64) ↔ (n ≤ 63) := by omega
    simp [h, e]
  · simp [h]
def okGo (all : Int) : List Knot → Int → Int → Bool
  | [], _, sum => sum == all
  | k :: r, before, sum => if k.1 ≤ before ∨ 128 ≤ k.1 ∨ k.2.1 < 1 ∨ 2000 < k.2.1 ∨ (k.1 < 64 ∧ w64 (all.tdiv 8) < k.2.1) then false else okGo all r k.1 (w64 (sum + k.2.1))
def okB (ks : List Knot) (all : Int) : Bool := if all < 0 ∨ 2000 < all then false else okGo all ks 0 0
theorem drop_cons {α : Type} {ks : List α} {i : Nat} (d : α) (h : i < ks.length) : ks.drop i = ks.getD i d :: ks.drop (i + 1) := by
  rw [List.drop_eq_getElem_cons h, List.getD_eq_getElem?_getD, List.getElem?_eq_getElem h]; rfl
theorem impl_ok_loop (f : Nat) (ks : List Knot) (all : Int) (hl : ks.length < 4294967296) : ∀ (d i : Nat) (before sum : Int) (fuel : Nat), i + d = ks.length → d < fuel →
    iter (impl_RankOk_st0 f) fuel ((i : Int), (ks.length : Int), ks, before, sum, ks, all) = some ((okGo all (ks.drop i) before sum, ()), ())
  | 0, i, before, sum, fuel + 1, hi, hf => by
    rw [iter]
    show impl_RankOk_step0 f _ _ = _
    unfold impl_RankOk_step0
    have h1 : ¬ ((i : Int) < (ks.length : Int)) := by omega
    have h2 : ks.drop i = [] := List.drop_eq_nil_of_le (by omega)
    simp [h1, h2, okGo]
  | d + 1, i, before, sum, fuel + 1, hi, hf => by
    rw [iter]
    show impl_RankOk_step0 f _ _ = _
    unfold impl_RankOk_step0
    have h1 : (i : Int) < (ks.length : Int) := by omega
    have h2 : (0 : Int) ≤ (i : Int) := by omega
    have h3 : w64 ((i : Int) + 1) = (i : Int) + 1 := by rw [w64_id] <;> omega
    have ih : ∀ before sum, iter (impl_RankOk_st0 f) fuel ((i : Int) + 1, (ks.length : Int), ks, before, sum, ks, all) = some ((okGo all (ks.drop (i + 1)) before sum, ()), ()) := fun b s => by
      exact_mod_cast impl_ok_loop f ks all hl d (i + 1) b s fuel (by omega) (by omega)
    rw [drop_cons (0, 0, ()) (show i < ks.length by omega)]
    simp only [h1, h2, h3, zz_eq, Int.toNat_natCast, decide_true, cond_true]
    obtain ⟨k, hk⟩ : ∃ k : Knot, ks.getD i (0, 0, ()) = k := ⟨_, rfl⟩
    simp only [hk]
    unfold okGo
    by_cases c1 : k.1 ≤ before
    · simp [c1]
    by_cases c2 : 128 ≤ k.1
    · simp [c1, c2]
    by_cases c3 : k.2.1 < 1
    · simp [c1, c2, c3]
    by_cases c4 : 2000 < k.2.1
    · simp [c1, c2, c3, c4]
    by_cases c5 : k.1 < 64
    · by_cases c6 : w64 (all.tdiv 8) < k.2.1
      · simp [c1, c2, c3, c4, c5, c6]
      · simp [c1, c2, c3, c4, c5, c6, ih]
    · simp [c1, c2, c3, c4, c5, ih]
theorem implOk_eq (f : Nat) (ks : List Knot) (all : Int) (hl : ks.length < 4294967296) (hf : ks.length < f) : impl_RankOk_fn f ((ks, all, ()), ()) = some ((okB ks all, ()), ()) := by
  unfold impl_RankOk_fn impl_RankOk_pre okB
  by_cases c1 : all < 0
  · simp [c1]
  by_cases c2 : 2000 < all
  · simp [c1, c2]
  have := impl_ok_loop f ks all hl ks.length 0 0 0 f (by omega) hf
  simp [c1, c2, zz_eq]
  simpa using this
theorem spec_ok_loop (f : Nat) (ks : List Knot) (all : Int) (hl : ks.length < 4294967296) : ∀ (d i : Nat) (before sum : Int) (fuel : Nat), i + d = ks.length → (i = 0 → before = 0) → (0 < i → before = (ks.getD (i - 1) (0, 0, ())).1 ∧ 1 ≤ before) → d < fuel →
    iter (spec_RankOk_st0 f) fuel ((i : Int), sum, ks, all) = some ((okGo all (ks.drop i) before sum, ()), ())
  | 0, i, before, sum, fuel + 1, hi, hb0, hb1, hf => by
    rw [iter]
    show spec_RankOk_step0 f _ _ = _
    unfold spec_RankOk_step0
    have h1 : ¬ ((i : Int) < (ks.length : Int)) := by omega
    have h2 : ks.drop i = [] := List.drop_eq_nil_of_le (by omega)
    simp [h1, h2, okGo, zz_eq]
  | d + 1, i, before, sum, fuel + 1, hi, hb0, hb1, hf => by
    rw [iter]
    show spec_RankOk_step0 f _ _ = _
    unfold spec_RankOk_step0
    have h1 : (i : Int) < (ks.length : Int) := by omega
    have h2 : (0 : Int) ≤ (i : Int) := by omega
    have h3 : w64 ((i : Int) + 1) = (i : Int) + 1 := by rw [w64_id] <;> omega
    have ih : ∀ sum, 1 ≤ (ks.getD i (0, 0, ())).1 → iter (spec_RankOk_st0 f) fuel ((i : Int) + 1, sum, ks, all) = some ((okGo all (ks.drop (i + 1)) (ks.getD i (0, 0, ())).1 sum, ()), ()) := fun sum h => by
      exact_mod_cast spec_ok_loop f ks all hl d (i + 1) _ sum fuel (by omega) (by omega) (fun _ => ⟨rfl, h⟩) (by omega)
    rw [drop_cons (0, 0, ()) (show i < ks.length by omega)]
    simp only [h1, h2, h3, zz_eq, Int.toNat_natCast, decide_true, cond_true, in_eq, Option.bind_some]
    have hpos : (decide ((i : Int) > 0) = true → 0 < i ∧ (0 : Int) ≤ w64 ((i : Int) - 1) ∧ w64 ((i : Int) - 1) < (ks.length : Int) ∧ (w64 ((i : Int) - 1)).toNat = i - 1) := by
      intro h
      have h0 : 0 < i := by simpa using h
      have e : w64 ((i : Int) - 1) = ((i - 1 : Nat) : Int) := by rw [w64_id] <;> omega
      rw [e]; omega
    obtain ⟨k, hk⟩ : ∃ k : Knot, ks.getD i (0, 0, ()) = k := ⟨_, rfl⟩
    simp only [hk] at ih ⊢
    unfold okGo
    by_cases c1 : 1 ≤ k.1 ∧ k.1 ≤ 127
    · by_cases c2 : 1 ≤ k.2.1 ∧ k.2.1 ≤ 2000
      · have d2 : ¬ 128 ≤ k.1 := by omega
        have d3 : ¬ k.2.1 < 1 := by omega
        have d4 : ¬ 2000 < k.2.1 := by omega
        have ih' := fun s => ih s c1.1
        simp only [c1, c2, and_self, decide_true, Bool.not_true, cond_false, d2, d3, d4, false_or]
        cases hz : decide ((i : Int) > 0) with
        | true =>
          obtain ⟨g0, g1, g2, g3⟩ := hpos hz
          obtain ⟨g4, g5⟩ := hb1 g0
          simp only [cond_true, g1, g2, g3, decide_true, ← g4]
          by_cases c3 : k.1 ≤ before
          · simp [c3]
          · by_cases c5 : k.1 < 64
            · by_cases c6 : w64 (all.tdiv 8) < k.2.1
              · simp [c3, c5, c6]
              · simp [c3, c5, c6, ih']
            · simp [c3, c5, ih']
        | false =>
          have g0 : i = 0 := by have : ¬ (i : Int) > 0 := of_decide_eq_false hz; omega
          have g1 := hb0 g0
          have c3 : ¬ k.1 ≤ before := by omega
          by_cases c5 : k.1 < 64
          · by_cases c6 : w64 (all.tdiv 8) < k.2.1
            · simp [c3, c5, c6]
            · simp [c3, c5, c6, ih']
          · simp [c3, c5, ih']
      · have : k.1 ≤ before ∨ 128 ≤ k.1 ∨ k.2.1 < 1 ∨ 2000 < k.2.1 ∨ (k.1 < 64 ∧ w64 (all.tdiv 8) < k.2.1) := by omega
        simp [c1, c2, this]
    · have hbp : 0 ≤ before := by
        rcases Nat.eq_zero_or_pos i with h | h
        · rw [hb0 h]; omega
        · have := (hb1 h).2; omega
      have : k.1 ≤ before ∨ 128 ≤ k.1 ∨ k.2.1 < 1 ∨ 2000 < k.2.1 ∨ (k.1 < 64 ∧ w64 (all.tdiv 8) < k.2.1) := by omega
      simp [c1, this]
theorem specOk_eq (f : Nat) (ks : List Knot) (all : Int) (hl : ks.length < 4294967296) (hf : ks.length < f) : spec_RankOk_fn f ((ks, all, ()), ()) = some ((okB ks all, ()), ()) := by
  unfold spec_RankOk_fn spec_RankOk_pre okB
  simp only [in_eq, Option.bind_some]
  by_cases c : 0 ≤ all ∧ all ≤ 2000
  · have c1 : ¬ (all < 0 ∨ 2000 < all) := by omega
    have := spec_ok_loop f ks all hl ks.length 0 0 0 f (by omega) (fun _ => rfl) (by omega) hf
    simp only [c, c1, and_self, decide_true, Bool.not_true, cond_false, if_false]
    simpa using this
  · have c1 : all < 0 ∨ 2000 < all := by omega
    simp [c, c1]
end Go.Proofs.YtdgdoeknpakmlaaGreat.Den
namespace Go.Proofs.YtdgdoeknpakmlaaGreat.Den
open Go
set_option linter.unusedVariables false
set_option linter.unusedSimpArgs false
def isum (l : List Int) : Int := l.foldl (fun s x => w64 (s + x)) 0
def rng (x : Int) : Bool := decide (0 ≤ x ∧ x ≤ 2000)
theorem isum_eq (f : Nat) (l : List Int) (hl : l.length < 4294967296) (hf : l.length < f) : spec_l1Sum_fn f ((l, ()), ()) = some ((isum l, ()), ()) := by
  show iter (spec_l1Sum_st0 f) f ((0 : Int), l, (0 : Int)) = _
  refine (iter_list (st := spec_l1Sum_st0 f) (enc := fun i s => ((i : Int), l, s)) (fun x k s => k (w64 (s + x))) (fun s => some ((s, ()), ())) l 0 ?_ ?_ f 0 hf).trans (fold_go (fun s x => w64 (s + x)) (fun _ _ _ => rfl) l 0)
  · intro i s g hi
    show spec_l1Sum_step0 f g _ = _
    unfold spec_l1Sum_step0
    simp only [zz_eq, lt_cast hi, le_cast, decide_true, cond_true, Int.toNat_natCast, w64_up (Nat.lt_trans hi hl)]
  · intro s g
    show spec_l1Sum_step0 f g _ = _
    unfold spec_l1Sum_step0
    simp only [zz_eq, nlt_cast, decide_false, cond_false]
def rowB (row : List Int) : Bool := decide (row.length = 8) && (row.all rng && decide (isum row ≤ 2000))
def roughB (rs : List (List Int)) : Bool := decide (rs.length = 3) && rs.all fun row => rowB row && (isum row == isum (rs.getD 0 []))
theorem rowAll_eq (f : Nat) (l : List Int) (hf : 8 < f) : impl_rowAll_fn f ((l, ()), ()) = some (cond (decide (l.length = 8) && l.all rng) ((isum l, ()), (decide (isum l ≤ 2000), ()), ()) ((0, ()), (false, ()), ())) := by
  show impl_rowAll_pre f (iter (impl_rowAll_st0 f) f) l = _
  unfold impl_rowAll_pre
  by_cases h : l.length = 8
  · have hl : l.length < 4294967296 := by omega
    have e : (zz l.length != (8 : Int)) = false := by simp [zz_eq, h]
    rw [e, cond_false, zz_eq]
    have := iter_list (st := impl_rowAll_st0 f) (enc := fun i s => ((i : Int), (l.length : Int), l, s)) (fun x k s => cond (rng x) (k (w64 (s + x))) (some ((0, ()), (false, ()), ()))) (fun s => some ((s, ()), (decide (s ≤ 2000), ()), ())) l 0 ?_ ?_ f 0 (by omega)
    · refine this.trans ?_
      have : ∀ (l : List Int) (s : Int), goL (R := ((Int × Unit) × ((Bool × Unit) × Unit))) (fun x k s => cond (rng x) (k (w64 (s + x))) (some ((0, ()), (false, ()), ()))) (fun s => some ((s, ()), (decide (s ≤ 2000), ()), ())) l s = some (cond (l.all rng) ((l.foldl (fun s x => w64 (s + x)) s, ()), (decide (l.foldl (fun s x => w64 (s + x)) s ≤ 2000), ()), ()) ((0, ()), (false, ()), ())) := by
        intro l
        induction l with
        | nil => intro s; rfl
        | cons x l ih =>
          intro s
          show cond (rng x) (goL _ _ l _) _ = _
          rw [ih, List.all_cons]
          cases rng x <;> rfl
      rw [this]
      simp only [h, decide_true, Bool.true_and]
      rfl
    · intro i s g hi
      show impl_rowAll_step0 f g _ = _
      unfold impl_rowAll_step0
      simp only [zz_eq, lt_cast hi, le_cast, decide_true, cond_true, Int.toNat_natCast, w64_up (Nat.lt_trans hi hl)]
      obtain ⟨x, hx⟩ : ∃ x : Int, l.getD i 0 = x := ⟨_, rfl⟩
      simp only [hx]
      unfold rng
      by_cases c1 : x < 0
      · have : ¬ (0 ≤ x ∧ x ≤ 2000) := by omega
        simp [c1, this]
      · by_cases c2 : x > 2000
        · have : ¬ (0 ≤ x ∧ x ≤ 2000) := by omega
          simp [c1, c2, this]
        · have : (0 ≤ x ∧ x ≤ 2000) := by omega
          simp [c1, c2, this]
    · intro s g
      show impl_rowAll_step0 f g _ = _
      unfold impl_rowAll_step0
      simp only [nlt_cast, decide_false, cond_false]
  · have e : (zz l.length != (8 : Int)) = true := by simp [zz_eq]; omega
    rw [e, cond_true]
    simp [h]
theorem three {α : Type} {rs : List α} (h : rs.length = 3) : ∃ a b c, rs = [a, b, c] := by
  match rs, h with
  | [a, b, c], _ => exact ⟨a, b, c, rfl⟩
theorem implRough_eq (f : Nat) (rs : List (List Int)) (hf : 8 < f) : impl_RoughOk_fn f ((rs, ()), ()) = some ((roughB rs, ()), ()) := by
  show impl_RoughOk_pre f (iter (impl_RoughOk_st0 f) f) rs = _
  unfold impl_RoughOk_pre
  by_cases h : rs.length = 3
  · have e : ((rs.length : Int) != (3 : Int)) = false := by simp [h]
    have e0 : (0 : Int) < (rs.length : Int) := by omega
    simp only [zz_eq, e, cond_false, e0, decide_true, cond_true, rowAll_eq f _ hf, Option.bind_some]
    obtain ⟨w, hw⟩ : ∃ w : Int, (cond (decide ((rs.getD (Int.toNat 0) []).length = 8) && (rs.getD (Int.toNat 0) []).all rng) ((isum (rs.getD (Int.toNat 0) []), ()), (decide (isum (rs.getD (Int.toNat 0) []) ≤ 2000), ()), ()) ((0, ()), (false, ()), ()) : ((Int × Unit) × ((Bool × Unit) × Unit))).fst.fst = w := ⟨_, rfl⟩
    rw [hw]
    have := iter_list (st := impl_RoughOk_st0 f) (enc := fun i (s : Unit) => ((i : Int), (rs.length : Int), rs, w)) (fun row k s => cond (rowB row && (isum row == w)) (k s) (some ((false, ()), ()))) (fun s => some ((true, ()), ())) rs [] ?_ ?_ f () (by omega)
    · refine this.trans ?_
      rw [all_go _ _ (fun _ _ _ => rfl)]
      obtain ⟨a, b, c, rfl⟩ := three h
      unfold roughB
      simp only [List.all_cons, List.all_nil, List.getD_cons_zero, Int.toNat_zero, decide_true, Bool.true_and, List.length_cons, List.length_nil, Bool.and_true] at hw ⊢
      by_cases ha : rowB a = true
      · have ha' := ha
        unfold rowB at ha'
        have : (decide (a.length = 8) && a.all rng) = true := by
          revert ha'; cases decide (a.length = 8) <;> cases a.all rng <;> simp
        rw [this, cond_true] at hw
        rw [← hw, ha]
        simp only [beq_self_eq_true, Bool.and_self, Bool.true_and]
        cases (rowB b && (isum b == isum a)) <;> cases (rowB c && (isum c == isum a)) <;> rfl
      · have : rowB a = false := by simpa using ha
        simp [this]
    · intro i s g hi
      show impl_RoughOk_step0 f g _ = _
      unfold impl_RoughOk_step0
      simp only [zz_eq, lt_cast hi, le_cast, decide_true, cond_true, Int.toNat_natCast, w64_up (show i < 4294967296 by omega), rowAll_eq f _ hf, Option.bind_some]
      obtain ⟨x, hx⟩ : ∃ x : List Int, rs.getD i [] = x := ⟨_, rfl⟩
      simp only [hx]
      unfold rowB
      rw [← Bool.and_assoc]
      cases (decide (x.length = 8) && x.all rng) with
      | false => rfl
      | true =>
        simp only [cond_true, bne]
        cases decide (isum x ≤ 2000) <;> cases (isum x == w) <;> rfl
    · intro s g
      show impl_RoughOk_step0 f g _ = _
      unfold impl_RoughOk_step0
      simp only [nlt_cast, decide_false, cond_false]
  · have e : (zz rs.length != (3 : Int)) = true := by simp [zz_eq]; omega
    rw [e, cond_true]
    unfold roughB
    simp [h]
theorem specRough_eq (f : Nat) (rs : List (List Int)) (hf : 8 < f) (hr : ∀ r ∈ rs, r.length < f ∧ r.length < 4294967296) : spec_RoughOk_fn f ((rs, ()), ()) = some ((roughB rs, ()), ()) := by
  show spec_RoughOk_pre f (iter (spec_RoughOk_st0 f) f) rs = _
  unfold spec_RoughOk_pre
  by_cases h : rs.length = 3
  · have e : (zz rs.length != (3 : Int)) = false := by simp [zz_eq, h]
    rw [e, cond_false]
    have := iter_list (st := spec_RoughOk_st0 f) (enc := fun i (s : Unit) => ((i : Int), rs)) (fun row k s => cond (rowB row && (isum row == isum (rs.getD 0 []))) (k s) (some ((false, ()), ()))) (fun s => some ((true, ()), ())) rs [] ?_ ?_ f () (by omega)
    · refine this.trans ?_
      rw [all_go _ _ (fun _ _ _ => rfl)]
      unfold roughB
      simp only [h, decide_true, Bool.true_and]
      cases (rs.all fun row => rowB row && (isum row == isum (rs.getD 0 []))) <;> rfl
    · intro i s g hi
      show spec_RoughOk_step0 f _ g _ = _
      unfold spec_RoughOk_step0
      have l3 : (i : Int) < 3 := by omega
      simp only [zz_eq, lt_cast hi, l3, le_cast, decide_true, cond_true, Int.toNat_natCast]
      obtain ⟨x, hx⟩ : ∃ x : List Int, rs.getD i [] = x := ⟨_, rfl⟩
      simp only [hx]
      by_cases c1 : x.length = 8
      · have e8 : ((x.length : Int) != 8) = false := by simp [c1]
        rw [e8, cond_false]
        have := iter_list (st := spec_RoughOk_st1 f g) (enc := fun k (s : Unit) => ((k : Int), (i : Int), rs)) (fun y k s => cond (rng y) (k s) (some ((false, ()), ()))) (fun s => cond (isum x == isum (rs.getD 0 []) && decide (isum x ≤ 2000)) (g (((i + 1 : Nat) : Int), rs)) (some ((false, ()), ()))) x 0 ?_ ?_ f () (by omega)
        · refine this.trans ?_
          rw [all_go _ _ (fun _ _ _ => rfl)]
          unfold rowB
          simp only [c1, decide_true, Bool.true_and]
          cases x.all rng <;> cases (isum x == isum (rs.getD 0 [])) <;> cases decide (isum x ≤ 2000) <;> rfl
        · intro k s g' hk
          show spec_RoughOk_step1 f _ g' _ = _
          unfold spec_RoughOk_step1
          have l8 : (k : Int) < 8 := by omega
          simp only [zz_eq, lt_cast hi, lt_cast hk, l8, le_cast, decide_true, cond_true, Int.toNat_natCast, hx, in_eq, Option.bind_some, w64_up (show k < 4294967296 by omega)]
          unfold rng
          cases decide (0 ≤ x.getD k 0 ∧ x.getD k 0 ≤ 2000) <;> rfl
        · intro s g'
          show spec_RoughOk_step1 f _ g' _ = _
          unfold spec_RoughOk_step1
          have l8 : ¬ ((x.length : Int) < 8) := by omega
          have l0 : (0 : Int) < (rs.length : Int) := by omega
          have ix : spec_l1Sum_fn f ((x, ()), ()) = some ((isum x, ()), ()) := isum_eq f x (by omega) (by omega)
          simp only [zz_eq, l8, decide_false, cond_false, lt_cast hi, l0, le_cast, decide_true, cond_true, Int.toNat_natCast, hx, ix, Option.bind_some, w64_up (show i < 4294967296 by omega)]
          obtain ⟨g1, g2⟩ : (rs.getD 0 []).length < f ∧ (rs.getD 0 []).length < 4294967296 := by
            obtain ⟨a, b, c, rfl⟩ := three h
            exact hr a (by simp)
          have i0 : spec_l1Sum_fn f ((rs.getD 0 [], ()), ()) = some ((isum (rs.getD 0 []), ()), ()) := isum_eq f _ g2 g1
          simp only [Int.toNat_zero, i0, Option.bind_some]
          by_cases c3 : isum x = isum (rs.getD 0 [])
          · simp only [c3, bne_self_eq_false, cond_false, beq_self_eq_true, Bool.true_and]
            by_cases c : isum (rs.getD 0 []) ≤ 2000
            · have : ¬ isum (rs.getD 0 []) > 2000 := by omega
              simp only [c, this, decide_true, decide_false, cond_true, cond_false]
            · have : isum (rs.getD 0 []) > 2000 := by omega
              simp only [c, this, decide_true, decide_false, cond_true, cond_false]
          · have c4 : (isum x == isum (rs.getD 0 [])) = false := by simpa using c3
            simp only [bne, c4, Bool.not_false, Bool.false_and, cond_true, cond_false]
      · have e8 : ((x.length : Int) != 8) = true := by simp; omega
        rw [e8, cond_true]
        unfold rowB
        simp [c1]
    · intro s g
      show spec_RoughOk_step0 f _ g _ = _
      unfold spec_RoughOk_step0
      have l3 : ¬ ((rs.length : Int) < 3) := by omega
      simp only [l3, decide_false, cond_false]
  · have e : (zz rs.length != (3 : Int)) = true := by simp [zz_eq]; omega
    rw [e, cond_true]
    unfold roughB
    simp [h]
end Go.Proofs.YtdgdoeknpakmlaaGreat.Den
namespace Go.Proofs.YtdgdoeknpakmlaaGreat.Den
open Go
set_option linter.unusedVariables false
set_option linter.unusedSimpArgs false
def fewGo : List Int → Int → Bool
  | [], _ => true
  | x :: r, p => decide (p < x ∧ x ≤ 63) && fewGo r x
def fewB (l : List Int) : Bool := decide (l.length ≤ 6) && fewGo l (-1)
theorem implFew_eq (f : Nat) (l : List Int) (hf : 8 < f) : impl_FewOk_fn f ((l, ()), ()) = some ((fewB l, ()), ()) := by
  show impl_FewOk_pre f (iter (impl_FewOk_st0 f) f) l = _
  unfold impl_FewOk_pre fewB
  by_cases h : l.length ≤ 6
  · have e : ¬ ((l.length : Int) > 6) := by omega
    simp only [zz_eq, e, decide_false, cond_false, h, decide_true, Bool.true_and]
    refine (iter_list (st := impl_FewOk_st0 f) (enc := fun i (p : Int) => ((i : Int), (l.length : Int), l, p)) (fun x k p => cond (decide (p < x ∧ x ≤ 63)) (k x) (some ((false, ()), ()))) (fun s => some ((true, ()), ())) l 0 ?_ ?_ f (-1) (by omega)).trans ?_
    · intro i p g hi
      show impl_FewOk_step0 f g _ = _
      unfold impl_FewOk_step0
      simp only [zz_eq, lt_cast hi, le_cast, decide_true, cond_true, Int.toNat_natCast, w64_up (show i < 4294967296 by omega)]
      obtain ⟨x, hx⟩ : ∃ x : Int, l.getD i 0 = x := ⟨_, rfl⟩
      simp only [hx]
      by_cases c1 : x ≤ p
      · have : ¬ (p < x ∧ x ≤ 63) := by omega
        simp only [c1, this, and_self, and_true, true_and, and_false, false_and, decide_true, decide_false, cond_true, cond_false]
      · by_cases c2 : x ≥ 64
        · have : ¬ (p < x ∧ x ≤ 63) := by omega
          simp only [c1, c2, this, and_self, and_true, true_and, and_false, false_and, decide_true, decide_false, cond_true, cond_false]
        · have : p < x ∧ x ≤ 63 := by omega
          simp only [c1, c2, this, and_self, and_true, true_and, and_false, false_and, decide_true, decide_false, cond_true, cond_false]
    · intro s g
      show impl_FewOk_step0 f g _ = _
      unfold impl_FewOk_step0
      simp only [nlt_cast, decide_false, cond_false]
    · have : ∀ (l : List Int) (p : Int), goL (R := ((Bool × Unit) × Unit)) (fun x k p => cond (decide (p < x ∧ x ≤ 63)) (k x) (some ((false, ()), ()))) (fun s => some ((true, ()), ())) l p = some ((fewGo l p, ()), ()) := by
        intro l
        induction l with
        | nil => intro p; rfl
        | cons x l ih =>
          intro p
          show cond _ (goL _ _ l x) _ = _
          rw [ih]
          show _ = some ((decide (p < x ∧ x ≤ 63) && fewGo l x, ()), ())
          cases decide (p < x ∧ x ≤ 63) <;> rfl
      exact this l (-1)
  · have e : ((l.length : Int) > 6) := by omega
    simp only [zz_eq, e, decide_true, cond_true, h, decide_false, Bool.false_and]
theorem specFew_eq (f : Nat) (l : List Int) (hl : l.length < 4294967296) (hf : l.length < f) : spec_FewOk_fn f ((l, ()), ()) = some ((fewB l, ()), ()) := by
  show iter (spec_FewOk_st0 f) f ((0 : Int), l) = _
  refine (iter_prev (st := spec_FewOk_st0 f) (enc := fun i (s : Unit) => ((i : Int), l)) (fun x p k s => cond (decide (p < x ∧ 0 ≤ x ∧ x ≤ 63)) (k s) (some ((false, ()), ()))) (fun s => some ((decide (l.length ≤ 6), ()), ())) l 0 (-1) id ?_ ?_ f () hf).trans ?_
  · intro i s g hi
    show spec_FewOk_step0 f g _ = _
    unfold spec_FewOk_step0
    simp only [zz_eq, lt_cast hi, le_cast, decide_true, cond_true, Int.toNat_natCast, w64_up (show i < 4294967296 by omega), in_eq, Option.bind_some, id]
    obtain ⟨x, hx⟩ : ∃ x : Int, l.getD i 0 = x := ⟨_, rfl⟩
    simp only [hx]
    by_cases c1 : 0 ≤ x ∧ x ≤ 63
    · by_cases z : i = 0
      · have : -1 < x ∧ 0 ≤ x ∧ x ≤ 63 := by omega
        simp only [gt_cast0 z, c1, this, z, and_self, if_true, decide_true, decide_false, cond_true, cond_false, Bool.not_true]
        subst z; rfl
      · have g1 : i - 1 < l.length := by omega
        simp only [gt_cast1 z, w64_dn z (show i < 4294967296 by omega), lt_cast g1, le_cast, c1, z, and_self, if_false, decide_true, decide_false, cond_true, cond_false, Bool.not_true, Int.toNat_natCast]
        obtain ⟨y, hy⟩ : ∃ y : Int, l.getD (i - 1) 0 = y := ⟨_, rfl⟩
        simp only [hy]
        by_cases c2 : y ≥ x
        · have : ¬ (y < x ∧ True) := fun h => by have := h.1; omega
          simp only [c2, this, and_self, and_true, true_and, and_false, false_and, decide_true, decide_false, cond_true, cond_false]
        · have : (y < x ∧ True) := ⟨by omega, trivial⟩
          simp only [c2, this, and_self, and_true, true_and, and_false, false_and, decide_true, decide_false, cond_true, cond_false]
    · have : ∀ p : Int, ¬ (p < x ∧ 0 ≤ x ∧ x ≤ 63) := fun p h => c1 h.2
      simp only [c1, this, and_self, and_true, true_and, and_false, false_and, decide_true, decide_false, cond_true, cond_false, Bool.not_false]
  · intro s g
    show spec_FewOk_step0 f g _ = _
    unfold spec_FewOk_step0
    have : ((l.length : Int) ≤ 6) = (l.length ≤ 6) := by apply propext; omega
    simp only [zz_eq, nlt_cast, decide_false, cond_false, this]
  · have : ∀ (q : Bool) (l : List Int) (p : Int), -1 ≤ p → goL (R := ((Bool × Unit) × Unit)) (fun x k (ps : Int × Unit) => cond (decide (ps.1 < x ∧ 0 ≤ x ∧ x ≤ 63)) (k (id x, ps.2)) (some ((false, ()), ()))) (fun s => some ((q, ()), ())) l (p, ()) = some ((q && fewGo l p, ()), ()) := by
      intro q l
      induction l with
      | nil => intro p _; cases q <;> rfl
      | cons x l ih =>
        intro p hp
        show cond _ (goL _ _ l (x, ())) _ = _
        unfold fewGo
        by_cases c : p < x ∧ x ≤ 63
        · have : p < x ∧ 0 ≤ x ∧ x ≤ 63 := by omega
          rw [ih x (by omega)]
          simp only [c, this, and_self, decide_true, cond_true, Bool.true_and]
        · have : ¬ (p < x ∧ 0 ≤ x ∧ x ≤ 63) := by omega
          simp only [c, this, decide_false, cond_false, Bool.false_and, Bool.and_false]
    unfold fewB
    exact this _ l (-1) (by omega)
def topGo (all : Int) : List Knot → Int → Int → Bool
  | [], _, s => decide (s ≤ all)
  | x :: r, p, s => decide (p < x.1 ∧ x.1 ≤ 63 ∧ 1 ≤ x.2.1 ∧ x.2.1 ≤ 2000) && topGo all r x.1 (w64 (s + x.2.1))
def topB (l : List Knot) (lost all : Int) : Bool := decide (l.length ≤ 4 ∧ 0 ≤ lost ∧ lost ≤ 2000 ∧ 0 ≤ all ∧ all ≤ 2000) && topGo all l (-1) (lost * 5)
theorem implTop_eq (f : Nat) (l : List Knot) (lost all : Int) (hf : 8 < f) : impl_TopOk_fn f ((l, lost, all, ()), ()) = some ((topB l lost all, ()), ()) := by
  show impl_TopOk_pre f (iter (impl_TopOk_st0 f) f) l lost all = _
  unfold impl_TopOk_pre topB
  simp only [zz_eq]
  by_cases h : l.length ≤ 4 ∧ 0 ≤ lost ∧ lost ≤ 2000 ∧ 0 ≤ all ∧ all ≤ 2000
  · have e1 : ¬ ((l.length : Int) > 4) := by omega
    have e2 : ¬ (lost < 0) := by omega
    have e3 : ¬ (lost > 2000) := by omega
    have e4 : ¬ (all < 0) := by omega
    have e5 : ¬ (all > 2000) := by omega
    have e6 : w64 (lost * 5) = lost * 5 := by rw [w64_id] <;> omega
    simp only [e1, e2, e3, e4, e5, e6, decide_false, cond_false, h, and_self, decide_true, Bool.true_and]
    refine (iter_list (st := impl_TopOk_st0 f) (enc := fun i (p : Int × Int) => ((i : Int), (l.length : Int), l, p.1, p.2, l, lost, all)) (fun x k p => cond (decide (p.1 < x.1 ∧ x.1 ≤ 63 ∧ 1 ≤ x.2.1 ∧ x.2.1 ≤ 2000)) (k (x.1, w64 (p.2 + x.2.1))) (some ((false, ()), ()))) (fun p => some ((decide (p.2 ≤ all), ()), ())) l (0, 0, ()) ?_ ?_ f (-1, lost * 5) (by omega)).trans ?_
    · intro i p g hi
      show impl_TopOk_step0 f g _ = _
      unfold impl_TopOk_step0
      simp only [zz_eq, lt_cast hi, le_cast, decide_true, cond_true, Int.toNat_natCast, w64_up (show i < 4294967296 by omega)]
      obtain ⟨x, hx⟩ : ∃ x : Knot, l.getD i (0, 0, ()) = x := ⟨_, rfl⟩
      simp only [hx]
      by_cases c1 : x.1 ≤ p.1
      · have : ¬ (p.1 < x.1 ∧ x.1 ≤ 63 ∧ 1 ≤ x.2.1 ∧ x.2.1 ≤ 2000) := by omega
        simp only [c1, this, and_self, and_true, true_and, and_false, false_and, decide_true, decide_false, cond_true, cond_false]
      by_cases c2 : x.1 ≥ 64
      · have : ¬ (p.1 < x.1 ∧ x.1 ≤ 63 ∧ 1 ≤ x.2.1 ∧ x.2.1 ≤ 2000) := by omega
        simp only [c1, c2, this, and_self, and_true, true_and, and_false, false_and, decide_true, decide_false, cond_true, cond_false]
      by_cases c3 : x.2.1 < 1
      · have : ¬ (p.1 < x.1 ∧ x.1 ≤ 63 ∧ 1 ≤ x.2.1 ∧ x.2.1 ≤ 2000) := by omega
        simp only [c1, c2, c3, this, and_self, and_true, true_and, and_false, false_and, decide_true, decide_false, cond_true, cond_false]
      by_cases c4 : x.2.1 > 2000
      · have : ¬ (p.1 < x.1 ∧ x.1 ≤ 63 ∧ 1 ≤ x.2.1 ∧ x.2.1 ≤ 2000) := by omega
        simp only [c1, c2, c3, c4, this, and_self, and_true, true_and, and_false, false_and, decide_true, decide_false, cond_true, cond_false]
      have : (p.1 < x.1 ∧ x.1 ≤ 63 ∧ 1 ≤ x.2.1 ∧ x.2.1 ≤ 2000) := by omega
      simp only [c1, c2, c3, c4, this, and_self, and_true, true_and, and_false, false_and, decide_true, decide_false, cond_true, cond_false]
    · intro s g
      show impl_TopOk_step0 f g _ = _
      unfold impl_TopOk_step0
      simp only [nlt_cast, decide_false, cond_false]
    · have : ∀ (l : List Knot) (p : Int × Int), goL (R := ((Bool × Unit) × Unit)) (fun (x : Knot) k p => cond (decide (p.1 < x.1 ∧ x.1 ≤ 63 ∧ 1 ≤ x.2.1 ∧ x.2.1 ≤ 2000)) (k (x.1, w64 (p.2 + x.2.1))) (some ((false, ()), ()))) (fun p => some ((decide (p.2 ≤ all), ()), ())) l p = some ((topGo all l p.1 p.2, ()), ()) := by
        intro l
        induction l with
        | nil => intro p; rfl
        | cons x l ih =>
          intro p
          show cond _ (goL _ _ l _) _ = _
          rw [ih]
          show _ = some ((decide (p.1 < x.1 ∧ x.1 ≤ 63 ∧ 1 ≤ x.2.1 ∧ x.2.1 ≤ 2000) && topGo all l x.1 (w64 (p.2 + x.2.1)), ()), ())
          cases decide (p.1 < x.1 ∧ x.1 ≤ 63 ∧ 1 ≤ x.2.1 ∧ x.2.1 ≤ 2000) <;> rfl
      exact this l _
  · simp only [h, decide_false, Bool.false_and]
    by_cases c1 : (l.length : Int) > 4
    · simp only [c1, decide_true, cond_true]
    by_cases c2 : lost < 0
    · simp only [c1, c2, decide_true, cond_true, decide_false, cond_false]
    by_cases c3 : lost > 2000
    · simp only [c1, c2, c3, decide_true, cond_true, decide_false, cond_false]
    by_cases c4 : all < 0
    · simp only [c1, c2, c3, c4, decide_true, cond_true, decide_false, cond_false]
    by_cases c5 : all > 2000
    · simp only [c1, c2, c3, c4, c5, decide_true, cond_true, decide_false, cond_false]
    exact absurd ⟨by omega, by omega, by omega, by omega, by omega⟩ h
def tsum (l : List Knot) : Int := l.foldl (fun s x => w64 (s + x.2.1)) 0
theorem tsum_eq (f : Nat) (l : List Knot) (hl : l.length < 4294967296) (hf : l.length < f) : spec_l3All_fn f ((l, ()), ()) = some ((tsum l, ()), ()) := by
  show iter (spec_l3All_st0 f) f ((0 : Int), l, (0 : Int)) = _
  refine (iter_list (st := spec_l3All_st0 f) (enc := fun i s => ((i : Int), l, s)) (fun (x : Knot) k s => k (w64 (s + x.2.1))) (fun s => some ((s, ()), ())) l (0, 0, ()) ?_ ?_ f 0 hf).trans (fold_go (fun s x => w64 (s + x.2.1)) (fun _ _ _ => rfl) l 0)
  · intro i s g hi
    show spec_l3All_step0 f g _ = _
    unfold spec_l3All_step0
    simp only [zz_eq, lt_cast hi, le_cast, decide_true, cond_true, Int.toNat_natCast, w64_up (Nat.lt_trans hi hl)]
  · intro s g
    show spec_l3All_step0 f g _ = _
    unfold spec_l3All_step0
    simp only [zz_eq, nlt_cast, decide_false, cond_false]
def topAsc : List Knot → Int → Bool
  | [], _ => true
  | x :: r, p => decide (p < x.1 ∧ x.1 ≤ 63 ∧ 1 ≤ x.2.1 ∧ x.2.1 ≤ 2000) && topAsc r x.1
def psum : List Knot → Int
  | [] => 0
  | x :: r => x.2.1 + psum r
theorem topGo_eq (all : Int) : ∀ (l : List Knot) (p s : Int), 0 ≤ s → s + 2000 * l.length ≤ 1000000000000 → topGo all l p s = (topAsc l p && decide (s + psum l ≤ all))
  | [], p, s, _, _ => by simp [topGo, topAsc, psum]
  | x :: l, p, s, h0, h1 => by
    unfold topGo topAsc psum
    simp only [List.length_cons] at h1
    by_cases c : p < x.1 ∧ x.1 ≤ 63 ∧ 1 ≤ x.2.1 ∧ x.2.1 ≤ 2000
    · have e : w64 (s + x.2.1) = s + x.2.1 := by rw [w64_id] <;> omega
      rw [e, topGo_eq all l x.1 _ (by omega) (by omega)]
      simp only [c, and_self, decide_true, Bool.true_and, Int.add_assoc]
    · simp only [c, decide_false, Bool.false_and]
theorem tsum_go : ∀ (l : List Knot) (p s : Int), 0 ≤ s → s + 2000 * l.length ≤ 1000000000000 → topAsc l p = true → l.foldl (fun s x => w64 (s + x.2.1)) s = s + psum l ∧ 0 ≤ psum l ∧ psum l ≤ 2000 * l.length
  | [], p, s, _, _, _ => by simp [psum]
  | x :: l, p, s, h0, h1, h2 => by
    unfold topAsc at h2
    simp only [Bool.and_eq_true, decide_eq_true_eq] at h2
    simp only [List.length_cons] at h1 ⊢
    have e : w64 (s + x.2.1) = s + x.2.1 := by rw [w64_id] <;> omega
    obtain ⟨a, b, c⟩ := tsum_go l x.1 (s + x.2.1) (by omega) (by omega) h2.2
    unfold psum
    simp only [List.foldl_cons, e, a]
    omega
theorem specTop_eq (f : Nat) (l : List Knot) (lost all : Int) (hl : l.length < 4294967296) (hf : l.length < f) : spec_TopOk_fn f ((l, lost, all, ()), ()) = some ((topB l lost all, ()), ()) := by
  show iter (spec_TopOk_st0 f) f ((0 : Int), l, lost, all) = _
  refine (iter_prev (st := spec_TopOk_st0 f) (enc := fun i (s : Unit) => ((i : Int), l, lost, all)) (fun x p k s => cond (decide (p < x.1 ∧ 0 ≤ x.1 ∧ x.1 ≤ 63 ∧ 1 ≤ x.2.1 ∧ x.2.1 ≤ 2000)) (k s) (some ((false, ()), ()))) (fun s => some ((decide (l.length ≤ 4 ∧ 0 ≤ lost ∧ lost ≤ 2000 ∧ 0 ≤ all ∧ all ≤ 2000) && decide (w64 (tsum l + w64 (5 * lost)) ≤ all), ()), ())) l (0, 0, ()) (-1) (fun x => x.1) ?_ ?_ f () hf).trans ?_
  · intro i s g hi
    show spec_TopOk_step0 f g _ = _
    unfold spec_TopOk_step0
    simp only [zz_eq, lt_cast hi, le_cast, decide_true, cond_true, Int.toNat_natCast, w64_up (show i < 4294967296 by omega), in_eq, Option.bind_some]
    obtain ⟨x, hx⟩ : ∃ x : Knot, l.getD i (0, 0, ()) = x := ⟨_, rfl⟩
    simp only [hx]
    by_cases c1 : 0 ≤ x.1 ∧ x.1 ≤ 63
    · by_cases c3 : 1 ≤ x.2.1 ∧ x.2.1 ≤ 2000
      · by_cases z : i = 0
        · have : -1 < x.1 ∧ 0 ≤ x.1 ∧ x.1 ≤ 63 ∧ 1 ≤ x.2.1 ∧ x.2.1 ≤ 2000 := by omega
          simp only [gt_cast0 z, c1, c3, this, z, and_self, if_true, decide_true, decide_false, cond_true, cond_false, Bool.not_true]
          subst z; rfl
        · have g1 : i - 1 < l.length := by omega
          simp only [gt_cast1 z, w64_dn z (show i < 4294967296 by omega), lt_cast g1, le_cast, c1, c3, z, and_self, if_false, decide_true, decide_false, cond_true, cond_false, Bool.not_true, Int.toNat_natCast]
          obtain ⟨y, hy⟩ : ∃ y : Knot, l.getD (i - 1) (0, 0, ()) = y := ⟨_, rfl⟩
          simp only [hy]
          by_cases c2 : y.1 ≥ x.1
          · have : ¬ (y.1 < x.1 ∧ True) := fun h => by have := h.1; omega
            simp only [c2, this, and_self, and_true, true_and, and_false, false_and, decide_true, decide_false, cond_true, cond_false]
          · have : (y.1 < x.1 ∧ True) := ⟨by omega, trivial⟩
            simp only [c2, this, and_self, and_true, true_and, and_false, false_and, decide_true, decide_false, cond_true, cond_false]
      · have : ∀ p : Int, ¬ (p < x.1 ∧ 0 ≤ x.1 ∧ x.1 ≤ 63 ∧ 1 ≤ x.2.1 ∧ x.2.1 ≤ 2000) := fun p h => c3 h.2.2.2
        simp only [c1, c3, this, and_self, and_true, true_and, and_false, false_and, decide_true, decide_false, cond_true, cond_false, Bool.not_false, Bool.not_true]
    · have : ∀ p : Int, ¬ (p < x.1 ∧ 0 ≤ x.1 ∧ x.1 ≤ 63 ∧ 1 ≤ x.2.1 ∧ x.2.1 ≤ 2000) := fun p h => c1 ⟨h.2.1, h.2.2.1⟩
      simp only [c1, this, and_self, and_true, true_and, and_false, false_and, decide_true, decide_false, cond_true, cond_false, Bool.not_false]
  · intro s g
    show spec_TopOk_step0 f g _ = _
    unfold spec_TopOk_step0
    simp only [zz_eq, nlt_cast, decide_false, cond_false, in_eq, Option.bind_some, tsum_eq f l hl hf]
    by_cases h1 : l.length ≤ 4
    · have e1 : ((l.length : Int) ≤ 4) := by omega
      by_cases h2 : 0 ≤ all ∧ all ≤ 2000
      · by_cases h3 : 0 ≤ lost ∧ lost ≤ 2000
        · simp only [h1, e1, h2, h3, and_self, decide_true, cond_true, Bool.true_and]
        · have : ¬ (l.length ≤ 4 ∧ 0 ≤ lost ∧ lost ≤ 2000 ∧ 0 ≤ all ∧ all ≤ 2000) := by omega
          rw [decide_eq_false this]
          simp only [e1, h2, h3, and_self, decide_true, cond_true, decide_false, cond_false, Bool.false_and]
      · have : ¬ (l.length ≤ 4 ∧ 0 ≤ lost ∧ lost ≤ 2000 ∧ 0 ≤ all ∧ all ≤ 2000) := by omega
        rw [decide_eq_false this]
        simp only [e1, h2, and_self, decide_true, cond_true, decide_false, cond_false, Bool.false_and]
    · have e1 : ¬ ((l.length : Int) ≤ 4) := by omega
      have : ¬ (l.length ≤ 4 ∧ 0 ≤ lost ∧ lost ≤ 2000 ∧ 0 ≤ all ∧ all ≤ 2000) := by omega
      simp only [e1, this, and_self, decide_true, cond_true, decide_false, cond_false, Bool.false_and]
  · have : ∀ (q : Bool) (l : List Knot) (p : Int), -1 ≤ p → goL (R := ((Bool × Unit) × Unit)) (fun (x : Knot) k (ps : Int × Unit) => cond (decide (ps.1 < x.1 ∧ 0 ≤ x.1 ∧ x.1 ≤ 63 ∧ 1 ≤ x.2.1 ∧ x.2.1 ≤ 2000)) (k (x.1, ps.2)) (some ((false, ()), ()))) (fun s => some ((q, ()), ())) l (p, ()) = some ((topAsc l p && q, ()), ()) := by
      intro q l
      induction l with
      | nil => intro p _; rfl
      | cons x l ih =>
        intro p hp
        show cond _ (goL _ _ l (x.1, ())) _ = _
        unfold topAsc
        by_cases c : p < x.1 ∧ x.1 ≤ 63 ∧ 1 ≤ x.2.1 ∧ x.2.1 ≤ 2000
        · have : p < x.1 ∧ 0 ≤ x.1 ∧ x.1 ≤ 63 ∧ 1 ≤ x.2.1 ∧ x.2.1 ≤ 2000 := by omega
          rw [ih x.1 (by omega)]
          simp only [c, this, and_self, decide_true, cond_true, Bool.true_and]
        · have : ¬ (p < x.1 ∧ 0 ≤ x.1 ∧ x.1 ≤ 63 ∧ 1 ≤ x.2.1 ∧ x.2.1 ≤ 2000) := by omega
          simp only [c, this, decide_false, cond_false, Bool.false_and, Bool.and_false]
    refine (this _ l (-1) (by omega)).trans ?_
    unfold topB
    by_cases h : l.length ≤ 4 ∧ 0 ≤ lost ∧ lost ≤ 2000 ∧ 0 ≤ all ∧ all ≤ 2000
    · rw [topGo_eq all l (-1) (lost * 5) (by omega) (by omega)]
      simp only [h, and_self, decide_true, Bool.true_and]
      cases ht : topAsc l (-1)
      · rfl
      · obtain ⟨a, b, c⟩ := tsum_go l (-1) 0 (by omega) (by omega) ht
        have e : w64 (tsum l + w64 (5 * lost)) = lost * 5 + psum l := by
          have e1 : tsum l = psum l := by unfold tsum; rw [a]; omega
          rw [e1, w64_id (x := 5 * lost) (by omega) (by omega), w64_id (by omega) (by omega)]; omega
        rw [e]
    · simp only [h, decide_false, Bool.false_and, Bool.and_false]
def allR (rs : List (List Int)) : Int := cond (roughB rs) (isum (rs.getD 0 [])) (-1)
theorem implAll_eq (f : Nat) (rs : List (List Int)) (hf : 8 < f) : impl_RoughAll_fn f ((rs, ()), ()) = some ((allR rs, ()), ()) := by
  show impl_RoughAll_pre f rs = _
  unfold impl_RoughAll_pre allR
  rw [implRough_eq f rs hf, Option.bind_some]
  cases h : roughB rs
  · rfl
  · have h' := h
    unfold roughB at h'
    simp only [Bool.and_eq_true, decide_eq_true_eq] at h'
    obtain ⟨h3, h4⟩ := h'
    obtain ⟨a, b, c, rfl⟩ := three h3
    simp only [List.all_cons, Bool.and_eq_true, rowB] at h4
    have : (decide (a.length = 8) && a.all rng) = true := by simp [h4.1.1]
    simp only [zz_eq, Bool.not_true, cond_false, List.length_cons, List.length_nil, rowAll_eq f _ hf, Int.toNat_zero, List.getD_cons_zero, this, cond_true, Option.bind_some]
    rfl
theorem specAll_eq (f : Nat) (rs : List (List Int)) (hf : 8 < f) (hr : ∀ r ∈ rs, r.length < f ∧ r.length < 4294967296) : spec_RoughAll_fn f ((rs, ()), ()) = some ((allR rs, ()), ()) := by
  show spec_RoughAll_pre f rs = _
  unfold spec_RoughAll_pre allR
  rw [specRough_eq f rs hf hr, Option.bind_some]
  cases h : roughB rs
  · rfl
  · have h' := h
    unfold roughB at h'
    simp only [Bool.and_eq_true, decide_eq_true_eq] at h'
    obtain ⟨h3, h4⟩ := h'
    obtain ⟨a, b, c, rfl⟩ := three h3
    have := hr a (by simp)
    simp only [zz_eq, Bool.not_true, cond_false, List.length_cons, List.length_nil, Int.toNat_zero, List.getD_cons_zero, isum_eq f a this.2 this.1, cond_true, Option.bind_some]
    rfl
def sumB (rs : List (List Int)) (ms : List Int) (ps : List Knot) (lost tall : Int) (ks : List Knot) (rall : Int) : Bool :=
  roughB rs && (fewB ms && (topB ps lost tall && (okB ks rall && ((allR rs == tall) && ((tall == rall) && (decide ((ms.length : Int) > 0) == decide (tall > 0)))))))
theorem specSum_eq (f : Nat) (rs : List (List Int)) (ms : List Int) (ps : List Knot) (lost tall : Int) (ks : List Knot) (rall : Int) (hf : 8 < f)
    (hr : ∀ r ∈ rs, r.length < f ∧ r.length < 4294967296) (hm : ms.length < 4294967296 ∧ ms.length < f) (hp : ps.length < 4294967296 ∧ ps.length < f) (hk : ks.length < 4294967296 ∧ ks.length < f) :
    spec_SumOk_fn f ((rs, ms, ps, lost, tall, ks, rall, ()), ()) = some ((sumB rs ms ps lost tall ks rall, ()), ()) := by
  show spec_SumOk_pre f rs ms ps lost tall ks rall = _
  unfold spec_SumOk_pre sumB
  simp only [specRough_eq f rs hf hr, specFew_eq f ms hm.1 hm.2, specTop_eq f ps lost tall hp.1 hp.2, specOk_eq f ks rall hk.1 hk.2, specAll_eq f rs hf hr, Option.bind_some, zz_eq]
  cases roughB rs <;> cases fewB ms <;> cases topB ps lost tall <;> cases okB ks rall <;> cases allR rs == tall <;> cases tall == rall <;> rfl
end Go.Proofs.YtdgdoeknpakmlaaGreat.Den
namespace Go.Proofs.YtdgdoeknpakmlaaGreat.Den
open Go
set_option linter.unusedVariables false
set_option linter.unusedSimpArgs false
end Go.Proofs.YtdgdoeknpakmlaaGreat.Den
namespace Go.Proofs.YtdgdoeknpakmlaaGreat.Den
open Go
set_option linter.unusedVariables false
set_option linter.unusedSimpArgs false
def thingB (t : Int) : Bool := decide (0 ≤ t ∧ t ≤ 63)
theorem thing_eq (f : Nat) (n : Int) : impl_isThing_fn f ((n, ()), ()) = some ((thingB n, ()), ()) := isThing_eq f n
theorem thing_in (f : Nat) (n : Int) : spec_l6In_fn f ((n, ()), ((0 : Int), ()), ((63 : Int), ()), ()) = some ((thingB n, ()), ()) := in_eq f n 0 63
def mark (t : Int) : Int := cond (thingB t) (Int.tmod (w64 (w64 (t * 37) + 11)) 64) (-1)
theorem specMark_eq (f : Nat) (t : Int) : spec_FewMark_fn f ((t, ()), ()) = some ((mark t, ()), ()) := by
  show spec_FewMark_pre f t = _
  unfold spec_FewMark_pre mark
  rw [thing_in, Option.bind_some]
  cases thingB t <;> rfl
theorem implMark_eq (f : Nat) (t : Int) : impl_FewMark_fn f ((t, ()), ()) = some ((mark t, ()), ()) := by
  show impl_FewMark_pre f t = _
  unfold impl_FewMark_pre mark
  rw [thing_eq, Option.bind_some, Int.mul_comm]
  cases thingB t <;> rfl
theorem six {ms : List Int} (h : fewB ms = true) : ms.length ≤ 6 := by
  unfold fewB at h
  simp only [Bool.and_eq_true, decide_eq_true_eq] at h
  exact h.1
def pl (i : Nat) (t : Int) : Nat := match i with
  | 0 => ((3 * t + t / 8) % 8).toNat
  | 1 => ((5 * t + t / 16 + 1) % 8).toNat
  | _ => ((t + t / 4 + 2) % 8).toNat
theorem pl_lt (i : Nat) (t : Int) : pl i t < 8 := by
  unfold pl; split <;> omega
theorem tmod8 {x : Int} (h : 0 ≤ x) : Int.tmod x 8 = x % 8 := Int.tmod_eq_emod_of_nonneg h
theorem tdivP {x y : Int} (h : 0 ≤ x) : Int.tdiv x y = x / y := Int.tdiv_eq_ediv_of_nonneg h
theorem thing_le {t : Int} (h : thingB t = true) : 0 ≤ t ∧ t ≤ 63 := by unfold thingB at h; simpa using h
theorem specPlace_eq (f : Nat) (i : Nat) (t : Int) (hi : i < 3) (ht : thingB t = true) : spec_l1Place_fn f ((((i : Nat) : Int), ()), (t, ()), ()) = some (((pl i t : Int), ()), ()) := by
  have h := thing_le ht
  show spec_l1Place_pre f (i : Int) t = _
  unfold spec_l1Place_pre pl
  match i, hi with
  | 0, _ =>
    simp only [List.length_cons, List.length_nil, Int.natCast_zero, Int.toNat_zero, List.getD_cons_zero]
    have e1 : w64 (t * 3) = t * 3 := by rw [w64_id] <;> omega
    have e2 : w64 (Int.tdiv t 8) = t / 8 := by rw [tdivP h.1, w64_id] <;> omega
    have e3 : w64 (t * 3 + t / 8) = t * 3 + t / 8 := by rw [w64_id] <;> omega
    have e4 : w64 (t * 3 + t / 8 + 0) = t * 3 + t / 8 := by rw [w64_id] <;> omega
    rw [e1, e2, e3, e4, tmod8 (by omega)]
    have e5 : (t * 3 + t / 8) % 8 = (((3 * t + t / 8) % 8).toNat : Int) := by omega
    rw [e5]; rfl
  | 1, _ =>
    simp only [List.length_cons, List.length_nil]
    have e1 : w64 (t * 5) = t * 5 := by rw [w64_id] <;> omega
    have e2 : w64 (Int.tdiv t 16) = t / 16 := by rw [tdivP h.1, w64_id] <;> omega
    have e3 : w64 (t * 5 + t / 16) = t * 5 + t / 16 := by rw [w64_id] <;> omega
    have e4 : w64 (t * 5 + t / 16 + 1) = t * 5 + t / 16 + 1 := by rw [w64_id] <;> omega
    have g1 : List.getD [(3 : Int), (5 : Int), (1 : Int)] (Int.toNat ((1 : Nat) : Int)) 0 = 5 := rfl
    have g2 : List.getD [(8 : Int), (16 : Int), (4 : Int)] (Int.toNat ((1 : Nat) : Int)) 0 = 16 := rfl
    rw [g1, g2, e1, e2, e3, show ((1 : Nat) : Int) = 1 from rfl, e4, tmod8 (by omega)]
    have e5 : (t * 5 + t / 16 + 1) % 8 = (((5 * t + t / 16 + 1) % 8).toNat : Int) := by omega
    rw [e5]; rfl
  | 2, _ =>
    simp only [List.length_cons, List.length_nil]
    have e1 : w64 (t * 1) = t := by rw [w64_id] <;> omega
    have e2 : w64 (Int.tdiv t 4) = t / 4 := by rw [tdivP h.1, w64_id] <;> omega
    have e3 : w64 (t + t / 4) = t + t / 4 := by rw [w64_id] <;> omega
    have e4 : w64 (t + t / 4 + 2) = t + t / 4 + 2 := by rw [w64_id] <;> omega
    have g1 : List.getD [(3 : Int), (5 : Int), (1 : Int)] (Int.toNat ((2 : Nat) : Int)) 0 = 1 := rfl
    have g2 : List.getD [(8 : Int), (16 : Int), (4 : Int)] (Int.toNat ((2 : Nat) : Int)) 0 = 4 := rfl
    rw [g1, g2, e1, e2, e3, show ((2 : Nat) : Int) = 2 from rfl, e4, tmod8 (by omega)]
    have e5 : (t + t / 4 + 2) % 8 = (((t + t / 4 + 2) % 8).toNat : Int) := by omega
    rw [e5]; rfl
theorem implPlace_eq (f : Nat) (i : Nat) (t : Int) (hi : i < 3) (ht : thingB t = true) : impl_RoughPlace_fn f ((((i : Nat) : Int), ()), (t, ()), ()) = some (((pl i t : Int), ()), ()) := by
  have h := thing_le ht
  show impl_RoughPlace_pre f (i : Int) t = _
  unfold impl_RoughPlace_pre pl
  rw [thing_eq, Option.bind_some, ht]
  match i, hi with
  | 0, _ =>
    have e1 : w64 (3 * t) = 3 * t := by rw [w64_id] <;> omega
    have e2 : w64 (Int.tdiv t 8) = t / 8 := by rw [tdivP h.1, w64_id] <;> omega
    have e3 : w64 (3 * t + t / 8) = 3 * t + t / 8 := by rw [w64_id] <;> omega
    rw [e1, e2, e3, tmod8 (by omega)]
    have e5 : (3 * t + t / 8) % 8 = (((3 * t + t / 8) % 8).toNat : Int) := by omega
    rw [e5]; rfl
  | 1, _ =>
    have e1 : w64 (5 * t) = 5 * t := by rw [w64_id] <;> omega
    have e2 : w64 (Int.tdiv t 16) = t / 16 := by rw [tdivP h.1, w64_id] <;> omega
    have e3 : w64 (5 * t + t / 16) = 5 * t + t / 16 := by rw [w64_id] <;> omega
    have e4 : w64 (5 * t + t / 16 + 1) = 5 * t + t / 16 + 1 := by rw [w64_id] <;> omega
    rw [e1, e2, e3, e4, tmod8 (x := 5 * t + t / 16 + 1) (by omega)]
    have e5 : (5 * t + t / 16 + 1) % 8 = (((5 * t + t / 16 + 1) % 8).toNat : Int) := by omega
    rw [e5]; rfl
  | 2, _ =>
    have e2 : w64 (Int.tdiv t 4) = t / 4 := by rw [tdivP h.1, w64_id] <;> omega
    have e3 : w64 (t + t / 4) = t + t / 4 := by rw [w64_id] <;> omega
    have e4 : w64 (t + t / 4 + 2) = t + t / 4 + 2 := by rw [w64_id] <;> omega
    rw [e2, e3, e4, tmod8 (x := t + t / 4 + 2) (by omega)]
    have e5 : (t + t / 4 + 2) % 8 = (((t + t / 4 + 2) % 8).toNat : Int) := by omega
    rw [e5]; rfl
theorem rough_rows {rs : List (List Int)} (h : roughB rs = true) : ∃ a b c, rs = [a, b, c] ∧ rowB a = true ∧ rowB b = true ∧ rowB c = true ∧ isum b = isum a ∧ isum c = isum a := by
  unfold roughB at h
  simp only [Bool.and_eq_true, decide_eq_true_eq] at h
  obtain ⟨h3, h4⟩ := h
  obtain ⟨a, b, c, rfl⟩ := three h3
  simp only [List.all_cons, List.all_nil, Bool.and_eq_true, List.getD_cons_zero, beq_iff_eq] at h4
  exact ⟨a, b, c, rfl, h4.1.1, h4.2.1.1, h4.2.2.1.1, h4.2.1.2, h4.2.2.1.2⟩
theorem row_len {a : List Int} (h : rowB a = true) : a.length = 8 := by
  unfold rowB at h
  simp only [Bool.and_eq_true, decide_eq_true_eq] at h
  exact h.1
end Go.Proofs.YtdgdoeknpakmlaaGreat.Den
